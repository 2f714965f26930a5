/- core.Proposer.Open, where nothing is picked and no votes came. -/
import Derived.Test.YtiglblfjmmdeeaaGreatIMap
import Derived.RangeFuncFrom
import Derived.RangeFuncBound
import Derived.RangeFuncCalls
import Derived.RangeFuncLeaves
import Derived.Shelf.Abstract
import Derived.Shelf.RegionOpen
import Derived.WalkKit
import Derived.OwnWalkIn
import Derived.TacticsInMore
import Derived.LoopNIn
import Derived.LoopIn
namespace Go.Proofs.YtiglblfjmmdeeaaGreat
open Go.RowKit Go.Maps Go.ChangeMaps Go.Shelf

attribute [local go_sem] Oper.pureUpon Oper.relUpon Oper.semAt_some

/-- 'range' over a map that has nothing: it is over at once. -/
theorem range_im0 {P : Program} {w : World} {b : Nat} {t kt et : TypeId} (h : IM w b []) (ht : P.underlying t = some (.map kt et)) :
    ∃ ck, (Instr.range t (.map (some b))).run P w = .ok (.pointer (some ⟨w.heap.size, 0, none⟩)) (w.alloc (.mapIter (some b) ck #[] ck)) ∧
      ∀ w' ty, Ext (w.alloc (.mapIter (some b) ck #[] ck)) w' → (Instr.next (.pointer (some ⟨w.heap.size, 0, none⟩)) false ty).run P w' = .ok (.tuple #[.bool false]) w' := by
  have hlt := h.lt
  obtain ⟨es, ck, hb, he⟩ := h
  obtain rfl : es = #[] := by
    have := congrArg List.length he
    simp at this
    exact this
  refine ⟨ck, ?_, fun w' ty hx => ?_⟩
  · simp [Instr.range, run_underlying ht, MapKept.run_getObj_map hb, Result.andThen]
  · have h1 : w'.heap[w.heap.size]? = some (.mapIter (some b) ck #[] ck) := (hx.block _ (by simp)).trans (heap_alloc_new w _)
    have h2 : w'.heap[b]? = some (.map #[] ck) := (hx.block _ (by simp; omega)).trans ((Below.heap_alloc _ _ _ hlt).trans hb)
    simp [Instr.next, getObj, Sem.run_bind, Sem.run, h1, h2, Result.andThen, choose, Question.forced]

section
variable {W w w' : World}
theorem cell_new_l (W : World) (v : Value) (t : TypeId) : (W.alloc (.cells #[v] t)).cell? ⟨W.heap.size, 0, none⟩ = some v := by
  simp

theorem seq_keys0 (b Bx : Nat) (w : World) (hb : IM w b []) (hc : w.cell? ⟨Bx, 0, none⟩ = some (.map (some b))) (hlt : Bx < w.heap.size) :
    SeqStopsK (α := Int) Fence.wide 3 Tryz.prog 186 #[.pointer (some ⟨Bx, 0, none⟩)] (fun x => #[.int .i64 x]) (Below w.heap.size) (fun xs => xs = []) (fun _ => False) 0 w := by
  intro l J Jx W hW hJ hJx hY h0
  refine callsIn_of_wp Tryz.func186 rfl trivial ?_ rfl
  have hc' : W.cell? ⟨Bx, 0, none⟩ = some (.map (some b)) := (hW.cell (p := ⟨Bx, 0, none⟩) hlt).trans hc
  have hb' : IM W b [] := hb.ext hW
  obtain ⟨ck, hr, hn⟩ := range_im0 hb' Tryz.underlying79
  have hn1 := fun ty => hn _ ty (Below.refl _ _)
  clear hn hb' hb hc
  simp only [Tryz.ntmps186, List.size_toArray, List.length_cons, List.length_nil, Nat.reduceAdd, Nat.reduceSub, Array.replicate_succ, Array.replicate_zero, List.push_toArray, List.append_toArray, List.nil_append, List.cons_append]
  gi_wp2
  gi_loopw [3] (fun _ wr => wr = W.alloc (.mapIter (some b) ck #[] ck)) (fun _ _ => 0)
  case atStart => rfl
  case round =>
    subst hrel
    gi_wp2
    go_end0
    exact ⟨⟨_, rfl⟩, .inl ⟨[], rfl, hJ [] W _ none h0 (World.grownBy_alloc W _ none) (fun r e => by cases e)⟩⟩

set_option maxRecDepth 100000 in
set_option maxHeartbeats 2000000 in
theorem append_seq0 (b Bx : Nat) (w : World) (hb : IM w b []) (hc : w.cell? ⟨Bx, 0, none⟩ = some (.map (some b))) (hlt : Bx < w.heap.size) :
    Calls Tryz.prog 191 #[.slice none 0 0, .func (.func 186) #[] #[.pointer (some ⟨Bx, 0, none⟩)]] w fun e w' => e = .returned (.slice none 0 0) ∧ Ext w w' := by
  refine (callsIn_wide (n := 4)).1 ?_
  refine callsIn_of_wp_marks Tryz.func191 rfl trivial ?_ rfl
  simp only [Tryz.ntmps191, List.size_toArray, List.length_cons, List.length_nil, Nat.reduceAdd, Nat.reduceSub, Array.replicate_succ, Array.replicate_zero, List.push_toArray, List.append_toArray, List.nil_append, List.cons_append]
  gi_wp2
  have hs := cell_new_l w (.slice none 0 0) 176
  have hB0 : Ext w (w.alloc (.cells #[.slice none 0 0] 176)) := (Below.refl _ w).alloc (Nat.le_refl _) _
  have hc0 : (w.alloc (.cells #[.slice none 0 0] 176)).cell? ⟨Bx, 0, none⟩ = some (.map (some b)) := (hB0.cell (p := ⟨Bx, 0, none⟩) hlt).trans hc
  refine wpIn_rangeFunc_ownF rfl (by omega) (gf := 186) (lb := #[.pointer (some ⟨Bx, 0, none⟩)]) rfl trivial (enters_of Tryz.func186 (by kernel_rfl) rfl)
    (seq_keys0 b Bx _ (hb.ext hB0) hc0 (by simp; omega)) belowK_t (belowK_b (Nat.le_refl _)) (Below.refl _ _) (fun _ => rfl)
    (fun _ W => (W.cell? ⟨w.heap.size, 0, none⟩ = some (.slice none 0 0)) ∧ Below w.heap.size w W)
    (fun _ _ _ => False)
    (OwnFrom.and (Own.from (fun s A B row hs hg hr => cell_kept hs hg hr) _) (ownFrom_below (Nat.le_refl _) (by simp)))
    (fun _ _ _ _ _ hs _ _ => hs)
    ⟨hs, hB0⟩
    (fun x => { tmps := #[.slice none 0 0, .func (.func 186) #[] #[.pointer (some ⟨Bx, 0, none⟩)], .pointer (some ⟨w.heap.size, 0, none⟩), undef, .slice none 0 0, .int .i64 x, .func (.func 186) #[] #[.pointer (some ⟨Bx, 0, none⟩)], .int .i64 x, undef, undef, undef, undef, undef], defers := [] }) ?assign ?body ?done ?stop
  case assign =>
    intro l x W K hK
    gi_wp2
    exact hK
  case body =>
    intro l pre x W _ h0
    simp at h0
  case done =>
    rintro D ys W hD rfl ⟨hc, hB⟩ hK
    gi_wp2
    refine ⟨by simp, .inl ⟨_, _, rfl, run_takeDeferred hK, ?_⟩⟩
    exact ⟨_, results_tmp rfl _ _ _, rfl, hB.trans (belowK_b (w := w) (Nat.le_refl _) W D _ _ (by simp at hD; omega) hK rfl rfl)⟩
  case stop =>
    rintro D c pre W _ _ h _
    exact h.elim

theorem keys_calls (b : Nat) (w : World) : Calls Tryz.prog 166 #[.map (some b)] w fun e w' => e = .returned (.func (.func 186) #[] #[.pointer (some ⟨w.heap.size, 0, none⟩)]) ∧ w' = w.alloc (.cells #[.map (some b)] 79) := by
  have hmf : ∀ (fn : Fn) (first cap : Array Value) (w : World), (Instr.makeFunc fn first cap).run Tryz.prog w = .ok (.func fn first cap) w := fun _ _ _ _ => rfl
  go_enter Tryz.func166, Tryz.ntmps166
  go_wp2_with fail
  go_ret
  exact ⟨rfl, rfl⟩

theorem collect0 (b Bx : Nat) (w : World) (hb : IM w b []) (hc : w.cell? ⟨Bx, 0, none⟩ = some (.map (some b))) (hlt : Bx < w.heap.size) :
    Calls Tryz.prog 184 #[.func (.func 186) #[] #[.pointer (some ⟨Bx, 0, none⟩)]] w fun e w' => e = .returned (.slice none 0 0) ∧ Ext w w' := by
  have h := append_seq0 b Bx w hb hc hlt
  clear hb hc
  go_enter Tryz.func184, Tryz.ntmps184
  go_wp2_with fail
  refine h.mono ?_
  rintro e w1 ⟨rfl, he⟩
  go_wp2_with fail
  go_ret
  exact ⟨rfl, he⟩

set_option maxRecDepth 100000 in
set_option maxHeartbeats 2000000 in
theorem len64_0 (w : World) : Calls Tryz.prog 202 #[.int .u64 0] w fun e w' => e = .returned (.int .i64 0) ∧ w = w' := by
  go_enter Tryz.func202, Tryz.ntmps202
  go_wp2_with fail
  all_goals (go_ret)
  all_goals exact ⟨by kernel_rfl, rfl⟩

theorem blen_0 (w : World) : Calls Tryz.prog 189 #[.int .u64 0] w fun e w' => e = .returned (.int .i64 0) ∧ w = w' := by
  have h := len64_0 w
  go_enter Tryz.func189, Tryz.ntmps189
  go_wp2_with fail
  refine h.mono ?_
  rintro e w1 ⟨rfl, rfl⟩
  go_wp2_with fail
  go_ret
  exact ⟨rfl, rfl⟩

theorem insort0 (w : World) : Calls Tryz.prog 203 #[.slice none 0 0, .int .i64 0, .int .i64 0] w fun e w' => e = .returned (.tuple #[]) ∧ w = w' := by
  go_enter Tryz.func203, Tryz.ntmps203
  go_wp2_with fail
  go_loopw [6] (fun v wr => wr = w ∧ v = .int .i64 1) (fun _ _ => 0)
  case atStart => exact ⟨rfl, rfl⟩
  case round =>
    obtain ⟨rfl, rfl⟩ := hrel
    go_wp2_with fail
    go_end0
    exact ⟨rfl, rfl⟩

theorem pdq0 (w : World) : Calls Tryz.prog 192 #[.slice none 0 0, .int .i64 0, .int .i64 0, .int .i64 0] w fun e w' => e = .returned (.tuple #[]) ∧ w = w' := by
  have h := insort0 w
  go_enter Tryz.func192, Tryz.ntmps192
  go_wp2_with fail
  refine wp_loop_rounds 1 ?_
  rw [rounds_succ]
  go_wp2_with fail
  refine h.mono ?_
  rintro e w1 ⟨rfl, rfl⟩
  go_wp2_with fail
  refine bodyPost_ret (results_none rfl _ _ _) rfl ?_
  exact ⟨rfl, rfl⟩

theorem sort0 (w : World) : Calls Tryz.prog 185 #[.slice none 0 0] w fun e w' => e = .returned (.tuple #[]) ∧ w = w' := by
  have h := pdq0 w
  have h2 := blen_0 w
  go_enter Tryz.func185, Tryz.ntmps185
  go_wp2_with fail
  refine h2.mono ?_
  rintro e w1 ⟨rfl, rfl⟩
  go_wp2_with fail
  refine h.mono ?_
  rintro e w1 ⟨rfl, rfl⟩
  go_wp2_with fail
  go_end0
  exact ⟨rfl, rfl⟩

theorem sorted0 (b Bx : Nat) (w : World) (hb : IM w b []) (hc : w.cell? ⟨Bx, 0, none⟩ = some (.map (some b))) (hlt : Bx < w.heap.size) :
    Calls Tryz.prog 165 #[.func (.func 186) #[] #[.pointer (some ⟨Bx, 0, none⟩)]] w fun e w' => e = .returned (.slice none 0 0) ∧ Ext w w' := by
  have h := collect0 b Bx w hb hc hlt
  clear hb hc
  go_enter Tryz.func165, Tryz.ntmps165
  go_wp2_with fail
  refine h.mono ?_
  rintro e w1 ⟨rfl, he⟩
  have h2 := sort0 w1
  go_wp2_with fail
  refine h2.mono ?_
  rintro e w2 ⟨rfl, rfl⟩
  go_wp2_with fail
  go_ret
  exact ⟨rfl, he⟩

theorem indexfunc0 (w : World) (f : Value) : Calls Tryz.prog 183 #[.slice none 0 0, f] w fun e w' => e = .returned (.int .i64 (-1)) ∧ w = w' := by
  go_enter Tryz.func183, Tryz.ntmps183
  go_wp2_with fail
  go_loopw [8] (fun v wr => wr = w ∧ v = .int .i64 0) (fun _ _ => 0)
  case atStart => exact ⟨rfl, rfl⟩
  case round =>
    obtain ⟨rfl, rfl⟩ := hrel
    go_wp2_with fail
    go_ret
    exact ⟨rfl, rfl⟩

theorem deletefunc0 (w : World) (f : Value) : Calls Tryz.prog 164 #[.slice none 0 0, f] w fun e w' => e = .returned (.slice none 0 0) ∧ w = w' := by
  have h := indexfunc0 w f
  go_enter Tryz.func164, Tryz.ntmps164
  go_wp2_with fail
  refine h.mono ?_
  rintro e w1 ⟨rfl, rfl⟩
  go_wp2_with fail
  go_ret
  exact ⟨rfl, rfl⟩

variable {p s : Nat}
set_option maxRecDepth 100000 in
set_option maxHeartbeats 2000000 in
theorem prop_open1 (b2 b3 : Nat) (h7 : w.cell? ⟨p, s + 7, none⟩ = some (.map (some b2))) (h8 : w.cell? ⟨p, s + 8, none⟩ = some (.map (some b3))) (h2 : IM w b2 []) (h3 : IM w b3 []) (hlt : p < w.heap.size) : Calls Tryz.prog 127 #[.pointer (some ⟨p, s, none⟩)] w fun e w' => e = .returned (.slice none 0 0) ∧ Ext w w' := by
  have hmf : ∀ (fn : Fn) (first cap : Array Value) (w : World), (Instr.makeFunc fn first cap).run Tryz.prog w = .ok (.func fn first cap) w := fun _ _ _ _ => rfl
  have hmm := @run_makeMap Tryz.prog
  obtain ⟨w1, hw1⟩ : ∃ w1, w1 = (w.alloc (.cells #[.pointer (some ⟨p, s, none⟩)] 72)).alloc (.map #[] 0) := ⟨_, rfl⟩
  have e1 : Ext w w1 := by rw [hw1]; exact ((Below.refl _ _).alloc (Nat.le_refl _) _).alloc (by simp) _
  have hall : IM w1 (w.heap.size + 1) [] := by rw [hw1]; simpa using im_new (w.alloc (.cells #[.pointer (some ⟨p, s, none⟩)] 72))
  obtain ⟨k1, r1, n1⟩ := range_im0 (h2.ext e1) Tryz.underlying132
  have hn1 := fun ty => n1 _ ty (Below.refl _ _)
  obtain ⟨w2, hw2⟩ : ∃ w2, w2 = w1.alloc (.mapIter (some b2) k1 #[] k1) := ⟨_, rfl⟩
  rw [← hw2] at r1 hn1
  have e2 : Ext w w2 := by rw [hw2]; exact e1.alloc e1.size _
  have e12 : Ext w1 w2 := by rw [hw2]; exact (Below.refl _ _).alloc (Nat.le_refl _) _
  obtain ⟨k2, r2, n2⟩ := range_im0 (h3.ext e2) Tryz.underlying135
  have hn2 := fun ty => n2 _ ty (Below.refl _ _)
  obtain ⟨w3, hw3⟩ : ∃ w3, w3 = w2.alloc (.mapIter (some b3) k2 #[] k2) := ⟨_, rfl⟩
  rw [← hw3] at r2 hn2
  have e3 : Ext w w3 := by rw [hw3]; exact e2.alloc e2.size _
  have e13 : Ext w1 w3 := by rw [hw3]; exact e12.alloc e12.size _
  have c7 : w1.cell? ⟨p, s + 7, none⟩ = some (.map (some b2)) := (e1.cell (p := ⟨p, s + 7, none⟩) hlt).trans h7
  have c8 : w2.cell? ⟨p, s + 8, none⟩ = some (.map (some b3)) := (e2.cell (p := ⟨p, s + 8, none⟩) hlt).trans h8
  have d0 : w1.cell? ⟨w.heap.size, 0, none⟩ = some (.pointer (some ⟨p, s, none⟩)) := by rw [hw1]; simp
  have d1 : w2.cell? ⟨w.heap.size, 0, none⟩ = some (.pointer (some ⟨p, s, none⟩)) := (e12.cell (p := ⟨w.heap.size, 0, none⟩) (by rw [hw1]; simp; omega)).trans d0
  have hall3 := hall.ext e13
  have hk := keys_calls (w.heap.size + 1) w3
  have hs := sorted0 (w.heap.size + 1) w3.heap.size (w3.alloc (.cells #[.map (some (w.heap.size + 1))] 79)) (hall3.ext ((Below.refl _ _).alloc (Nat.le_refl _) _)) (cell_new_l _ _ _) (by simp)
  have E1 := Lib.hid e3
  clear n1 n2 e1 e2 e3 e12 e13 hall hall3 h2 h3 h7 h8
  clear hw2 hw3
  go_enter Tryz.func127, Tryz.ntmps127
  go_upto_region 2 with fail
  rw [← hw1]
  clear hw1
  go_wp2_with fail
  go_loopw [4] (fun _ wr => wr = w2) (fun _ _ => 0)
  case atStart => rfl
  case round =>
    subst hrel
    go_wp2_with fail
    go_loopw [5] (fun _ wr => wr = w3) (fun _ _ => 0)
    case atStart => rfl
    case round =>
      subst hrel
      go_wp2_with fail
      refine hk.mono ?_
      rintro e w4 ⟨rfl, rfl⟩
      go_wp2_with fail
      refine hs.mono ?_
      rintro e w5 ⟨rfl, he5⟩
      go_wp2_with fail
      refine (deletefunc0 _ _).mono ?_
      rintro e w6 ⟨rfl, rfl⟩
      go_wp2_with fail
      go_ret
      exact ⟨rfl, E1.out.trans (Ext.trans (((Below.refl _ _).alloc (Nat.le_refl _) _) : Ext _ _) he5)⟩
end
end Go.Proofs.YtiglblfjmmdeeaaGreat
