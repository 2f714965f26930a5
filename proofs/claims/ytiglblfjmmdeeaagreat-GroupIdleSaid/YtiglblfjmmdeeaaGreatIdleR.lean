/- group: New. -/
import Derived.Test.YtiglblfjmmdeeaaGreatIdleQ
namespace Go.Proofs.YtiglblfjmmdeeaaGreat
open Go.RowKit Go.Maps Go.ChangeMaps

attribute [local go_sem] Oper.pureUpon Oper.relUpon

theorem M.empty (w : World) : M w (fun _ => []) (fun _ => .none) := ⟨fun _ _ _ k hk => by simp at hk, fun _ => rfl⟩
theorem Idle.other {S S' : Key → Ob} {wp tp g c n b : Nat} {app : Value} {D : Nat → Nd} {ts : List (Int × Int × List UInt8)} (I : Idle S wp tp g c n b app D ts) (h : ∀ i : Key, i ≠ (14, 0) → S' i = S i) : Idle S' wp tp g c n b app D ts :=
  ⟨I.n1, I.n5, (h _ (by simp)).trans I.world, (h _ (by simp)).trans I.row, (h _ (by simp)).trans I.told, (h _ (by simp)).trans I.free, fun k hk => (I.nodes k hk).mono (Nat.le_refl _) (h _ (by simp)) (h _ (by simp)) (h _ (by simp)) (h _ (by simp)), I.len, I.good⟩

set_option maxRecDepth 100000 in
set_option maxHeartbeats 1000000 in
theorem gnew_calls (w : World) {n : Nat} (n1 : 1 ≤ n) (n5 : n ≤ 5) :
    Calls Tryz.prog 5 #[.int .i64 (n : Int)] w fun e w' => ∃ gp wp tp g c D F S, e = .returned (.tuple #[.pointer (some ⟨gp, 0, none⟩), .int .i64 0]) ∧ Grp w' F S gp wp tp g c n 0 D [] ∧ Fr (fun _ => []) F w w' ∧ ∀ k, k < n → (D k).N.up = true := by
  have i1 : ¬ (n : Int) < 1 := by omega
  have i2 : ¬ (n : Int) > 5 := by omega
  have e1 : Ext w (w.alloc (.cells told0.toArray 47)) := (Below.refl _ _).alloc (Nat.le_refl _) _
  have x1 := Blk.new w 47 told0.toArray
  have hma := (M.empty w).fresh (12, 0) e1 (F1 := [w.heap.size]) (o' := .st w.heap.size 47 told0) ⟨x1, rfl⟩ (by simp)
  have hsz : (w.alloc (.cells told0.toArray 47)).heap.size = w.heap.size + 1 := by simp
  have e2 : Ext (w.alloc (.cells told0.toArray 47)) ((w.alloc (.cells told0.toArray 47)).alloc (.cells #[.pointer none, .pointer (some ⟨w.heap.size, 0, none⟩)] 50)) := (Below.refl _ _).alloc (Nat.le_refl _) _
  have x2 := Blk.new (w.alloc (.cells told0.toArray 47)) 50 #[.pointer none, .pointer (some ⟨w.heap.size, 0, none⟩)]
  rw [hsz] at x2
  have hmb := hma.1.fresh (14, 0) e2 (F1 := [w.heap.size + 1]) (o' := .st (w.heap.size + 1) 50 [.pointer none, .pointer (some ⟨w.heap.size, 0, none⟩)]) ⟨x2, rfl⟩ (by rw [hsz]; simp)
  have hA := anew_calls (tp := w.heap.size) (n := n) hmb.1 (fun i h12 h14 => by rw [upd_ne' _ h14, upd_ne' _ h12]) (by rw [upd_ne' _ (by simp), upd_same]) n1 n5
  rw [upd_same] at hA
  have HA := Lib.hid (And.intro hA (hma.2.trans hmb.2))
  clear x1 e1 hma x2 e2 hmb hA hsz
  go_enter Tryz.func5, Tryz.ntmps5
  go_wp2_with fail
  refine HA.out.1.mono ?_
  rintro e w3 ⟨wp, g, c, D, S3, rfl, ⟨F3, hm3, hf3⟩, hi, h14, hup⟩
  have hb3 := hm3.blk h14
  have c0 := hb3.cell 0
  have f0 := hb3.frozen 0
  simp at c0
  have hs3 := set2 (set1 hm3 h14) 0 (.pointer (some ⟨wp, 0, none⟩)) (by simp)
  have H3 := Lib.hid (And.intro hs3 (And.intro hf3 (And.intro hi (And.intro h14 hup))))
  clear hb3 hm3 hf3 hi h14 hup hs3
  go_wp2_with fail
  go_ret2
  obtain ⟨hs3, hf3, hi, h14, hup⟩ := H3.out
  refine ⟨w.heap.size + 1, wp, w.heap.size, g, c, D, _, _, rfl, ⟨hs3.1, hi.other (fun i hi => upd_ne' _ hi _), ?_⟩, (HA.out.2.trans hf3).trans hs3.2, hup⟩
  rw [upd_same]
  rfl
end Go.Proofs.YtiglblfjmmdeeaaGreat
