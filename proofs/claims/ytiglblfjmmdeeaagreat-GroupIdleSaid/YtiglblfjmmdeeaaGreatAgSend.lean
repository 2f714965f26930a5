/- agree: messages sent. -/
import Derived.Test.YtiglblfjmmdeeaaGreatAgFrame
namespace Go.Proofs.YtiglblfjmmdeeaaGreat
open Go.RowKit Go.Maps Go.ChangeMaps

attribute [local go_sem] Oper.pureUpon Oper.relUpon

theorem msg_info : (Tryz.prog.info? 86).map (fun i => (i.zero, i.size, i.bytes)) = some (some (.agg #[.int .i64 0, .int .i64 0, .slice none 0 0]), 3, 40) := by kernel_rfl
theorem mcells_len : ∀ (ts : List (Int × Int × List UInt8)) (vs : List Value), ts.length = vs.length → (mcells ts vs).length = ts.length * 3
  | [], [], _ => rfl
  | _ :: ts, _ :: vs, h => by
    have := mcells_len ts vs (by simpa using h)
    simp [mcells, this]
    omega
  | [], _ :: _, h => by simp at h
  | _ :: _, [], h => by simp at h
theorem mcells_snoc : ∀ (ts : List (Int × Int × List UInt8)) (vs : List Value) (t : Int × Int × List UInt8) (v : Value), ts.length = vs.length → mcells (ts ++ [t]) (vs ++ [v]) = mcells ts vs ++ [.int .i64 t.1, .int .i64 t.2.1, v]
  | [], [], _, _, _ => rfl
  | _ :: ts, _ :: vs, t, v, h => by
    have := mcells_snoc ts vs t v (by simpa using h)
    simp [mcells, this]
  | [], _ :: _, _, _, h => by simp at h
  | _ :: _, [], _, _, h => by simp at h

theorem reads_row (w : World) (n size : Nat) (e : TypeId) (C : Array Value) (hC : C.size = n * size := by rfl) : Reads (w.alloc (.cells C e)) (w.heap.size + 1) size (some ⟨w.heap.size, 0, none⟩) n C.toList := by
  refine ⟨by simpa using hC, fun _ => ⟨_, rfl, by simp, fun j u hu => ?_⟩⟩
  have ha : (⟨w.heap.size, 0, none⟩ : Addr).add j = ⟨w.heap.size, j, none⟩ := by unfold Addr.add; split <;> simp_all
  rw [ha, (Blk.new w e C).cell j]
  simpa using hu

section
variable {w : World} {F : Key → List Nat} {S : Key → Ob} {wp : Nat} {nodesv app : Value} {ts : List (Int × Int × List UInt8)}
theorem size_calls (h : M w F S) {A : Option Addr} {N c : Nat} (hs : S (10, 0) = .world wp (.slice A N c) app ts) : Calls Tryz.prog 45 #[.pointer (some ⟨wp, 0, none⟩)] w fun e w' => e = .returned (.int .i64 (N : Int)) ∧ w = w' := by
  obtain ⟨netv, vs, hb, _⟩ := h.at hs
  have c1 := hb.cell 1
  simp at c1
  clear hb h
  go_enter Tryz.func45, Tryz.ntmps45
  go_wp2_with fail
  go_ret
  exact ⟨rfl, rfl⟩

set_option maxRecDepth 100000 in
set_option maxHeartbeats 1000000 in
theorem wsend_calls (h : M w F S) (hs : S (10, 0) = .world wp nodesv app ts) {A : Option Addr} {c : Nat} {body : List UInt8} (hb : S (13, 0) = .row 5 1 (.slice A body.length c) body.length (bys body)) (from_ to_ : Int) (ht : ts.length < 4000) :
    Calls Tryz.prog 34 #[.pointer (some ⟨wp, 0, none⟩), .int .i64 from_, .int .i64 to_, .slice A body.length c] w fun e w' => e = .returned (.tuple #[]) ∧
      Go2 F w w' (upd (upd S (13, 0) .none) (10, 0) (.world wp nodesv app (ts ++ [(from_, to_, body)]))) := by
  obtain ⟨i0, hi0, hz0, hz1, hz2⟩ := info_parts msg_info
  obtain ⟨netv, vs, hw, ho, hf, hF⟩ := h.at hs
  obtain ⟨hbo, hFb⟩ := h.at hb
  obtain ⟨An, cn, rfl, _⟩ := own_slice ho
  have hvl : ts.length = vs.length := by have := hf.len; simpa using this
  have c0 := hw.cell 0
  simp at c0
  have f0 := hw.frozen 0
  have hlt := hw.lt
  have hne := own_blk_ne ho hw (by decide)
  have w1 := hw.alloc (.cells #[.int .i64 from_, .int .i64 to_, .slice A body.length c] 86)
  have o1 := ho.alloc (.cells #[.int .i64 from_, .int .i64 to_, .slice A body.length c] 86)
  have r1 := reads_row w 1 3 86 #[.int .i64 from_, .int .i64 to_, .slice A body.length c]
  have i1 : (ts.length : Int) < 4000 := by omega
  simp only [List.size_toArray] at r1
  have R1 := Lib.hid r1
  have HB := Lib.hid hbo
  have HW := Lib.hid hw
  have HF := Lib.hid hf
  have HO := Lib.hid ho
  have HVL := Lib.hid hvl
  clear r1 hbo hw hf ho hvl
  go_enter Tryz.func34, Tryz.ntmps34
  go_wp2_with (at_builtin; refine wpList_app _ rfl (.tmp 18) (.tmp 23) _ rfl 86 i0 _ 3 40 Tryz.underlying64 hi0 hz0 hz1 hz2 rfl (by omega) (.slice An ts.length cn) ts.length (mcells ts vs) 0 rfl o1 (w.heap.size + 1) (some ⟨w.heap.size, 0, none⟩) 1 1 [.int .i64 from_, .int .i64 to_, .slice A body.length c] rfl R1.out (by simp [Value.oneCell']) (by omega) (Nat.zero_le _) ?_; intro A2 c2 w2 hown2 hg2 hat2; have b2 := w1.grown hg2 (by intro e; exact hne e.symm); have f2 := b2.frozen 0; have d2 := b2.cell 0; simp at d2)
  go_end0
  have hne2 := own_blk_ne hown2 b2 (by decide)
  have m1 : Mod (F (10, 0) ++ F (13, 0)) w (w.alloc (.cells #[.int .i64 from_, .int .i64 to_, .slice A body.length c] 86)) := (Mod.refl _ _).alloc _
  have m2 := m1.grown hg2 (fun k hk _ => by rw [hF]; exact List.mem_append_left _ (List.mem_cons_of_mem _ (List.mem_append_left _ (by simpa using hk))))
  have m3 := m2.setCell (p := ⟨wp, 0, none⟩) (fun _ => by rw [hF]; simp) (.slice A2 (ts.length + 1) c2)
  have hs2 : Mod [wp] w2 (w2.setCell ⟨wp, 0, none⟩ (.slice A2 (ts.length + 1) c2)) := (Mod.refl _ _).setCell (by simp) _
  have hlt3 : ∀ k, k < w.heap.size → k < (w2.setCell ⟨wp, 0, none⟩ (.slice A2 (ts.length + 1) c2)).heap.size := fun k hk => Nat.lt_of_lt_of_le hk m3.size
  have hrec : ∀ x v, OwnRec w x v → OwnRec (w2.setCell ⟨wp, 0, none⟩ (.slice A2 (ts.length + 1) c2)) x v := fun x v hr => by
    have h1 := hr.ext ((Below.refl w.heap.size w).alloc (Nat.le_refl _) (.cells #[.int .i64 from_, .int .i64 to_, .slice A body.length c] 86))
    have h2 := h1.grown o1 hg2 (by decide)
    obtain ⟨A', c', rfl, h3⟩ := h2
    refine ⟨A', c', rfl, own_mod h3 hs2 (fun k hk hkp => ?_)⟩
    simp at hkp
    subst hkp
    exact own_blk_ne h3 b2 (by decide) hk
  have hbody : OwnRec w body (.slice A body.length c) := ⟨A, c, rfl, HB.out⟩
  have hx := h.merge (i := (10, 0)) (j := (13, 0)) (by decide) (o' := .world wp nodesv app (ts ++ [(from_, to_, body)])) (F1 := wp :: ((Value.slice A2 (ts.length + 1) c2).ownBlock.toList ++ (vs ++ [Value.slice A body.length c]).flatMap fun v : Value => v.ownBlock.toList)) m3 ?_ ?_
  · exact ⟨rfl, _, hx.1, hx.2⟩
  · intro k hk
    rcases List.mem_cons.1 hk with rfl | hk
    · exact ⟨.inl (.inl (by rw [hF]; simp)), hlt3 _ hlt⟩
    rcases List.mem_append.1 hk with hk | hk
    · refine ⟨?_, by have := own_lt hown2 (by simpa using hk); simpa [World.setCell] using this⟩
      rcases hat2 with e | e
      · exact .inl (.inl (by rw [hF, ← e]; exact List.mem_cons_of_mem _ (List.mem_append_left _ hk)))
      · rw [e] at hk
        simp at hk
        exact .inr (by omega)
    · rw [List.flatMap_append] at hk
      rcases List.mem_append.1 hk with hk | hk
      · have hk2 : k ∈ F (10, 0) := by rw [hF]; exact List.mem_cons_of_mem _ (List.mem_append_right _ hk)
        exact ⟨.inl (.inl hk2), hlt3 _ (h.lt k hk2)⟩
      · have hk2 : k ∈ F (13, 0) := by rw [hFb]; simpa using hk
        exact ⟨.inl (.inr hk2), hlt3 _ (h.lt k hk2)⟩
  · refine ⟨.slice A2 (ts.length + 1) c2, vs ++ [Value.slice A body.length c], ?_, ?_, ?_, rfl⟩
    · have := b2.set_ 0 (.slice A2 (ts.length + 1) c2)
      simpa using this
    · rw [mcells_snoc ts vs _ _ HVL.out, List.length_append]
      exact own_mod hown2 hs2 (fun k hk hkp => by simp at hkp; subst hkp; exact hne2 hk)
    · rw [List.map_append]
      exact f2_snoc (hrec _ _ hbody) (f2_mono hrec HF.out)
end

end Go.Proofs.YtiglblfjmmdeeaaGreat
