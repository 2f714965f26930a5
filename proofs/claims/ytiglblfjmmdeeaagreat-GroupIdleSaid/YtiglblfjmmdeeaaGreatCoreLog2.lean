/- core.Log: Learn and Take. -/
import Derived.Test.YtiglblfjmmdeeaaGreatCoreLog
namespace Go.Proofs.YtiglblfjmmdeeaaGreat
open Go.RowKit Go.Maps Go.ChangeMaps

attribute [local go_sem] Oper.pureUpon Oper.relUpon

theorem wpList_mapUpdate_im {P : Program} (w : World) {ops : Array Oper} {rest : List Oper} {o : Oper} {a : Act} {Q : Exit → Act → World → Prop} (hg : o.guard = none) (m x v : Operand) (t : TypeId) (hop : o.op = Op.mapUpdate t m x v)
    (kt et : TypeId) (ht : P.underlying t = some (.map kt et)) (hk : P.underlying kt = some (.int .i64)) (b : Nat) (l : List (Int × Value)) (hm : a.eval m = .map (some b)) (h : IM w b l) (k : Int) (hx : a.eval x = .int .i64 k) (hkey : isKey k) (val : Value) (hv : a.eval v = val)
    (hK : ∀ w', IM w' b (putL l k val) → Mod [b] w w' → w'.heap.size = w.heap.size → wpList P ops Q rest (a.put o.dst undef) w') : wpList P ops Q (o :: rest) a w := by
  refine wpList_plain hg fun K' hK' => ?_
  obtain ⟨w', hrun, r1, r2, r3⟩ := im_update h ht hk hkey val
  unfold Oper.wp
  simp [execOp, hop, hm, hx, hv, hrun, Result.andThen]
  exact hK' _ _ (hK w' r1 r2 r3)

section
variable {W w w' : World} {F : List Nat} {p tk n : Nat} {kn : List (Int × List UInt8)}
set_option maxRecDepth 100000 in
theorem cl_learn_old (h : IsCL w F p kn tk) {k : Int} (hk : isKey k) (v : List UInt8) (ho : (lookS kn k).isSome = true ∨ k < (tk : Int) ∨ 1048576 ≤ k) :
    Calls Tryz.prog 135 #[.pointer (some ⟨p, 0, none⟩), .int .i64 k, tx v] w fun e w' => e = .returned (.bool false) ∧ w = w' := by
  obtain ⟨b, h1, h2, _⟩ := h
  have c0 := h1.cell 0
  have c1 := h1.cell 1
  simp at c0 c1
  have hl := sm_lookup h2 hk
  unfold tx at hl ⊢
  by_cases g1 : (lookS kn k).isSome = true
  · rw [g1] at hl
    clear g1 ho
    go_enter Tryz.func135, Tryz.ntmps135
    go_wp2_with fail
    go_ret
    exact ⟨rfl, rfl⟩
  · have g2 : (lookS kn k).isSome = false := by simpa using g1
    rw [g2] at hl
    by_cases g3 : k < (tk : Int)
    · clear g1 g2 ho
      go_enter Tryz.func135, Tryz.ntmps135
      go_wp2_with fail
      go_ret
      exact ⟨rfl, rfl⟩
    · have g4 : decide ((1048576 : Int) ≤ k) = true := decide_eq_true (by simp [g2] at ho; omega)
      clear g1 g2 ho
      go_enter Tryz.func135, Tryz.ntmps135
      go_wp2_with fail
      go_ret
      exact ⟨rfl, rfl⟩

set_option maxRecDepth 100000 in
theorem cl_learn (h : IsCL w F p kn tk) {k : Int} (v : List UInt8) (hn : lookS kn k = none) (h0 : (tk : Int) ≤ k) (h9 : k < 1048576) :
    Calls Tryz.prog 135 #[.pointer (some ⟨p, 0, none⟩), .int .i64 k, tx v] w fun e w' => e = .returned (.bool true) ∧ IsCL w' F p (putS kn k v) tk ∧ Mod F w w' ∧ w'.heap.size = w.heap.size := by
  have hk : isKey k := is_key (by omega) (by omega)
  obtain ⟨b, h1, h2, rfl⟩ := h
  have c0 := h1.cell 0
  have c1 := h1.cell 1
  simp at c0 c1
  have hl := sm_lookup h2 hk
  rw [hn] at hl
  simp only [Option.isSome_none] at hl
  have g3 : ¬ k < (tk : Int) := by omega
  have g4 : decide ((1048576 : Int) ≤ k) = false := decide_eq_false (by omega)
  have hbp : b ≠ p := by
    rintro rfl
    obtain ⟨es, ck, hb, _⟩ := h2
    unfold Blk at h1
    rw [h1] at hb
    cases hb
  have H1 := Lib.hid h1
  have H2 := Lib.hid h2
  unfold tx at hl ⊢
  clear hn h1 h2
  go_enter Tryz.func135, Tryz.ntmps135
  go_wp2_with (at_mapUpdate; refine wpList_mapUpdate_im _ rfl _ _ _ 126 rfl 3 9 Tryz.underlying126 Tryz.underlying3 b _ rfl H2.out k rfl hk (tx v) rfl ?_; intro w2 hm2 hmod2 hsz2)
  go_ret
  refine ⟨rfl, ⟨b, H1.out.keep (hmod2.block p H1.out.lt (by simpa using (Ne.symm hbp))), ?_, rfl⟩, hmod2.sub (fun j hj _ => by simp at hj; subst hj; simp), hsz2⟩
  unfold SM
  rw [← putL_map]
  exact hm2
end

end Go.Proofs.YtiglblfjmmdeeaaGreat
