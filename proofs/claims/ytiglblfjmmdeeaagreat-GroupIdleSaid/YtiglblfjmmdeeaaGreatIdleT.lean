/- A text of 10001 bytes. -/
import Derived.Test.YtiglblfjmmdeeaaGreatIdleR
import Derived.Laws.MakeOwn
import Derived.Laws.OwnMore
namespace Go.Proofs.YtiglblfjmmdeeaaGreat
open Go.RowKit Go.Maps Go.ChangeMaps

theorem made_bys (k : Nat) : (madeCells #[.int .u8 0] k).toList = bys (List.replicate k 0) := by
  unfold madeCells
  simp [bys, Nat.mod_one]
  rw [List.map_const', List.length_range]
theorem great_text' (w : World) (k : Nat) (hk : k ≤ 20000) : ∃ (zs : List UInt8) (w1 : World), zs.length = k ∧ (Instr.makeSlice 34 (.int .i64 (k : Int)) (.int .i64 (k : Int))).run Tryz.prog w = .ok (.slice (some ⟨w.heap.size, 0, none⟩) k k) w1 ∧
    (convert 34 9 (.slice (some ⟨w.heap.size, 0, none⟩) k k)).run Tryz.prog w1 = .ok (.string ⟨zs.toArray⟩) w1 ∧ Ext w w1 := by
  obtain ⟨i0, hi0, hz0, hz1, hz2⟩ := info_parts byte_info
  obtain ⟨w1, h1, h2, h3⟩ := run_makeSlice_full (P := Tryz.prog) w w.heap.size 34 5 i0 _ 1 Tryz.underlying34 hi0 hz0 hz1 .i64 .i64 k (by omega) (by rw [hz2]; omega) (by unfold maxLen; omega) (Nat.le_refl _)
  have hb : (madeCells (Value.int .u8 0).cells (k * 1)).toList = bys (List.replicate k 0) := by rw [Nat.mul_one]; exact made_bys k
  rw [hb] at h2
  refine ⟨List.replicate k 0, w1, by simp, h1, ?_, ?_⟩
  · exact run_str w1 34 9 5 Tryz.underlying34 Tryz.underlying5 Tryz.underlying9 (Reads.of_own h2) k
  · exact (Ext.refl w).grown h3 (Nat.le_refl _) (fun k hk => by cases hk)
theorem great_text (w : World) : ∃ (zs : List UInt8) (w1 : World), zs.length = 10001 ∧ (Instr.makeSlice 34 (.int .i64 10001) (.int .i64 10001)).run Tryz.prog w = .ok (.slice (some ⟨w.heap.size, 0, none⟩) 10001 10001) w1 ∧
    (convert 34 9 (.slice (some ⟨w.heap.size, 0, none⟩) 10001 10001)).run Tryz.prog w1 = .ok (.string ⟨zs.toArray⟩) w1 ∧ Ext w w1 :=
  great_text' w 10001 (by omega)
end Go.Proofs.YtiglblfjmmdeeaaGreat
