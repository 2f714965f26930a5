/- core.Log: what is known to be chosen. -/
import Derived.Test.YtiglblfjmmdeeaaGreatCoreCmp
import Derived.IntWalk
namespace Go.Proofs.YtiglblfjmmdeeaaGreat
open Go.RowKit Go.Maps Go.ChangeMaps

attribute [local go_sem] Oper.pureUpon Oper.relUpon

/-- A text as a value. -/
def tx (s : List UInt8) : Value := .string ⟨s.toArray⟩
def txs (l : List (List UInt8)) : List Value := l.map tx
theorem txs_len (l : List (List UInt8)) : (txs l).length = l.length := by simp [txs]
theorem txs_one (l : List (List UInt8)) : ∀ u ∈ txs l, u.oneCell' = true := by
  intro u hu
  simp only [txs, List.mem_map] at hu
  obtain ⟨c, _, rfl⟩ := hu
  rfl
theorem text_info : (Tryz.prog.info? 9).map (fun i => (i.zero, i.size, i.bytes)) = some (some (.string ByteArray.empty), 1, 16) := by kernel_rfl
theorem zero_text (w : World) : (zeroValue 9).run Tryz.prog w = .ok (.string ⟨#[]⟩) w := by
  obtain ⟨i0, hi0, hz0, hz1, hz2⟩ := info_parts text_info
  simp [zeroValue, typeInfo, hi0, hz0]
  rfl

/-- Texts by their slots. -/
def SM (w : World) (b : Nat) (l : List (Int × List UInt8)) : Prop := IM w b (l.map fun x => (x.1, tx x.2))
def lookS : List (Int × List UInt8) → Int → Option (List UInt8)
  | [], _ => none
  | p :: l, k => if k = p.1 then some p.2 else lookS l k
def putS : List (Int × List UInt8) → Int → List UInt8 → List (Int × List UInt8)
  | [], k, v => [(k, v)]
  | p :: l, k, v => if k = p.1 then (k, v) :: l else p :: putS l k v
theorem lookL_map : ∀ (l : List (Int × List UInt8)) (k : Int), lookL (l.map fun x => (x.1, tx x.2)) k = (lookS l k).map tx
  | [], _ => rfl
  | p :: l, k => by
    simp only [List.map_cons, lookL, lookS]
    split
    · rfl
    · exact lookL_map l k
theorem putL_map : ∀ (l : List (Int × List UInt8)) (k : Int) (v : List UInt8), putL (l.map fun x => (x.1, tx x.2)) k (tx v) = (putS l k v).map fun x => (x.1, tx x.2)
  | [], _, _ => rfl
  | p :: l, k, v => by
    simp only [List.map_cons, putL, putS]
    split
    · rfl
    · simp [putL_map l k v]
theorem is_key {k : Int} (h0 : -1000000000 ≤ k) (h1 : k ≤ 1000000000) : isKey k := by
  have h2 : IntKind.i64.min = -9223372036854775808 := rfl
  have h3 : IntKind.i64.max = 9223372036854775807 := rfl
  unfold isKey Lit.wf
  simp
  omega

/-- The log behind p: what is known, and how much of it was taken. -/
def IsCL (w : World) (F : List Nat) (p : Nat) (kn : List (Int × List UInt8)) (tk : Nat) : Prop := ∃ b, Blk w p 128 #[.map (some b), .int .i64 (tk : Int)] ∧ SM w b kn ∧ F = [p, b]
/-- The least slot from tk on that is not known. -/
def IsNext (kn : List (Int × List UInt8)) (tk n : Nat) : Prop := tk ≤ n ∧ (∀ i : Nat, tk ≤ i → i < n → (lookS kn (i : Int)).isSome = true) ∧ lookS kn (n : Int) = none

section
variable {W w w' : World} {F : List Nat} {p tk n : Nat} {kn : List (Int × List UInt8)}
theorem IsCL.lt (h : IsCL w F p kn tk) : ∀ k ∈ F, k < w.heap.size := by
  obtain ⟨b, h1, h2, rfl⟩ := h
  intro k hk
  simp at hk
  rcases hk with rfl | rfl
  · exact h1.lt
  · exact IM.lt h2
theorem IsCL.keep (h : IsCL w F p kn tk) (hk : Keep F w w') : IsCL w' F p kn tk := by
  obtain ⟨b, h1, h2, rfl⟩ := h
  exact ⟨b, h1.keep (hk p (by simp)), IM.keep h2 (hk b (by simp)), rfl⟩
theorem IsCL.ext (h : IsCL w F p kn tk) (e : Ext w w') : IsCL w' F p kn tk := h.keep fun k hk => e.block k (h.lt k hk)

theorem cl_new (w : World) : Calls Tryz.prog 43 #[] w fun e w' => ∃ p, e = .returned (.pointer (some ⟨p, 0, none⟩)) ∧ IsCL w' [p, w.heap.size] p [] 0 ∧ w.heap.size + 1 = p ∧ Ext w w' := by
  have hmm := @run_makeMap Tryz.prog
  go_enter Tryz.func43, Tryz.ntmps43
  go_wp2_with fail
  go_ret
  refine ⟨_, rfl, ⟨w.heap.size, by have := Blk.new (w.alloc (.map #[] 0)) 128 #[.map (some w.heap.size), .int .i64 0]; simpa using this, ?_, rfl⟩, by simp, ?_⟩
  · exact (im_new w).ext ((Below.refl _ _).alloc (Nat.le_refl _) _)
  · exact ((Below.refl _ _).alloc (Nat.le_refl _) _).alloc (by simp) _

theorem cl_taken (h : IsCL w F p kn tk) : Calls Tryz.prog 73 #[.pointer (some ⟨p, 0, none⟩)] w fun e w' => e = .returned (.int .i64 (tk : Int)) ∧ w = w' := by
  obtain ⟨b, h1, h2, _⟩ := h
  have c1 := h1.cell 1
  simp at c1
  go_enter Tryz.func73, Tryz.ntmps73
  go_wp2_with fail
  go_ret
  exact ⟨rfl, rfl⟩

theorem sm_lookup {b : Nat} (h : SM w b kn) {k : Int} (hk : isKey k) : (Instr.lookup 126 (.map (some b)) (.int .i64 k) true).run Tryz.prog w = .ok (.tuple #[tx ((lookS kn k).getD []), .bool (lookS kn k).isSome]) w := by
  have h1 := im_lookup h Tryz.underlying126 Tryz.underlying3 (zero_text w) hk true
  rw [lookL_map] at h1
  rw [h1]
  cases lookS kn k <;> rfl

theorem cl_get (h : IsCL w F p kn tk) {k : Int} (hk : isKey k) : Calls Tryz.prog 76 #[.pointer (some ⟨p, 0, none⟩), .int .i64 k] w fun e w' => e = .returned (.tuple #[tx ((lookS kn k).getD []), .bool (lookS kn k).isSome]) ∧ w = w' := by
  obtain ⟨b, h1, h2, _⟩ := h
  have c0 := h1.cell 0
  simp at c0
  have hl := sm_lookup h2 hk
  unfold tx at hl ⊢
  go_enter Tryz.func76, Tryz.ntmps76
  go_wp2_with fail
  go_ret2
  exact ⟨rfl, rfl⟩

set_option maxRecDepth 100000 in
theorem cl_next (h : IsCL w F p kn tk) (hn : IsNext kn tk n) (hb : n ≤ 100000000) : Calls Tryz.prog 39 #[.pointer (some ⟨p, 0, none⟩)] w fun e w' => e = .returned (.int .i64 (n : Int)) ∧ w = w' := by
  obtain ⟨b, h1, h2, _⟩ := h
  have c0 := h1.cell 0
  have c1 := h1.cell 1
  simp at c0 c1
  obtain ⟨n1, n2, n3⟩ := hn
  have HN := Lib.hid (And.intro n2 n3)
  have HL := Lib.hid (fun k (hk : isKey k) => sm_lookup h2 hk)
  clear n2 n3 h1 h2
  go_enter Tryz.func39, Tryz.ntmps39
  go_wp2_with fail
  go_loopw [3] (fun i wr => wr = w ∧ ∃ k : Nat, i = .int .i64 k ∧ tk ≤ k ∧ k ≤ n) (fun i _ => n - (intOf i).toNat)
  case atStart => exact ⟨rfl, tk, rfl, by omega, n1⟩
  case round =>
    obtain ⟨rfl, k, rfl, hk1, hk2⟩ := hrel
    have hl := HL.out k (is_key (by omega) (by omega))
    unfold tx at hl
    by_cases hkn : k < n
    · have hs := HN.out.1 k hk1 hkn
      rw [hs] at hl
      clear hs
      go_wp2_with fail
      go_roundw
      case rel => exact ⟨by trivial, k + 1, by go_num, by omega, by omega⟩
      case measure => simp [intOf]; omega
    · obtain rfl : k = n := by omega
      have hs := HN.out.2
      rw [hs] at hl
      clear hs
      simp only [Option.isSome_none] at hl
      go_wp2_with fail
      go_ret
      exact ⟨rfl, rfl⟩
end

end Go.Proofs.YtiglblfjmmdeeaaGreat
