/- core.Acceptor. -/
import Derived.Test.YtiglblfjmmdeeaaGreatCoreTake
namespace Go.Proofs.YtiglblfjmmdeeaaGreat
open Go.RowKit Go.Maps Go.ChangeMaps

attribute [local go_sem] Oper.pureUpon Oper.relUpon

/-- A vote. -/
structure Vt where
  slot : Int
  br : Int
  bn : Int
  v : List UInt8
def vtv (x : Vt) : Value := .agg #[.int .i64 x.slot, .int .i64 x.br, .int .i64 x.bn, tx x.v]
def AM (w : World) (b : Nat) (l : List (Int × Vt)) : Prop := IM w b (l.map fun x => (x.1, vtv x.2))
def lookV : List (Int × Vt) → Int → Option Vt
  | [], _ => none
  | p :: l, k => if k = p.1 then some p.2 else lookV l k
def putV : List (Int × Vt) → Int → Vt → List (Int × Vt)
  | [], k, v => [(k, v)]
  | p :: l, k, v => if k = p.1 then (k, v) :: l else p :: putV l k v
theorem lookL_vt : ∀ (l : List (Int × Vt)) (k : Int), lookL (l.map fun x => (x.1, vtv x.2)) k = (lookV l k).map vtv
  | [], _ => rfl
  | p :: l, k => by
    simp only [List.map_cons, lookL, lookV]
    split
    · rfl
    · exact lookL_vt l k
theorem putL_vt : ∀ (l : List (Int × Vt)) (k : Int) (v : Vt), putL (l.map fun x => (x.1, vtv x.2)) k (vtv v) = (putV l k v).map fun x => (x.1, vtv x.2)
  | [], _, _ => rfl
  | p :: l, k, v => by
    simp only [List.map_cons, putL, putV]
    split
    · rfl
    · simp [putL_vt l k v]
theorem vote_zero : (Tryz.prog.info? 117).bind (fun i => i.zero) = some (.agg #[.int .i64 0, .int .i64 0, .int .i64 0, .string ⟨#[]⟩]) := by kernel_rfl
def vt0 : Vt := ⟨0, 0, 0, []⟩
theorem zero_vote (w : World) : (zeroValue 117).run Tryz.prog w = .ok (vtv vt0) w := by
  have h := vote_zero
  obtain ⟨i, hi, hz⟩ := Option.bind_eq_some_iff.1 h
  simp [zeroValue, typeInfo, hi, hz]
  rfl

/-- The acceptor behind p: the ballot it promised, its votes, and the slot behind the last of them. -/
def IsAcc (w : World) (F : List Nat) (p : Nat) (pr pn : Int) (vs : List (Int × Vt)) (top : Nat) : Prop :=
  ∃ b, Blk w p 134 #[.int .i64 pr, .int .i64 pn, .map (some b), .int .i64 (top : Int)] ∧ AM w b vs ∧ F = [p, b]

section
variable {W w w' : World} {F : List Nat} {p top : Nat} {pr pn : Int} {vs : List (Int × Vt)}
theorem IsAcc.lt (h : IsAcc w F p pr pn vs top) : ∀ k ∈ F, k < w.heap.size := by
  obtain ⟨b, h1, h2, rfl⟩ := h
  intro k hk
  simp at hk
  rcases hk with rfl | rfl
  · exact h1.lt
  · exact IM.lt h2
theorem IsAcc.keep (h : IsAcc w F p pr pn vs top) (hk : Keep F w w') : IsAcc w' F p pr pn vs top := by
  obtain ⟨b, h1, h2, rfl⟩ := h
  exact ⟨b, h1.keep (hk p (by simp)), IM.keep h2 (hk b (by simp)), rfl⟩
theorem IsAcc.ext (h : IsAcc w F p pr pn vs top) (e : Ext w w') : IsAcc w' F p pr pn vs top := h.keep fun k hk => e.block k (h.lt k hk)

theorem acc_new (w : World) : Calls Tryz.prog 42 #[] w fun e w' => ∃ p, e = .returned (.pointer (some ⟨p, 0, none⟩)) ∧ IsAcc w' [p, w.heap.size] p 0 0 [] 0 ∧ w.heap.size + 1 = p ∧ Ext w w' := by
  have hmm := @run_makeMap Tryz.prog
  go_enter Tryz.func42, Tryz.ntmps42
  go_wp2_with fail
  go_ret
  refine ⟨_, rfl, ⟨w.heap.size, by have := Blk.new (w.alloc (.map #[] 0)) 134 #[.int .i64 0, .int .i64 0, .map (some w.heap.size), .int .i64 0]; simpa using this, ?_, rfl⟩, by simp, ?_⟩
  · exact (im_new w).ext ((Below.refl _ _).alloc (Nat.le_refl _) _)
  · exact ((Below.refl _ _).alloc (Nat.le_refl _) _).alloc (by simp) _

theorem acc_promised (h : IsAcc w F p pr pn vs top) : Calls Tryz.prog 93 #[.pointer (some ⟨p, 0, none⟩)] w fun e w' => e = .returned (bal pr pn) ∧ Ext w w' := by
  obtain ⟨b, h1, h2, _⟩ := h
  have hlt := h1.lt
  have c0 : ∀ w', Ext w w' → w'.cell? ⟨p, 0, none⟩ = some (.int .i64 pr) := fun w' he => by have := (h1.below he hlt).cell 0; simpa using this
  have c1 : ∀ w', Ext w w' → w'.cell? ⟨p, 1, none⟩ = some (.int .i64 pn) := fun w' he => by have := (h1.below he hlt).cell 1; simpa using this
  have d0 := c0 _ ((Below.refl w.heap.size w).alloc (Nat.le_refl _) (.cells #[.int .i64 0, .int .i64 0] 108))
  have d1 := c1 _ ((Below.refl w.heap.size w).alloc (Nat.le_refl _) (.cells #[.int .i64 0, .int .i64 0] 108))
  clear c0 c1
  go_enter Tryz.func93, Tryz.ntmps93
  go_wp2_with fail
  refine bodyPost_ret (v := bal pr pn) (by simp [results, Tryz.results93, go_sem, bal]) rfl ⟨rfl, ?_⟩
  exact (Below.refl _ _).alloc (Nat.le_refl _) _

theorem am_lookup {b : Nat} (h : AM w b vs) {k : Int} (hk : isKey k) : (Instr.lookup 132 (.map (some b)) (.int .i64 k) true).run Tryz.prog w = .ok (.tuple #[vtv ((lookV vs k).getD vt0), .bool (lookV vs k).isSome]) w := by
  have h1 := im_lookup h Tryz.underlying132 Tryz.underlying3 (zero_vote w) hk true
  rw [lookL_vt] at h1
  rw [h1]
  cases lookV vs k <;> rfl

theorem acc_at (h : IsAcc w F p pr pn vs top) {k : Int} (hk : isKey k) : Calls Tryz.prog 133 #[.pointer (some ⟨p, 0, none⟩), .int .i64 k] w fun e w' => e = .returned (.tuple #[vtv ((lookV vs k).getD vt0), .bool (lookV vs k).isSome]) ∧ Ext w w' := by
  obtain ⟨b, h1, h2, _⟩ := h
  have hlt := h1.lt
  have c2 : ∀ w', Ext w w' → w'.cell? ⟨p, 2, none⟩ = some (.map (some b)) := fun w' he => by have := (h1.below he hlt).cell 2; simpa using this
  have hl := fun w' (he : Ext w w') => am_lookup (IM.ext h2 he) hk
  obtain ⟨x, hx⟩ : ∃ x, (lookV vs k).getD vt0 = x := ⟨_, rfl⟩
  rw [hx] at hl ⊢
  generalize (lookV vs k).isSome = ok at *
  obtain ⟨xs, xr, xn, xv⟩ := x
  unfold vtv tx at hl ⊢
  have he1 : Ext w (w.alloc (.cells #[.int .i64 0, .int .i64 0, .int .i64 0, .string ⟨#[]⟩] 117)) := (Below.refl _ _).alloc (Nat.le_refl _) _
  have d2 := c2 _ he1
  have hl1 := hl _ he1
  clear c2 hl h1 h2 hx
  go_enter Tryz.func133, Tryz.ntmps133
  go_wp2_with fail
  refine bodyPost_ret (v := .tuple #[.agg #[.int .i64 xs, .int .i64 xr, .int .i64 xn, .string ⟨xv.toArray⟩], .bool ok]) (by simp [results, Tryz.results133, go_sem]) rfl ⟨rfl, ?_⟩
  exact ((Below.refl _ _).alloc (Nat.le_refl _) _).alloc (by simp) _
end

end Go.Proofs.YtiglblfjmmdeeaaGreat
