/- A slice of items of a group that came in, opened. 'open_slice_fields' is turned from the kit's howto. -/
import Derived.Test.YtiglblfjmmdeeaaGreatOpen
import Derived.Deep.Slices
import Derived.Deep.Fields
import Derived.ChangeSame
namespace Go.Proofs.YtiglblfjmmdeeaaGreat
open Go.ChangeShapes Go.WideShapes Go.ChangeAt Go.RowKit Go.Deep

/-- A slice of items that came in. -/
def ItemS (W : World) (A : Option Addr) (n : Nat) (K D N : Nat → Int) (X : Nat → List UInt8) : Prop :=
  n ≤ maxLen ∧ ∀ i, i < n → ∃ b o, A = some ⟨b, o, none⟩ ∧ b < W.heap.size ∧ W.cell? ⟨b, o + i * 4, none⟩ = some (.int .i64 (K i)) ∧ W.cell? ⟨b, o + i * 4 + 1, none⟩ = some (.int .i64 (D i)) ∧ W.cell? ⟨b, o + i * 4 + 2, none⟩ = some (.int .i64 (N i)) ∧ W.cell? ⟨b, o + i * 4 + 3, none⟩ = some (.string ⟨(X i).toArray⟩) ∧
    (-9223372036854775808 ≤ N i ∧ N i ≤ 9223372036854775807)

section
variable {H : Type} {enc : TypeId × Value → H} {P : Program} {w : World} {base : Nat} {spare : Nat → Bool} {held : Bool}
theorem open_slice_fields {t e : TypeId} {fs : Array Field} {fuel : Nat} {cs : List Value} {x : DataW H × List MemPlace} (ht : P.underlying t = some (.slice e)) (he : P.underlying e = some (.struct fs))
    (hone : oneCellFields P fs = true) (hC : P.cellsOf e = fs.size) (h : DataW.trod enc P w base spare held fuel t cs = some x) :
    (cs = [.slice none 0 0] ∧ x = (.nil, [])) ∨
    ∃ (a : Addr) (len cap m : Nat) (D : Nat → DataW H) (Pl : Nat → List MemPlace), cs = [.slice (some a) len cap] ∧ base ≤ a.block ∧ len ≤ cap ∧ cap ≤ maxLen ∧ m = (if spare a.block then cap else len) ∧
      x = (.slice ((List.range len).map D) ((List.range (m - len)).map fun j => D (len + j)), MemPlace.row a (m * fs.size) ++ (List.range m).flatMap Pl) ∧
      ∀ i, i < m → ∃ (ys : List (DataW H × List MemPlace)) (n : Nat), D i = .agg (ys.map (·.1)) ∧ Pl i = ys.flatMap (·.2) ∧ ys.length = fs.size ∧
        ∀ (j : Nat) (f : Field), fs[j]? = some f → ∃ (v : Value) (y : DataW H × List MemPlace), w.cell? (a.add (i * fs.size + j)) = some v ∧ ys[j]? = some y ∧ DataW.trod enc P w base spare held n f.type [v] = some y := by
  rcases open_slice ht h with h0 | ⟨a, len, cap, m, n, D, Pl, hcs, hb, hl, hm, hmm, hx, hi⟩
  · exact .inl h0
  · refine .inr ⟨a, len, cap, m, D, Pl, hcs, hb, hl, hm, hmm, by rw [hC] at hx; exact hx, fun i him => ?_⟩
    obtain ⟨cs', hc, ht'⟩ := hi i him
    rw [hC] at hc
    obtain ⟨ys, n', hn', hy, hlen, hyl, hf⟩ := DataW.trod_struct he ht'
    obtain ⟨_, hcl, hat⟩ := World.cells?_some hc
    simp only [Prod.mk.injEq] at hy
    refine ⟨ys, n', hy.1, hy.2, hyl, fun j f hj => ?_⟩
    obtain ⟨ho, hk⟩ := hone_of hone j f hj
    have hjl : j < fs.size := (Array.getElem?_eq_some_iff.1 hj).1
    have hcell := hat j hjl
    have hv : cs'[j]? = some (cs'[j]'(by omega)) := List.getElem?_eq_getElem (by omega)
    have h1 := hf j f hj
    rw [ho, hk] at h1
    have hone' : (cs'.drop j).take 1 = [cs'[j]'(by omega)] := by
      rw [List.drop_eq_getElem_cons (by omega)]
      rfl
    rw [hone'] at h1
    have hys : ys[j]? = some (ys[j]'(by omega)) := List.getElem?_eq_getElem (by omega)
    refine ⟨_, _, ?_, hys, h1.trans hys⟩
    rw [← Go.Deep.add_add, hcell, hv]
end

section
variable {H : Type} {enc : TypeId × Value → H} {W : World} {base : Nat}
theorem add_plain (b o j : Nat) : (⟨b, o, none⟩ : Addr).add j = ⟨b, o + j, none⟩ := by
  unfold Addr.add
  split
  · rename_i h
    rw [h, Nat.add_zero]
  · rfl

set_option maxRecDepth 100000 in
theorem open_items {v : Value} {d : DataW H} {p : List MemPlace} (hv : Value.okWide Tryz.prog W .any base 22 v) (h : DataW.Trod enc Tryz.prog W 0 (fun _ => true) true 22 v d p) :
    ∃ A n c K E N X, v = .slice A n c ∧ ItemS W A n K E N X := by
  obtain ⟨A, n, c, rfl⟩ := okWide_slice Tryz.underlying22 hv
  obtain ⟨fuel, hf⟩ := h
  rcases open_slice_fields Tryz.underlying22 Tryz.underlying29 (by kernel_rfl) (by kernel_rfl) hf with ⟨hcs, _⟩ | ⟨a, len, cap, m, D, Pl, hcs, _, hl, hm, hmm, _, hr⟩
  · simp [Value.cells] at hcs
    obtain ⟨rfl, rfl, rfl⟩ := hcs
    exact ⟨_, _, _, fun _ => 0, fun _ => 0, fun _ => 0, fun _ => [], rfl, Nat.zero_le _, fun i hi => absurd hi (Nat.not_lt_zero _)⟩
  · simp [Value.cells] at hcs
    obtain ⟨rfl, rfl, rfl⟩ := hcs
    simp only [if_true] at hmm
    subst hmm
    have key : ∀ i, ∃ (k n' m' : Int) (x : List UInt8), i < n → W.cell? (a.add (i * 4)) = some (.int .i64 k) ∧ W.cell? (a.add (i * 4 + 1)) = some (.int .i64 n') ∧ W.cell? (a.add (i * 4 + 2)) = some (.int .i64 m') ∧ W.cell? (a.add (i * 4 + 3)) = some (.string ⟨x.toArray⟩) ∧
        (-9223372036854775808 ≤ m' ∧ m' ≤ 9223372036854775807) := by
      intro i
      by_cases hi : i < n
      · obtain ⟨ys, n', _, _, _, hj⟩ := hr i (by omega)
        obtain ⟨v0, y0, hc0, _, ht0⟩ := hj 0 _ rfl
        obtain ⟨v1, y1, hc1, _, ht1⟩ := hj 1 _ rfl
        obtain ⟨v2, y2, hc2, _, ht2⟩ := hj 2 _ rfl
        obtain ⟨v3, y3, hc3, _, ht3⟩ := hj 3 _ rfl
        obtain ⟨k, e0, _⟩ := DataW.trod_int Tryz.underlying3 ht0
        obtain ⟨nn, e1, _⟩ := DataW.trod_int Tryz.underlying3 ht1
        obtain ⟨mm, e2, _, hmm2⟩ := DataW.trod_int Tryz.underlying3 ht2
        obtain ⟨bs, e3, _⟩ := DataW.trod_string Tryz.underlying9 ht3
        injection e0 with e0
        injection e1 with e1
        injection e2 with e2
        injection e3 with e3
        subst e0 e1 e2 e3
        exact ⟨k, nn, mm, bs.data.toList, fun _ => ⟨hc0, hc1, hc2, hc3, by have hmin : IntKind.i64.min = -9223372036854775808 := rfl; have hmax : IntKind.i64.max = 9223372036854775807 := rfl; simp only [Lit.wf, Bool.and_eq_true, decide_eq_true_eq] at hmm2; omega⟩⟩
      · exact ⟨0, 0, 0, [], fun h => absurd h hi⟩
    obtain ⟨K, key⟩ := Classical.skolem.1 key
    obtain ⟨E, key⟩ := Classical.skolem.1 key
    obtain ⟨N, key⟩ := Classical.skolem.1 key
    obtain ⟨X, key⟩ := Classical.skolem.1 key
    refine ⟨_, _, _, K, E, N, X, rfl, by omega, fun i hi => ?_⟩
    obtain ⟨h0, h1, h2, h3, h4⟩ := key i hi
    have hs : a.spot = none := by
      obtain ⟨g0, _⟩ := key 0 (by omega)
      simpa [Addr.add] using World.cell?_spot g0
    obtain ⟨b, o, sp⟩ := a
    simp only at hs
    subst hs
    rw [add_plain] at h0 h1 h2 h3
    exact ⟨b, o, rfl, World.block_lt_of_cell? W _ h0, h0, by rw [Nat.add_assoc]; exact h1, by rw [Nat.add_assoc]; exact h2, by rw [Nat.add_assoc]; exact h3, h4⟩
end

end Go.Proofs.YtiglblfjmmdeeaaGreat
