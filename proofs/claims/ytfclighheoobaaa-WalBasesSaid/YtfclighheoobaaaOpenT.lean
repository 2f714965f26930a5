/- A slice of texts that came in. -/
import Derived.Test.YtfclighheoobaaaOpen
import Derived.SliceStrings
namespace Go.Proofs.Ytfclighheoobaaa
open Go.ChangeShapes Go.WideShapes Go.ChangeAt Go.RowKit Go.Deep

/-- A slice of texts that came in. -/
def TArg (W : World) (A : Option Addr) (n : Nat) (X : Nat → List UInt8) : Prop :=
  n ≤ maxLen ∧ ∀ i, i < n → ∃ ad, A = some ad ∧ ad.block < W.heap.size ∧ W.cell? (ad.add i) = some (.string ⟨(X i).toArray⟩)

section
variable {H : Type} {enc : TypeId × Value → H} {W : World} {base : Nat}
set_option maxRecDepth 100000 in
theorem open_targ {v : Value} {d : DataW H} {p : List MemPlace} (hv : Value.okWide Try.prog W .any base 49 v) (h : DataW.Trod enc Try.prog W 0 (fun _ => true) true 49 v d p) :
    ∃ A n c X, v = .slice A n c ∧ TArg W A n X := by
  obtain ⟨A, n, c, rfl⟩ := okWide_slice Try.underlying49 hv
  obtain ⟨fuel, hf⟩ := h
  rcases open_strings Try.underlying49 Try.underlying9 (by kernel_rfl) hf with ⟨hcs, _⟩ | ⟨x, l, c', ss, hcs, _, hl, hm, hz, _, hcell, hwz⟩
  · simp [Value.cells] at hcs
    obtain ⟨rfl, rfl, rfl⟩ := hcs
    exact ⟨_, _, _, fun _ => [], rfl, Nat.zero_le _, fun i hi => absurd hi (Nat.not_lt_zero _)⟩
  · simp [Value.cells] at hcs
    obtain ⟨rfl, rfl, rfl⟩ := hcs
    simp only [if_true] at hz
    refine ⟨_, _, _, fun i => (ss.getD i ByteArray.empty).data.toList, rfl, by omega, fun i hi => ?_⟩
    have hc := hcell i (by omega)
    have hb := World.block_lt_of_cell? W _ hc
    rw [block_of_add] at hb
    exact ⟨_, rfl, hb, hc⟩
end

end Go.Proofs.Ytfclighheoobaaa
