/- A slice of Booleans that came in. -/
import Derived.Test.YtfclighheoobaaaOpenT
import Derived.Deep.Grids
namespace Go.Proofs.Ytfclighheoobaaa
open Go.ChangeShapes Go.WideShapes Go.ChangeAt Go.RowKit Go.Deep

/-- A slice of Booleans that came in. -/
def LArg (W : World) (A : Option Addr) (n : Nat) (L : Nat → Bool) : Prop :=
  n ≤ maxLen ∧ ∀ i, i < n → ∃ ad, A = some ad ∧ ad.block < W.heap.size ∧ W.cell? (ad.add i) = some (.bool (L i))

section
variable {H : Type} {enc : TypeId × Value → H} {W : World} {base : Nat}
set_option maxRecDepth 100000 in
theorem open_larg {v : Value} {d : DataW H} {p : List MemPlace} (hv : Value.okWide Try.prog W .any base 62 v) (h : DataW.Trod enc Try.prog W 0 (fun _ => true) true 62 v d p) :
    ∃ A n c L, v = .slice A n c ∧ LArg W A n L := by
  obtain ⟨A, n, c, rfl⟩ := okWide_slice Try.underlying62 hv
  obtain ⟨fuel, hf⟩ := h
  rcases open_bools Try.underlying62 Try.underlying4 (by kernel_rfl) hf with ⟨hcs, _⟩ | ⟨x, l, c', B, hcs, _, hl, hm, _, hcell⟩
  · simp [Value.cells] at hcs
    obtain ⟨rfl, rfl, rfl⟩ := hcs
    exact ⟨_, _, _, fun _ => false, rfl, Nat.zero_le _, fun i hi => absurd hi (Nat.not_lt_zero _)⟩
  · simp [Value.cells] at hcs
    obtain ⟨rfl, rfl, rfl⟩ := hcs
    refine ⟨_, _, _, B, rfl, by omega, fun i hi => ?_⟩
    have hc := hcell i (by omega)
    have hb := World.block_lt_of_cell? W _ hc
    rw [block_of_add] at hb
    exact ⟨_, rfl, hb, hc⟩
end

end Go.Proofs.Ytfclighheoobaaa
