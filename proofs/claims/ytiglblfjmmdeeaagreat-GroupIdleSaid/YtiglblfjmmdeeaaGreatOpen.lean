/- Arguments opened: a slice of bytes, of slices of bytes, of numbers, of texts, of bools, as the walks take them. -/
import Derived.Test.YtiglblfjmmdeeaaGreatDisk2
import Derived.ProofKit
import Derived.OpenShut
import Derived.ShutString
import Derived.ChangeOld
import Derived.Below
import Derived.Deep.Matrix
namespace Go.Proofs.YtiglblfjmmdeeaaGreat
open Go.ChangeShapes Go.WideShapes Go.ChangeAt Go.RowKit Go.Deep
open Go.ChangeMaps (open_string shut_string)

theorem own_knob : ownKnob Tryz.prog.godebug = none := by kernel_rfl
theorem laid_out : laidOutB Tryz.prog = true := by kernel_rfl

/-- Numbers of a byte each, as bytes. -/
def toBytes (zs : List Int) : List UInt8 := zs.map fun z => UInt8.ofNat z.toNat
theorem bys_toBytes (zs : List Int) (h : ∀ n ∈ zs, (Lit.int .u8 n).wf = true) : bys (toBytes zs) = zs.map fun z => Value.int .u8 z := by
  unfold bys toBytes
  rw [List.map_map]
  refine List.map_congr_left fun z hz => ?_
  have h1 := bounds_u8 (h z hz)
  simp only [Function.comp, UInt8.toNat_ofNat']
  congr 1
  omega

section
variable {H : Type} {enc : TypeId × Value → H} {W : World} {base : Nat}

theorem barg_of {A : Option Addr} {n c : Nat} {zs : List Int} (hn : n ≤ c) (hc : c ≤ maxLen) (hz : zs.length = c) (hA : A = none → c = 0)
    (hcell : ∀ a, A = some a → ∀ i, i < c → W.cell? (a.add i) = some (.int .u8 (zs.getD i 0))) (hwf : ∀ n ∈ zs, (Lit.int .u8 n).wf = true) : BArg W A n c (toBytes (zs.take n)) := by
  have e1 : bys (toBytes (zs.take n)) = (zs.take n).map fun z => Value.int .u8 z := bys_toBytes _ (fun m hm => hwf m (List.mem_of_mem_take hm))
  have e2 : (bys (toBytes (zs.take n))).length = n := by rw [e1, List.length_map, List.length_take]; omega
  refine ⟨⟨by omega, fun h0 => ?_⟩, hn, hc, fun h => by have := hA h; omega⟩
  rcases A with _ | a
  · have := hA rfl; omega
  · have hc' := hcell a rfl
    refine ⟨a, rfl, ?_, fun j u hu => ?_⟩
    · have := World.block_lt_of_cell? W _ (hc' 0 (by omega))
      rwa [block_of_add] at this
    · rw [e1] at hu
      simp only [List.getElem?_map, List.getElem?_take] at hu
      split at hu
      · rename_i hj
        rw [hc' j (by omega)]
        have hjl : j < zs.length := by omega
        rw [List.getElem?_eq_getElem hjl] at hu
        simp at hu
        rw [← hu]
        simp [List.getD, List.getElem?_eq_getElem hjl]
      · simp at hu

set_option maxRecDepth 100000 in
theorem open_barg {v : Value} {d : DataW H} {p : List MemPlace} (hv : Value.okWide Tryz.prog W .any base 34 v) (h : DataW.Trod enc Tryz.prog W 0 (fun _ => true) true 34 v d p) :
    ∃ A n c l, v = .slice A n c ∧ BArg W A n c l := by
  obtain ⟨A, n, c, rfl⟩ := okWide_slice Tryz.underlying34 hv
  obtain ⟨fuel, hf⟩ := h
  rcases open_ints Tryz.underlying34 Tryz.underlying5 (by kernel_rfl) hf with ⟨hcs, _⟩ | ⟨x, l, c', zs, hcs, _, hl, hm, hz, _, hcell, hwz⟩
  · simp [Value.cells] at hcs
    obtain ⟨rfl, rfl, rfl⟩ := hcs
    exact ⟨_, _, _, [], rfl, ⟨by simp [bys], by simp⟩, Nat.le_refl _, Nat.zero_le _, fun _ => ⟨rfl, rfl⟩⟩
  · simp [Value.cells] at hcs
    obtain ⟨rfl, rfl, rfl⟩ := hcs
    simp only [if_true] at hz
    exact ⟨_, _, _, _, rfl, barg_of hl hm hz (by simp) (fun a ha i hi => by cases ha; exact hcell i (by omega)) hwz⟩

set_option maxRecDepth 100000 in
theorem open_rarg {v : Value} {d : DataW H} {p : List MemPlace} (hv : Value.okWide Tryz.prog W .any base 96 v) (h : DataW.Trod enc Tryz.prog W 0 (fun _ => true) true 96 v d p) :
    ∃ A n c X, v = .slice A n c ∧ RArg W A n X := by
  obtain ⟨A, n, c, rfl⟩ := okWide_slice Tryz.underlying96 hv
  obtain ⟨fuel, hf⟩ := h
  rcases open_int_rows Tryz.underlying96 Tryz.underlying34 Tryz.underlying5 (by kernel_rfl) (by kernel_rfl) hf with ⟨hcs, _⟩ | ⟨a, len, cap, A', L, C, Z, hcs, _, hl, hm, _, hr⟩
  · simp [Value.cells] at hcs
    obtain ⟨rfl, rfl, rfl⟩ := hcs
    exact ⟨_, _, _, fun _ => [], rfl, Nat.zero_le _, fun i hi => absurd hi (Nat.not_lt_zero _)⟩
  · simp [Value.cells] at hcs
    obtain ⟨rfl, rfl, rfl⟩ := hcs
    refine ⟨_, _, _, fun r => toBytes ((Z r).take (L r)), rfl, by omega, fun i hi => ?_⟩
    obtain ⟨h1, h2, h3, h4, h5, h6, h7⟩ := hr i (by omega)
    have e : (toBytes ((Z i).take (L i))).length = L i := by unfold toBytes; rw [List.length_map, List.length_take]; omega
    have hb := World.block_lt_of_cell? W _ h1
    rw [block_of_add] at hb
    dsimp only
    rw [e]
    exact ⟨a, A' i, C i, rfl, hb, h1, barg_of h2 h3 h4 h6 (fun a' ha j hj => (h7 a' ha).2 j hj) h5⟩

set_option maxRecDepth 100000 in
theorem open_iarg {v : Value} {d : DataW H} {p : List MemPlace} (hv : Value.okWide Tryz.prog W .any base 176 v) (h : DataW.Trod enc Tryz.prog W 0 (fun _ => true) true 176 v d p) :
    ∃ A n c Z, v = .slice A n c ∧ IArg W A n Z := by
  obtain ⟨A, n, c, rfl⟩ := okWide_slice Tryz.underlying176 hv
  obtain ⟨fuel, hf⟩ := h
  rcases open_ints Tryz.underlying176 Tryz.underlying3 (by kernel_rfl) hf with ⟨hcs, _⟩ | ⟨x, l, c', zs, hcs, _, hl, hm, hz, _, hcell, hwz⟩
  · simp [Value.cells] at hcs
    obtain ⟨rfl, rfl, rfl⟩ := hcs
    exact ⟨_, _, _, fun _ => 0, rfl, Nat.zero_le _, fun i hi => absurd hi (Nat.not_lt_zero _)⟩
  · simp [Value.cells] at hcs
    obtain ⟨rfl, rfl, rfl⟩ := hcs
    simp only [if_true] at hz
    refine ⟨_, _, _, fun i => zs.getD i 0, rfl, by omega, fun i hi => ?_⟩
    have hc := hcell i (by omega)
    have hb := World.block_lt_of_cell? W _ hc
    rw [block_of_add] at hb
    exact ⟨_, rfl, hb, hc⟩
end

end Go.Proofs.YtiglblfjmmdeeaaGreat
