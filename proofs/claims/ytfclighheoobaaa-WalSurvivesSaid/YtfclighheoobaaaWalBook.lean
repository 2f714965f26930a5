/- strongroomlaw23's own words: few, fresh. -/
import Derived.Test.YtfclighheoobaaaWalOpen
import Derived.Deep.DeepCutAuto
namespace Go.Proofs.Ytfclighheoobaaa
open Go.RowKit

attribute [local go_sem] ba_append ba_extract ba_size Oper.pureUpon Oper.relUpon

set_option maxRecDepth 100000 in
theorem few_calls (w : World) (x : List UInt8) : Calls Try.prog 35 #[.string ⟨x.toArray⟩] w fun e w' => e = .returned (.string ⟨(x.take 100).toArray⟩) ∧ w = w' := by
  have hsz : (⟨x.toArray⟩ : ByteArray).size = x.length := ba_size x
  by_cases h : 100 < x.length
  · have h1 : (100 : Int) < (x.length : Int) := by omega
    have h2 : (100 : Int) ≤ (x.length : Int) := by omega
    go_enter Try.func35, Try.ntmps35
    go_wp2_with fail
    go_ret
    exact ⟨rfl, rfl⟩
  · have h1 : ¬ (100 : Int) < (x.length : Int) := by omega
    have h2 : x.take 100 = x := List.take_of_length_le (by omega)
    rw [h2]
    go_enter Try.func35, Try.ntmps35
    go_wp2_with fail
    go_ret
    exact ⟨rfl, rfl⟩

set_option maxRecDepth 100000 in
theorem fresh_calls (w : World) : Calls Try.prog 32 #[] w fun e w' => ∃ p dp, e = .returned (.tuple #[.pointer (some ⟨dp, 0, none⟩), .pointer (some ⟨p, 0, none⟩), .bool true]) ∧ LogOn w w' [] p dp [] 0 St.init := by
  go_enter Try.func32, Try.ntmps32
  go_wp2_with fail
  refine (sd_new w).mono ?_
  rintro e w1 ⟨dp, rfl, hp1, d1, hx1⟩
  have s1 : Sep w w1 [[dp]] := (Sep.start w).new hx1 (by have := d1.lt; simp at this ⊢; omega)
  go_wp2_with fail
  refine (wal_open (Fs := []) [] [] .nil (by simp) torn_nil (by simpa [bytesOf, encs] using d1) s1).mono ?_
  rintro e w2 ⟨p, sf', rfl, hon, h1, _, _⟩
  obtain rfl := h1 rfl
  go_wp2_with fail
  go_ret3
  exact ⟨p, dp, rfl, hon⟩

end Go.Proofs.Ytfclighheoobaaa
