/- DiskNumbers: chapter 22's runs, and a disk that is full. -/
import Derived.Test.YtfclighheoobaaaDisk2
import Derived.Laws.MakeOwn
namespace Go.Proofs.Ytfclighheoobaaa
open Go.RowKit

attribute [local go_sem] ba_append ba_extract ba_size

/-- So many bytes 0, as cells. -/
def zs (n : Nat) : Array Value := madeCells #[.int .u8 0] n
theorem zs_size (n : Nat) : (zs n).size = n := size_madeCells _ _
theorem zs_list (n : Nat) : (zs n).toList = bys (List.replicate n 0) := by
  unfold zs madeCells bys
  apply List.ext_getElem
  · simp
  · intro i h1 h2
    simp [Nat.mod_one]
theorem reads_zs (w : World) (n : Nat) : Reads (w.alloc (.cells (zs n) 5)) (w.heap.size + 1) 1 (some ⟨w.heap.size, 0, none⟩) n (bys (List.replicate n 0)) := by
  have := reads_new w 5 (0, 0) (zs n)
  rwa [zs_size, zs_list] at this

theorem make_bytes (n : Nat) (m : Int) (hm : m = n) (hn : n ≤ 100000000) (w : World) :
    (Instr.makeSlice 26 (.int .i64 m) (.int .i64 m)).run Try.prog w = .ok (.slice (some ⟨w.heap.size, 0, none⟩) n n) (w.alloc (.cells (zs n) 5)) := by
  obtain ⟨i0, hi0, hz0, hz1, hz2⟩ := info_parts byte_info
  subst hm
  have := run_make (P := Try.prog) w 26 5 i0 _ Try.underlying26 hi0 hz0 .i64 .i64 (n : Int) (n : Int) (by omega) (Int.le_refl _) (by rw [hz2]; omega) (by omega)
  rw [hz1] at this
  simpa [zs, Value.cells] using this

set_option maxRecDepth 100000 in
set_option maxHeartbeats 2000000 in
theorem numbers_walk (W : World) : Calls Try.prog 5 #[] W fun e w' => e = .returned (.bool true) ∧ Below W.heap.size W w' := by
  have kc := fun (w : World) (C : Array Value) (n c : Nat) => Lib.run_convert_bytes_const (P := Try.prog) w 26 5 C n c Try.underlying26 Try.underlying5
  obtain ⟨n1, hn1⟩ : ∃ n1 : Nat, n1 = 4194302 := ⟨_, rfl⟩
  obtain ⟨n2, hn2⟩ : ∃ n2 : Nat, n2 = 4194301 := ⟨_, rfl⟩
  obtain ⟨n3, hn3⟩ : ∃ n3 : Nat, n3 = 4194305 := ⟨_, rfl⟩
  have m1 := make_bytes n1 4194302 (by omega) (by omega)
  have m2 := make_bytes n2 4194301 (by omega) (by omega)
  have m3 := make_bytes n3 4194305 (by omega) (by omega)
  have H1 := Lib.hid hn1
  have H2 := Lib.hid hn2
  have H3 := Lib.hid hn3
  clear hn1 hn2 hn3
  go_enter Try.func5, Try.ntmps5
  go_wp2_with fail
  refine (d_new W W (Below.refl _ _)).mono ?_
  rintro e w1 ⟨p, rfl, h1⟩
  go_wp2_with fail
  refine (d_crash h1 5).mono ?_
  rintro e w2 ⟨rfl, h2⟩
  replace h2 : D W w2 p [] 0 := by simpa using h2
  go_wp2_with fail
  refine (d_append (xs := [97, 98, 99]) (h2.alloc _) (reads_new _ _ _ _) (by simp)).mono ?_
  rintro e w3 ⟨rfl, h3⟩
  replace h3 : D W w3 p [97, 98, 99] 0 := h3
  go_wp2_with fail
  refine (d_append_full (h3.alloc _) (by have := H1.out; simp; omega)).mono ?_
  rintro e w4 ⟨rfl, rfl⟩
  replace h3 := h3.alloc (.cells (zs n1) 5)
  generalize w3.alloc (.cells (zs n1) 5) = w4 at *
  clear m1
  go_wp2_with fail
  refine (d_append (h3.alloc _) (reads_zs _ _) (by have := H2.out; simp; omega)).mono ?_
  rintro e w5 ⟨rfl, h5⟩
  obtain ⟨l5, hl5, h5⟩ : ∃ l5, l5.length = 4194304 ∧ D W w5 p l5 0 := ⟨_, by have := H2.out; simp; omega, h5⟩
  have HL5 := Lib.hid hl5
  clear hl5 m2
  go_wp2_with fail
  refine (d_append_full (h5.alloc _) (by have := HL5.out; omega)).mono ?_
  rintro e w6 ⟨rfl, rfl⟩
  replace h5 := h5.alloc (.cells #[.int .u8 1] 5)
  generalize w5.alloc (.cells #[.int .u8 1] 5) = w6 at *
  go_wp2_with fail
  refine (swap_full _ p _ _ _ (by have := H3.out; omega)).mono ?_
  rintro e w7 ⟨rfl, rfl⟩
  replace h5 := h5.alloc (.cells (zs n3) 5)
  generalize w6.alloc (.cells (zs n3) 5) = w7 at *
  clear m3
  go_wp2_with fail
  refine (d_bytes h5).mono ?_
  rintro e w8 ⟨A, c, rfl, ho, h8, hb8⟩
  go_wp2_with fail
  refine (d_swap (xs := [120]) (h8.alloc _) (reads_new _ _ _ _) (by simp) (by simp) (by simp)).mono ?_
  rintro e w9 ⟨rfl, h9⟩
  go_wp2_with fail
  refine (d_append (xs := [121]) (h9.alloc _) (reads_new _ _ _ _) (by simp)).mono ?_
  rintro e w10 ⟨rfl, h10⟩
  go_wp2_with fail
  refine (d_crash h10 0).mono ?_
  rintro e w11 ⟨rfl, h11⟩
  go_wp2_with fail
  refine (d_swap (xs := []) (B := w11.heap.size) h11 Reads.none_ (Nat.le_refl _) (by simp) (by simp)).mono ?_
  rintro e w12 ⟨rfl, h12⟩
  have HL6 : ((l5.length : Int) == 4194304) = true := by have := HL5.out; rw [this]; rfl
  go_wp2_with fail
  refine (d_bytes h12).mono ?_
  rintro e w13 ⟨A2, c2, rfl, ho2, h13, hb13⟩
  go_wp2_with fail
  refine (d_safe h13).mono ?_
  rintro e w14 ⟨rfl, rfl⟩
  go_wp2_with fail
  refine (known_calls W _ h13.below).mono ?_
  rintro e w15 ⟨rfl, h15⟩
  go_wp2
  go_ret
  exact ⟨rfl, h15⟩

end Go.Proofs.Ytfclighheoobaaa
