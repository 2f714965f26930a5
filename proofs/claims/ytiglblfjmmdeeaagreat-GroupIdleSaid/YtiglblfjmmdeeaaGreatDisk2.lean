/- One disk of the call's own: the contracts of its methods, its blocks out of sight; texts out of bytes; Within, Cut; chapter 22's run. -/
import Derived.Test.YtiglblfjmmdeeaaGreatDisk
import Derived.Lib.SlBytesConst
import Derived.Test.YtiglblfjmmdeeaaGreatRely
namespace Go.Proofs.YtiglblfjmmdeeaaGreat
open Go.RowKit

theorem IsDisk.mod {w w' : World} {p : Nat} {v : Value} {l : List UInt8} {s : Nat} {S : List Nat} (h : IsDisk w p v l s) (hm : Mod S w w') (hp : p ∉ S) (hv : ∀ k, v.ownBlock = some k → k ∉ S) : IsDisk w' p v l s :=
  ⟨h.1.mod hm hp, own_mod h.2.1 hm hv, h.2.2⟩

/-- A disk that has been made since W; below W's size all is as it was in W. -/
def D (W w : World) (p : Nat) (l : List UInt8) (s : Nat) : Prop :=
  ∃ v, IsDisk w p v l s ∧ W.heap.size ≤ p ∧ (∀ k, v.ownBlock = some k → W.heap.size ≤ k) ∧ Below W.heap.size W w

section
variable {W w : World} {p : Nat} {l : List UInt8} {s : Nat}
theorem D.below (h : D W w p l s) : Below W.heap.size W w := by obtain ⟨v, _, _, _, h⟩ := h; exact h
theorem D.len (h : D W w p l s) : l.length ≤ 4194304 := by obtain ⟨v, h, _⟩ := h; exact h.2.2.2
theorem D.safe (h : D W w p l s) : s ≤ l.length := by obtain ⟨v, h, _⟩ := h; exact h.2.2.1
theorem D.mod {w' : World} (h : D W w p l s) (hb : Below w.heap.size w w') : D W w' p l s := by
  obtain ⟨v, h1, h2, h3, h4⟩ := h
  exact ⟨v, h1.mod (Mod.of_below hb []) (by simp) (by simp), h2, h3, h4.trans (hb.mono h4.size)⟩
theorem D.alloc (h : D W w p l s) (o : Obj) : D W (w.alloc o) p l s := h.mod ((Below.refl _ _).alloc (Nat.le_refl _) o)
theorem D.drew (h : D W w p l s) : D W w.drew p l s := h.mod (Below.refl _ _).drew
theorem D.drewN (h : D W w p l s) (n : Nat) : D W (w.drewN n) p l s := h.mod ⟨rfl, rfl, rfl, Nat.le_refl _, fun _ _ => rfl⟩

theorem d_new (W w : World) (hb : Below W.heap.size W w) : Calls Tryz.prog 28 #[] w fun e w' => ∃ p, e = .returned (.pointer (some ⟨p, 0, none⟩)) ∧ D W w' p [] 0 := by
  refine (new_calls w).mono ?_
  rintro e w' ⟨p, rfl, hp, hd, hb'⟩
  exact ⟨p, rfl, _, hd, by rw [← hp]; exact hb.size, by simp [Value.ownBlock], hb.trans (hb'.mono hb.size)⟩


theorem d_sync (h : D W w p l s) : Calls Tryz.prog 159 #[.pointer (some ⟨p, 0, none⟩)] w fun e w' => e = .returned (.tuple #[]) ∧ D W w' p l l.length := by
  obtain ⟨v, h, h2, h3, h4⟩ := h
  refine (sync_calls w p v l s h).mono ?_
  rintro e w' ⟨rfl, hd, hm⟩
  exact ⟨rfl, v, hd, h2, h3, h4.trans (hm.below h4.size (by simpa using h2))⟩

theorem d_bytes (h : D W w p l s) : Calls Tryz.prog 47 #[.pointer (some ⟨p, 0, none⟩)] w fun e w' => ∃ A c, e = .returned (.slice A l.length c) ∧
    w'.ownsRow w.heap.size 5 1 (.slice A l.length c) l.length (bys l) ∧ D W w' p l s ∧ Below w.heap.size w w' := by
  obtain ⟨v, h', h2⟩ := id h
  refine (bytes_calls w p v l s h').mono ?_
  rintro e w' ⟨A, c, rfl, ho, hb⟩
  exact ⟨A, c, rfl, ho, h.mod hb, hb⟩

theorem d_append {A : Option Addr} {n c : Nat} {xs : List UInt8} {B : Nat} (h : D W w p l s) (hr : Reads w B 1 A n (bys xs)) (hn : n + l.length ≤ 4194304) :
    Calls Tryz.prog 158 #[.pointer (some ⟨p, 0, none⟩), .slice A n c] w fun e w' => e = .returned (.int .i64 0) ∧ D W w' p (l ++ xs) s := by
  obtain ⟨v, h, h2, h3, h4⟩ := h
  refine (append_calls w p v l s h A n c xs B hr hn).mono ?_
  rintro e w' ⟨rfl, v', hd, hm, hv⟩
  refine ⟨rfl, v', hd, h2, fun k hk => ?_, h4.trans (hm.below h4.size (fun k hk => ?_))⟩
  · rcases hv with hv | hv
    · exact h3 k (hv ▸ hk)
    · rw [hv] at hk; injection hk with hk; have := h4.size; omega
  · simp only [foot, List.mem_cons, Option.mem_toList] at hk
    rcases hk with rfl | hk
    · exact h2
    · exact h3 k hk

theorem d_append_full {A : Option Addr} {n c : Nat} (h : D W w p l s) (hn : 4194304 < n + l.length) :
    Calls Tryz.prog 158 #[.pointer (some ⟨p, 0, none⟩), .slice A n c] w fun e w' => e = .returned (.int .i64 13) ∧ w = w' := by
  obtain ⟨v, h, _⟩ := h
  exact append_full w p v l s h A n c hn

theorem d_crash (h : D W w p l s) (k : Int) :
    Calls Tryz.prog 37 #[.pointer (some ⟨p, 0, none⟩), .int .i64 k] w fun e w' => e = .returned (.tuple #[]) ∧ D W w' p (l.take (s + k.toNat)) (l.take (s + k.toNat)).length := by
  obtain ⟨v, h, h2, h3, h4⟩ := h
  refine (crash_calls w p v l s h k).mono ?_
  rintro e w' ⟨rfl, v', hd, hm, hv⟩
  rw [← List.length_take] at hd
  exact ⟨rfl, v', hd, h2, fun k hk => h3 k (hv ▸ hk), h4.trans (hm.below h4.size (by simpa using h2))⟩

theorem d_swap {A : Option Addr} {n c : Nat} {xs : List UInt8} {B : Nat} (h : D W w p l s) (hr : Reads w B 1 A n (bys xs)) (hB : B ≤ w.heap.size) (hA : A = none → n = 0 ∧ c = 0) (hn : n ≤ 4194304) :
    Calls Tryz.prog 97 #[.pointer (some ⟨p, 0, none⟩), .slice A n c] w fun e w' => e = .returned (.int .i64 0) ∧ D W w' p xs xs.length := by
  obtain ⟨v, h, h2, h3, h4⟩ := h
  refine (swap_calls w p v l s h A n c xs B hr hB hA hn).mono ?_
  rintro e w' ⟨rfl, v', hd, hm, hv⟩
  exact ⟨rfl, v', hd, h2, fun k hk => by have := hv k hk; have := h4.size; omega, h4.trans (hm.below h4.size (by simpa using h2))⟩
end

/-! ### Texts -/
/-- A text of these bytes. -/
def str (l : List UInt8) : Value := .string ⟨l.toArray⟩

/-- string(b) of bytes that a slice reads. -/
theorem run_str {P : Program} (w : World) (src dst e : TypeId) (hs : P.underlying src = some (.slice e)) (he : P.underlying e = some (.int .u8)) (hd : P.underlying dst = some .string)
    {B : Nat} {A : Option Addr} {n : Nat} {l : List UInt8} (hr : Reads w B 1 A n (bys l)) (c : Nat) : (convert src dst (.slice A n c)).run P w = .ok (.string ⟨l.toArray⟩) w := by
  obtain rfl := hr.len
  rcases A with _ | ad
  · have h0 : l = [] := by
      rcases l with _ | ⟨x, l⟩
      · rfl
      · obtain ⟨ad, h, _⟩ := hr.2 (by simp)
        cases h
    subst h0
    exact run_convert_bytes_nil w src e hs he _ c dst hd
  · refine run_convert_bytes_back w src dst e ad c l hs he hd fun j hj => ?_
    obtain ⟨ad', h, _, hc⟩ := hr.2 (by omega)
    injection h with h
    subst h
    exact hc j _ (by simp [bys, List.getElem?_eq_getElem hj])

theorem ba_append (a b : List UInt8) : (⟨a.toArray⟩ : ByteArray) ++ ⟨b.toArray⟩ = ⟨(a ++ b).toArray⟩ := by
  apply ByteArray.ext
  simp

theorem ba_extract (l : List UInt8) (q : Nat) : (⟨l.toArray⟩ : ByteArray).extract 0 q = ⟨(l.take q).toArray⟩ := by
  apply ByteArray.ext
  simp

theorem ba_size (l : List UInt8) : (⟨l.toArray⟩ : ByteArray).size = l.length := by
  simp [ByteArray.size]

theorem reads_new (w : World) (e : TypeId) (fr : Nat × Nat) (C : Array Value) : Reads (w.alloc (.cells C e fr)) (w.heap.size + 1) 1 (some ⟨w.heap.size, 0, none⟩) C.size C.toList := by
  refine ⟨by simp, fun _ => ⟨_, rfl, by simp, fun j u hu => ?_⟩⟩
  have ha : (⟨w.heap.size, 0, none⟩ : Addr).add j = ⟨w.heap.size, j, none⟩ := by unfold Addr.add; split <;> simp_all
  rw [ha, World.cell?_alloc_mark]
  simpa using hu

/-- A slice that reads as these bytes, said of a value that a region yields. -/
def RB (l : List UInt8) (v : Value) (w : World) : Prop := ∃ A c, v = .slice A l.length c ∧ Reads w w.heap.size 1 A l.length (bys l)
theorem RB.stays (l : List UInt8) : Stays (RB l) := by rintro v w w' ⟨A, c, rfl, hr⟩ he; exact ⟨A, c, rfl, (hr.below he).more he.size⟩
theorem RB.str {l : List UInt8} {v : Value} {w : World} (h : RB l v w) : (convert 34 9 v).run Tryz.prog w = .ok (.string ⟨l.toArray⟩) w := by
  obtain ⟨A, c, rfl, hr⟩ := h
  exact run_str w 34 9 5 Tryz.underlying34 Tryz.underlying5 Tryz.underlying9 hr c
theorem D.ext {W w w' : World} {p : Nat} {l : List UInt8} {s : Nat} (h : D W w p l s) (he : Ext w w') : D W w' p l s := h.mod he
theorem d_bytes_rel {W w w' : World} {p : Nat} {l : List UInt8} {s : Nat} (h : D W w p l s) (he : Ext w w') :
    Calls Tryz.prog 47 #[.pointer (some ⟨p, 0, none⟩)] w' fun e w'' => ∃ v, e = .returned v ∧ RB l v w'' ∧ Ext w' w'' := by
  refine (d_bytes (h.ext he)).mono ?_
  rintro e w6 ⟨A, c, rfl, ho, _, hb⟩
  exact ⟨_, rfl, ⟨A, c, rfl, Reads.of_own ho⟩, hb⟩
/-- A number brought into lo .. hi. -/
def within (n lo hi : Int) : Int := lo + n % (hi - lo + 1)

theorem wrap_small (a : Int) (h : -9223372036854775808 ≤ a ∧ a ≤ 9223372036854775807) : wrap64 a = a := by unfold wrap64; omega

theorem within_rem (n d : Int) (hd : 1 ≤ d) : (n.tmod d < 0 → n % d = n.tmod d + d) ∧ (0 ≤ n.tmod d → n % d = n.tmod d) ∧ -d < n.tmod d ∧ n.tmod d < d := by
  have h1 : n.tmod d = n % d ∨ n.tmod d = n % d - d := by
    have := @Int.tmod_eq_emod n d
    split at this <;> omega
  have h4 : -d < n.tmod d := by
    have := @Int.tmod_eq_emod n d
    split at this
    · have := Int.emod_nonneg n (show d ≠ 0 by omega); omega
    · rename_i hn
      have h5 : n % d ≠ 0 := fun e => hn (.inr (Int.dvd_of_emod_eq_zero e))
      have := Int.emod_nonneg n (show d ≠ 0 by omega); omega
  have h2 := Int.emod_nonneg n (show d ≠ 0 by omega)
  have h3 := Int.emod_lt_of_pos n (show 0 < d by omega)
  omega

set_option maxRecDepth 100000 in
theorem within_calls (w : World) (n lo hi : Int) (hlo : 0 ≤ lo) (h : lo ≤ hi) (hh : hi ≤ 1000000000) :
    Calls Tryz.prog 4 #[.int .i64 n, .int .i64 lo, .int .i64 hi] w fun e w' => e = .returned (.int .i64 (within n lo hi)) ∧ w = w' := by
  have hd : 1 ≤ hi - lo + 1 := by omega
  have hr := within_rem n (hi - lo + 1) hd
  obtain ⟨r1, r2, h1, h2⟩ := hr
  go_enter Tryz.func4, Tryz.ntmps4
  go_wp2
  all_goals go_ret
  · exact ⟨by show Ending.returned (.int .i64 _) = Ending.returned (.int .i64 _); unfold within; rw [r1 (by assumption)]; congr 2; omega, rfl⟩
  · exact ⟨by show Ending.returned (.int .i64 _) = Ending.returned (.int .i64 _); unfold within; rw [r2 (by assumption)], rfl⟩

/-- A slice of bytes that came in. -/
structure BArg (W : World) (A : Option Addr) (n c : Nat) (l : List UInt8) : Prop where
  reads : Reads W W.heap.size 1 A n (bys l)
  le : n ≤ c
  max : c ≤ maxLen
  none : A = .none → n = 0 ∧ c = 0

theorem BArg.take {W : World} {A : Option Addr} {n c : Nat} {l : List UInt8} (h : BArg W A n c l) {m : Nat} (hm : m ≤ n) : BArg W A m c (l.take m) := by
  have hl := h.reads.len
  refine ⟨⟨by simp [bys_len]; omega, fun h0 => ?_⟩, by have := h.le; omega, h.max, fun h0 => by have := h.none h0; omega⟩
  obtain ⟨ad, h1, h2, h3⟩ := h.reads.2 (by omega)
  refine ⟨ad, h1, h2, fun j u hu => h3 j u ?_⟩
  rw [← bys_take, List.getElem?_take] at hu
  split at hu
  · exact hu
  · cases hu

/-- A slice of slices of bytes that came in. -/
def RArg (W : World) (A : Option Addr) (n : Nat) (X : Nat → List UInt8) : Prop :=
  n ≤ maxLen ∧ ∀ i, i < n → ∃ ad Ai ci, A = some ad ∧ ad.block < W.heap.size ∧ W.cell? (ad.add i) = some (.slice Ai (X i).length ci) ∧ BArg W Ai (X i).length ci (X i)

/-- A slice of numbers that came in. -/
def IArg (W : World) (A : Option Addr) (n : Nat) (Z : Nat → Int) : Prop :=
  n ≤ maxLen ∧ ∀ i, i < n → ∃ ad, A = some ad ∧ ad.block < W.heap.size ∧ W.cell? (ad.add i) = some (.int .i64 (Z i))

end Go.Proofs.YtiglblfjmmdeeaaGreat
