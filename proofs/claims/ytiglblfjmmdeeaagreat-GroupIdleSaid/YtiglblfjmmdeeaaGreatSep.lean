/- Several objects of the call's own, each with its blocks: a step on one leaves the others as they are. -/
import Derived.Test.YtiglblfjmmdeeaaGreatDisk2
namespace Go.Proofs.YtiglblfjmmdeeaaGreat
open Go.RowKit

def Keep (F : List Nat) (w w' : World) : Prop := ∀ k, k ∈ F → w'.heap[k]? = w.heap[k]?
theorem Keep.refl (F : List Nat) (w : World) : Keep F w w := fun _ _ => rfl
theorem Keep.trans {F : List Nat} {a b c : World} (h : Keep F a b) (k : Keep F b c) : Keep F a c := fun i hi => (k i hi).trans (h i hi)
theorem Keep.drew {F : List Nat} {a b : World} (h : Keep F a b) : Keep F a b.drew := h

/-- Objects made since W, apart from one another; what was there in W is as it was. -/
structure Sep (W w : World) (Fs : List (List Nat)) : Prop where
  below : Below W.heap.size W w
  ge : ∀ F ∈ Fs, ∀ k ∈ F, W.heap.size ≤ k
  lt : ∀ F ∈ Fs, ∀ k ∈ F, k < w.heap.size
  disj : Fs.Pairwise fun F G => ∀ k ∈ F, k ∉ G

section
variable {W w w' : World} {F F' G : List Nat} {Fs Gs : List (List Nat)}

theorem Sep.start (W : World) : Sep W W [] := ⟨Below.refl _ _, by simp, by simp, .nil⟩

/-- A step that changes the blocks F alone, and leaves F' in their place. -/
theorem Sep.step (h : Sep W w (F :: Fs)) (m : Mod F w w') (hF : ∀ k ∈ F', (k ∈ F ∨ w.heap.size ≤ k) ∧ k < w'.heap.size) : Sep W w' (F' :: Fs) ∧ ∀ G ∈ Fs, Keep G w w' := by
  have hd := List.pairwise_cons.1 h.disj
  have hk : ∀ G ∈ Fs, Keep G w w' := fun G hG k hk => m.block k (h.lt G (List.mem_cons_of_mem _ hG) k hk) (fun hkF => hd.1 G hG k hkF hk)
  refine ⟨⟨h.below.trans (m.below h.below.size (h.ge F (by simp))), ?_, ?_, ?_⟩, hk⟩
  · intro G hG k hk
    rcases List.mem_cons.1 hG with rfl | hG
    · rcases (hF k hk).1 with h1 | h1
      · exact h.ge F (by simp) k h1
      · exact Nat.le_trans h.below.size h1
    · exact h.ge G (List.mem_cons_of_mem _ hG) k hk
  · intro G hG k hk
    rcases List.mem_cons.1 hG with rfl | hG
    · exact (hF k hk).2
    · exact Nat.lt_of_lt_of_le (h.lt G (List.mem_cons_of_mem _ hG) k hk) m.size
  · refine List.pairwise_cons.2 ⟨fun G hG k hk hkG => ?_, hd.2⟩
    rcases (hF k hk).1 with h1 | h1
    · exact hd.1 G hG k h1 hkG
    · have := h.lt G (List.mem_cons_of_mem _ hG) k hkG; omega

theorem Sep.perm (h : Sep W w Fs) (p : Fs.Perm Gs) : Sep W w Gs :=
  ⟨h.below, fun F hF => h.ge F (p.mem_iff.2 hF), fun F hF => h.lt F (p.mem_iff.2 hF), (p.pairwise_iff (fun {F G} hFG k hk hk' => hFG k hk' hk)).1 h.disj⟩
theorem Sep.swap (h : Sep W w (F :: G :: Fs)) : Sep W w (G :: F :: Fs) := h.perm (.swap _ _ _)
theorem Sep.rot (h : Sep W w (F :: Fs)) : Sep W w (Fs ++ [F]) := h.perm (List.perm_append_singleton _ _).symm
theorem Sep.nil (h : Sep W w Fs) : Sep W w ([] :: Fs) :=
  ⟨h.below, fun F hF k hk => by rcases List.mem_cons.1 hF with rfl | hF; · simp at hk
                                · exact h.ge F hF k hk, fun F hF k hk => by rcases List.mem_cons.1 hF with rfl | hF; · simp at hk
                                                                            · exact h.lt F hF k hk, List.pairwise_cons.2 ⟨by simp, h.disj⟩⟩
theorem Sep.drop (h : Sep W w (F :: Fs)) : Sep W w Fs :=
  ⟨h.below, fun G hG => h.ge G (List.mem_cons_of_mem _ hG), fun G hG => h.lt G (List.mem_cons_of_mem _ hG), (List.pairwise_cons.1 h.disj).2⟩
/-- Nothing that was there has turned. -/
theorem Sep.ext (h : Sep W w Fs) (e : Ext w w') : Sep W w' Fs :=
  ⟨h.below.trans (Below.mono e h.below.size), h.ge, fun F hF k hk => Nat.lt_of_lt_of_le (h.lt F hF k hk) e.size, h.disj⟩
theorem Sep.keep (h : Sep W w Fs) (e : Ext w w') : ∀ G ∈ Fs, Keep G w w' := fun G hG k hk => e.block k (h.lt G hG k hk)
/-- A new object. -/
theorem Sep.new (h : Sep W w Fs) (e : Ext w w') (hF : ∀ k ∈ F, w.heap.size ≤ k ∧ k < w'.heap.size) : Sep W w' (F :: Fs) :=
  ((h.nil).step (F' := F) (Mod.of_below e []) (fun k hk => ⟨.inr (hF k hk).1, (hF k hk).2⟩)).1
/-- Two objects taken as one; one taken as two. -/
theorem Sep.join (h : Sep W w (F :: G :: Fs)) : Sep W w ((F ++ G) :: Fs) := by
  have h1 := List.pairwise_cons.1 h.disj
  have h2 := List.pairwise_cons.1 h1.2
  refine ⟨h.below, ?_, ?_, List.pairwise_cons.2 ⟨?_, h2.2⟩⟩
  · intro H hH k hk
    rcases List.mem_cons.1 hH with rfl | hH
    · rcases List.mem_append.1 hk with hk | hk
      · exact h.ge F (by simp) k hk
      · exact h.ge G (by simp) k hk
    · exact h.ge H (by simp [hH]) k hk
  · intro H hH k hk
    rcases List.mem_cons.1 hH with rfl | hH
    · rcases List.mem_append.1 hk with hk | hk
      · exact h.lt F (by simp) k hk
      · exact h.lt G (by simp) k hk
    · exact h.lt H (by simp [hH]) k hk
  · intro H hH k hk
    rcases List.mem_append.1 hk with hk | hk
    · exact h1.1 H (by simp [hH]) k hk
    · exact h2.1 H hH k hk
theorem Sep.split (h : Sep W w ((F ++ G) :: Fs)) (hd : ∀ k ∈ F, k ∉ G) : Sep W w (F :: G :: Fs) := by
  have h1 := List.pairwise_cons.1 h.disj
  refine ⟨h.below, ?_, ?_, List.pairwise_cons.2 ⟨?_, List.pairwise_cons.2 ⟨fun H hH k hk => h1.1 H hH k (List.mem_append_right _ hk), h1.2⟩⟩⟩
  · intro H hH k hk
    rcases List.mem_cons.1 hH with rfl | hH
    · exact h.ge _ (List.mem_cons_self ..) k (List.mem_append_left _ hk)
    · rcases List.mem_cons.1 hH with rfl | hH
      · exact h.ge _ (List.mem_cons_self ..) k (List.mem_append_right _ hk)
      · exact h.ge H (by simp [hH]) k hk
  · intro H hH k hk
    rcases List.mem_cons.1 hH with rfl | hH
    · exact h.lt _ (List.mem_cons_self ..) k (List.mem_append_left _ hk)
    · rcases List.mem_cons.1 hH with rfl | hH
      · exact h.lt _ (List.mem_cons_self ..) k (List.mem_append_right _ hk)
      · exact h.lt H (by simp [hH]) k hk
  · intro H hH k hk
    rcases List.mem_cons.1 hH with rfl | hH
    · exact hd k hk
    · exact h1.1 H hH k (List.mem_append_left _ hk)
end

/-! ### The disk, with its blocks -/
def IsD (w : World) (F : List Nat) (p : Nat) (l : List UInt8) (s : Nat) : Prop := ∃ v, IsDisk w p v l s ∧ F = foot p v

section
variable {W w w' : World} {F : List Nat} {Fs : List (List Nat)} {p : Nat} {l : List UInt8} {s : Nat}
theorem own_keep {base : Nat} {e : TypeId} {size n : Nat} {v : Value} {xs : List Value} (h : w.ownsRow base e size v n xs) (hk : Keep v.ownBlock.toList w w') : w'.ownsRow base e size v n xs := by
  refine ⟨h.1, ?_⟩
  rcases h.2 with h2 | ⟨g, cap, cur, hv, hb, hh, r⟩
  · exact .inl h2
  · exact .inr ⟨g, cap, cur, hv, hb, (hk g (by rw [hv]; simp [Value.ownBlock])).trans hh, r⟩
theorem Blk.keep {g : Nat} {t : TypeId} {cs : Array Value} (h : Blk w g t cs) (hk : w'.heap[g]? = w.heap[g]?) : Blk w' g t cs := hk.trans h
theorem IsD.keep (h : IsD w F p l s) (hk : Keep F w w') : IsD w' F p l s := by
  obtain ⟨v, h, rfl⟩ := h
  exact ⟨v, ⟨h.1.keep (hk p (by simp [foot])), own_keep h.2.1 (fun k hk' => hk k (by simp only [foot, List.mem_cons]; exact .inr hk')), h.2.2⟩, rfl⟩
theorem IsD.lt (h : IsD w F p l s) : ∀ k ∈ F, k < w.heap.size := by
  obtain ⟨v, h, rfl⟩ := h
  intro k hk
  simp only [foot, List.mem_cons, Option.mem_toList] at hk
  rcases hk with rfl | hk
  · exact h.1.lt
  · exact own_lt h.2.1 hk
theorem IsD.ext (h : IsD w F p l s) (e : Ext w w') : IsD w' F p l s := h.keep fun k hk => e.block k (h.lt k hk)
theorem IsD.len (h : IsD w F p l s) : l.length ≤ 4194304 := by obtain ⟨v, h, _⟩ := h; exact h.2.2.2
theorem IsD.safe (h : IsD w F p l s) : s ≤ l.length := by obtain ⟨v, h, _⟩ := h; exact h.2.2.1

/-- What the blocks F' of an object are behind a step that changed F alone. -/
def Next (F F' : List Nat) (w w' : World) : Prop := Mod F w w' ∧ ∀ k ∈ F', (k ∈ F ∨ w.heap.size ≤ k) ∧ k < w'.heap.size
theorem Sep.next {F' : List Nat} (h : Sep W w (F :: Fs)) (n : Next F F' w w') : Sep W w' (F' :: Fs) ∧ ∀ G ∈ Fs, Keep G w w' := h.step n.1 n.2

theorem sd_new (w : World) : Calls Tryz.prog 28 #[] w fun e w' => ∃ p, e = .returned (.pointer (some ⟨p, 0, none⟩)) ∧ w.heap.size = p ∧ IsD w' [p] p [] 0 ∧ Ext w w' := by
  refine (new_calls w).mono ?_
  rintro e w' ⟨p, rfl, hp, hd, hb'⟩
  exact ⟨p, rfl, hp, ⟨_, hd, rfl⟩, hb'⟩


theorem sd_sync (h : IsD w F p l s) : Calls Tryz.prog 159 #[.pointer (some ⟨p, 0, none⟩)] w fun e w' => e = .returned (.tuple #[]) ∧ IsD w' F p l l.length ∧ Next F F w w' := by
  have hlt := h.lt
  obtain ⟨v, h, rfl⟩ := h
  refine (sync_calls w p v l s h).mono ?_
  rintro e w' ⟨rfl, hd, hm⟩
  have hm' : Mod (foot p v) w w' := hm.sub fun k hk _ => by simp only [foot]; simp at hk; subst hk; simp
  exact ⟨rfl, ⟨v, hd, rfl⟩, hm', fun k hk => ⟨.inl hk, Nat.lt_of_lt_of_le (hlt k hk) hm.size⟩⟩

theorem sd_bytes (h : IsD w F p l s) : Calls Tryz.prog 47 #[.pointer (some ⟨p, 0, none⟩)] w fun e w' => ∃ A c, e = .returned (.slice A l.length c) ∧
    w'.ownsRow w.heap.size 5 1 (.slice A l.length c) l.length (bys l) ∧ Ext w w' := by
  obtain ⟨v, h, rfl⟩ := h
  exact bytes_calls w p v l s h

theorem sd_append {A : Option Addr} {n c : Nat} {xs : List UInt8} {B : Nat} (h : IsD w F p l s) (hr : Reads w B 1 A n (bys xs)) (hn : n + l.length ≤ 4194304) :
    Calls Tryz.prog 158 #[.pointer (some ⟨p, 0, none⟩), .slice A n c] w fun e w' => e = .returned (.int .i64 0) ∧ ∃ F', IsD w' F' p (l ++ xs) s ∧ Next F F' w w' := by
  have hlt := h.lt
  obtain ⟨v, h, rfl⟩ := h
  refine (append_calls w p v l s h A n c xs B hr hn).mono ?_
  rintro e w' ⟨rfl, v', hd, hm, hv⟩
  refine ⟨rfl, foot p v', ⟨v', hd, rfl⟩, hm, fun k hk => ⟨?_, IsD.lt ⟨v', hd, rfl⟩ k hk⟩⟩
  simp only [foot, List.mem_cons, Option.mem_toList] at hk ⊢
  rcases hk with rfl | hk
  · exact .inl (.inl rfl)
  · rcases hv with hv | hv
    · exact .inl (.inr (hv ▸ hk))
    · rw [hv] at hk; injection hk with hk; exact .inr (by omega)

theorem sd_append_full {A : Option Addr} {n c : Nat} (h : IsD w F p l s) (hn : 4194304 < n + l.length) :
    Calls Tryz.prog 158 #[.pointer (some ⟨p, 0, none⟩), .slice A n c] w fun e w' => e = .returned (.int .i64 13) ∧ w = w' := by
  obtain ⟨v, h, _⟩ := h
  exact append_full w p v l s h A n c hn

theorem sd_crash (h : IsD w F p l s) (k : Int) :
    Calls Tryz.prog 37 #[.pointer (some ⟨p, 0, none⟩), .int .i64 k] w fun e w' => e = .returned (.tuple #[]) ∧ IsD w' F p (l.take (s + k.toNat)) (l.take (s + k.toNat)).length ∧ Next F F w w' := by
  have hlt := h.lt
  obtain ⟨v, h, rfl⟩ := h
  refine (crash_calls w p v l s h k).mono ?_
  rintro e w' ⟨rfl, v', hd, hm, hv⟩
  rw [← List.length_take] at hd
  have hm' : Mod (foot p v) w w' := hm.sub fun k hk _ => by simp only [foot]; simp at hk; subst hk; simp
  exact ⟨rfl, ⟨v', hd, by unfold foot; rw [hv]⟩, hm', fun k hk => ⟨.inl hk, Nat.lt_of_lt_of_le (hlt k hk) hm.size⟩⟩

theorem sd_swap {A : Option Addr} {n c : Nat} {xs : List UInt8} {B : Nat} (h : IsD w F p l s) (hr : Reads w B 1 A n (bys xs)) (hB : B ≤ w.heap.size) (hA : A = none → n = 0 ∧ c = 0) (hn : n ≤ 4194304) :
    Calls Tryz.prog 97 #[.pointer (some ⟨p, 0, none⟩), .slice A n c] w fun e w' => e = .returned (.int .i64 0) ∧ ∃ F', IsD w' F' p xs xs.length ∧ Next F F' w w' := by
  have hlt := h.lt
  obtain ⟨v, h, rfl⟩ := h
  refine (swap_calls w p v l s h A n c xs B hr hB hA hn).mono ?_
  rintro e w' ⟨rfl, v', hd, hm, hv⟩
  refine ⟨rfl, foot p v', ⟨v', hd, rfl⟩, hm.sub fun k hk _ => by simp only [foot]; simp at hk; subst hk; simp, fun k hk => ⟨?_, IsD.lt ⟨v', hd, rfl⟩ k hk⟩⟩
  simp only [foot, List.mem_cons, Option.mem_toList] at hk ⊢
  rcases hk with rfl | hk
  · exact .inl (.inl rfl)
  · exact .inr (hv k hk)

theorem sd_bytes_rel (h : IsD w F p l s) (he : Ext w w') :
    Calls Tryz.prog 47 #[.pointer (some ⟨p, 0, none⟩)] w' fun e w'' => ∃ v, e = .returned v ∧ RB l v w'' ∧ Ext w' w'' := by
  refine (sd_bytes (h.ext he)).mono ?_
  rintro e w6 ⟨A, c, rfl, ho, hb⟩
  exact ⟨_, rfl, ⟨A, c, rfl, Reads.of_own ho⟩, hb⟩
end

/-- 'b[k:]' of bytes that came in. -/
theorem barg_from {W : World} {A : Option Addr} {n c : Nat} {l : List UInt8} (h : BArg W A n c l) {k : Nat} (hk : k ≤ n) :
    ∃ A2, (∀ w, (Instr.slice 34 (.slice A n c) (some (.int .i64 (k : Int))) none none).run Tryz.prog w = .ok (.slice A2 (n - k) (c - k)) w) ∧ BArg W A2 (n - k) (c - k) (l.drop k) := by
  refine ⟨if c = k then A else A.map (·.add k), fun w => ?_, ?_⟩
  · obtain ⟨i0, hi0, hz0, hz1, hz2⟩ := info_parts byte_info
    have he : Tryz.prog.elem 34 = 5 := by kernel_rfl
    rw [run_slice_l w 34 A n c (by rw [he]; exact Tryz.underlying34) .i64 (k : Int) (by omega) (by omega), he]
    simp [sizeOf, typeInfo, hi0, hz1, sliced]
  · have hl := h.reads.len
    have hle := h.le
    have hr := h.reads.cut (k := k) hk hle
    simp only [Nat.mul_one] at hr
    rw [bys_drop] at hr
    refine ⟨hr, by omega, by have := h.max; omega, fun hA => ?_⟩
    split at hA
    · omega
    · have : A = none := by simpa using hA
      have := h.none this
      omega

/-- append onto a row without room: nothing that was there is written. -/
theorem run_append_fresh {P : Program} (w : World) (base : Nat) (t ty e : TypeId) (i : TypeInfo) (z : Value) (size bytes : Nat) (ht : P.underlying t = some (.slice e)) (hi : P.info? e = some i) (hz : i.zero = some z)
    (hsize : i.size = size) (hby : i.bytes = bytes) (hzs : z.cells.size = size) (hsz : 0 < size)
    (g : Nat) (hown : w.ownsRow base e size (.slice (some ⟨g, 0, none⟩) 0 0) 0 [])
    (B : Nat) (A : Option Addr) (m c : Nat) (news : List Value) (hr : Reads w B size A m news) (h1 : ∀ u ∈ news, u.oneCell' = true)
    (h63 : m ≤ 1000000000) (hb2 : bytes ≤ 1000) (hbase : base ≤ w.heap.size) :
    ∃ v' w', (Builtin.append_ #[t, t] ty #[.slice (some ⟨g, 0, none⟩) 0 0, .slice A m c]).run P w = .ok v' w' ∧ w'.ownsRow base e size v' m news ∧ Ext w w' := by
  have hmb : m * bytes ≤ 1000000000 * 1000 := Nat.mul_le_mul h63 hb2
  obtain ⟨v', w', hrun, h2, h3, h4⟩ := run_append_any (P := P) w base t ty e i z size bytes ht hi hz hsize hby hzs hsz _ 0 [] hown B A m c news hr h1 (by simp only [maxLen]; omega) (by rw [Nat.zero_add]; omega) hbase
  refine ⟨v', w', hrun, by simpa using h2, ?_⟩
  rcases Nat.eq_zero_or_pos m with rfl | hm
  · have e : (Builtin.append_ #[t, t] ty #[.slice (some ⟨g, 0, none⟩) 0 0, .slice A 0 c]).run P w = .ok (.slice (some ⟨g, 0, none⟩) 0 0) w := by
      cases A <;> simp [Builtin.append_, run_underlying ht, sizeOf, typeInfo, hi, Builtin.lenOf, Builtin.firstCells, storeCells, loadCells, loadCellsFrom]
    rw [e] at hrun
    injection hrun with _ hw
    subst hw
    exact Ext.refl _
  · obtain ⟨ad, rfl, _, hc⟩ := hr.2 hm
    subst hsize hby
    rw [run_append_grow (P := P) w t ty e i z ht hi hz ⟨g, 0, none⟩ 0 0 [] (by simp) (by simp) ad m c news hr.1 hc (by omega) (by omega) (growslice_fits (by omega) (by rw [Nat.zero_add]; omega))] at hrun
    injection hrun with _ hw
    subst hw
    exact ⟨rfl, rfl, rfl, by simp, fun k hk => Below.heap_alloc w.drew _ k hk⟩

/-- A slice of so many elements that owns its row from block b on. -/
def OwnB (b n : Nat) (l : List UInt8) (v : Value) (w : World) : Prop := ∃ A c, v = .slice A n c ∧ w.ownsRow b 5 1 (.slice A n c) n (bys l)
theorem OwnB.stays (b n : Nat) (l : List UInt8) : Stays (OwnB b n l) := by
  rintro v w w' ⟨A, c, rfl, ho⟩ he
  exact ⟨A, c, rfl, own_mod ho (Mod.of_below he []) (by simp)⟩
/-- A row of the region's own, without elements. -/
def Own0 (b : Nat) (v : Value) (w : World) : Prop := ∃ g, v = .slice (some ⟨g, 0, none⟩) 0 0 ∧ w.ownsRow b 5 1 (.slice (some ⟨g, 0, none⟩) 0 0) 0 []
theorem Own0.stays (b : Nat) : Stays (Own0 b) := by
  rintro v w w' ⟨g, rfl, ho⟩ he
  exact ⟨g, rfl, own_mod ho (Mod.of_below he []) (by simp)⟩
theorem own0_new (w : World) {b : Nat} (hb : b ≤ w.heap.size) : Own0 b (.slice (some ⟨w.heap.size, 0, none⟩) 0 0) (w.alloc (.cells #[] 5)) := ⟨_, rfl, World.ownsRow_lit _ #[] 0 hb (by simp) rfl⟩
theorem append_rel {w : World} {b : Nat} {v : Value} (h : Own0 b v w) (hb : b ≤ w.heap.size) {B : Nat} {A : Option Addr} {m c : Nat} {l : List UInt8} (hr : Reads w B 1 A m (bys l)) (h63 : m ≤ 1000000000) (ty : TypeId) :
    ∃ v' w', (Builtin.append_ #[34, 34] ty #[v, .slice A m c]).run Tryz.prog w = .ok v' w' ∧ OwnB b m l v' w' ∧ Ext w w' := by
  obtain ⟨i0, hi0, hz0, hz1, hz2⟩ := info_parts byte_info
  obtain ⟨g, rfl, ho⟩ := h
  obtain ⟨v', w', h1, h2, h3⟩ := run_append_fresh (P := Tryz.prog) w b 34 ty 5 i0 _ 1 1 Tryz.underlying34 hi0 hz0 hz1 hz2 rfl (by omega) g ho B A m c (bys l) hr (bys_one _) h63 (by omega) hb
  obtain ⟨A', c', rfl, _⟩ := own_slice h2
  exact ⟨_, w', h1, ⟨A', c', rfl, h2⟩, h3⟩

theorem run_exec_append {P : Program} {o : Oper} {a : Act} {t : TypeId} {s x : Operand} {v u v' : Value} {w w' : World} (ho : o.op = .call { callee := .builtin .append, args := #[s, x], argTypes := #[t, t] })
    (hs : a.eval s = v) (hx : a.eval x = u) (hrun : (Builtin.append_ #[t, t] o.type #[v, u]).run P w = .ok v' w') : (execOp a.eval o).run P w = .ok (.value v') w' := by
  unfold execOp
  simp only [ho, resolve, invoke, builtin, Sem.run_bind, Sem.run_pure, Result.andThen_ok, List.map_toArray, List.map_cons, List.map_nil, hs, hx, hrun]

end Go.Proofs.YtiglblfjmmdeeaaGreat
