/- The document's disk: what each of its calls does; lists with room behind them. -/
import Derived.Test.YtfclighheoobaaaSep
import Derived.Deep.DeepCutAuto
namespace Go.Proofs.Ytfclighheoobaaa
open Go.RowKit

attribute [local go_sem] Oper.pureUpon Oper.relUpon

/-- The document's disk behind the pointer p. -/
def IsRef (w : World) (p : Nat) (v : Value) (l : List UInt8) (s : Nat) : Prop :=
  Blk w p 40 #[v, .int .i64 (s : Int)] ∧ w.ownsRow 0 5 1 v l.length (bys l) ∧ s ≤ l.length ∧ l.length ≤ 4194304
def IsR (w : World) (F : List Nat) (p : Nat) (l : List UInt8) (s : Nat) : Prop := ∃ v, IsRef w p v l s ∧ F = foot p v

section
variable {W w w' : World} {F : List Nat} {Fs : List (List Nat)} {p : Nat} {l : List UInt8} {s : Nat}
theorem IsR.keep (h : IsR w F p l s) (hk : Keep F w w') : IsR w' F p l s := by
  obtain ⟨v, h, rfl⟩ := h
  exact ⟨v, ⟨h.1.keep (hk p (by simp [foot])), own_keep h.2.1 (fun k hk' => hk k (by simp only [foot, List.mem_cons]; exact .inr hk')), h.2.2⟩, rfl⟩
theorem IsR.lt (h : IsR w F p l s) : ∀ k ∈ F, k < w.heap.size := by
  obtain ⟨v, h, rfl⟩ := h
  intro k hk
  simp only [foot, List.mem_cons, Option.mem_toList] at hk
  rcases hk with rfl | hk
  · exact h.1.lt
  · exact own_lt h.2.1 hk
theorem IsR.ext (h : IsR w F p l s) (e : Ext w w') : IsR w' F p l s := h.keep fun k hk => e.block k (h.lt k hk)
theorem rown_ne {v : Value} (h : IsRef w p v l s) : v.ownBlock ≠ some p := own_blk_ne h.2.1 h.1 (by decide)

set_option maxRecDepth 100000 in
theorem r_append_full (h : IsR w F p l s) (A : Option Addr) (n c : Nat) (hn : 4194304 < n + l.length) :
    Calls Try.prog 27 #[.pointer (some ⟨p, 0, none⟩), .slice A n c] w fun e w' => e = .returned (.int .i64 13) ∧ w = w' := by
  obtain ⟨v, h, rfl⟩ := h
  have c0 := h.1.cell 0
  simp at c0
  have hl := h.2.2.2
  obtain ⟨A', c', rfl, _⟩ := own_slice h.2.1
  go_enter Try.func27, Try.ntmps27
  go_wp2
  go_ret
  exact ⟨rfl, rfl⟩

/-- A new slice in the field, and a new safe count. -/
theorem ref_put {w1 : World} {v v' : Value} {l' : List UInt8} (h : IsRef w p v l s) (he : Ext w w1) {base : Nat} (hb : w.heap.size ≤ base) (ho : w1.ownsRow base 5 1 v' l'.length (bys l')) (hs : s ≤ l'.length) (hl : l'.length ≤ 4194304) :
    IsRef (w1.setCell ⟨p, 0, none⟩ v') p v' l' s ∧ Next (foot p v) (foot p v') w (w1.setCell ⟨p, 0, none⟩ v') := by
  have hb1 := h.1.below he h.1.lt
  have hne : ∀ k, v'.ownBlock = some k → w.heap.size ≤ k := fun k hk => Nat.le_trans hb (ho.lt k hk).1
  have hm : Mod [p] w1 (w1.setCell ⟨p, 0, none⟩ v') := (Mod.refl [p] w1).setCell (by simp) _
  have hr : IsRef (w1.setCell ⟨p, 0, none⟩ v') p v' l' s := by
    refine ⟨by simpa using hb1.set_ 0 v', own_mod (own_base ho) hm (fun k hk e => ?_), hs, hl⟩
    simp at e
    have := hne k hk
    have := h.1.lt
    omega
  refine ⟨hr, ((Mod.of_below he [p]).trans' hm).sub (fun k hk _ => by simp at hk; subst hk; simp [foot]), fun k hk => ⟨?_, IsR.lt ⟨v', hr, rfl⟩ k hk⟩⟩
  simp only [foot, List.mem_cons, Option.mem_toList] at hk ⊢
  rcases hk with rfl | hk
  · exact .inl (.inl rfl)
  · exact .inr (hne k hk)

set_option maxRecDepth 100000 in
theorem r_append (h : IsR w F p l s) {A : Option Addr} {n c : Nat} {xs : List UInt8} {B : Nat} (hr : Reads w B 1 A n (bys xs)) (hB : B ≤ w.heap.size) (hn : n + l.length ≤ 4194304) :
    Calls Try.prog 27 #[.pointer (some ⟨p, 0, none⟩), .slice A n c] w fun e w' => e = .returned (.int .i64 0) ∧ ∃ F', IsR w' F' p (l ++ xs) s ∧ Next F F' w w' := by
  obtain ⟨v, h, rfl⟩ := h
  have c0 := h.1.cell 0
  simp at c0
  have hl := h.2.2.2
  have ho := h.2.1
  have hlt := h.1.lt
  obtain ⟨i0, hi0, hz0, hz1, hz2⟩ := info_parts byte_info
  obtain ⟨A', c', rfl, _⟩ := own_slice ho
  have hr0 : Reads (w.alloc (.cells #[] 5)) w.heap.size 1 A' l.length (bys l) := (reads_own ho).alloc (Nat.le_refl _) _
  have hown : (w.alloc (.cells #[] 5)).ownsRow w.heap.size 5 1 (.slice (some ⟨w.heap.size, 0, none⟩) 0 0) 0 [] := World.ownsRow_lit _ #[] 0 (Nat.le_refl _) (by simp) rfl
  go_enter Try.func27, Try.ntmps27
  go_wp2_with (first
    | (at_builtin; refine wpList_app _ rfl (.tmp 15) (.tmp 19) _ rfl 5 i0 _ 1 1 Try.underlying26 hi0 hz0 hz1 hz2 rfl (by omega) (.slice (some ⟨w.heap.size, 0, none⟩) 0 0) 0 [] w.heap.size rfl hown w.heap.size A' l.length c' (bys l) rfl hr0 (bys_one _) (by omega) (by simp) ?_; intro A1 c1 w1 hown1 hg1 hat1; rw [Nat.zero_add] at hown1 hat1; rw [Nat.zero_add]; simp only [List.nil_append] at hown1; have he1 : Ext w w1 := ((Below.refl _ _).alloc (Nat.le_refl _) _).grown hg1 (by simp) (fun k hk => by simp only [Value.ownBlock, Option.some.injEq] at hk; omega))
    | (at_builtin; refine wpList_app _ rfl (.tmp 20) (.tmp 21) _ rfl 5 i0 _ 1 1 Try.underlying26 hi0 hz0 hz1 hz2 rfl (by omega) (.slice A1 l.length c1) l.length (bys l) w.heap.size rfl hown1 B A n c (bys xs) rfl (hr.below (he1.mono hB)) (bys_one _) (by omega) he1.size ?_; intro A2 c2 w2 hown2 hg2 hat2; have he2 : Ext w w2 := he1.grown hg2 he1.size (fun k hk => (hown1.lt k hk).1); have c0' : w2.cell? ⟨p, 0, none⟩ = some (.slice A' l.length c') := (he2.cell (p := ⟨p, 0, none⟩) hlt).trans c0; have f0' : w2.frozen? ⟨p, 0, none⟩ = false := (he2.frozen (p := ⟨p, 0, none⟩) hlt).trans (h.1.frozen 0)))
  go_ret
  have e2 : l.length + n = (l ++ xs).length := by rw [List.length_append, hr.len]
  have e1 : bys l ++ bys xs = bys (l ++ xs) := (bys_append _ _).symm
  rw [e1] at hown2
  obtain ⟨r1, r2⟩ := ref_put h he2 (Nat.le_refl _) (e2 ▸ hown2) (by rw [← e2]; have := h.2.2.1; omega) (by omega)
  rw [← e2] at r1 r2
  exact ⟨rfl, _, ⟨_, r1, rfl⟩, r2⟩

set_option maxRecDepth 100000 in
theorem r_sync (h : IsR w F p l s) : Calls Try.prog 28 #[.pointer (some ⟨p, 0, none⟩)] w fun e w' => e = .returned (.tuple #[]) ∧ IsR w' F p l l.length ∧ Next F F w w' := by
  have hlt := h.lt
  obtain ⟨v, h, rfl⟩ := h
  have c0 := h.1.cell 0
  have c1 := h.1.cell 1
  have f1 := h.1.frozen 1
  simp at c0 c1
  obtain ⟨A, c, rfl, _⟩ := own_slice h.2.1
  go_enter Try.func28, Try.ntmps28
  go_wp2
  go_end0
  have hm : Mod [p] w (w.setCell ⟨p, 1, none⟩ (.int .i64 (l.length : Int))) := (Mod.refl _ _).setCell (by simp) _
  refine ⟨rfl, ⟨_, ⟨by simpa using h.1.set_ 1 _, own_mod h.2.1 hm (fun k hk e => rown_ne h (by simp at e; subst e; exact hk)), Nat.le_refl _, h.2.2.2⟩, rfl⟩, hm.sub (fun k hk _ => by simp at hk; subst hk; simp [foot]), fun k hk => ⟨.inl hk, Nat.lt_of_lt_of_le (hlt k hk) hm.size⟩⟩

theorem r_swap_full (p : Nat) (w : World) (A : Option Addr) (n c : Nat) (hn : 4194304 < n) :
    Calls Try.prog 29 #[.pointer (some ⟨p, 0, none⟩), .slice A n c] w fun e w' => e = .returned (.int .i64 13) ∧ w = w' := by
  go_enter Try.func29, Try.ntmps29
  go_wp2
  go_ret
  exact ⟨rfl, rfl⟩

set_option maxRecDepth 100000 in
theorem r_swap (h : IsR w F p l s) {A : Option Addr} {n c : Nat} {xs : List UInt8} {B : Nat} (hr : Reads w B 1 A n (bys xs)) (hB : B ≤ w.heap.size) (hn : n ≤ 4194304) :
    Calls Try.prog 29 #[.pointer (some ⟨p, 0, none⟩), .slice A n c] w fun e w' => e = .returned (.int .i64 0) ∧ ∃ F', IsR w' F' p xs xs.length ∧ Next F F' w w' := by
  obtain ⟨v, h, rfl⟩ := h
  have c0 := h.1.cell 0
  simp at c0
  have hlt := h.1.lt
  have HL := Lib.hid hr.len
  obtain ⟨i0, hi0, hz0, hz1, hz2⟩ := info_parts byte_info
  have hr0 : Reads (w.alloc (.cells #[] 5)) B 1 A n (bys xs) := hr.alloc hB _
  have hown : (w.alloc (.cells #[] 5)).ownsRow w.heap.size 5 1 (.slice (some ⟨w.heap.size, 0, none⟩) 0 0) 0 [] := World.ownsRow_lit _ #[] 0 (Nat.le_refl _) (by simp) rfl
  go_enter Try.func29, Try.ntmps29
  go_wp2_with (at_builtin; refine wpList_app _ rfl (.tmp 9) (.tmp 10) _ rfl 5 i0 _ 1 1 Try.underlying26 hi0 hz0 hz1 hz2 rfl (by omega) (.slice (some ⟨w.heap.size, 0, none⟩) 0 0) 0 [] w.heap.size rfl hown B A n c (bys xs) rfl hr0 (bys_one _) (by omega) (by simp) ?_; intro A1 c1 w1 hown1 hg1 hat1; rw [Nat.zero_add] at hown1 hat1; rw [Nat.zero_add]; simp only [List.nil_append] at hown1; have he1 : Ext w w1 := ((Below.refl _ _).alloc (Nat.le_refl _) _).grown hg1 (by simp) (fun k hk => by simp only [Value.ownBlock, Option.some.injEq] at hk; omega); have c0' : w1.cell? ⟨p, 0, none⟩ = some v := (he1.cell (p := ⟨p, 0, none⟩) hlt).trans c0; have f0' : w1.frozen? ⟨p, 0, none⟩ = false := (he1.frozen (p := ⟨p, 0, none⟩) hlt).trans (h.1.frozen 0); have c1' : w1.cell? ⟨p, 1, none⟩ = some (.int .i64 (s : Int)) := (he1.cell (p := ⟨p, 1, none⟩) hlt).trans (by simpa using h.1.cell 1); have f1' : w1.frozen? ⟨p, 1, none⟩ = false := (he1.frozen (p := ⟨p, 1, none⟩) hlt).trans (h.1.frozen 1))
  go_ret
  have hl := HL.out
  have hb1 := h.1.below he1 hlt
  have hm : Mod [p] w1 ((w1.setCell ⟨p, 0, none⟩ (.slice A1 n c1)).setCell ⟨p, 1, none⟩ (.int .i64 (n : Int))) := ((Mod.refl _ _).setCell (by simp) _).setCell (by simp) _
  have hge : ∀ k, (Value.slice A1 n c1).ownBlock = some k → w.heap.size ≤ k := fun k hk => (hown1.lt k hk).1
  have hres : IsRef ((w1.setCell ⟨p, 0, none⟩ (.slice A1 n c1)).setCell ⟨p, 1, none⟩ (.int .i64 (n : Int))) p (.slice A1 n c1) xs xs.length := by
    refine ⟨?_, ?_, Nat.le_refl _, by omega⟩
    · rw [← hl]; simpa using (hb1.set_ 0 (.slice A1 n c1)).set_ 1 (.int .i64 (n : Int))
    · rw [← hl]
      refine own_mod (own_base hown1) hm (fun k hk e => ?_)
      simp at e
      have := hge k hk
      omega
  refine ⟨rfl, _, ⟨_, hres, rfl⟩, ((Mod.of_below he1 [p]).trans' hm).sub (fun k hk _ => by simp at hk; subst hk; simp [foot]), fun k hk => ⟨?_, IsR.lt ⟨_, hres, rfl⟩ k hk⟩⟩
  simp only [foot, List.mem_cons, Option.mem_toList] at hk ⊢
  rcases hk with rfl | hk
  · exact .inl (.inl rfl)
  · exact .inr (hge k hk)

set_option maxRecDepth 100000 in
set_option maxHeartbeats 2000000 in
theorem r_crash_at (A' : Option Addr) (c' m q d : Nat) (k : Int) (h : IsRef w p (.slice A' l.length c') l s) (hd : l.length = s + d) (hc : l.length ≤ c') (hk : k.toNat = q) (hm : m = min q d) :
    Calls Try.prog 30 #[.pointer (some ⟨p, 0, none⟩), .int .i64 k] w fun e w' => e = .returned (.tuple #[]) ∧
      ∃ F', IsR w' F' p (l.take (s + m)) (s + m) ∧ Next (foot p (.slice A' l.length c')) F' w w' := by
  have c0 := h.1.cell 0
  have c1 := h.1.cell 1
  simp at c0 c1
  have hlt := h.1.lt
  have hl := h.2.2.2
  have hs := h.2.2.1
  obtain ⟨i0, hi0, hz0, hz1, hz2⟩ := info_parts byte_info
  have hmx : c' ≤ 9223372036854775807 := by obtain ⟨A, c, e, _, h2, _⟩ := own_slice h.2.1; injection e with _ _ e; subst e; exact h2
  have b1 : IntKind.i64.wrap ((l.length : Int) - (s : Int)) = (d : Int) := by rw [IntWalk.i64_in _ (by omega)]; omega
  have b2 : IntKind.i64.wrap ((s : Int) + (m : Int)) = (s : Int) + (m : Int) := IntWalk.i64_in _ (by omega)
  have b4 : ((s : Int) + (m : Int)).toNat = s + m := by omega
  have b5 : (0 : Int) ≤ (s : Int) + (m : Int) := by omega
  have b6 : (s : Int) + (m : Int) ≤ (c' : Int) := by omega
  have HD := Lib.hid hd
  have HK := Lib.hid hk
  have HM := Lib.hid hm
  have hdq : m = q ∧ q ≤ d ∨ m = d ∧ d < q := by omega
  have hsm : s + m ≤ l.length := by omega
  clear hd hk hm
  go_enter Try.func30, Try.ntmps30
  go_upto_if 5 with fail
  go_cut [1] (fun s1 wx => s1 = .int .i64 (q : Int) ∧ wx = w)
  case first =>
    go_wp2_with fail
    all_goals go_meet
    all_goals have hk := HK.out
    all_goals exact ⟨by congr 1; omega, rfl⟩
  case rest =>
  obtain ⟨rfl, hw⟩ := hcut
  obtain rfl := hw.symm
  go_wp2_with fail
  go_quiet (fail)
  go_upto_if 17 with fail
  go_cut [1] (fun s1 wx => s1 = .int .i64 (m : Int) ∧ Ext w wx)
  case first =>
    rcases hdq with ⟨e1, e2⟩ | ⟨e1, e2⟩
    · have e3 : decide (d < q) = false := by simp; omega
      subst e1
      go_wp2_with fail
      go_meet
      exact ⟨rfl, rfl, rfl, rfl, Nat.le_refl _, fun _ _ => rfl⟩
    · have e3 : decide (d < q) = true := by simp; omega
      subst e1
      clear b2 b4 b5 b6
      go_wp2_with fail
      go_quiet (fail)
      go_wp2_with fail
      go_meet
      exact ⟨rfl, rfl, rfl, rfl, Nat.le_refl _, fun _ _ => rfl⟩
  case rest =>
  obtain ⟨rfl, he0⟩ := hcut
  obtain ⟨w1, hw1⟩ : ∃ w1, w1 = wc := ⟨_, rfl⟩
  subst hw1
  have h1 : IsRef w1 p (.slice A' l.length c') l s := ⟨h.1.below he0 hlt, own_mod h.2.1 (Mod.of_below he0 []) (by simp), h.2.2⟩
  clear c0 c1 hdq
  have hlt1 := h1.1.lt
  have c0 : ∀ w, Ext w1 w → w.cell? ⟨p, 0, none⟩ = some (.slice A' l.length c') := fun w hw => by have := (h1.1.below hw hlt1).cell 0; simpa using this
  have c1 : ∀ w, Ext w1 w → w.cell? ⟨p, 1, none⟩ = some (.int .i64 (s : Int)) := fun w hw => by have := (h1.1.below hw hlt1).cell 1; simpa using this
  have hrd : ∀ w, Ext w1 w → Reads w w1.heap.size 1 A' (s + m) (bys (l.take (s + m))) := fun w hw => (reads_own (own_take h1.2.1 (s + m) hsm)).below hw
  go_wp2_with fail
  refine wp_region_rely_tail 14 [none, some (Own0 w1.heap.size), none, none, none, none, none, none, none, none, none, none, none, some (OwnB w1.heap.size (s + m) (l.take (s + m)))] (by kernel_rfl) (by kernel_rfl) ?_
  simp only [Wit, List.take_succ_cons, List.take_zero, List.drop_succ_cons, List.drop_zero]
  iterate 12 apply Exists.intro
  (first | (refine rely_skip rfl ?_; simp only [Act.put, List.setIfInBounds_toArray, List.set_cons_zero, List.set_cons_succ]) | (apply rely_pure; (· rfl); (· intro w hw hd; go_simp; done); simp only [Act.put, List.setIfInBounds_toArray, List.set_cons_zero, List.set_cons_succ]) | (apply rely_pure; (· rfl); (· intro w hw hd; go_simp; exact rfl); simp only [Act.put, List.setIfInBounds_toArray, List.set_cons_zero, List.set_cons_succ]))
  refine rely_rel rfl (Own0.stays _) (fun w hw hd => ?_) ?_
  · go_simp
    exact ⟨own0_new w hw.size, (Below.refl _ _).alloc (Nat.le_refl _) _⟩
  intro v1
  simp only [Act.put, List.setIfInBounds_toArray, List.set_cons_zero, List.set_cons_succ]
  repeat (first | (refine rely_skip rfl ?_; simp only [Act.put, List.setIfInBounds_toArray, List.set_cons_zero, List.set_cons_succ]) | (apply rely_pure; (· rfl); (· intro w hw hd; go_simp; done); simp only [Act.put, List.setIfInBounds_toArray, List.set_cons_zero, List.set_cons_succ]) | (apply rely_pure; (· rfl); (· intro w hw hd; go_simp; exact rfl); simp only [Act.put, List.setIfInBounds_toArray, List.set_cons_zero, List.set_cons_succ]))
  refine rely_rel rfl (OwnB.stays _ _ _) (fun w hw hd => ?_) ?_
  · have g1 : Own0 w1.heap.size v1 w := hd ⟨1, .data⟩ (by simp) rfl
    obtain ⟨v', w', e1, e2, e3⟩ := append_rel (c := c') g1 hw.size (hrd w hw) (by omega) 26
    rw [run_exec_append rfl rfl rfl e1]
    exact ⟨e2, e3⟩
  intro v2
  simp only [Act.put, List.setIfInBounds_toArray, List.set_cons_zero, List.set_cons_succ]
  refine rely_nil ?_
  intro w2 hw2
  obtain ⟨A2, c2, rfl, ho2⟩ : OwnB w1.heap.size (s + m) (l.take (s + m)) v2 w2 := (hw2.2 13).1
  have he2 := hw2.1
  have c0' := c0 w2 he2
  have c1' := c1 w2 he2
  have hb2 := h1.1.below he2 hlt1
  have f0' := hb2.frozen 0
  have f1' := hb2.frozen 1
  clear c0 c1 hrd hw2
  go_wp2
  go_end0
  have e3 : (l.take (s + m)).length = s + m := by rw [List.length_take]; omega
  have hm2 : Mod [p] w2 ((w2.setCell ⟨p, 0, none⟩ (.slice A2 (s + m) c2)).setCell ⟨p, 1, none⟩ (.int .i64 ((s + m : Nat) : Int))) := ((Mod.refl _ _).setCell (by simp) _).setCell (by simp) _
  have hge : ∀ k, (Value.slice A2 (s + m) c2).ownBlock = some k → w1.heap.size ≤ k := fun k hk => (ho2.lt k hk).1
  have hres : IsRef ((w2.setCell ⟨p, 0, none⟩ (.slice A2 (s + m) c2)).setCell ⟨p, 1, none⟩ (.int .i64 ((s + m : Nat) : Int))) p (.slice A2 (s + m) c2) (l.take (s + m)) (s + m) := by
    refine ⟨by simpa using (hb2.set_ 0 (.slice A2 (s + m) c2)).set_ 1 (.int .i64 ((s + m : Nat) : Int)), ?_, by omega, by omega⟩
    rw [e3]
    refine own_mod (own_base ho2) hm2 (fun k hk e => ?_)
    simp at e
    have := hge k hk
    omega
  have hext := he0.trans he2
  refine ⟨rfl, _, ⟨_, hres, rfl⟩, ((Mod.of_below hext [p]).trans' hm2).sub (fun k hk _ => by simp at hk; subst hk; simp [foot]), fun k hk => ⟨?_, IsR.lt ⟨_, hres, rfl⟩ k hk⟩⟩
  simp only [foot, List.mem_cons, Option.mem_toList] at hk ⊢
  rcases hk with rfl | hk
  · exact .inl (.inl rfl)
  · exact .inr (by have := hge k hk; have := he0.size; omega)

theorem r_crash (h : IsR w F p l s) (k : Int) :
    Calls Try.prog 30 #[.pointer (some ⟨p, 0, none⟩), .int .i64 k] w fun e w' => e = .returned (.tuple #[]) ∧ ∃ F', IsR w' F' p (l.take (s + k.toNat)) (l.take (s + k.toNat)).length ∧ Next F F' w w' := by
  obtain ⟨v, h, rfl⟩ := h
  obtain ⟨A', c', rfl, hc, _⟩ := own_slice h.2.1
  have hs := h.2.2.1
  obtain ⟨d, hd⟩ : ∃ d, l.length = s + d := ⟨l.length - s, by omega⟩
  have e1 : l.take (s + k.toNat) = l.take (s + min k.toNat d) := by
    by_cases hk : k.toNat ≤ d
    · rw [Nat.min_eq_left hk]
    · rw [List.take_of_length_le (by omega), List.take_of_length_le (by omega)]
  have e2 : (l.take (s + min k.toNat d)).length = s + min k.toNat d := by rw [List.length_take]; omega
  rw [e1, e2]
  exact r_crash_at A' c' (min k.toNat d) k.toNat d k h hd hc rfl rfl
end

end Go.Proofs.Ytfclighheoobaaa
