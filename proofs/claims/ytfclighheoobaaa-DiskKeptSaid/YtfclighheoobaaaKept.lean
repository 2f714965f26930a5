/- DiskKept: bytes are their own memory. -/
import Derived.Test.YtfclighheoobaaaSep
import Derived.Deep.DeepCutAuto
namespace Go.Proofs.Ytfclighheoobaaa
open Go.RowKit

attribute [local go_sem] ba_append ba_extract ba_size Oper.pureUpon Oper.relUpon

theorem BArg.cut {W : World} {A : Option Addr} {n c : Nat} {l : List UInt8} (h : BArg W A n c l) (m : Nat) : BArg W A (min m n) c (l.take m) := by
  have := h.take (m := min m n) (by omega)
  have e : l.take (min m n) = l.take m := by
    have hl := h.reads.len
    rw [hl, ← List.take_take, List.take_length]
  rwa [e] at this

theorem conv_b {W w : World} {A : Option Addr} {n c : Nat} {l : List UInt8} (h : BArg W A n c l) (hb : Below W.heap.size W w) : (convert 26 9 (.slice A n c)).run Try.prog w = .ok (.string ⟨l.toArray⟩) w :=
  run_str w 26 9 5 Try.underlying26 Try.underlying5 Try.underlying9 (h.reads.below hb) c

/-- A disk, and a row of bytes of the call's own beside it. -/
def K2 (W w : World) (p : Nat) (l : List UInt8) (s : Nat) (A : Option Addr) (n c : Nat) : Prop :=
  ∃ F xs, IsD w F p l s ∧ w.ownsRow 0 5 1 (.slice A n c) n xs ∧ (∀ v ∈ xs, ∃ z, v = Value.int .u8 z) ∧ Sep W w [F, (Value.slice A n c).ownBlock.toList]

section
variable {W w w' : World} {p : Nat} {l : List UInt8} {s n c : Nat} {A : Option Addr}
theorem k2_at (h : K2 W w p l s A n c) {i : Nat} (hi : i < n) :
    ∃ g z, A = some ⟨g, 0, none⟩ ∧ w.cell? ⟨g, i, none⟩ = some (.int .u8 z) ∧ w.frozen? ⟨g, i, none⟩ = false ∧ ∀ z', K2 W (w.setCell ⟨g, i, none⟩ (.int .u8 z')) p l s (some ⟨g, 0, none⟩) n c := by
  obtain ⟨F, xs, hd, ho, hx, hs⟩ := h
  rcases ho.2 with ⟨_, h0⟩ | ⟨g, cap, cur, hv, _⟩
  · omega
  · injection hv with e1 e2 e3
    subst e1 e3
    have hlen : xs.length = n := by have := ho.1; omega
    obtain ⟨z, hz⟩ := hx (xs[i]'(by omega)) (List.getElem_mem _)
    refine ⟨g, z, rfl, ?_, ho.frozenAt i, fun z' => ?_⟩
    · rw [ho.cellAt i (by omega), List.getElem?_eq_getElem (by omega), hz]
    · have hm : Mod [g] w (w.setCell ⟨g, i, none⟩ (.int .u8 z')) := (Mod.refl _ _).setCell (by simp) _
      obtain ⟨s5, ks⟩ := hs.swap.next (F' := [g]) ⟨hm, fun k hk => ⟨.inl hk, Nat.lt_of_lt_of_le (hs.lt [g] (by simp [Value.ownBlock]) k hk) hm.size⟩⟩
      refine ⟨F, xs.set i (.int .u8 z'), hd.keep (ks F (by simp)), (ho.stored i _).1, fun v hv => ?_, s5.swap⟩
      rcases List.mem_or_eq_of_mem_set hv with h1 | h1
      · exact hx v h1
      · exact ⟨z', h1⟩
theorem k2_new {F : List Nat} {xs : List UInt8} (hd : IsD w F p l s) (hs : Sep W w [F]) (he : Ext w w') (ho : w'.ownsRow w.heap.size 5 1 (.slice A n c) n (bys xs)) : K2 W w' p l s A n c := by
  refine ⟨F, bys xs, hd.ext he, own_base ho, fun v hv => ?_, (hs.new he (F := (Value.slice A n c).ownBlock.toList) fun k hk => ?_).swap⟩
  · unfold bys at hv
    obtain ⟨a, _, rfl⟩ := List.mem_map.1 hv
    exact ⟨_, rfl⟩
  · exact ho.lt k (by simpa using hk)
end

theorem own_none {w : World} {B n c : Nat} {A : Option Addr} {xs : List Value} (h : w.ownsRow B 5 1 (.slice A n c) n xs) (hA : A = none) : n = 0 ∧ c = 0 := by
  rcases h.2 with ⟨hv, hn⟩ | ⟨g, cap, cur, hv, _⟩
  · injection hv with _ _ e3
    exact ⟨hn, e3⟩
  · injection hv with e1
    rw [hA] at e1
    cases e1

set_option maxRecDepth 100000 in
set_option maxHeartbeats 4000000 in
theorem kept_walk (W : World) (A : Option Addr) (n c : Nat) (l : List UInt8) (h0 : BArg W A n c l) :
    Calls Try.prog 8 #[.slice A n c] W fun e w' => e = .returned (.bool true) ∧ Below W.heap.size W w' := by
  have k0 := h0.cut 500
  have le0 : n ≤ c := h0.le
  have mx0 : c ≤ 9223372036854775807 := h0.max
  generalize l.take 500 = b at *
  obtain ⟨m, hm⟩ : ∃ m, min 500 n = m := ⟨_, rfl⟩
  rw [hm] at k0
  have hm5 : m ≤ 500 := by omega
  have HM := Lib.hid hm
  have HLb := Lib.hid k0.reads.len
  have hb5 : b.length ≤ 500 := by have := HLb.out; omega
  clear hm h0
  obtain ⟨i0, hi0, hz0, hz1, hz2⟩ := info_parts byte_info
  go_enter Try.func8, Try.ntmps8
  go_wp2_with fail
  refine (sd_new W).mono ?_
  rintro e w1 ⟨p, rfl, hp1, d1, hx1⟩
  have s1 : Sep W w1 [[p]] := (Sep.start W).new hx1 (by have := d1.lt; simp at this ⊢; omega)
  clear hx1 hp1
  go_upto_if 15 with fail
  go_cut [0] (fun s0 wx => s0 = .slice A m c ∧ wx = w1)
  case first =>
    by_cases hbig : 500 < n
    · have h1 : (500 : Int) < (n : Int) := by omega
      have h2 : (500 : Int) ≤ (c : Int) := by omega
      go_wp2_with fail
      all_goals go_meet
      all_goals (have e1 := HM.out; obtain rfl : m = 500 := by omega)
      all_goals exact ⟨rfl, rfl⟩
    · have h1 : ¬ (500 : Int) < (n : Int) := by omega
      go_wp2_with fail
      all_goals go_meet
      all_goals (have e1 := HM.out; obtain rfl : m = n := by omega)
      all_goals exact ⟨rfl, rfl⟩
  case rest =>
  obtain ⟨rfl, hw⟩ := hcut
  obtain rfl := hw.symm
  clear le0 mx0
  have hr0 : Reads (w1.alloc (.cells #[] 5)) W.heap.size 1 A m (bys b) := k0.reads.below (s1.below.alloc s1.below.size _)
  have hown0 : (w1.alloc (.cells #[] 5)).ownsRow w1.heap.size 5 1 (.slice (some ⟨w1.heap.size, 0, none⟩) 0 0) 0 [] := World.ownsRow_lit _ #[] 0 (Nat.le_refl _) (by simp) rfl
  go_wp2_with (at_builtin; refine wpList_app _ rfl (.tmp 18) (.tmp 19) _ rfl 5 i0 _ 1 1 Try.underlying26 hi0 hz0 hz1 hz2 rfl (by omega) (.slice (some ⟨w1.heap.size, 0, none⟩) 0 0) 0 [] w1.heap.size rfl hown0 W.heap.size A m c (bys b) rfl hr0 (bys_one _) (by omega) (by simp) ?_; intro A1 c1 w2 hown2 hg2 hat2; rw [Nat.zero_add] at hown2 hat2; rw [Nat.zero_add]; simp only [List.nil_append] at hown2; have he2 : Ext w1 w2 := ((Below.refl _ _).alloc (Nat.le_refl _) _).grown hg2 (by simp) (fun k hk => by simp only [Value.ownBlock, Option.some.injEq] at hk; omega))
  have kk : K2 W w2 p [] 0 A1 m c1 := k2_new d1 s1 he2 hown2
  obtain ⟨F, xs, d2, o2, x2, s2⟩ := kk
  clear hr0 hown0 hg2 hat2
  go_wp2_with fail
  refine (sd_append d2 (Reads.of_own hown2) (by simp; omega)).mono ?_
  rintro e w3 ⟨rfl, F3, d3, nx⟩
  obtain ⟨s3, ks⟩ := s2.next nx
  replace d3 : IsD w3 F3 p b 0 := by simpa using d3
  have kk : K2 W w3 p b 0 A1 m c1 := ⟨F3, xs, d3, own_keep o2 (ks _ (by simp)), x2, s3⟩
  clear nx ks s3 d3 s2 d2 o2 x2 hown2 he2 s1 d1
  go_wp2_with fail
  go_loopw [5] (fun i wr => ∃ k : Nat, k ≤ m ∧ i = .int .i64 (k : Int) ∧ K2 W wr p b 0 A1 m c1) (fun i _ => m - (intOf i).toNat)
  case atStart => exact ⟨0, by omega, rfl, kk⟩
  case round =>
    obtain ⟨k, hk, rfl, kr⟩ := hrel
    clear kk
    by_cases hlt : k < m
    · obtain ⟨g, z, rfl, hc, hf, hset⟩ := k2_at kr hlt
      have h1 : (0 : Int) ≤ (k : Int) := by omega
      have h2 : (k : Int) < (m : Int) := by omega
      go_wp2_with fail
      go_roundw
      case rel => exact ⟨k + 1, by omega, by go_num, hset _⟩
      case measure => simp [intOf]; omega
    · have h2 : ¬ (k : Int) < (m : Int) := by omega
      obtain ⟨F, _, dr, _, _, sr⟩ := kr
      clear h2
      go_wp2_with fail
      refine (sd_bytes dr).mono ?_
      rintro e w4 ⟨A4, c4, rfl, o4, he4⟩
      have k4 : K2 W w4 p b 0 A4 b.length c4 := k2_new dr sr.swap.drop he4 o4
      clear dr sr o4 he4
      go_wp2_with fail
      go_loopw [7] (fun i wr => ∃ k : Nat, k ≤ b.length ∧ i = .int .i64 (k : Int) ∧ K2 W wr p b 0 A4 b.length c4) (fun i _ => b.length - (intOf i).toNat)
      case atStart => exact ⟨0, by omega, rfl, k4⟩
      case round =>
        obtain ⟨k, hk, rfl, kr⟩ := hrel
        clear k4
        by_cases hlt : k < b.length
        · obtain ⟨g, z, rfl, hc, hf, hset⟩ := k2_at kr hlt
          have h1 : (0 : Int) ≤ (k : Int) := by omega
          have h2 : (k : Int) < (b.length : Int) := by omega
          go_wp2_with fail
          go_roundw
          case rel => exact ⟨k + 1, by omega, by go_num, hset _⟩
          case measure => simp [intOf]; omega
        · have h2 : ¬ (k : Int) < (b.length : Int) := by omega
          obtain ⟨F, _, d5, _, _, s5⟩ := kr
          replace s5 := s5.swap.drop
          go_wp2_with fail
          clear h2
          have cb := fun {w : World} (hw : Ext wr w) => conv_b k0 (s5.below.trans (hw.mono s5.below.size))
          refine wp_region_rely [none, some (RB b), none, none, none, none] (by kernel_rfl) (by kernel_rfl) ?_
          simp only [Wit]
          iterate 5 apply Exists.intro
          (first | (refine rely_skip rfl ?_; simp only [Act.put, List.setIfInBounds_toArray, List.set_cons_zero, List.set_cons_succ]) | (apply rely_pure; (· rfl); (· intro w hw hd; go_simp; done); simp only [Act.put, List.setIfInBounds_toArray, List.set_cons_zero, List.set_cons_succ]) | (apply rely_pure; (· rfl); (· intro w hw hd; go_simp; exact rfl); simp only [Act.put, List.setIfInBounds_toArray, List.set_cons_zero, List.set_cons_succ]))
          refine rely_rel rfl (RB.stays b) (fun w hw hd => ?_) ?_
          · go_simp
            exact sd_bytes_rel d5 hw
          intro v1
          simp only [Act.put, List.setIfInBounds_toArray, List.set_cons_zero, List.set_cons_succ]
          apply rely_pure
          · rfl
          · intro w hw hd
            have s6 := (hd ⟨1, .data⟩ (by simp) rfl : RB (b) v1 w).str
            go_simp
            exact rfl
          simp only [Act.put, List.setIfInBounds_toArray, List.set_cons_zero, List.set_cons_succ]
          (first | (refine rely_skip rfl ?_; simp only [Act.put, List.setIfInBounds_toArray, List.set_cons_zero, List.set_cons_succ]) | (apply rely_pure; (· rfl); (· intro w hw hd; go_simp; done); simp only [Act.put, List.setIfInBounds_toArray, List.set_cons_zero, List.set_cons_succ]) | (apply rely_pure; (· rfl); (· intro w hw hd; go_simp; exact rfl); simp only [Act.put, List.setIfInBounds_toArray, List.set_cons_zero, List.set_cons_succ]))
          apply rely_pure
          · rfl
          · intro w hw hd
            have s6 := cb hw
            go_simp
            exact rfl
          simp only [Act.put, List.setIfInBounds_toArray, List.set_cons_zero, List.set_cons_succ]
          repeat (first | (refine rely_skip rfl ?_; simp only [Act.put, List.setIfInBounds_toArray, List.set_cons_zero, List.set_cons_succ]) | (apply rely_pure; (· rfl); (· intro w hw hd; go_simp; done); simp only [Act.put, List.setIfInBounds_toArray, List.set_cons_zero, List.set_cons_succ]) | (apply rely_pure; (· rfl); (· intro w hw hd; go_simp; exact rfl); simp only [Act.put, List.setIfInBounds_toArray, List.set_cons_zero, List.set_cons_succ]))
          refine rely_nil ?_
          intro w6 hw6
          have d6 := d5.ext hw6.1
          have s6 := s5.ext hw6.1
          clear hw6 d5 s5 cb
          have hr0 : Reads (w6.alloc (.cells #[] 5)) W.heap.size 1 A m (bys b) := k0.reads.below (s6.below.alloc s6.below.size _)
          have hown0 : (w6.alloc (.cells #[] 5)).ownsRow w6.heap.size 5 1 (.slice (some ⟨w6.heap.size, 0, none⟩) 0 0) 0 [] := World.ownsRow_lit _ #[] 0 (Nat.le_refl _) (by simp) rfl
          go_wp2_with (at_builtin; refine wpList_app _ rfl (.tmp 60) (.tmp 61) _ rfl 5 i0 _ 1 1 Try.underlying26 hi0 hz0 hz1 hz2 rfl (by omega) (.slice (some ⟨w6.heap.size, 0, none⟩) 0 0) 0 [] w6.heap.size rfl hown0 W.heap.size A m c (bys b) rfl hr0 (bys_one _) (by omega) (by simp) ?_; intro A7 c7 w7 hown7 hg7 hat7; rw [Nat.zero_add] at hown7 hat7; rw [Nat.zero_add]; simp only [List.nil_append] at hown7; have he7 : Ext w6 w7 := ((Below.refl _ _).alloc (Nat.le_refl _) _).grown hg7 (by simp) (fun k hk => by simp only [Value.ownBlock, Option.some.injEq] at hk; omega))
          have kk : K2 W w7 p b 0 A7 m c7 := k2_new d6 s6 he7 hown7
          have hA7 : A7 = none → m = 0 ∧ c7 = 0 := own_none hown7
          obtain ⟨F7, xs7, d7, o7, x7, s7⟩ := kk
          clear hr0 hown0 hg7 hat7
          go_wp2_with fail
          refine (sd_swap d7 (Reads.of_own hown7) (Nat.le_refl _) hA7 (by omega)).mono ?_
          rintro e w8 ⟨rfl, F8, d8, nx⟩
          obtain ⟨s8, ks⟩ := s7.next nx
          have k8 : K2 W w8 p b b.length A7 m c7 := ⟨F8, xs7, d8, own_keep o7 (ks _ (by simp)), x7, s8⟩
          clear nx ks s8 d8 s7 d7 o7 x7 hown7 he7 s6 d6 hA7
          go_wp2_with fail
          go_loopw [9] (fun i wr => ∃ k : Nat, k ≤ m ∧ i = .int .i64 (k : Int) ∧ K2 W wr p b b.length A7 m c7) (fun i _ => m - (intOf i).toNat)
          case atStart => exact ⟨0, by omega, rfl, k8⟩
          case round =>
            obtain ⟨k, hk, rfl, kr⟩ := hrel
            clear k8
            by_cases hlt : k < m
            · obtain ⟨g, z, rfl, hc, hf, hset⟩ := k2_at kr hlt
              have h1 : (0 : Int) ≤ (k : Int) := by omega
              have h2 : (k : Int) < (m : Int) := by omega
              go_wp2_with fail
              go_roundw
              case rel => exact ⟨k + 1, by omega, by go_num, hset _⟩
              case measure => simp [intOf]; omega
            · have h2 : ¬ (k : Int) < (m : Int) := by omega
              obtain ⟨F, _, d9, _, _, s9⟩ := kr
              replace s9 := s9.swap.drop
              go_wp2_with fail
              clear h2
              have cb := fun {w : World} (hw : Ext wr w) => conv_b k0 (s9.below.trans (hw.mono s9.below.size))
              refine wp_region_rely [none, some (RB b), none, none, none, none, none, none, none, none] (by kernel_rfl) (by kernel_rfl) ?_
              simp only [Wit]
              iterate 9 apply Exists.intro
              (first | (refine rely_skip rfl ?_; simp only [Act.put, List.setIfInBounds_toArray, List.set_cons_zero, List.set_cons_succ]) | (apply rely_pure; (· rfl); (· intro w hw hd; go_simp; done); simp only [Act.put, List.setIfInBounds_toArray, List.set_cons_zero, List.set_cons_succ]) | (apply rely_pure; (· rfl); (· intro w hw hd; go_simp; exact rfl); simp only [Act.put, List.setIfInBounds_toArray, List.set_cons_zero, List.set_cons_succ]))
              refine rely_rel rfl (RB.stays b) (fun w hw hd => ?_) ?_
              · go_simp
                exact sd_bytes_rel d9 hw
              intro v1
              simp only [Act.put, List.setIfInBounds_toArray, List.set_cons_zero, List.set_cons_succ]
              apply rely_pure
              · rfl
              · intro w hw hd
                have s6 := (hd ⟨1, .data⟩ (by simp) rfl : RB (b) v1 w).str
                go_simp
                exact rfl
              simp only [Act.put, List.setIfInBounds_toArray, List.set_cons_zero, List.set_cons_succ]
              (first | (refine rely_skip rfl ?_; simp only [Act.put, List.setIfInBounds_toArray, List.set_cons_zero, List.set_cons_succ]) | (apply rely_pure; (· rfl); (· intro w hw hd; go_simp; done); simp only [Act.put, List.setIfInBounds_toArray, List.set_cons_zero, List.set_cons_succ]) | (apply rely_pure; (· rfl); (· intro w hw hd; go_simp; exact rfl); simp only [Act.put, List.setIfInBounds_toArray, List.set_cons_zero, List.set_cons_succ]))
              apply rely_pure
              · rfl
              · intro w hw hd
                have s6 := cb hw
                go_simp
                exact rfl
              simp only [Act.put, List.setIfInBounds_toArray, List.set_cons_zero, List.set_cons_succ]
              repeat (first | (refine rely_skip rfl ?_; simp only [Act.put, List.setIfInBounds_toArray, List.set_cons_zero, List.set_cons_succ]) | (apply rely_pure; (· rfl); (· intro w hw hd; go_simp; done); simp only [Act.put, List.setIfInBounds_toArray, List.set_cons_zero, List.set_cons_succ]) | (apply rely_pure; (· rfl); (· intro w hw hd; go_simp; exact rfl); simp only [Act.put, List.setIfInBounds_toArray, List.set_cons_zero, List.set_cons_succ]))
              apply rely_pure
              · rfl
              · intro w hw hd
                go_simp
                exact known_pure _
              simp only [Act.put, List.setIfInBounds_toArray, List.set_cons_zero, List.set_cons_succ]
              repeat (first | (refine rely_skip rfl ?_; simp only [Act.put, List.setIfInBounds_toArray, List.set_cons_zero, List.set_cons_succ]) | (apply rely_pure; (· rfl); (· intro w hw hd; go_simp; done); simp only [Act.put, List.setIfInBounds_toArray, List.set_cons_zero, List.set_cons_succ]) | (apply rely_pure; (· rfl); (· intro w hw hd; go_simp; exact rfl); simp only [Act.put, List.setIfInBounds_toArray, List.set_cons_zero, List.set_cons_succ]))
              refine rely_nil ?_
              intro w10 hw10
              go_wp2
              go_ret
              exact ⟨rfl, s9.below.trans (hw10.1.mono s9.below.size)⟩

end Go.Proofs.Ytfclighheoobaaa
