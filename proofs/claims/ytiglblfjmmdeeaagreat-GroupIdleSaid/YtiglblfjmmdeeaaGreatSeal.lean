/- crc.Seal, crc.Open of what was sealed; slices.Equal. -/
import Derived.Test.YtiglblfjmmdeeaaGreatCrc
import Derived.Test.YtiglblfjmmdeeaaGreatPack
import Derived.Deep.DeepCutAuto
namespace Go.Proofs.YtiglblfjmmdeeaaGreat
open Go.RowKit

attribute [local go_sem] Oper.pureUpon Oper.relUpon

/-- Bytes behind their sum. -/
def sealed (l : List UInt8) : List UInt8 := leBytes 4 (crcN l) ++ l
theorem sealed_len (l : List UInt8) : (sealed l).length = l.length + 4 := by unfold sealed; rw [List.length_append, leBytes_len]; omega
theorem bys_le4 (c : Nat) (h : c < 4294967296) : bys (leBytes 4 c) = [.int .u8 ((c : Int) % 256), .int .u8 ((c : Int) / 256 % 256), .int .u8 ((c : Int) / 65536 % 256), .int .u8 ((c : Int) / 16777216)] := by
  simp only [leBytes, bys, List.map_cons, List.map_nil, UInt8.toNat_ofNat', List.cons.injEq, Value.int.injEq, true_and, and_true]
  omega

set_option maxRecDepth 100000 in
theorem seal_calls (w : World) (B : Nat) (A : Option Addr) (n c : Nat) (l : List UInt8) (hr : Reads w B 1 A n (bys l)) (hB : B ≤ w.heap.size) (hn : n ≤ 10000000) :
    Calls Tryz.prog 132 #[.slice A n c] w fun e w' => ∃ A' c', e = .returned (.slice A' (sealed l).length c') ∧ w'.ownsRow w.heap.size 5 1 (.slice A' (sealed l).length c') (sealed l).length (bys (sealed l)) ∧ Ext w w' := by
  obtain ⟨i0, hi0, hz0, hz1, hz2⟩ := info_parts byte_info
  have HL := Lib.hid hr.len
  have h4 := bys_le4 (crcN l) (crcN_lt l)
  have hc := crcN_lt l
  have hs : sealed l = leBytes 4 (crcN l) ++ l := rfl
  have hcrc := crc_calls w B A n c l hr (by omega)
  generalize crcN l = q at *
  have HS := Lib.hid hs
  have hr0 := fun o => hr.alloc hB o
  have hown : (w.alloc (.cells #[.int .u8 ((q : Int) % 256), .int .u8 ((q : Int) / 256 % 256), .int .u8 ((q : Int) / 65536 % 256), .int .u8 ((q : Int) / 16777216)] 5)).ownsRow w.heap.size 5 1 (.slice (some ⟨w.heap.size, 0, none⟩) 4 4) 4 (bys (leBytes 4 q)) := by
    rw [h4]
    exact World.ownsRow_lit _ #[.int .u8 ((q : Int) % 256), .int .u8 ((q : Int) / 256 % 256), .int .u8 ((q : Int) / 65536 % 256), .int .u8 ((q : Int) / 16777216)] 4 (Nat.le_refl _) (by simp [maxLen]) rfl
  have HO := Lib.hid hown
  clear hs h4 hown
  go_enter Tryz.func132, Tryz.ntmps132
  go_wp2_with fail
  refine hcrc.mono ?_
  rintro e w1 ⟨rfl, rfl⟩
  go_wp2_with (at_builtin; refine wpList_app _ rfl (.tmp 17) (.tmp 18) _ rfl 5 i0 _ 1 1 Tryz.underlying34 hi0 hz0 hz1 hz2 rfl (by omega) (.slice (some ⟨w.heap.size, 0, none⟩) 4 4) 4 (bys (leBytes 4 q)) w.heap.size rfl HO.out B A n c (bys l) rfl (hr0 _) (bys_one _) (by omega) (by simp) ?_; intro A1 c1 w2 hown2 hg2 hat2; have he2 : Ext w w2 := ((Below.refl _ _).alloc (Nat.le_refl _) _).grown hg2 (by simp) (fun k hk => by simp only [Value.ownBlock, Option.some.injEq] at hk; omega))
  go_ret
  have e1 : 4 + n = (sealed l).length := by rw [sealed_len]; have := HL.out; omega
  rw [← bys_append, ← HS.out, e1] at hown2
  rw [e1]
  exact ⟨_, _, rfl, hown2, he2⟩

set_option maxRecDepth 100000 in
theorem equal_calls (w : World) (B B2 : Nat) (A A2 : Option Addr) (n c c2 : Nat) (l : List UInt8) (hr : Reads w B 1 A n (bys l)) (hr2 : Reads w B2 1 A2 n (bys l)) (hB : B ≤ w.heap.size) (hB2 : B2 ≤ w.heap.size) (hn : n ≤ 1000000) :
    Calls Tryz.prog 131 #[.slice A n c, .slice A2 n c2] w fun e w' => e = .returned (.bool true) ∧ Ext w w' := by
  go_enter Tryz.func131, Tryz.ntmps131
  go_wp2
  go_loopw [13] (fun i wr => ∃ k : Nat, k ≤ n ∧ i = .int .i64 (k : Int) ∧ Ext w wr) (fun i _ => n - (intOf i).toNat)
  case atStart => exact ⟨0, by omega, rfl, Ext.refl _⟩
  case round =>
    obtain ⟨k, hk, rfl, hext⟩ := hrel
    by_cases hlt : k < n
    · have hrw := hr.keep (w' := wr) (fun p hp => hext.cell (Nat.lt_of_lt_of_le hp hB))
      have hrw2 := hr2.keep (w' := wr) (fun p hp => hext.cell (Nat.lt_of_lt_of_le hp hB2))
      obtain ⟨ad, u, rfl, _, hx, hc⟩ := hrw.at_ hlt
      obtain ⟨ad2, u2, rfl, _, hx2, hc2⟩ := hrw2.at_ hlt
      obtain rfl : u = u2 := by rw [hx] at hx2; exact Option.some.inj hx2
      obtain ⟨b, rfl⟩ : ∃ b : Nat, u = .int .u8 (b : Int) := by
        rw [bys_get] at hx
        cases hlk : l[k]? with
        | none => rw [hlk] at hx; cases hx
        | some c => rw [hlk] at hx; exact ⟨c.toNat, (Option.some.inj hx).symm⟩
      clear hx hx2 hr hr2
      have h0 : (0 : Int) ≤ (k : Int) := by omega
      have h1 : (k : Int) < (n : Int) := by omega
      go_wp2_with fail
      go_quiet (fail)
      go_wp2_with fail
      go_roundw
      case rel => exact ⟨k + 1, by omega, by go_num, below_drewN hext _⟩
      case measure => simp [intOf]; omega
    · go_wp2
      go_ret
      exact ⟨rfl, hext⟩

theorem sealed_drop (l : List UInt8) : (sealed l).drop 4 = l := by
  unfold sealed
  rw [List.drop_append, List.drop_of_length_le (by rw [leBytes_len]; omega), leBytes_len]
  rfl

/-- A slice of these bytes, within its room. -/
def RC (l : List UInt8) (v : Value) (w : World) : Prop := ∃ A c, v = .slice A l.length c ∧ Reads w w.heap.size 1 A l.length (bys l) ∧ l.length ≤ c ∧ c ≤ maxLen
theorem RC.stays (l : List UInt8) : Stays (RC l) := by rintro v w w' ⟨A, c, rfl, hr, h⟩ he; exact ⟨A, c, rfl, (hr.below he).more he.size, h⟩
theorem reads_take {w : World} {B n : Nat} {A : Option Addr} {l : List UInt8} (h : Reads w B 1 A n (bys l)) {k : Nat} (hk : k ≤ n) : Reads w B 1 A k (bys (l.take k)) := by
  have hl := h.len
  refine ⟨by rw [bys_len, List.length_take]; omega, fun h0 => ?_⟩
  obtain ⟨ad, h3, h4, h5⟩ := h.2 (by omega)
  refine ⟨ad, h3, h4, fun j u hj => h5 j u ?_⟩
  rw [← bys_take, List.getElem?_take] at hj
  split at hj
  · exact hj
  · cases hj
theorem run_take (w : World) {A : Option Addr} {n c k : Nat} (hk : k ≤ n) (hn : n ≤ c) : (Instr.slice 34 (.slice A n c) none (some (.int .i64 (k : Int))) none).run Tryz.prog w = .ok (.slice A k c) w := by
  obtain ⟨i0, hi0, hz0, hz1, hz2⟩ := info_parts byte_info
  have he : Tryz.prog.elem 34 = 5 := by kernel_rfl
  rw [run_slice_h w 34 A n c (by rw [he]; exact Tryz.underlying34) .i64 (k : Int) (by omega) (by omega), he]
  have e1 : Option.map (fun x : Addr => x.add 0) A = A := by cases A <;> simp [Addr.add]
  simp [sizeOf, typeInfo, hi0, hz1, sliced, e1]
theorem rc_take {l : List UInt8} {v : Value} {w : World} (h : RC l v w) {k : Nat} (hk : k ≤ l.length) : ∃ v', (Instr.slice 34 v none (some (.int .i64 (k : Int))) none).run Tryz.prog w = .ok v' w ∧ RC (l.take k) v' w := by
  obtain ⟨A, c, rfl, hr, h1, h2⟩ := h
  have e : (l.take k).length = k := by rw [List.length_take]; omega
  refine ⟨.slice A k c, run_take w hk h1, A, c, by rw [e], ?_, by omega, h2⟩
  rw [e]
  exact reads_take hr hk
/-- 'b[k:]' of bytes. -/
theorem slice_from {A : Option Addr} {n c k : Nat} {l : List UInt8} (hle : n ≤ c) (hk : k ≤ n) :
    ∃ A2, (∀ w, (Instr.slice 34 (.slice A n c) (some (.int .i64 (k : Int))) none none).run Tryz.prog w = .ok (.slice A2 (n - k) (c - k)) w) ∧ (∀ w B, Reads w B 1 A n (bys l) → Reads w B 1 A2 (n - k) (bys (l.drop k))) ∧ (A2 = none → A = none) := by
  refine ⟨if c = k then A else A.map (·.add k), fun w => ?_, fun w B h => ?_, fun h => ?_⟩
  · obtain ⟨i0, hi0, hz0, hz1, hz2⟩ := info_parts byte_info
    have he : Tryz.prog.elem 34 = 5 := by kernel_rfl
    rw [run_slice_l w 34 A n c (by rw [he]; exact Tryz.underlying34) .i64 (k : Int) (by omega) (by omega), he]
    simp [sizeOf, typeInfo, hi0, hz1, sliced]
  · have hr := h.cut (k := k) hk hle
    simp only [Nat.mul_one] at hr
    rw [bys_drop] at hr
    exact hr
  · split at h
    · exact h
    · simpa using h

theorem seal_rel {w : World} {B : Nat} {A : Option Addr} {n c : Nat} {l : List UInt8} (hr : Reads w B 1 A n (bys l)) (hB : B ≤ w.heap.size) (hn : n ≤ 10000000) :
    Calls Tryz.prog 132 #[.slice A n c] w fun e w' => ∃ v, e = .returned v ∧ RC (sealed l) v w' ∧ Ext w w' := by
  refine (seal_calls w B A n c l hr hB hn).mono ?_
  rintro e w' ⟨A', c', rfl, ho, he⟩
  obtain ⟨A2, c2, hv, h1, h2, _⟩ := own_slice ho
  injection hv with _ _ h3
  subst h3
  exact ⟨_, rfl, ⟨A', c', rfl, Reads.of_own ho, h1, h2⟩, he⟩

theorem run_exec_slice {o : Oper} {a : Act} {s : Operand} {v v' : Value} {k : Int} {w w' : World} (ho : o.op = .slice 34 s none (some (.const (.int .i64 k))) none) (hs : a.eval s = v)
    (hrun : (Instr.slice 34 v none (some (.int .i64 k)) none).run Tryz.prog w = .ok v' w') : (execOp a.eval o).run Tryz.prog w = .ok (.value v') w' := by
  have he : Tryz.prog.elem 34 = 5 := by kernel_rfl
  have h1 := run_sliceAt_slice (P := Tryz.prog) w 34 v none (some (.int .i64 k)) none (by rw [he]; exact Tryz.underlying34)
  rw [hrun] at h1
  unfold execOp
  simp only [ho, hs, Option.map_some, Option.map_none, Sem.run_bind, Sem.run_pure, Result.andThen_ok]
  have h2 : a.eval (.const (.int .i64 k)) = .int .i64 k := rfl
  rw [h2, h1]
  simp

theorem relUpon_slice {R : Value → World → Prop} {o : Oper} {a : Act} {s : Operand} {v v' : Value} {k : Int} {w : World} (ho : o.op = .slice 34 s none (some (.const (.int .i64 k))) none) (hs : a.eval s = v)
    (hrun : (Instr.slice 34 v none (some (.int .i64 k)) none).run Tryz.prog w = .ok v' w) (hR : R v' w) : Oper.relUpon Tryz.prog w R ((execOp a.eval o).run Tryz.prog w) := by
  rw [run_exec_slice ho hs hrun]
  exact ⟨hR, Ext.refl _⟩

theorem Reads.none_len {w : World} {B size n : Nat} {A : Option Addr} {xs : List Value} (h : Reads w B size A n xs) (hA : A = none) : n = 0 := by
  rcases Nat.eq_zero_or_pos n with h0 | h0
  · exact h0
  · obtain ⟨ad, h1, _⟩ := h.2 h0
    rw [hA] at h1
    cases h1
theorem own_more {w : World} {b b' : Nat} {e : TypeId} {size n : Nat} {v : Value} {xs : List Value} (h : w.ownsRow b' e size v n xs) (hb : b ≤ b') : w.ownsRow b e size v n xs := by
  refine ⟨h.1, ?_⟩
  rcases h.2 with h2 | ⟨g, cap, cur, hv, h3, r⟩
  · exact .inl h2
  · exact .inr ⟨g, cap, cur, hv, Nat.le_trans hb h3, r⟩

set_option maxRecDepth 100000 in
theorem open_calls (w : World) (B : Nat) (A : Option Addr) (c : Nat) (l : List UInt8) (hr : Reads w B 1 A (l.length + 4) (bys (sealed l))) (hB : B ≤ w.heap.size) (hn : l.length ≤ 9000000) (hc : l.length + 4 ≤ c) (hm : c ≤ maxLen) :
    Calls Tryz.prog 77 #[.slice A (l.length + 4) c] w fun e w' => ∃ A' c', e = .returned (.tuple #[.slice A' l.length c', .bool true]) ∧ w'.ownsRow w.heap.size 5 1 (.slice A' l.length c') l.length (bys l) ∧ Ext w w' := by
  have hcl : (4 : Int) ≤ (c : Int) := by omega
  obtain ⟨A2, hsl, hrd, hA2⟩ := slice_from (A := A) (l := sealed l) (k := 4) hc (by omega)
  rw [sealed_drop] at hrd
  have hr2 : ∀ w', Ext w w' → Reads w' B 1 A2 l.length (bys l) := fun w' he => (hrd w B hr).keep (w' := w') (fun p hp => he.cell (Nat.lt_of_lt_of_le hp hB))
  have hlt : ¬ ((l.length : Int) + 4 < 4) := by omega
  have e4 : ((sealed l).take 4).length = 4 := by rw [List.length_take, sealed_len]; omega
  have E4 := Lib.hid e4
  clear e4
  have hr3 : ∀ w', Ext w w' → Reads w' B 1 A 4 (bys ((sealed l).take 4)) := fun w' he => reads_take (hr.keep (w' := w') (fun p hp => he.cell (Nat.lt_of_lt_of_le hp hB))) (by omega)
  have HS := Lib.hid hsl
  have HA := Lib.hid hA2
  clear hsl hrd hA2
  have hsl : ∀ w, (Instr.slice 34 (.slice A (l.length + 4) c) (some (.int .i64 4)) none none).run Tryz.prog w = .ok (.slice A2 l.length (c - 4)) w := HS.out
  go_enter Tryz.func77, Tryz.ntmps77
  go_wp2_with fail
  refine wp_region_rely [none, none, none, none, none, none, some (RC (sealed l)), some (RC ((sealed l).take 4)), none, none, none, none, none] (by kernel_rfl) (by kernel_rfl) ?_
  simp only [Wit]
  iterate 11 apply Exists.intro
  repeat (first | (refine rely_skip rfl ?_; simp only [Act.put, List.setIfInBounds_toArray, List.set_cons_zero, List.set_cons_succ]) | (apply rely_pure; (· rfl); (· intro w hw hd; go_simp; done); simp only [Act.put, List.setIfInBounds_toArray, List.set_cons_zero, List.set_cons_succ]) | (apply rely_pure; (· rfl); (· intro w hw hd; go_simp; exact rfl); simp only [Act.put, List.setIfInBounds_toArray, List.set_cons_zero, List.set_cons_succ]))
  refine rely_rel rfl (RC.stays _) (fun w hw hd => ?_) ?_
  · go_simp
    exact seal_rel (hr2 w hw) (Nat.le_trans hB hw.size) (by omega)
  intro v1
  simp only [Act.put, List.setIfInBounds_toArray, List.set_cons_zero, List.set_cons_succ]
  refine rely_rel rfl (RC.stays _) (fun w hw hd => ?_) ?_
  · have g1 : RC (sealed l) v1 w := hd ⟨6, .data⟩ (by simp) rfl
    obtain ⟨v', e1, e2⟩ := rc_take g1 (k := 4) (by rw [sealed_len]; omega)
    exact relUpon_slice (v := v1) (k := 4) rfl rfl e1 e2
  intro v2
  simp only [Act.put, List.setIfInBounds_toArray, List.set_cons_zero, List.set_cons_succ]
  repeat (first | (refine rely_skip rfl ?_; simp only [Act.put, List.setIfInBounds_toArray, List.set_cons_zero, List.set_cons_succ]) | (apply rely_pure; (· rfl); (· intro w hw hd; go_simp; done); simp only [Act.put, List.setIfInBounds_toArray, List.set_cons_zero, List.set_cons_succ]) | (apply rely_pure; (· rfl); (· intro w hw hd; go_simp; exact rfl); simp only [Act.put, List.setIfInBounds_toArray, List.set_cons_zero, List.set_cons_succ]))
  apply rely_pure
  · rfl
  · intro w hw hd
    obtain ⟨A3, c3, hv, g1, _⟩ : RC ((sealed l).take 4) v2 w := hd ⟨7, .data⟩ (by simp) rfl
    rw [E4.out] at hv g1
    clear hd
    subst hv
    go_simp
    exact equal_calls w w.heap.size B A3 A 4 c3 c _ g1 (hr3 w hw) (Nat.le_refl _) (Nat.le_trans hB hw.size) (by omega)
  simp only [Act.put, List.setIfInBounds_toArray, List.set_cons_zero, List.set_cons_succ]
  repeat (first | (refine rely_skip rfl ?_; simp only [Act.put, List.setIfInBounds_toArray, List.set_cons_zero, List.set_cons_succ]) | (apply rely_pure; (· rfl); (· intro w hw hd; go_simp; done); simp only [Act.put, List.setIfInBounds_toArray, List.set_cons_zero, List.set_cons_succ]) | (apply rely_pure; (· rfl); (· intro w hw hd; go_simp; exact rfl); simp only [Act.put, List.setIfInBounds_toArray, List.set_cons_zero, List.set_cons_succ]))
  refine rely_nil ?_
  intro w5 hw5
  have he5 := hw5.1
  clear hw5
  go_wp2_with fail
  refine (clone_calls w5 B A2 l.length (c - 4) l (hr2 w5 he5) (Nat.le_trans hB he5.size) (by omega) (fun h => ?_)).mono ?_
  · have := hr.none_len (HA.out h)
    omega
  rintro e w6 ⟨A6, c6, rfl, ho, he6⟩
  go_wp2_with fail
  go_ret2
  exact ⟨A6, c6, rfl, own_more ho he5.size, he5.trans he6⟩

end Go.Proofs.YtiglblfjmmdeeaaGreat
