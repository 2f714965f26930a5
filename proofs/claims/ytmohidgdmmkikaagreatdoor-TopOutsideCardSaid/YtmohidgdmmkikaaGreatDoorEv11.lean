/- The evaluator: each operation that makes a block does what it tells. -/
import Derived.Test.YtmohidgdmmkikaaGreatDoorEv10
namespace Go.Proofs.YtmohidgdmmkikaaGreatDoor
open Go.RowKit
namespace Ev

theorem flat_get (l : List Value) : ∀ (n i : Nat), i < n * l.length → (List.replicate n l).flatten[i]? = l[i % l.length]?
  | 0, i, h => by simp at h
  | n + 1, i, h => by
    rw [List.replicate_succ, List.flatten_cons]
    by_cases hi : i < l.length
    · rw [List.getElem?_append_left hi, Nat.mod_eq_of_lt hi]
    · have h2 : l.length ≤ i := Nat.le_of_not_lt hi
      rw [List.getElem?_append_right h2, flat_get l n (i - l.length) (by rw [Nat.succ_mul] at h; omega), ← Nat.mod_eq_sub_mod h2]
theorem flat_len (l : List Value) (n : Nat) : (List.replicate n l).flatten.length = n * l.length := by
  induction n with
  | zero => simp
  | succ n ih => rw [List.replicate_succ, List.flatten_cons, List.length_append, ih, Nat.succ_mul]; omega
theorem zero_row (z : Array Value) (n size : Nat) (h : z.size = size) : ((Array.range (n * size)).map fun i => z[i % z.size]!).toList = (List.replicate n z.toList).flatten := by
  apply List.ext_getElem?
  intro i
  by_cases hi : i < n * size
  · have hz : 0 < z.size := by
      rcases Nat.eq_zero_or_pos z.size with h0 | h0
      · rw [← h, h0] at hi; simp at hi
      · exact h0
    rw [flat_get z.toList n i (by simpa [h] using hi)]
    have hm : i % z.size < z.size := Nat.mod_lt _ hz
    simp [hi, hm]
  · rw [List.getElem?_eq_none (by simp; omega), List.getElem?_eq_none (by rw [flat_len]; simp [h]; omega)]
theorem zero_row0 (n size : Nat) (h : n * size = 0) (l : List Value) (hl : l.length = size) : (List.replicate n l).flatten = [] := by
  apply List.length_eq_zero_iff.1
  rw [flat_len, hl, h]

theorem nat48 (b m : Nat) (h : b * m ≤ 281474976710656) : (b : Int) * (Int.ofNat m) ≤ 281474976710656 := by
  rw [Int.ofNat_eq_natCast, ← Int.natCast_mul]
  omega
theorem nat63' (m : Nat) (h : m ≤ 1048576) : Int.ofNat m ≤ 9223372036854775807 := by
  rw [Int.ofNat_eq_natCast]; omega
section
variable {P : Program} {ns : Nat}
theorem mk_row {s : Sem Value} {w : World} {c' : Array Value} {e e' : TypeId} {cs : List Value} {f : Nat → Value} {g : Nat → Value} {σ : Sig} (hrun : s.run P w = .ok (f w.heap.size) { w with heap := w.heap.push (.cells c' e') }) (hr : VRs σ cs c'.toList)
    (hg : ∀ (σ' : Sig) (b r nn zz : Nat), σ' b = some ⟨r, 0, nn, zz⟩ → VR σ' (g b) (f r)) :
    ∃ v' ob w1 L, s.run P w = .ok v' w1 ∧ NewW w w1 ob ∧ L.r = w.heap.size ∧ ObjR P σ (.row cs e) L w1 ∧ ∀ (σ' : Sig) (b : Nat), σ' b = some L → VR σ' (g b) v' :=
  ⟨_, _, _, _, hrun, newW_push w _, rfl, row_new' hr (newW_push w _), fun σ' b hb => hg σ' b _ _ _ hb⟩
theorem val_of2 {s : Sem Value} {v' : Value} {w w1 : World} (h : s.run P w = .ok v' w1) : (do pure (Next.value (← s)) : Sem Next).run P w = .ok (.value v') w1 := by
  simp only [Sem.run_bind, h, Result.andThen_ok, Sem.run_pure]
theorem lift_mk {o : Oper} {ρ : Operand → Value} {s : Sem Value} {w : World} {σ : Sig} {p : AObj} {g : Nat → Value} (he : execOp ρ o = (do pure (Next.value (← s)))) (h : ∃ v' ob w1 L, s.run P w = .ok v' w1 ∧ NewW w w1 ob ∧ L.r = w.heap.size ∧ ObjR P σ p L w1 ∧ ∀ (σ' : Sig) (b : Nat), σ' b = some L → VR σ' (g b) v') :
    ∃ v' ob w1 L, (execOp ρ o).run P w = .ok (.value v') w1 ∧ NewW w w1 ob ∧ L.r = w.heap.size ∧ ObjR P σ p L w1 ∧ ∀ (σ' : Sig) (b : Nat), σ' b = some L → VR σ' (g b) v' := by
  obtain ⟨v', ob, w1, L, h1, h2⟩ := h
  exact ⟨v', ob, w1, L, by rw [he]; exact val_of2 h1, h2⟩
theorem ptr_new (σ' : Sig) (b r nn zz : Nat) (h : σ' b = some ⟨r, 0, nn, zz⟩) : VR σ' (aptr b 0) (.pointer (some ⟨r, 0, none⟩)) := by
  have := VR.ptr (σ := σ') 0 h
  simpa [aptr] using this
theorem slc_new (n m : Nat) (σ' : Sig) (b r nn zz : Nat) (h : σ' b = some ⟨r, 0, nn, zz⟩) : VR σ' (aslc b 0 n (2 * m + 1)) (.slice (some ⟨r, 0, none⟩) n m) := by
  have := VR.slc (σ := σ') 0 n (2 * m + 1) m h (by omega) (by omega) (by omega)
  simpa [aslc] using this
theorem ci_mk {o : Oper} {f : TM → Option (AObj × (Nat → Value))} (h : ci P ns o = some (.mk f)) : MkOk P ns o f := by
  unfold ci at h
  cases ho : o.op <;> rw [ho] at h <;> simp only [reduceCtorEq, Option.some.injEq, CI.mk.injEq] at h
  case alloc t =>
    split at h
    · rename_i z hz
      injection h with h
      injection h with h
      subst h
      intro w σ tm ρ p g hE hv
      injection hv with hv
      injection hv with h1 h2
      subst h1
      subst h2
      obtain ⟨_, _, _, hzc⟩ := zeroT_info hz
      refine lift_mk (s := Instr.alloc t true (.tuple #[])) (by simp only [execOp, ho]) (mk_row (f := fun r => .pointer (some ⟨r, 0, none⟩)) (c' := z.cells) (e' := t) ?_ (clo1_r σ hzc).cells ptr_new)
      simp only [Instr.alloc, newVar, Go.newRow, Sem.run_bind, zero_run hz, Result.andThen_ok, run_newObj, Sem.run_pure]
    · cases h
  case box t x =>
    subst h
    intro w σ tm ρ p g hE hv
    injection hv with hv
    injection hv with h1 h2
    subst h1
    subst h2
    refine lift_mk (s := Instr.box t (ρ x)) (by simp only [execOp, ho]) (mk_row (f := fun r => .pointer (some ⟨r, 0, none⟩)) (c' := (ρ x).cells) (e' := t) ?_ (hE x (by rw [ho]; simp [Op.operands])).cells ptr_new)
    simp only [Instr.box, newVar, Go.newRow, Sem.run_bind, Result.andThen_ok, run_newObj, Sem.run_pure]
  case build t ps =>
    unfold ciBuild at h
    split at h
    · split at h <;> simp at h
    · split at h <;> simp at h
    · cases h
  case buildSlice t len ps =>
    unfold ciBuildSlice at h
    split at h
    · rename_i elem hd
      split at h
      · rename_i size z hs hz
        obtain ⟨hc, h⟩ := cond_ok h
        rw [Bool.and_eq_true] at hc
        have hc1 := Nat.le_of_ble_eq_true hc.1
        have hc2 := Nat.eq_of_beq_eq_true hc.2
        injection h with h
        injection h with h
        subst h
        intro w σ tm ρ p g hE hv
        unfold mkSlice at hv
        split at hv
        · rename_i cs hcs
          injection hv with hv
          injection hv with h1 h2
          subst h1
          subst h2
          obtain ⟨i, hi, hzi, hzc⟩ := zeroT_info hz
          have hd' : P.underlying t = some (.slice elem) := hd
          have hzs : z.cells.size = size := by rw [← hc2, cellsL_eq]; simp
          have hzr : VRs σ (cellsL z) z.cells.toList := (clo1_r σ hzc).cells
          obtain ⟨zz, hzz, hzrun⟩ : ∃ zz : Array Value, zz.size = (if len * size = 0 then 0 else size) ∧ ∀ w, ((if len * size = 0 then pure #[] else do pure (← zeroValue elem).cells : Sem (Array Value))).run P w = .ok zz w ∧ ((Array.range (len * size)).map fun i => zz[i % zz.size]!).toList = (List.replicate len z.cells.toList).flatten := by
            by_cases h0 : len * size = 0
            · refine ⟨#[], by simp [h0], fun w => ?_⟩
              rw [if_pos h0]
              refine ⟨rfl, ?_⟩
              rw [zero_row0 len size h0 _ (by simpa using hzs)]
              simp [h0]
            · refine ⟨z.cells, by rw [if_neg h0, hzs], fun w => ?_⟩
              rw [if_neg h0]
              exact ⟨by simp only [Sem.run_bind, zero_run hz, Result.andThen_ok, Sem.run_pure], zero_row _ _ _ hzs⟩
          obtain ⟨er, h3, h4⟩ := fill_r (ρ := ρ) ps.toList _ ((Array.range (len * size)).map fun i => zz[i % zz.size]!) cs (fun q hq => hE q.2 (by rw [ho]; simp only [Op.operands]; exact List.mem_toArray.2 (List.mem_map.2 ⟨q, hq, rfl⟩))) (by rw [(hzrun w).2]; exact hzr.flatten) hcs
          refine lift_mk (s := Instr.buildSlice t len (ps.map fun q => (q.1, ρ q.2))) (by simp only [execOp, ho]) (mk_row (f := fun r => .slice (some ⟨r, 0, none⟩) len len) (c' := er) (e' := elem) ?_ h4 (slc_new len len))
          have hfill : Instr.fill (fun i => some (i * size, size)) ((Array.range (len * size)).map fun i => zz[i % zz.size]!) (ps.map fun q => (q.1, ρ q.2)).toList = some er := by rw [← h3]; simp
          have hlim : ¬ len * size > 2 ^ 24 := by omega
          have h9 := (hzrun w).1
          unfold Instr.buildSlice
          simp only [Sem.run_bind, run_underlying hd', Result.andThen_ok, sizeOf_run hs]
          rw [if_neg hlim]
          by_cases h0 : len * size = 0
          · rw [if_pos h0] at h9 ⊢
            injection h9 with h9
            subst h9
            simp only [Sem.run_bind, Sem.run_pure, Result.andThen_ok]
            rw [hfill]
            simp only [Sem.run_bind, Go.newRow, run_newObj, Result.andThen_ok, Sem.run_pure]
          · rw [if_neg h0] at h9 ⊢
            simp only [Sem.run_bind, zero_run hz, Result.andThen_ok, Sem.run_pure, Result.ok.injEq, and_true] at h9
            subst h9
            simp only [Sem.run_bind, zero_run hz, Result.andThen_ok, Sem.run_pure]
            rw [hfill]
            simp only [Sem.run_bind, Go.newRow, run_newObj, Result.andThen_ok, Sem.run_pure]
        · cases hv
      · cases h
    · cases h
  case load t a => split at h <;> simp at h
  case store t a x => split at h <;> simp at h
  case binOp op t x y yt =>
    unfold ciBin at h
    split at h
    · cases h
    · cases h
    · split at h <;> cases h
    · cases h
  case unOp op t x => split at h <;> cases h
  case convert src dst x =>
    split at h
    · rename_i e h1 h2
      split at h
      · rename_i h3
        split at h
        rotate_left
        · cases h
        rename_i hs1
        injection h with h
        injection h with h
        subst h
        intro w σ tm ρ p g hE hv
        unfold mkBytes at hv
        split at hv
        · rename_i s hx
          have hu := hE x (by rw [ho]; simp [Op.operands])
          rw [hx] at hu
          injection hv with hv
          injection hv with h4 h5
          subst h4
          subst h5
          have h1' : P.underlying src = some .string := h1
          have h2' : P.underlying dst = some (.slice e) := h2
          have h3' : P.underlying e = some (.int .u8) := h3
          have hrun := run_bytes_of_string (P := P) w src dst e s h1' h2' h3'
          have hcap : s.size ≤ grownCap w s.size 0 e := by unfold grownCap; simp [Question.cut]
          have hsz : (bytesRow s (grownCap w s.size 0 e)).size = grownCap w s.size 0 e := by
            unfold bytesRow
            simp
            omega
          refine lift_mk (s := convert src dst (.string s)) (by simp only [execOp, ho, hu.str_inv]) ⟨_, _, _, _, hrun, ⟨rfl, rfl, rfl, rfl⟩, rfl, row_new ?_ (.inr ?_) (e' := e) (fr := ((bytesRow s (grownCap w s.size 0 e)).size, (bytesRow s (grownCap w s.size 0 e)).size + 1)) (c' := bytesRow s (grownCap w s.size 0 e)) ⟨rfl, rfl, rfl, rfl⟩, fun σ' b hb => ?_⟩
          · have : (bytesRow s (grownCap w s.size 0 e)).toList.take (s.data.toList.map fun b => Value.int .u8 b.toNat).length = s.data.toList.map fun b => Value.int .u8 b.toNat := by
              unfold bytesRow
              rw [Array.toList_append, List.take_append_of_le_length (by simp)]
              simp only [Array.toList_map]
              exact List.take_of_length_le (Nat.le_refl _)
            rw [this]
            refine clo0_rs σ ?_
            rw [List.all_eq_true]
            intro q hq
            obtain ⟨b, _, rfl⟩ := List.mem_map.1 hq
            rfl
          · exact Nat.le_refl _
          · have := VR.slc (σ := σ') 0 s.size (2 * s.size) (grownCap w s.size 0 e) hb (by omega) (by omega) (fun _ => by
              rw [hs1, hsz]
              simp)
            rw [← ba_len]
            simpa [aslc] using this
        · cases hv
      · cases h
    · split at h <;> simp at h
    · cases h
    · cases h
    · cases h
  case makeInterface t x => split at h <;> cases h
  case makeMap t r =>
    split at h
    · injection h with h
      injection h with h
      subst h
      intro w σ tm ρ p g hE hv
      injection hv with hv
      injection hv with h4 h5
      subst h4
      subst h5
      refine lift_mk (s := Instr.makeMap t none) (by simp only [execOp, ho]; rfl) ⟨.map (some w.heap.size), _, _, ⟨w.heap.size, 0, 0, 0⟩, rfl, newW_push w _, rfl, ⟨rfl, #[], (newW_push w _).new, .nil⟩, fun σ' b hb => .map hb⟩
    · rename_i x
      split at h
      · rename_i kt et hd
        injection h with h
        injection h with h
        subst h
        intro w σ tm ρ p g hE hv
        unfold mkMapN at hv
        split at hv
        · rename_i k n hx
          have hu := hE x (by rw [ho]; simp [Op.operands])
          rw [hx] at hu
          injection hv with hv
          injection hv with h4 h5
          subst h4
          subst h5
          have hd' : P.underlying t = some (.map kt et) := hd
          refine lift_mk (s := Instr.makeMap t (some (ρ x))) (by simp only [execOp, ho]; rfl) ⟨.map (some w.heap.size), _, _, ⟨w.heap.size, 0, 0, 0⟩, ?_, newW_push w _, rfl, ⟨rfl, #[], (newW_push w _).new, .nil⟩, fun σ' b hb => .map hb⟩
          rw [hu.int_inv]
          simp only [Instr.makeMap, asInt, asIntOf, Sem.run_bind, run_underlying hd', Result.andThen_ok, Sem.run_pure, run_newObj]
        · cases hv
      · cases h
  case makeSlice t l c =>
    split at h
    · rename_i elem hd
      split at h
      · rename_i size z hs hz
        obtain ⟨bytes, hby, h⟩ : ∃ bytes, bytesT P elem = some bytes ∧ (bif Nat.beq (cellsL z).length size then some (CI.mk (mkMake elem (cellsL z) bytes (co ns l) (co ns c))) else none) = some (CI.mk f) := by
          split at h
          · rename_i bytes hby
            exact ⟨bytes, hby, h⟩
          · cases h
        obtain ⟨hc, h⟩ := cond_ok h
        have hc := Nat.eq_of_beq_eq_true hc
        injection h with h
        injection h with h
        subst h
        intro w σ tm ρ p g hE hv
        unfold mkMake at hv
        split at hv
        · rename_i n m hl hm
          have hu := hE l (by rw [ho]; simp [Op.operands])
          have hu2 := hE c (by rw [ho]; simp [Op.operands])
          rw [hl] at hu
          rw [hm] at hu2
          obtain ⟨hnm, hv⟩ := cond_ok hv
          rw [Bool.and_eq_true, Bool.and_eq_true] at hnm
          have hn1 := Nat.le_of_ble_eq_true hnm.1.1
          have hn2 := Nat.le_of_ble_eq_true hnm.1.2
          have hn3 := Nat.le_of_ble_eq_true hnm.2
          injection hv with hv
          injection hv with h1 h2
          subst h1
          subst h2
          obtain ⟨i, hi, hzi, hzc⟩ := zeroT_info hz
          have hd' : P.underlying t = some (.slice elem) := hd
          obtain ⟨ie, hie, hsz⟩ := sizeT_info hs
          have hzs : z.cells.size = size := by rw [← hc, cellsL_eq]; simp
          have hzr : VRs σ (cellsL z) z.cells.toList := (clo1_r σ hzc).cells
          have hbi : ie.bytes = bytes := by
            unfold bytesT at hby
            rw [hie] at hby
            injection hby
          have hrun := run_make (P := P) w t elem ie z hd' hie (by rw [hi] at hie; injection hie with hie; rw [← hie]; exact hzi) .i64 .i64 (Int.ofNat n) (Int.ofNat m) (Int.natCast_nonneg n) (Int.ofNat_le.2 hn1) (by rw [hbi]; exact nat48 _ _ hn3) (nat63' m hn2)
          refine lift_mk (s := Instr.makeSlice t (ρ l) (ρ c)) (by simp only [execOp, ho]) (mk_row (f := fun r => .slice (some ⟨r, 0, none⟩) n m) (c' := madeCells z.cells (m * size)) (e' := elem) ?_ ?_ (slc_new n m))
          · rw [hu.int_inv, hu2.int_inv, hrun, ← hsz]
            rfl
          · have : (madeCells z.cells (m * size)).toList = (List.replicate m z.cells.toList).flatten := zero_row z.cells m size hzs
            rw [this]
            exact hzr.flatten
        · cases hv
      · cases h
    · cases h
  case slice t x lo hi mx =>
    unfold ciSlice at h
    split at h
    · split at h <;> cases h
    · split at h <;> cases h
    · split at h <;> cases h
    · cases h
  case fieldAddr s x f' =>
    split at h
    · split at h
      · split at h <;> cases h
      · cases h
    · cases h
  case field t x f' =>
    split at h
    · split at h
      · split at h <;> cases h
      · cases h
    · cases h
  case indexAddr t x i =>
    split at h
    · split at h <;> cases h
    · split at h <;> cases h
    · cases h
  case index t x i =>
    split at h
    · split at h <;> cases h
    · cases h
    · cases h
  case lookup t m k ok =>
    split at h
    · split at h <;> cases h
    · cases h
  case mapUpdate t m k x =>
    split at h
    · split at h <;> cases h
    · cases h
  case call c =>
    unfold ciCall at h
    split at h
    · rename_i g _
      cases hb : hasBody P g <;> rw [hb] at h <;> simp at h
    · cases h
    · cases h
    · split at h
      · split at h
        · cases h
        · split at h
          · split at h
            · obtain ⟨_, h⟩ := cond_ok h
              cases h
            · cases h
          · cases h
        · cases h
      · split at h
        · split at h <;> cases h
        · cases h
      · split at h
        · split at h <;> cases h
        · cases h
      · split at h
        · split at h <;> cases h
        · cases h
      · split at h
        · split at h <;> cases h
        · cases h
        · cases h
        · cases h
      · split at h <;> cases h
      · cases h
      · cases h
      · cases h
end
end Ev
end Go.Proofs.YtmohidgdmmkikaaGreatDoor
