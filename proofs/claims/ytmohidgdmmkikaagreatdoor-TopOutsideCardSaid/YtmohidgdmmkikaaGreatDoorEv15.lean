/- The evaluator: append, copy, clear. -/
import Derived.Test.YtmohidgdmmkikaaGreatDoorEv14
import Derived.Laws.AppendOwn
namespace Go.Proofs.YtmohidgdmmkikaaGreatDoor
open Go.RowKit
namespace Ev

/-- What is said of an outcome holds of a run that yields a value. -/
def ValOk (P : Program) (w0 : World) (σ : Sig) (A : AW) (X : Nat → Option AObj) (r : Result Value) : Out → Prop
  | .no => True
  | .val v A' => ∃ σ' v' w', Step σ A σ' A' ∧ St P w0 σ' A' X w' ∧ VR σ' v v' ∧ r = .ok v' w'
  | .ent _ _ _ => False
section
variable {P : Program} {w0 w w1 : World} {σ : Sig} {A A' : AW} {X : Nat → Option AObj} {tm : TM} {v u u2 : Value} {x y : CO} {t elem : TypeId} {b o : Nat}
theorem ValOk.lift {s : Sem Value} {r : Out} (h : ValOk P w0 σ A X (s.run P w) r) : OutOk P w0 σ A X w ((do pure (Next.value (← s)) : Sem Next).run P w) r := by
  cases r with
  | no => trivial
  | val v A' =>
    obtain ⟨σ', v', w', h1, h2, h3, h4⟩ := h
    exact ⟨σ', v', w', h1, h2, h3, .inl (by simp only [Sem.run_bind, h4, Result.andThen_ok, Sem.run_pure])⟩
  | ent f args A' => exact h.elim
theorem rowCells_zero {size : Nat} {q : Value} {cs : List Value} (hg : rowCells A size q = some cs) (h0 : lenA q = 0) : cs = [] := by
  unfold rowCells at hg
  split at hg
  · injection hg with hg; exact hg.symm
  · rename_i b o n k
    have : n = 0 := h0
    subst this
    unfold cellsAt at hg
    split at hg
    · obtain ⟨_, hg⟩ := cond_ok hg
      injection hg with hg
      rw [← hg]
      simp
    · cases hg
  · rename_i s
    injection hg with hg
    have : s.data.toList.length = 0 := h0
    rw [← hg, List.length_eq_zero_iff.1 this]
    rfl
  · cases hg
theorem take_all {l : List Value} {n : Nat} (h : l.length = n) : l.take n = l := by rw [← h, List.take_length]
/-- Nothing is appended. -/
theorem append_none {st xt ty : TypeId} {dx : TypeDesc} {i : TypeInfo} {base : Option Addr} {sLen sCap : Nat} (hd : P.underlying st = some (.slice elem)) (hx : P.underlying xt = some dx) (hni : ∀ k, dx ≠ .int k) (hi : P.info? elem = some i) (hl : (Builtin.lenOf u).run P w = .ok 0 w)
    (hf : (Builtin.firstCells i.size 0 u).run P w = .ok #[] w) (hroom : sLen ≤ sCap) :
    (Builtin.append_ #[st, xt] ty #[.slice base sLen sCap, u]).run P w = .ok (.slice base sLen sCap) w := by
  have hz : (match dx with | .int _ => true | _ => false) = false := by cases dx <;> first | rfl | exact (hni _ rfl).elim
  cases base <;> simp [Builtin.append_, run_underlying hd, run_underlying hx, sizeOf, typeInfo, hi, hz, hl, hroom, hf, storeCells]
theorem VR.slice_inv {a : Option Addr} {n k : Nat} (h : VR σ (.slice a n k) u) : ∃ base c, u = .slice base n c ∧ k / 2 ≤ c := by
  cases h with
  | clo h => exact ⟨_, _, rfl, by omega⟩
  | slc o n k c h h1 h2 h3 => exact ⟨_, _, rfl, h2⟩
  | slc0 o o' k c h h1 h2 h3 => exact ⟨_, _, rfl, by omega⟩
theorem bytesT_info {n : Nat} (h : bytesT P t = some n) : ∃ i, P.info? t = some i ∧ i.bytes = n := by
  unfold bytesT at h
  cases hi : P.info? t with
  | none => rw [hi] at h; simp at h
  | some i => rw [hi] at h; simp at h; exact ⟨i, rfl, h⟩
theorem sim_append {st xt ty : TypeId} {dx : TypeDesc} {size bytes : Nat} {z : Value} (h : St P w0 σ A X w) (hd : P.underlying st = some (.slice elem)) (hx : P.underlying xt = some dx) (hni : ∀ k, dx ≠ .int k) (hs : sizeT P elem = some size) (hz : zeroT P elem = some z) (hb : bytesT P elem = some bytes) (hb2 : bytes ≤ 1000001)
    (hzs : (cellsL z).length = size) (hu : VR σ (x.ev tm) u) (hu2 : VR σ (y.ev tm) u2) : ValOk P w0 σ A X ((Builtin.append_ #[st, xt] ty #[u, u2]).run P w) (acAppend elem size x y tm A) := by
  obtain ⟨i, hi, hisz⟩ := sizeT_info hs
  obtain ⟨i2, hi2, hib⟩ := bytesT_info hb
  rw [hi] at hi2
  cases hi2
  obtain ⟨i3, hi3, hz0, hzc⟩ := zeroT_info hz
  rw [hi] at hi3
  cases hi3
  have hzsz : z.cells.size = size := by rw [← hzs, cellsL_eq]; simp
  unfold acAppend
  split
  · trivial
  · rename_i new hnew
    split
    · rename_i h0
      obtain rfl := rowCells_zero hnew h0
      obtain ⟨cs', k1, k2, k3⟩ := rowCells_r (P := P) h hu2 hnew (by rw [h0]; simp)
      cases k1
      split
      · rename_i a n k he
        cases hle : Nat.ble n (k / 2)
        · trivial
        · have hle := Nat.le_of_ble_eq_true hle
          simp only [cond_true]
          rw [he] at hu
          obtain ⟨base, c, rfl, hc⟩ := hu.slice_inv
          rw [h0] at k2
          have k4 := k3 0 (Nat.zero_le _)
          exact ⟨σ, _, w, Step.refl σ A, h, hu, append_none hd hx hni hi k2 (by rw [hisz]; simpa using k4) (by omega)⟩
      · trivial
    · rename_i m hm
      cases hcc : (new.all atomB && Nat.ble m bigN && Nat.beq new.length ((m + 1) * size))
      · trivial
      · simp only [cond_true]
        simp only [Bool.and_eq_true] at hcc
        obtain ⟨⟨hat, hmb⟩, hnl⟩ := hcc
        have hmb := Nat.le_of_ble_eq_true hmb
        have hnl := Nat.eq_of_beq_eq_true hnl
        obtain ⟨cs', k1, k2, k3⟩ := rowCells_r (P := P) h hu2 hnew (by rw [hm]; exact hnl)
        obtain ⟨cs2, l1, l2, l3⟩ := rowCells_r (P := P) h.drew hu2 hnew (by rw [hm]; exact hnl)
        have hcl : cs'.length = (m + 1) * size := by rw [← k1.len]; exact hnl
        have hcl2 : cs2.length = (m + 1) * size := by rw [← l1.len]; exact hnl
        have k4 := k3 (m + 1) (by rw [hm]; exact Nat.le_refl _)
        have l4 := l3 (m + 1) (by rw [hm]; exact Nat.le_refl _)
        rw [take_all hcl] at k4
        rw [take_all hcl2] at l4
        rw [hm] at k2
        rw [← hisz] at k4 l4
        have hmb' : m ≤ 33554432 := hmb
        have fit : ∀ n c, n ≤ 33554432 → c < n + (m + 1) → Builtin.nextslicecap (n + (m + 1)) c * i.bytes ≤ 281474976710656 := fun n c hn hg =>
          growslice_fits hg (Nat.le_trans (Nat.mul_le_mul (show n + (m + 1) ≤ 67108865 by omega) (by rw [hib]; exact hb2)) (by decide))
        unfold appendTo
        split
        · rename_i he
          rw [he] at hu
          obtain rfl := clo0_eq rfl hu
          generalize hr : Ev.newRow elem (fun b => aslc b 0 (m + 1) (2 * (m + 1))) new A = r
          rcases newRow_ok hr with rfl | ⟨b, A', hn, rfl⟩
          · trivial
          · have hrun := append_grow (P := P) (w := w) (u := u2) (base := none) (sLen := 0) (sCap := 0) (m := m + 1) (old := #[]) (ty := ty) hd hx hni hi hz0 k2 l4 (by simp [Builtin.firstCells]) (by omega) (by omega) (fit 0 0 (by omega) (by omega))
            obtain ⟨σ', s1, s2, s3⟩ := grow_new h (cap := grownCap w (0 + (m + 1)) 0 elem) hs hzsz l1 hnl (by have := grownCap_ge w (0 + (m + 1)) 0 elem; omega) hn
            refine ⟨σ', _, _, s1, s2, s3, ?_⟩
            rw [hrun]
            simp
        · rename_i b o n k he
          rw [he] at hu
          obtain ⟨r, s, nn, zz, o', c, hbl, rfl, hex, hleast, ho, hroom⟩ := hu.slc_inv
          cases hle : Nat.ble (n + (m + 1)) (k / 2)
          · simp only [cond_false]
            cases hc2 : (Nat.ble n bigN && Nat.ble k bigN && elemOk A b elem k)
            · trivial
            · simp only [cond_true]
              simp only [Bool.and_eq_true] at hc2
              obtain ⟨⟨hnb, hkb⟩, hel⟩ := hc2
              have hnb' : n ≤ 33554432 := Nat.le_of_ble_eq_true hnb
              have hlt : k / 2 < n + (m + 1) := by
                rcases Nat.lt_or_ge (k / 2) (n + (m + 1)) with q | q
                · exact q
                · rw [Nat.ble_eq_true_of_le q] at hle; cases hle
              split
              · rename_i old hold
                obtain ⟨old', q1, q2, q3⟩ := rowCells_r (P := P) h.drew hu (cs := old) (size := size) (by exact hold) (by
                  unfold cellsAt at hold
                  split at hold
                  · obtain ⟨hb3, hold⟩ := cond_ok hold
                    have hb3 := Nat.le_of_ble_eq_true hb3
                    injection hold with hold
                    rw [← hold]
                    show _ = n * size
                    simp
                    omega
                  · cases hold)
                have holdlen : old.length = n * size := by
                  unfold cellsAt at hold
                  split at hold
                  · obtain ⟨hb3, hold⟩ := cond_ok hold
                    have hb3 := Nat.le_of_ble_eq_true hb3
                    injection hold with hold
                    rw [← hold]
                    simp
                    omega
                  · cases hold
                have q4 := q3 n (Nat.le_refl _)
                rw [take_all (by rw [← q1.len]; exact holdlen), ← hisz] at q4
                have hlen2 : (old ++ new).length = (n + (m + 1)) * size := by rw [List.length_append, holdlen, hnl, ← Nat.add_mul]
                have grow : ∀ A1 : AW, St P w0 σ A1 X w → Step σ A σ A1 → c < n + (m + 1) → ∀ q, Ev.newRow elem (fun b => aslc b 0 (n + (m + 1)) (2 * (n + (m + 1)))) (old ++ new) A1 = q → ValOk P w0 σ A X ((Builtin.append_ #[st, xt] ty #[.slice (some ⟨r, o', none⟩) n c, u2]).run P w) q := by
                  intro A1 hA1 hst hcap q hq
                  rcases newRow_ok hq with rfl | ⟨b, A', hn, rfl⟩
                  · trivial
                  · have hrun := append_grow (P := P) (w := w) (u := u2) (base := some ⟨r, o', none⟩) (sLen := n) (sCap := c) (m := m + 1) (ty := ty) hd hx hni hi hz0 k2 l4 q4 hcap (by omega) (fit n c hnb' hcap)
                    obtain ⟨σ', s1, s2, s3⟩ := grow_new hA1 (cap := grownCap w (n + (m + 1)) c elem) hs hzsz (q1.append l1) hlen2 (grownCap_ge w (n + (m + 1)) c elem) hn
                    refine ⟨σ', _, _, hst.trans s1, s2, s3, ?_⟩
                    rw [hrun]
                    simp
                cases hpar : Nat.beq (k % 2) 1
                · simp only [cond_false]
                  have hkp : k % 2 = 0 := by
                    have : k % 2 ≠ 1 := fun e => by rw [e] at hpar; cases hpar
                    omega
                  have hbn : b < most := Nat.lt_trans (h.dom _ _ hbl) h.bound
                  by_cases hcap : c < n + (m + 1)
                  · exact grow _ (h.kill hbn) ⟨Sig.le_refl σ, by rw [upd_next]; exact Nat.le_refl _, fun _ _ => rfl⟩ hcap _ rfl
                  · generalize hq : Ev.newRow elem (fun b => aslc b 0 (n + (m + 1)) (2 * (n + (m + 1)))) (old ++ new) (A.upd b none) = q
                    rcases newRow_ok hq with rfl | ⟨b2, A', hn, rfl⟩
                    · trivial
                    · have hel' : ∃ c0, A.get b = some (.row c0 elem) := by
                        unfold elemOk at hel
                        rw [hpar] at hel
                        simp only [cond_false] at hel
                        split at hel
                        · rename_i c0 e0 hg
                          have := Nat.eq_of_beq_eq_true hel
                          subst this
                          exact ⟨c0, hg⟩
                        · cases hel
                      obtain ⟨c0, hg⟩ := hel'
                      obtain ⟨c', e', fr, hr⟩ := h.row hbl hg
                      have hzz : zz = size := hr.elem size hs
                      have hroom' := hroom hkp
                      rw [hzz] at hroom'
                      have hmul : (n + (m + 1)) * size ≤ c * size := Nat.mul_le_mul_right _ (by omega)
                      have hsplit : (n + (m + 1)) * size = n * size + (m + 1) * size := Nat.add_mul _ _ _
                      have hnn : c'.size = nn := hr.size
                      obtain ⟨hT, hS⟩ := h.take (o' := o') (off := o' + n * size) (vs := cs') (cs := old ++ new) (e := elem) hbl hg hn (fun z hz => hr.elem z hz) (by rw [hcl]; omega) (by rw [hlen2]; omega) (fun c2 hc2 j v hj => by
                        obtain ⟨e2, fr2, hc2⟩ := hc2
                        have hheap : w.heap[r]? = some (.cells c' e' fr) := hr.heap
                        rw [hheap] at hc2
                        injection hc2 with hc2
                        injection hc2 with hc2 _ _
                        subst hc2
                        rw [over_get (by simp only [Array.length_toList]; rw [hnn, hcl]; omega)]
                        by_cases hjn : j < n * size
                        · rw [if_pos (by omega)]
                          rw [List.getElem?_append_left (by rw [holdlen]; exact hjn)] at hj
                          have hval := hr.val
                          unfold cellsAt at hold
                          rw [hg] at hold
                          obtain ⟨hb3, hold⟩ := cond_ok hold
                          injection hold with hold
                          rw [← hold, List.getElem?_take_of_lt hjn, List.getElem?_drop] at hj
                          obtain ⟨v', t1, t2⟩ := hval _ v hj
                          have ho' : o' = s + o := by
                            rcases ho with ⟨h4, _⟩ | h4
                            · subst h4; simp at hjn
                            · exact h4
                          refine ⟨v', ?_, t2⟩
                          have t1 : c'[s + (o + j)]? = some v' := t1
                          rw [show o' + j = s + (o + j) by omega]
                          simpa using t1
                        · have hj2 : j < (old ++ new).length := (List.getElem?_eq_some_iff.1 hj).1
                          rw [hlen2] at hj2
                          rw [if_neg (by omega), if_pos (by rw [hcl]; omega)]
                          rw [List.getElem?_append_right (by rw [holdlen]; omega), holdlen] at hj
                          obtain ⟨v', t1, t2⟩ := k1.get hj
                          refine ⟨v', ?_, t2⟩
                          rw [show o' + j - (o' + n * size) = j - n * size by omega]
                          exact t1)
                      refine ⟨_, _, _, hS, hT, ?_, append_room hd hx hni hi k2 k4 (by omega) ?_⟩
                      · have := VR.slc (σ := σ.ext b2 ⟨r, o', nn, zz⟩) 0 (n + (m + 1)) (2 * (n + (m + 1))) c (Sig.ext_at _ _ _) (by omega) (by omega) (fun _ => by rw [hzz]; omega)
                        simpa [aslc] using this
                      · have ha' : cs'.all atomB = true := by rw [← VRs.all (fun _ _ h => VR.atom h) k1]; exact hat
                        have := store_run (P := P) (w := w) (L := ⟨r, o', nn, zz⟩) (o := o' + n * size) (vs := cs') (c'_ := c') ⟨e', fr, hr.heap, hr.size, hr.free⟩ (by show o' + n * size + cs'.length ≤ nn; rw [hcl]; omega) ha'
                        rw [hisz, addr_add]
                        exact this
                · simp only [cond_true]
                  have hk1 : k % 2 = 1 := Nat.eq_of_beq_eq_true hpar
                  exact grow A h (Step.refl σ A) (by rw [hex hk1]; exact hlt) _ rfl
              · trivial
          · simp only [cond_true]
            have hle := Nat.le_of_ble_eq_true hle
            cases hw : Ev.wr A b (o + n * size) new with
            | none => trivial
            | some A' =>
              rw [valA_some]
              obtain ⟨w', s1, s2, s3⟩ := h.wr hbl hw k1
              have ho' : o' = s + o := by
                rcases ho with ⟨h4, h5⟩ | h4
                · omega
                · exact h4
              subst ho'
              refine ⟨σ, _, w', s3, s2, .slc o (n + (m + 1)) k c hbl hex hleast hroom, append_room hd hx hni hi k2 k4 (by omega) ?_⟩
              rw [hisz, addr_add, Nat.add_assoc]
              exact s1
        · trivial

/- Copy, clear. -/
theorem sim_copy {st ty : TypeId} {size : Nat} {ats : Array TypeId} (hat : ats[0]? = some st) (h : St P w0 σ A X w) (hd : P.underlying st = some (.slice elem)) (hs : sizeT P elem = some size) (hu : VR σ (x.ev tm) u) (hu2 : VR σ (y.ev tm) u2) : ValOk P w0 σ A X ((Builtin.copy_ ats ty #[u, u2]).run P w) (acCopy size x y tm A) := by
  unfold acCopy
  split
  · rename_i b o n k cs he hcs
    cases hcc : Nat.beq cs.length (lenA (y.ev tm) * size)
    · trivial
    · have hnl := Nat.eq_of_beq_eq_true hcc
      simp only [cond_true]
      rw [he] at hu
      obtain ⟨r, s, nn, zz, o', c, hbl, rfl, hex, hleast, ho, hroom⟩ := hu.slc_inv
      obtain ⟨cs', k1, k2, k3⟩ := rowCells_r (P := P) h hu2 hcs hnl
      have k4 := k3 (Nat.min (lenA (y.ev tm)) n) (Nat.min_le_left _ _)
      cases hw : Ev.wr A b o (cs.take (Nat.min (lenA (y.ev tm)) n * size)) with
      | none => trivial
      | some A' =>
        rw [valA_some]
        obtain ⟨w', s1, s2, s3⟩ := h.wr hbl hw (k1.take _)
        refine ⟨σ, _, w', s3, s2, .clo rfl, ?_⟩
        have s1' : (storeCells ⟨r, o', none⟩ (cs'.take (Nat.min (lenA (y.ev tm)) n * size))).run P w = .ok () w' := by
          rcases ho with ⟨h4, h5⟩ | h4
          · subst h4
            have hm : Nat.min (lenA (y.ev tm)) 0 * size = 0 := by simp
            rw [hm] at s1 ⊢
            exact s1
          · rw [h4]; exact s1
        simp [Builtin.copy_, hat, run_underlying hd, k2, sizeOf_run hs, Result.andThen, k4, s1', goInt]
  · trivial
theorem zeroCells_list {z : Value} {n : Nat} : (Builtin.zeroCells z.cells n).toList = (List.replicate n z.cells.toList).flatten := zero_row z.cells n z.cells.size rfl
theorem sim_clear {st ty : TypeId} {z : Value} (h : St P w0 σ A X w) (hd : P.underlying st = some (.slice elem)) (hz : zeroT P elem = some z) (hu : VR σ (x.ev tm) u) : ValOk P w0 σ A X ((Builtin.clear_ #[st] ty #[u]).run P w) (acClear (cellsL z) x tm A) := by
  obtain ⟨i3, hi3, hz0, hzc⟩ := zeroT_info hz
  unfold acClear
  split
  · rename_i a k he
    rw [he] at hu
    obtain ⟨base, c, rfl, _⟩ := hu.slice_inv
    refine ⟨σ, _, w, Step.refl σ A, h, .tuple .nil, ?_⟩
    cases base <;> simp [Builtin.clear_, run_underlying hd]
  · rename_i b o n k hne he
    rw [he] at hu
    obtain ⟨r, s, nn, zz, o', c, hbl, rfl, hex, hleast, ho, hroom⟩ := hu.slc_inv
    have hn0 : n ≠ 0 := fun e => by subst e; first | exact hne _ _ he | exact hne _ _ rfl | exact (hne rfl).elim | simp at hne
    have ho' : o' = s + o := by
      rcases ho with ⟨h4, _⟩ | h4
      · exact absurd h4 hn0
      · exact h4
    subst ho'
    cases hw : Ev.wr A b o ((List.replicate n (cellsL z)).flatten) with
    | none => trivial
    | some A' =>
      rw [valA_some]
      obtain ⟨w', s1, s2, s3⟩ := h.wr hbl hw ((clo1_r σ hzc).cells.flatten)
      refine ⟨σ, _, w', s3, s2, .tuple .nil, ?_⟩
      have s1' : (storeCells ⟨r, s + o, none⟩ (List.replicate n z.cells.toList).flatten).run P w = .ok () w' := s1
      obtain ⟨m, rfl⟩ := Nat.exists_eq_succ_of_ne_zero hn0
      simp [Builtin.clear_, run_underlying hd, zero_run hz, zeroCells_list, s1']
  · trivial
end
end Ev
end Go.Proofs.YtmohidgdmmkikaaGreatDoor
