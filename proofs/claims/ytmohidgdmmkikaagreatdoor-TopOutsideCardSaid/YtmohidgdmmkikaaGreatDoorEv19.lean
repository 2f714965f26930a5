/- The evaluator: a region that draws its order: what its text tells. -/
import Derived.Test.YtmohidgdmmkikaaGreatDoorEv18
namespace Go.Proofs.YtmohidgdmmkikaaGreatDoor
open Go.RowKit
namespace Ev

/- Who stands behind whom. -/
theorem maskOf_bit (acc : List Nat) (k : Nat) : ∀ (l : List Edge) (s : Nat), (maskOf acc l s).testBit k = true ↔ s.testBit k = true ∨ ∃ e ∈ l, Region.binds .any e = true ∧ (k = e.on ∨ (acc.getD e.on 0).testBit k = true)
  | [], s => by simp [maskOf]
  | e :: l, s => by
    unfold maskOf
    rw [maskOf_bit acc k l]
    cases hb : Region.binds .any e
    · simp [hb]
    · simp only [cond_true, Nat.testBit_or, Bool.or_eq_true, List.mem_cons, exists_eq_or_imp, hb, true_and, Nat.testBit_two_pow, decide_eq_true_eq]
      constructor
      · rintro ((h | h) | h)
        · rcases h with h | h
          · exact .inl h
          · exact .inr (.inl (.inl h.symm))
        · exact .inr (.inl (.inr h))
        · exact .inr (.inr h)
      · rintro (h | (h | h) | h)
        · exact .inl (.inl (.inl h))
        · exact .inl (.inl (.inr h.symm))
        · exact .inl (.inr h)
        · exact .inr h
theorem masks_get : ∀ (l : List Oper) (acc : List Nat), (masks l acc).length = acc.length + l.length ∧ (∀ j, j < acc.length → (masks l acc).getD j 0 = acc.getD j 0) ∧
    ∀ m o, l[m]? = some o → (masks l acc).getD (acc.length + m) 0 = maskOf ((masks l acc).take (acc.length + m)) o.after.toList 0
  | [], acc => ⟨by simp [masks], fun j _ => rfl, fun m o h => by simp at h⟩
  | o :: l, acc => by
    obtain ⟨h1, h2, h3⟩ := masks_get l (acc ++ [maskOf acc o.after.toList 0])
    have hl : (acc ++ [maskOf acc o.after.toList 0]).length = acc.length + 1 := by simp
    rw [hl] at h1 h2 h3
    have hget : ∀ j, j < acc.length → (masks l (acc ++ [maskOf acc o.after.toList 0])).getD j 0 = acc.getD j 0 := fun j hj => by
      rw [h2 j (by omega)]
      simp [List.getD_eq_getElem?_getD, List.getElem?_append_left hj]
    refine ⟨by simp only [masks, List.length_cons]; omega, hget, fun m o' hm => ?_⟩
    simp only [masks]
    cases m with
    | zero =>
      simp at hm
      subst hm
      have htake : (masks l (acc ++ [maskOf acc o.after.toList 0])).take acc.length = acc := by
        apply List.ext_getElem?
        intro j
        by_cases hj : j < acc.length
        · rw [List.getElem?_take_of_lt hj]
          have h4 := hget j hj
          rw [List.getD_eq_getElem?_getD, List.getD_eq_getElem?_getD, List.getElem?_eq_getElem (by omega), List.getElem?_eq_getElem hj] at h4
          simp only [Option.getD_some] at h4
          rw [List.getElem?_eq_getElem (by omega), List.getElem?_eq_getElem hj, h4]
        · rw [List.getElem?_eq_none (by simp; omega), List.getElem?_eq_none (by omega)]
      rw [Nat.add_zero, htake, h2 acc.length (by omega)]
      simp [List.getD_eq_getElem?_getD]
    | succ m =>
      have := h3 m o' (by simpa using hm)
      rw [show acc.length + 1 + m = acc.length + (m + 1) by omega] at this
      exact this
section
variable {ops : List Oper} {ms : List Nat}
theorem order_from (hs : ∀ x, x ∈ (⟨ops⟩ : Array Oper).toList → True) : ∀ (l : List Oper) (i : Nat), orderFrom ⟨ops⟩ ms l i = true → ∀ m o, l[m]? = some o →
    (∀ e ∈ o.after, Region.binds .any e = true → e.on < i + m) ∧ (∀ cs b, o.op ≠ .select cs b) ∧ pairOk ms (looks ⟨ops⟩ o) (i + m) ops 0 = true
  | [], i, _, m, o, hm => by simp at hm
  | o' :: l, i, h, m, o, hm => by
    unfold orderFrom at h
    simp only [Bool.and_eq_true] at h
    obtain ⟨⟨⟨h1, h2⟩, h3⟩, h4⟩ := h
    cases m with
    | zero =>
      simp at hm
      subst hm
      refine ⟨fun e he hb => ?_, fun cs b e => ?_, h3⟩
      · rw [List.all_eq_true] at h1
        have := h1 e (by simpa using he)
        rw [hb] at this
        simp only [Bool.not_true, Bool.false_or] at this
        exact Nat.le_of_ble_eq_true this
      · rw [e] at h2; simp at h2
    | succ m =>
      have := order_from hs l (i + 1) h4 m o (by simpa using hm)
      rw [show i + 1 + m = i + (m + 1) by omega] at this
      exact this
theorem pair_ok {l : List Tmp} {i : Nat} : ∀ (rest : List Oper) (k : Nat), pairOk ms l i rest k = true → ∀ m p d, rest[m]? = some p → p.dst = some d → d ∈ l → k + m = i ∨ (i < k + m ∧ behind ms (k + m) i = true) ∨ (k + m < i ∧ behind ms i (k + m) = true)
  | [], k, _, m, p, d, hm, _, _ => by simp at hm
  | q :: rest, k, h, m, p, d, hm, hd, hl => by
    unfold pairOk at h
    rw [Bool.and_eq_true] at h
    cases m with
    | zero =>
      simp at hm
      subst hm
      have h1 := h.1
      rw [hd] at h1
      have hc : l.contains d = true := by simpa using hl
      simp only [hc, Bool.not_true, Bool.false_or] at h1
      cases hb : Nat.beq i k
      · rw [hb] at h1
        simp only [cond_false] at h1
        have hne : i ≠ k := fun e => by subst e; rw [Nat.beq_refl] at hb; cases hb
        cases hlt : Nat.blt i k
        · rw [hlt] at h1
          have : ¬ i < k := fun hl => by rw [show Nat.blt i k = true from Nat.ble_eq_true_of_le hl] at hlt; cases hlt
          exact .inr (.inr ⟨by omega, h1⟩)
        · rw [hlt] at h1
          have : i < k := Nat.le_of_ble_eq_true hlt
          exact .inr (.inl ⟨this, h1⟩)
      · exact .inl (Nat.eq_of_beq_eq_true hb).symm
    | succ m =>
      have := pair_ok rest (k + 1) h.2 m p d (by simpa using hm) hd hl
      rw [show k + 1 + m = k + (m + 1) by omega] at this
      exact this
structure Ordr (ops : List Oper) (ms : List Nat) : Prop where
  edge : ∀ (i : Nat) (o : Oper) (e : Edge), ops[i]? = some o → e ∈ o.after → Region.binds .any e = true → e.on < i
  sel : ∀ (i : Nat) (o : Oper), ops[i]? = some o → ∀ cs b, o.op ≠ .select cs b
  pair : ∀ (i : Nat) (o : Oper) (k : Nat) (p : Oper) (d : Tmp), ops[i]? = some o → ops[k]? = some p → p.dst = some d → d ∈ looks ⟨ops⟩ o → k = i ∨ (i < k ∧ behind ms k i = true) ∨ (k < i ∧ behind ms i k = true)
  bit : ∀ (i k : Nat), behind ms i k = true ↔ ∃ (o : Oper) (e : Edge), ops[i]? = some o ∧ e ∈ o.after ∧ Region.binds .any e = true ∧ (k = e.on ∨ behind ms e.on k = true)
theorem ord_of (hms : ms = masks ops []) (h : orderOk ⟨ops⟩ ms = true) : Ordr ops ms := by
  have key := fun i o ho => by
    have := order_from (ops := ops) (ms := ms) (fun _ _ => trivial) ops 0 h i o ho
    rwa [Nat.zero_add] at this
  refine ⟨fun i o e ho he hb => (key i o ho).1 e he hb, fun i o ho => (key i o ho).2.1, fun i o k p d ho hp hd hl => ?_, fun i k => ?_⟩
  · have := pair_ok ops 0 (key i o ho).2.2 k p d hp hd hl
    rwa [Nat.zero_add] at this
  · obtain ⟨h1, _, h3⟩ := masks_get ops []
    rw [← hms] at h1 h3
    simp only [List.length_nil, Nat.zero_add] at h1 h3
    unfold behind
    cases ho : ops[i]? with
    | none =>
      have : ms.getD i 0 = 0 := by
        rw [List.getD_eq_getElem?_getD, List.getElem?_eq_none (by rw [h1]; exact List.getElem?_eq_none_iff.1 ho)]
        rfl
      rw [this]
      simp
    | some o =>
      rw [h3 i o ho, maskOf_bit]
      have hin : i < ops.length := (List.getElem?_eq_some_iff.1 ho).1
      have htk : ∀ j, j < i → (ms.take i).getD j 0 = ms.getD j 0 := fun j hj => by
        simp [List.getD_eq_getElem?_getD, List.getElem?_take_of_lt hj]
      constructor
      · rintro (h | ⟨e, he, hb, h⟩)
        · simp at h
        · have he' : e ∈ o.after := by simpa using he
          rw [htk _ ((key i o ho).1 e he' hb)] at h
          exact ⟨o, e, rfl, he', hb, h⟩
      · rintro ⟨o', e, ho', he, hb, h⟩
        cases ho'
        refine .inr ⟨e, by simpa using he, hb, ?_⟩
        rw [htk _ ((key i o ho).1 e he hb)]
        exact h
theorem Ordr.lower (h : Ordr ops ms) : ∀ (i k : Nat), behind ms i k = true → k < i := by
  intro i
  induction i using Nat.strongRecOn with
  | _ i ih =>
    intro k hk
    obtain ⟨o, e, ho, he, hb, hk⟩ := (h.bit i k).1 hk
    have hlt := h.edge i o e ho he hb
    rcases hk with rfl | hk
    · exact hlt
    · have := ih _ hlt k hk
      omega
theorem Ordr.trans (h : Ordr ops ms) : ∀ (i j k : Nat), behind ms i j = true → behind ms j k = true → behind ms i k = true := by
  intro i
  induction i using Nat.strongRecOn with
  | _ i ih =>
    intro j k hj hk
    obtain ⟨o, e, ho, he, hb, hj⟩ := (h.bit i j).1 hj
    refine (h.bit i k).2 ⟨o, e, ho, he, hb, .inr ?_⟩
    rcases hj with rfl | hj
    · exact hk
    · exact ih _ (h.edge i o e ho he hb) j k hj hk
end

/- The text's run. -/
structure Tx (P : Program) (ns : Nat) (call : CallF) (ops : List Oper) (ms : List Nat) (c : Nat) (L : List CR) (s : Nat → DS) : Prop where
  crs : crs P ns ops ops = some L
  step : ∀ i o, L[i]? = some o → dStep call ms c o i (s i) = some (s (i + 1))
  ord : Ordr ops ms
  ms0 : (s 0).Ms = []
  pend0 : (s 0).pend = []
theorem draw_trace {call : CallF} {ms : List Nat} {c : Nat} : ∀ (l : List CR) (i : Nat) (s s' : DS), drawOps call ms c l i s = some s' → ∃ f : Nat → DS, f i = s ∧ f (i + l.length) = s' ∧ ∀ k o, l[k]? = some o → dStep call ms c o (i + k) (f (i + k)) = some (f (i + k + 1))
  | [], i, s, s', h => by
    simp only [drawOps, Option.some.injEq] at h
    subst h
    exact ⟨fun _ => s, rfl, rfl, fun k o hk => by simp at hk⟩
  | o :: l, i, s, s', h => by
    simp only [drawOps] at h
    split at h
    · rename_i s1 h1
      obtain ⟨f, h2, h3, h4⟩ := draw_trace l (i + 1) s1 s' h
      refine ⟨fun m => if m ≤ i then s else f m, by simp, ?_, fun k p hk => ?_⟩
      · simp only [List.length_cons]
        rw [if_neg (by omega), show i + (l.length + 1) = i + 1 + l.length by omega]
        exact h3
      · cases k with
        | zero =>
          simp at hk
          subst hk
          simp only [Nat.add_zero, Nat.le_refl, if_true]
          rw [if_neg (by omega), h2]
          exact h1
        | succ k =>
          have := h4 k p (by simpa using hk)
          rw [show i + 1 + k = i + (k + 1) by omega] at this
          have e1 : ¬ i + (k + 1) ≤ i := by omega
          have e2 : ¬ i + (k + 1) + 1 ≤ i := by omega
          simp only [e1, e2, if_false]
          exact this
    · cases h
section
variable {P : Program} {ns : Nat} {call : CallF} {ops : List Oper} {ms : List Nat} {c : Nat} {L : List CR} {s : Nat → DS}
def IsAct (L : List CR) (s : Nat → DS) (k : Nat) : Prop := ∃ o f, L[k]? = some o ∧ o.ci = .act f ∧ o.wanted (s k).tm = true
noncomputable def made (L : List CR) (s : Nat → DS) (k : Nat) : Option AObj := match L[k]? with
  | some o => bif o.wanted (s k).tm then (match o.ci with | .mk f => (f (s k).tm).map (·.1) | _ => none) else none
  | none => none
/-- What one step of the text's run is. -/
inductive Kind (call : CallF) (ms : List Nat) (c : Nat) (o : CR) (i : Nat) (s s' : DS) : Prop
  | skip (h : o.wanted s.tm = false) (h1 : s'.tm = put s.tm o.dst undef) (h2 : s'.M = s.M) (h3 : s'.Ms = s.Ms) (h4 : s'.pend = s.pend) (h5 : s'.recs = s.recs)
  | rd (f : TM → AW → Option Value) (v : Value) (h : o.wanted s.tm = true) (hc : o.ci = .rd f) (h1 : s'.tm = put s.tm o.dst v) (h2 : s'.M = s.M) (h3 : s'.Ms = s.Ms) (h4 : s'.pend = s.pend) (h5 : (f s.tm noMem = some v ∧ s'.recs = s.recs) ∨ s'.recs = ⟨i, f, s.tm, v⟩ :: s.recs)
  | mk (f : TM → Option (AObj × (Nat → Value))) (p : AObj) (g : Nat → Value) (h : o.wanted s.tm = true) (hc : o.ci = .mk f) (hf : f s.tm = some (p, g)) (h1 : s'.tm = put s.tm o.dst (g (c + i))) (h2 : s'.M = s.M) (h3 : s'.Ms = s.Ms) (h4 : s'.pend = (i, p) :: s.pend) (h5 : s'.recs = s.recs)
  | act (f : TM → AW → Out) (h : o.wanted s.tm = true) (hc : o.ci = .act f) (hch : chained ms i s.Ms = true) (h1 : exec1 call (.act f) o.dst s.tm (letIn c (behind ms i) s.pend s.M) R2.ok = .ok s'.tm s'.M) (h3 : s'.Ms = (i, s.M) :: s.Ms) (h4 : s'.pend = s.pend.filter (fun p => !behind ms i p.1)) (h5 : s'.recs = s.recs)
theorem kind_of {o : CR} {i : Nat} {s s' : DS} (h : dStep call ms c o i s = some s') : Kind call ms c o i s s' := by
  unfold dStep at h
  cases hw : o.wanted s.tm
  · rw [hw] at h
    simp only [cond_false, DS.put, putK_eq, Option.some.injEq] at h
    subst h
    exact .skip hw rfl rfl rfl rfl rfl
  · rw [hw] at h
    simp only [cond_true] at h
    cases hc : o.ci with
    | rd f =>
      rw [hc] at h
      simp only [dRead] at h
      split at h
      · rename_i v hv
        simp only [DS.put, putK_eq, Option.some.injEq] at h
        subst h
        exact .rd f v hw hc rfl rfl rfl rfl (.inl ⟨hv, rfl⟩)
      · split at h
        · rename_i v hv
          simp only [DS.put, putK_eq, Option.some.injEq] at h
          subst h
          exact .rd f v hw hc rfl rfl rfl rfl (.inr rfl)
        · cases h
    | mk f =>
      rw [hc] at h
      simp only [dMake] at h
      split at h
      · rename_i p g hf
        rw [sObj_eq] at h
        simp only [DS.put, putK_eq, Option.some.injEq] at h
        subst h
        exact .mk f p g hw hc hf rfl rfl rfl rfl rfl
      · cases h
    | act f =>
      rw [hc] at h
      simp only at h
      obtain ⟨hch, h⟩ := cond_ok h
      unfold dDone at h
      split at h
      · rename_i tm M he
        injection h with h
        subst h
        exact .act f hw hc hch he rfl rfl rfl
      · cases h
end
end Ev
end Go.Proofs.YtmohidgdmmkikaaGreatDoor
