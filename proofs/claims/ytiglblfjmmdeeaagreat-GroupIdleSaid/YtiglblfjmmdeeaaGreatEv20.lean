/- The evaluator: a region that draws its order: what holds along the text's run. -/
import Derived.Test.YtiglblfjmmdeeaaGreatMEvC
namespace Go.Proofs.YtiglblfjmmdeeaaGreat
open Go.RowKit
namespace Ev

section
variable {P : Program} {ns : Nat} {call : CallF} {ops : List Oper} {ms : List Nat} {c : Nat} {L : List CR} {s : Nat → DS}
theorem finish_put {p : Option Path} {tm tm' : TM} {A' : AW} {r : Option (Value × AW)} (h : finish p tm R2.ok r = .ok tm' A') : ∃ v, tm' = put tm p v := by
  unfold finish at h
  split at h
  · rename_i v A
    rw [putK_eq] at h
    injection h with h1 h2
    exact ⟨v, h1.symm⟩
  · cases h
theorem exec1_put {ci : CI} {p : Option Path} {tm tm' : TM} {A A' : AW} (h : exec1 call ci p tm A R2.ok = .ok tm' A') : ∃ v, tm' = put tm p v := by
  cases ci with
  | rd f =>
    simp only [exec1] at h
    split at h
    · rename_i v hv
      rw [putK_eq] at h
      injection h with h1 h2
      exact ⟨v, h1.symm⟩
    · cases h
  | mk f =>
    simp only [exec1] at h
    split at h
    · rename_i p0 g hp
      rw [sObj_eq] at h
      split at h
      · rename_i b A2 hb
        rw [putK_eq] at h
        injection h with h1 h2
        exact ⟨_, h1.symm⟩
      · cases h
    · cases h
  | act f =>
    simp only [exec1] at h
    split at h
    · rename_i v A2 hv
      rw [putK_eq] at h
      injection h with h1 h2
      exact ⟨v, h1.symm⟩
    · exact finish_put h
    · cases h
theorem Tx.kind (T : Tx P ns call ops ms c L s) {i : Nat} (hi : i < L.length) : ∃ o, L[i]? = some o ∧ Kind call ms c o i (s i) (s (i + 1)) := by
  have h : L[i]? = some L[i] := List.getElem?_eq_getElem hi
  exact ⟨_, h, kind_of (T.step i _ h)⟩
theorem Tx.put (T : Tx P ns call ops ms c L s) {i : Nat} {o : CR} (ho : L[i]? = some o) : ∃ v, (s (i + 1)).tm = Ev.put (s i).tm o.dst v := by
  cases kind_of (T.step i o ho) with
  | skip h h1 h2 h3 h4 h5 => exact ⟨_, h1⟩
  | rd f v h hc h1 h2 h3 h4 h5 => exact ⟨_, h1⟩
  | mk f p g h hc hf h1 h2 h3 h4 h5 => exact ⟨_, h1⟩
  | act f h hc hch h1 h3 h4 h5 => exact exec1_put h1
theorem Tx.slot (T : Tx P ns call ops ms c L s) {p : Path} {i : Nat} : ∀ (j : Nat), i ≤ j → j ≤ L.length → (∀ k o, i ≤ k → k < j → L[k]? = some o → o.dst ≠ some p) → (s j).tm.val p = (s i).tm.val p := by
  intro j hij
  induction hij with
  | refl => intro _ _; rfl
  | @step j hij ih =>
    intro hj hno
    rw [← ih (by omega) (fun k o h1 h2 h3 => hno k o h1 (by omega) h3)]
    obtain ⟨o, ho, _⟩ := T.kind (i := j) (by omega)
    obtain ⟨v, hv⟩ := T.put ho
    rw [hv]
    cases hd : o.dst with
    | none => rfl
    | some q =>
      rw [val_put, if_neg (fun e => hno j o hij (by omega) ho (by rw [hd, e]))]
theorem Tx.mem (T : Tx P ns call ops ms c L s) {i : Nat} : ∀ (j : Nat), i ≤ j → j ≤ L.length → (∀ k, i ≤ k → k < j → ¬ IsAct L s k) → (s j).M = (s i).M ∧ (s j).Ms = (s i).Ms := by
  intro j hij
  induction hij with
  | refl => intro _ _; exact ⟨rfl, rfl⟩
  | @step j hij ih =>
    intro hj hno
    obtain ⟨o, ho, hk⟩ := T.kind (i := j) (by omega)
    have := ih (by omega) (fun k h1 h2 => hno k h1 (by omega))
    cases hk with
    | skip h h1 h2 h3 h4 h5 => exact ⟨h2.trans this.1, h3.trans this.2⟩
    | rd f v h hc h1 h2 h3 h4 h5 => exact ⟨h2.trans this.1, h3.trans this.2⟩
    | mk f p g h hc hf h1 h2 h3 h4 h5 => exact ⟨h2.trans this.1, h3.trans this.2⟩
    | act f h hc hch h1 h3 h4 h5 => exact absurd ⟨o, f, ho, hc, h⟩ (hno j hij (by omega))
def In (ms : List Nat) (L : List CR) (s : Nat → DS) (t k : Nat) : Prop := ∃ a, a < t ∧ IsAct L s a ∧ behind ms a k = true
theorem made_at {i : Nat} {o : CR} (ho : L[i]? = some o) : made L s i = bif o.wanted (s i).tm then (match o.ci with | .mk f => (f (s i).tm).map (·.1) | _ => none) else none := by
  unfold made
  simp only [ho]
  cases o.wanted (s i).tm
  · rfl
  · cases o.ci <;> rfl
theorem In_succ {t k : Nat} (h : ¬ IsAct L s t) : In ms L s (t + 1) k ↔ In ms L s t k := by
  constructor
  · rintro ⟨a, h1, h2, h3⟩
    refine ⟨a, ?_, h2, h3⟩
    have : a ≠ t := fun e => h (e ▸ h2)
    omega
  · rintro ⟨a, h1, h2, h3⟩
    exact ⟨a, by omega, h2, h3⟩
theorem In_act {t k : Nat} (h : IsAct L s t) : In ms L s (t + 1) k ↔ In ms L s t k ∨ behind ms t k = true := by
  constructor
  · rintro ⟨a, h1, h2, h3⟩
    by_cases e : a = t
    · subst e; exact .inr h3
    · exact .inl ⟨a, by omega, h2, h3⟩
  · rintro (⟨a, h1, h2, h3⟩ | h3)
    · exact ⟨a, by omega, h2, h3⟩
    · exact ⟨t, by omega, h, h3⟩
theorem not_act {i : Nat} {o : CR} (ho : L[i]? = some o) (h : o.wanted (s i).tm = false ∨ ∀ f, o.ci ≠ .act f) : ¬ IsAct L s i := by
  rintro ⟨o', f, h1, h2, h3⟩
  rw [ho] at h1
  cases h1
  rcases h with h | h
  · rw [h] at h3; cases h3
  · exact h f h2
theorem Tx.pend (T : Tx P ns call ops ms c L s) : ∀ (i : Nat), i ≤ L.length → ∀ k p, (k, p) ∈ (s i).pend ↔ k < i ∧ made L s k = some p ∧ ¬ In ms L s i k
  | 0, _, k, p => by rw [T.pend0]; simp
  | i + 1, hi, k, p => by
    have ih := T.pend i (by omega) k p
    obtain ⟨o, ho, hk⟩ := T.kind (i := i) (by omega)
    have hmi := made_at (s := s) ho
    cases hk with
    | skip h h1 h2 h3 h4 h5 =>
      rw [h4, ih, In_succ (not_act ho (.inl h))]
      have : made L s i = none := by rw [hmi, h]; rfl
      constructor
      · rintro ⟨a, b, d⟩; exact ⟨by omega, b, d⟩
      · rintro ⟨a, b, d⟩
        refine ⟨?_, b, d⟩
        have : k ≠ i := fun e => by subst e; rw [this] at b; cases b
        omega
    | rd f v h hc h1 h2 h3 h4 h5 =>
      rw [h4, ih, In_succ (not_act ho (.inr fun f e => by rw [hc] at e; cases e))]
      have : made L s i = none := by rw [hmi, h, hc]; rfl
      constructor
      · rintro ⟨a, b, d⟩; exact ⟨by omega, b, d⟩
      · rintro ⟨a, b, d⟩
        refine ⟨?_, b, d⟩
        have : k ≠ i := fun e => by subst e; rw [this] at b; cases b
        omega
    | mk f q g h hc hf h1 h2 h3 h4 h5 =>
      have : made L s i = some q := by rw [hmi, h, hc]; simp [hf]
      rw [h4, List.mem_cons, ih, In_succ (not_act ho (.inr fun f e => by rw [hc] at e; cases e))]
      constructor
      · rintro (e | ⟨a, b, d⟩)
        · cases e
          refine ⟨by omega, this, ?_⟩
          rintro ⟨a, h7, h8, h9⟩
          have := T.ord.lower a i h9
          omega
        · exact ⟨by omega, b, d⟩
      · rintro ⟨a, b, d⟩
        by_cases e : k = i
        · subst e
          rw [this] at b
          cases b
          exact .inl rfl
        · exact .inr ⟨by omega, b, d⟩
    | act f h hc hch h1 h3 h4 h5 =>
      have : made L s i = none := by rw [hmi, h, hc]; rfl
      rw [h4, List.mem_filter, ih, In_act ⟨o, f, ho, hc, h⟩]
      simp only [Bool.not_eq_true', not_or, Bool.not_eq_true]
      constructor
      · rintro ⟨⟨a, b, d⟩, e⟩; exact ⟨by omega, b, d, e⟩
      · rintro ⟨a, b, d, e⟩
        refine ⟨⟨?_, b, d⟩, e⟩
        have : k ≠ i := fun e => by subst e; rw [this] at b; cases b
        omega
theorem Tx.msAt (T : Tx P ns call ops ms c L s) {e : Nat} (he : IsAct L s e) : ∀ (i : Nat), e < i → i ≤ L.length → ∃ pre, (s i).Ms = pre ++ (e, (s e).M) :: (s e).Ms := by
  intro i hi
  induction hi with
  | refl =>
    intro hl
    obtain ⟨o, f, h1, h2, h3⟩ := he
    have hk := kind_of (T.step e o h1)
    cases hk with
    | skip h _ _ _ _ _ => rw [h] at h3; cases h3
    | rd f v h hc _ _ _ _ _ => rw [hc] at h2; cases h2
    | mk f q g h hc _ _ _ _ _ _ => rw [hc] at h2; cases h2
    | act f h hc hch h1 h3 h4 h5 => exact ⟨[], h3⟩
  | @step i hi ih =>
    intro hl
    obtain ⟨pre, hpre⟩ := ih (by omega)
    obtain ⟨o, ho, hk⟩ := T.kind (i := i) (by omega)
    cases hk with
    | skip h h1 h2 h3 h4 h5 => exact ⟨pre, h3.trans hpre⟩
    | rd f v h hc h1 h2 h3 h4 h5 => exact ⟨pre, h3.trans hpre⟩
    | mk f q g h hc hf h1 h2 h3 h4 h5 => exact ⟨pre, h3.trans hpre⟩
    | act f h hc hch h1 h3 h4 h5 => exact ⟨(i, (s i).M) :: pre, by rw [h3, hpre]; rfl⟩
theorem Tx.msMem (T : Tx P ns call ops ms c L s) : ∀ (i : Nat), i ≤ L.length → ∀ p M, (p, M) ∈ (s i).Ms → p < i ∧ IsAct L s p
  | 0, _, p, M, h => by rw [T.ms0] at h; simp at h
  | i + 1, hi, p, M, hm => by
    have ih := T.msMem i (by omega) p M
    obtain ⟨o, ho, hk⟩ := T.kind (i := i) (by omega)
    cases hk with
    | skip h h1 h2 h3 h4 h5 => rw [h3] at hm; exact ⟨by have := (ih hm).1; omega, (ih hm).2⟩
    | rd f v h hc h1 h2 h3 h4 h5 => rw [h3] at hm; exact ⟨by have := (ih hm).1; omega, (ih hm).2⟩
    | mk f q g h hc hf h1 h2 h3 h4 h5 => rw [h3] at hm; exact ⟨by have := (ih hm).1; omega, (ih hm).2⟩
    | act f h hc hch h1 h3 h4 h5 =>
      rw [h3, List.mem_cons] at hm
      rcases hm with e | hm
      · cases e; exact ⟨by omega, o, f, ho, hc, h⟩
      · exact ⟨by have := (ih hm).1; omega, (ih hm).2⟩
theorem Tx.head (T : Tx P ns call ops ms c L s) : ∀ (i : Nat), i ≤ L.length → ∀ p, p < i → IsAct L s p → ∃ k M l, (s i).Ms = (k, M) :: l ∧ (p = k ∨ behind ms k p = true)
  | 0, _, p, hp, _ => by omega
  | i + 1, hi, p, hp, ha => by
    obtain ⟨o, ho, hk⟩ := T.kind (i := i) (by omega)
    by_cases hpi : p = i
    · subst hpi
      obtain ⟨o', f', h7, h8, h9⟩ := ha
      rw [ho] at h7
      cases h7
      cases hk with
      | skip h h1 h2 h3 h4 h5 => rw [h] at h9; cases h9
      | rd f v h hc h1 h2 h3 h4 h5 => rw [hc] at h8; cases h8
      | mk f q g h hc hf h1 h2 h3 h4 h5 => rw [hc] at h8; cases h8
      | act f h hc hch h1 h3 h4 h5 => exact ⟨_, _, _, h3, .inl rfl⟩
    · obtain ⟨k, M, l, h7, h8⟩ := T.head i (by omega) p (by omega) ha
      cases hk with
      | skip h h1 h2 h3 h4 h5 => exact ⟨k, M, l, h3.trans h7, h8⟩
      | rd f v h hc h1 h2 h3 h4 h5 => exact ⟨k, M, l, h3.trans h7, h8⟩
      | mk f q g h hc hf h1 h2 h3 h4 h5 => exact ⟨k, M, l, h3.trans h7, h8⟩
      | act f h hc hch h1 h3 h4 h5 =>
        refine ⟨_, _, _, h3, .inr ?_⟩
        rw [h7] at hch
        have hch : behind ms i k = true := hch
        rcases h8 with rfl | h8
        · exact hch
        · exact T.ord.trans _ _ _ hch h8
/-- What acts stands in one chain. -/
theorem Tx.chain (T : Tx P ns call ops ms c L s) {i p : Nat} (hi : IsAct L s i) (hp : IsAct L s p) (h : p < i) : behind ms i p = true := by
  obtain ⟨o, f, h1, h2, h3⟩ := hi
  have hil : i < L.length := (List.getElem?_eq_some_iff.1 h1).1
  obtain ⟨k, M, l, h7, h8⟩ := T.head i (by omega) p h hp
  cases kind_of (T.step i o h1) with
  | skip h _ _ _ _ _ => rw [h] at h3; cases h3
  | rd f v h hc _ _ _ _ _ => rw [hc] at h2; cases h2
  | mk f q g h hc _ _ _ _ _ _ => rw [hc] at h2; cases h2
  | act f h hc hch h1 h3 h4 h5 =>
    rw [h7] at hch
    have hch : behind ms i k = true := hch
    rcases h8 with rfl | h8
    · exact hch
    · exact T.ord.trans _ _ _ hch h8
theorem Tx.recs (T : Tx P ns call ops ms c L s) {i : Nat} {r : Rec} : ∀ (j : Nat), i ≤ j → j ≤ L.length → r ∈ (s i).recs → r ∈ (s j).recs := by
  intro j hij
  induction hij with
  | refl => intro _ h; exact h
  | @step j hij ih =>
    intro hj h
    have := ih (by omega) h
    obtain ⟨o, ho, hk⟩ := T.kind (i := j) (by omega)
    cases hk with
    | skip h h1 h2 h3 h4 h5 => rw [h5]; exact this
    | rd f v h hc h1 h2 h3 h4 h5 =>
      rcases h5 with ⟨_, h5⟩ | h5
      · rw [h5]; exact this
      · rw [h5]; exact List.mem_cons_of_mem _ this
    | mk f q g h hc hf h1 h2 h3 h4 h5 => rw [h5]; exact this
    | act f h hc hch h1 h3 h4 h5 => rw [h5]; exact this
theorem readOk_mid {r : Rec} {e : Nat} {M : AW} : ∀ (pre l : List (Nat × AW)), readOk ms r (pre ++ (e, M) :: l) = true → behind ms r.i e = true ∨ (∃ p M, (p, M) ∈ l ∧ behind ms p r.i = true) ∨ eqvO r.v (r.f r.tm M) = true
  | [], l, h => by
    simp only [List.nil_append, readOk, Bool.and_eq_true] at h
    have h := h.1
    cases h1 : behind ms r.i e
    · rw [h1] at h
      simp only [cond_false] at h
      cases h2 : l.any (fun p => behind ms p.1 r.i)
      · rw [h2] at h; exact .inr (.inr h)
      · rw [List.any_eq_true] at h2
        obtain ⟨⟨p, M'⟩, h3, h4⟩ := h2
        exact .inr (.inl ⟨p, M', h3, h4⟩)
    · exact .inl rfl
  | q :: pre, l, h => by
    simp only [List.cons_append, readOk, Bool.and_eq_true] at h
    exact readOk_mid pre l h.2
theorem lastOk_spec {r : Rec} {l : List (Nat × AW)} {M : AW} (h : lastOk ms r l M = true) : (∃ p M, (p, M) ∈ l ∧ behind ms p r.i = true) ∨ eqvO r.v (r.f r.tm M) = true := by
  unfold lastOk at h
  cases h2 : l.any (fun p => behind ms p.1 r.i)
  · rw [h2] at h; exact .inr h
  · rw [List.any_eq_true] at h2
    obtain ⟨⟨p, M'⟩, h3, h4⟩ := h2
    exact .inl ⟨p, M', h3, h4⟩

/- Values that are shown alike. -/
theorem eqv0_eq {a b : Value} (h : eqv0 a b = true) : a = b := by
  unfold eqv0 at h
  split at h
  · simp at h; rw [h]
  · simp at h; rw [h.1, h.2]
  · rename_i a b
    have h := of_decide_eq_true h
    have : a = b := by
      obtain ⟨⟨a⟩⟩ := a
      obtain ⟨⟨b⟩⟩ := b
      simp at h
      rw [h]
    rw [this]
  · rw [of_decide_eq_true h]
  · simp only [Bool.and_eq_true] at h
    rw [of_decide_eq_true h.1.1, Nat.eq_of_beq_eq_true h.1.2, Nat.eq_of_beq_eq_true h.2]
  · rw [of_decide_eq_true h]
  · rfl
  · rfl
  · simp only [Bool.and_eq_true] at h
    rw [Nat.eq_of_beq_eq_true h.1, of_decide_eq_true h.2]
  · simp only [Bool.and_eq_true, Array.isEmpty_iff] at h
    rw [Nat.eq_of_beq_eq_true h.1.1.1.1, h.1.1.1.2, h.1.1.2, h.1.2, h.2]
  · cases h
theorem eqvL_eq : ∀ {a b : List Value}, eqvL a b = true → a = b
  | [], [], _ => rfl
  | a :: l, b :: m, h => by
    simp only [eqvL, Bool.and_eq_true] at h
    rw [eqv0_eq h.1, eqvL_eq h.2]
  | [], _ :: _, h => by cases h
  | _ :: _, [], h => by cases h
theorem eqv1_eq {a b : Value} (h : eqv1 a b = true) : a = b := by
  unfold eqv1 at h
  split at h
  · rw [Array.ext' (eqvL_eq h)]
  · exact eqv0_eq h
theorem eqvT_eq : ∀ {a b : List Value}, eqvT a b = true → a = b
  | [], [], _ => rfl
  | a :: l, b :: m, h => by
    simp only [eqvT, Bool.and_eq_true] at h
    rw [eqv1_eq h.1, eqvT_eq h.2]
  | [], _ :: _, h => by cases h
  | _ :: _, [], h => by cases h
theorem eqv_eq {a b : Value} (h : eqv a b = true) : a = b := by
  unfold eqv at h
  split at h
  · rw [Array.ext' (eqvT_eq h)]
  · exact eqv1_eq h
theorem eqvO_eq {v : Value} {o : Option Value} (h : eqvO v o = true) : o = some v := by
  unfold eqvO at h
  split at h
  · rw [eqv_eq h]
  · cases h
end
end Ev
end Go.Proofs.YtiglblfjmmdeeaaGreat
