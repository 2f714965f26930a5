/- The evaluator: a region that draws its order: the whole. -/
import Derived.Test.YtiglblfjmmdeeaaGreatEv21
namespace Go.Proofs.YtiglblfjmmdeeaaGreat
open Go.RowKit
namespace Ev

section
variable {P : Program} {ns : Nat} {w0 : World} {ops : List Oper} {ms : List Nat} {c : Nat} {L : List CR} {s : Nat → DS} {X0 : Nat → Option AObj} {σ0 : Sig} {ds : List Deferred} {S : Array Bool} {a : Act} {w : World} {t i : Nat} {σ : Sig} {call : CallF} {Q : Exit → Act → World → Prop}
theorem XS_low {b : Nat} (hb : b < c) : XS ms c L s X0 S t b = X0 b := by
  unfold XS
  rw [if_neg (by omega)]
theorem XS_none {k : Nat} (h : made L s k = none) : XS ms c L s X0 S t (c + k) = none := by
  unfold XS
  rw [if_pos (by omega), show c + k - c = k by omega, h]
  split <;> rfl
theorem XS_in {k : Nat} (h : In ms L s t k) : XS ms c L s X0 S t (c + k) = none := by
  unfold XS
  rw [if_pos (by omega), show c + k - c = k by omega, if_neg (fun e => e.2 h)]
theorem XS_off {k : Nat} (h : ¬ On S k) : XS ms c L s X0 S t (c + k) = none := by
  unfold XS
  rw [if_pos (by omega), show c + k - c = k by omega, if_neg (fun e => h e.1)]
theorem XS_on {k : Nat} (h : On S k) (h2 : ¬ In ms L s t k) : XS ms c L s X0 S t (c + k) = made L s k := by
  unfold XS
  rw [if_pos (by omega), show c + k - c = k by omega, if_pos ⟨h, h2⟩]
theorem XS_ext {X : Nat → Option AObj} (h1 : ∀ b, b < c → X b = X0 b) (h2 : ∀ k, X (c + k) = XS ms c L s X0 S t (c + k)) : X = XS ms c L s X0 S t := by
  funext b
  rcases Nat.lt_or_ge b c with h | h
  · rw [h1 b h, XS_low h]
  · obtain ⟨k, rfl⟩ := Nat.exists_eq_add_of_le h
    exact h2 k
theorem XS_same (hi : i < S.size) (h : made L s i = none) : XS ms c L s X0 S t = XS ms c L s X0 (S.setIfInBounds i true) t := by
  refine XS_ext (fun b hb => XS_low hb) fun k => ?_
  by_cases hk : k = i
  · subst hk
    rw [XS_none h, XS_none h]
  · by_cases h1 : In ms L s t k
    · rw [XS_in h1, XS_in h1]
    · by_cases h2 : On S k
      · rw [XS_on h2 h1, XS_on ((On_set hi).2 (.inr h2)) h1]
      · rw [XS_off h2, XS_off (by rw [On_set hi]; rintro (e | e); exact hk e; exact h2 e)]
theorem In_same {t i k : Nat} (hti : t ≤ i) (h : ∀ j, t ≤ j → j < i → ¬ IsAct L s j) : In ms L s i k ↔ In ms L s t k := by
  constructor
  · rintro ⟨a, h1, h2, h3⟩
    refine ⟨a, ?_, h2, h3⟩
    rcases Nat.lt_or_ge a t with h4 | h4
    · exact h4
    · exact absurd h2 (h a h4 h1)
  · rintro ⟨a, h1, h2, h3⟩
    exact ⟨a, by omega, h2, h3⟩
theorem least {p : Nat → Prop} (h : ∃ e, p e) : ∃ e, p e ∧ ∀ k, k < e → ¬ p k := by
  obtain ⟨e, he⟩ := h
  induction e using Nat.strongRecOn with
  | _ e ih =>
    by_cases h2 : ∃ k, k < e ∧ p k
    · obtain ⟨k, hk, hp⟩ := h2
      exact ih k hk hp
    · exact ⟨e, he, fun k hk hp => h2 ⟨k, hk, hp⟩⟩
/-- Each act ahead of the place where the memory stands is done. -/
theorem RI.past (T : Tx P ns call ops ms c L s) (R : RI P ns w0 ops ms c L s X0 σ0 ds S a w t σ) {p : Nat} (hp : IsAct L s p) (hpt : p < t) : On S p := by
  rcases R.last with rfl | ⟨k, rfl, h1, h2⟩
  · omega
  · by_cases e : p = k
    · rw [e]; exact h2
    · exact R.down _ _ h2 (T.chain h1 hp (by omega))
/-- A read yields in the memory as it stands what it yielded in the text's run. -/
theorem RI.read (T : Tx P ns call ops ms c L s) (R : RI P ns w0 ops ms c L s X0 σ0 ds S a w t σ) (hi : i ∈ Region.ready .any ⟨ops⟩ S) {r : Rec} (hr : r.i = i) (h1 : readOk ms r (s L.length).Ms = true) (h2 : lastOk ms r (s L.length).Ms (s L.length).M = true) : r.f r.tm (s t).M = some r.v := by
  obtain ⟨hoff, hisz⟩ := ready_off hi
  by_cases hex : ∃ e, t ≤ e ∧ IsAct L s e
  · obtain ⟨e, ⟨hte, he⟩, hleast⟩ := least hex
    have heL : e < L.length := by
      obtain ⟨o, f, h7, _⟩ := he
      exact (List.getElem?_eq_some_iff.1 h7).1
    obtain ⟨pre, hpre⟩ := T.msAt he L.length heL (Nat.le_refl _)
    rw [hpre] at h1
    have hM := (T.mem e hte (by omega) (fun k h7 h8 h9 => hleast k h8 ⟨h7, h9⟩)).1
    rcases readOk_mid pre _ h1 with h3 | ⟨p, M, h3, h4⟩ | h3
    · rw [hr] at h3
      exact absurd (R.ahead T hi h3) (R.acts e hte he)
    · obtain ⟨h5, h6⟩ := T.msMem e (by omega) p M h3
      have hpt : p < t := by
        rcases Nat.lt_or_ge p t with h7 | h7
        · exact h7
        · exact absurd ⟨h7, h6⟩ (hleast p h5)
      rw [hr] at h4
      exact absurd (R.down _ _ (R.past T h6 hpt) h4) hoff
    · rw [hM] at h3
      exact eqvO_eq h3
  · have hM := (T.mem L.length R.tn (Nat.le_refl _) (fun k h7 h8 h9 => hex ⟨k, h7, h9⟩)).1
    rcases lastOk_spec h2 with ⟨p, M, h3, h4⟩ | h3
    · obtain ⟨h5, h6⟩ := T.msMem L.length (Nat.le_refl _) p M h3
      have hpt : p < t := by
        rcases Nat.lt_or_ge p t with h7 | h7
        · exact h7
        · exact absurd ⟨p, h7, h6⟩ hex
      rw [hr] at h4
      exact absurd (R.down _ _ (R.past T h6 hpt) h4) hoff
    · rw [hM] at h3
      exact eqvO_eq h3
theorem RI.step (hn : NoNum P) (hcall : CallOk P call) (T : Tx P ns call ops ms c L s) (hns : ns < most) (hrec : ∀ r ∈ (s L.length).recs, readOk ms r (s L.length).Ms = true ∧ lastOk ms r (s L.length).Ms (s L.length).M = true)
    (R : RI P ns w0 ops ms c L s X0 σ0 ds S a w t σ) (hi : i ∈ Region.ready .any ⟨ops⟩ S) {K : Act → World → Prop} (hK : ∀ a' w' t' σ', RI P ns w0 ops ms c L s X0 σ0 ds (S.setIfInBounds i true) a' w' t' σ' → K a' w') : wpOp P ⟨ops⟩ Q i K a w := by
  obtain ⟨hoff, hisz⟩ := ready_off hi
  have hiL : i < L.length := by rw [← R.size]; exact hisz
  obtain ⟨_, o, ho', _⟩ := mem_ready.1 hi
  have ho : ops[i]? = some o := by rw [List.getElem?_toArray] at ho'; exact ho'
  obtain ⟨k, hk, hc⟩ := (crs_get T.crs).2 i o ho
  obtain ⟨hci, hp, hok⟩ := cr_parts hc
  have hlk := R.looks T hns hi ho
  have hw := hlk.wanted hc
  have hE : ∀ z ∈ o.op.operands, VR σ ((co ns z).ev (s i).tm) (a.eval z) := fun z hz => hlk.ev hz (hok z hz)
  have hmi := made_at (s := s) hk
  have still : ∀ {v v' : Value}, ¬ IsAct L s i → made L s i = none → (s (i + 1)).tm = put (s i).tm k.dst v → VR σ v v' → K (a.put o.dst v') w := fun hna hmn hput hv =>
    hK _ _ t σ (R.more T hi ho hk hc hput hv (Sig.le_refl σ) (fun _ _ => rfl) (fun _ _ _ h => h) (by rw [← XS_same hisz hmn]; exact R.st) R.next R.tn (fun j h1 h2 => ⟨fun e => hna (e ▸ h2), R.acts j h1 h2⟩) (by
      rcases R.last with h | ⟨j, h1, h2, h3⟩
      · exact .inl h
      · exact .inr ⟨j, h1, h2, .inr h3⟩))
  unfold wpOp
  simp only [ho']
  cases kind_of (T.step i k hk) with
  | skip h h1 h2 h3 h4 h5 =>
    rw [hw] at h
    rw [h]
    simp only [Bool.false_eq_true, if_false]
    exact still (not_act hk (.inl (by rw [hw]; exact h))) (by rw [hmi, hw, h]; rfl) h1 (undef_r σ)
  | rd f v h hcf h1 h2 h3 h4 h5 =>
    have hna : ¬ IsAct L s i := not_act hk (.inr fun f e => by rw [hcf] at e; cases e)
    have hmn : made L s i = none := by rw [hmi, h, hcf]; rfl
    rw [hw] at h
    rw [h]
    simp only [if_true]
    rw [hcf] at hci
    have : ∃ v', (execOp a.eval o).run P w = .ok (.value v') w ∧ VR σ v v' := by
      rcases h5 with ⟨h5, _⟩ | h5
      · exact ci_rd hci w0 w σ noMem _ _ a.eval v R.st.away hE h5
      · have hmem : (⟨i, f, (s i).tm, v⟩ : Rec) ∈ (s L.length).recs := T.recs L.length hiL (Nat.le_refl _) (by rw [h5]; simp)
        obtain ⟨g1, g2⟩ := hrec _ hmem
        exact ci_rd hci w0 w σ _ _ _ a.eval v R.st hE (R.read T hi rfl g1 g2)
    obtain ⟨v', h6, h7⟩ := this
    refine .inl ?_
    unfold Oper.wp
    rw [h6]
    exact still hna hmn h1 h7
  | mk f p g h hcf hf h1 h2 h3 h4 h5 =>
    have hna : ¬ IsAct L s i := not_act hk (.inr fun f e => by rw [hcf] at e; cases e)
    have hmn : made L s i = some p := by rw [hmi, h, hcf]; simp [hf]
    rw [hw] at h
    rw [h]
    simp only [if_true]
    rw [hcf] at hci
    obtain ⟨v', ob, w1, Lo, g1, g2, g3, g4, g5⟩ := ci_mk hci w σ (s i).tm a.eval p g hE hf
    have hs := R.free i hiL hoff
    have hlt : c + i < (s t).M.next := by have := R.next; omega
    obtain ⟨g6, g7⟩ := R.st.newX g2 g3 g4 hs hlt
    refine .inl ?_
    unfold Oper.wp
    rw [g1]
    have hnin : ¬ In ms L s t i := by
      rintro ⟨x, x1, x2, x3⟩
      exact hoff (R.down _ _ (R.past T x2 x1) x3)
    refine hK _ _ t _ (R.more T hi ho hk hc h1 (g5 _ _ (Sig.ext_at _ _ _)) g7 (fun b hb => by unfold Sig.ext; rw [if_neg (by omega)]) (fun j _ hne hsj => by unfold Sig.ext; rw [if_neg (by omega)]; exact hsj) ?_ R.next R.tn (fun j h1 h2 => ⟨fun e => hna (e ▸ h2), R.acts j h1 h2⟩) (by
      rcases R.last with h | ⟨j, h1, h2, h3⟩
      · exact .inl h
      · exact .inr ⟨j, h1, h2, .inr h3⟩))
    have : updX (XS ms c L s X0 S t) (c + i) p = XS ms c L s X0 (S.setIfInBounds i true) t := by
      refine XS_ext (fun b hb => by unfold updX; rw [if_neg (by omega), XS_low hb]) fun j => ?_
      unfold updX
      by_cases hj : j = i
      · subst hj
        rw [if_pos rfl, XS_on ((On_set hisz).2 (.inl rfl)) hnin, hmn]
      · rw [if_neg (by omega)]
        by_cases x1 : In ms L s t j
        · rw [XS_in x1, XS_in x1]
        · by_cases x2 : On S j
          · rw [XS_on x2 x1, XS_on ((On_set hisz).2 (.inr x2)) x1]
          · rw [XS_off x2, XS_off (by rw [On_set hisz]; rintro (e | e); exact hj e; exact x2 e)]
    rw [← this]
    exact g6
  | act f h hcf hch h1 h3 h4 h5 =>
    have ha : IsAct L s i := ⟨k, f, hk, hcf, h⟩
    have hmn : made L s i = none := by rw [hmi, h, hcf]; rfl
    rw [hw] at h
    rw [h]
    simp only [if_true]
    rw [hcf] at hci
    have hti : t ≤ i := by
      rcases Nat.lt_or_ge i t with h6 | h6
      · exact absurd (R.past T ha h6) hoff
      · exact h6
    have hno : ∀ j, t ≤ j → j < i → ¬ IsAct L s j := fun j h6 h7 h8 => R.acts j h6 h8 (R.ahead T hi (T.chain ha h8 h7))
    obtain ⟨hM, hMs⟩ := T.mem i hti (by omega) hno
    have hin : ∀ x, In ms L s i x ↔ In ms L s t x := fun x => In_same hti hno
    have hpend := T.pend i (by omega)
    have hst := R.st
    rw [← hM] at hst
    have hnext := R.next
    rw [← hM] at hnext
    obtain ⟨g1, g2⟩ := St.letIn (made := made L s) (c := c) (keep := behind ms i) (s i).pend _ _ hst (fun x p hx => ((hpend x p).1 hx).2.1) (fun x p hx hb => by
      obtain ⟨y1, y2, y3⟩ := (hpend x p).1 hx
      exact .inl (by rw [XS_on (R.ahead T hi hb) (fun e => y3 ((hin x).2 e)), y2])) (fun x p hx => by
      have := ((hpend x p).1 hx).1
      have := hst.bound
      omega)
    refine .inl (exec_ok (c := .act f) hn hcall hci hE g1 h1 (by simp) fun v A' σ' v' w' hr hS hSt hv => ?_)
    injection hr with hr1 hr2
    have hXS : letX c (behind ms i) (s i).pend (XS ms c L s X0 S t) = XS ms c L s X0 (S.setIfInBounds i true) (i + 1) := by
      refine XS_ext (fun b hb => by rw [letX_out fun x p _ _ => by omega, XS_low hb]) fun x => ?_
      cases hmx : made L s x with
      | none => rw [letX_in (.inl (XS_none hmx)), XS_none hmx]
      | some q =>
        have hxi : x ≠ i := fun e => by rw [e, hmn] at hmx; cases hmx
        cases hb : behind ms i x
        · have hin2 : In ms L s (i + 1) x ↔ In ms L s t x := by rw [In_act ha, hin, hb]; simp
          rw [letX_out fun y p hy hby e => by
            have : y = x := by omega
            subst this
            rw [hb] at hby
            cases hby]
          by_cases x1 : In ms L s t x
          · rw [XS_in x1, XS_in (hin2.2 x1)]
          · have x1' : ¬ In ms L s (i + 1) x := fun e => x1 (hin2.1 e)
            by_cases x2 : On S x
            · rw [XS_on x2 x1, XS_on ((On_set hisz).2 (.inr x2)) x1']
            · rw [XS_off x2, XS_off (by rw [On_set hisz]; rintro (e | e); exact hxi e; exact x2 e)]
        · rw [XS_in ((In_act ha).2 (.inr hb))]
          refine letX_in ?_
          by_cases x1 : In ms L s t x
          · exact .inl (XS_in x1)
          · exact .inr ⟨x, q, (hpend x q).2 ⟨T.ord.lower i x hb, hmx, fun e => x1 ((hin x).1 e)⟩, hb, rfl⟩
    rw [hXS, hr2] at hSt
    have hSn := hS.next
    rw [g2] at hSn
    refine hK _ _ (i + 1) σ' (R.more T hi ho hk hc hr1.symm hv hS.le (fun b hb => hS.old b (by rw [g2]; omega)) (fun j hj _ hsj => (hS.old (c + j) (by rw [g2]; omega)).trans hsj) hSt (by rw [← hr2]; omega) hiL (fun j h6 h7 => ⟨by omega, fun h8 => hoff (R.down _ _ h8 (T.chain h7 ha (by omega)))⟩) (.inr ⟨i, rfl, ha, .inl rfl⟩))
/-- All is done. -/
theorem RI.finish (T : Tx P ns call ops ms c L s) (hns : ns < most) {A : AW} (hc : A.next = c) (hX0 : ∀ b, c ≤ b → X0 b = none) (R : RI P ns w0 ops ms c L s X0 σ0 ds S a w t σ) (hall : ∀ k, k < L.length → On S k) {a0 : Act} (hds : a0.defers = ds) :
    AftR P ns w0 σ0 A X0 a0 (s L.length).tm (letIn c (fun _ => true) (s L.length).pend (s L.length).M) a w := by
  have hno : ∀ j, t ≤ j → j < L.length → ¬ IsAct L s j := fun j h6 h7 h8 => R.acts j h6 h8 (hall j h7)
  obtain ⟨hM, hMs⟩ := T.mem L.length R.tn (Nat.le_refl _) hno
  have hin : ∀ x, In ms L s L.length x ↔ In ms L s t x := fun x => In_same R.tn hno
  have hpend := T.pend L.length (Nat.le_refl _)
  have hst := R.st
  rw [← hM] at hst
  have hnext := R.next
  rw [← hM] at hnext
  obtain ⟨g1, g2⟩ := St.letIn (made := made L s) (c := c) (keep := fun _ => true) (s L.length).pend _ _ hst (fun x p hx => ((hpend x p).1 hx).2.1) (fun x p hx _ => by
    obtain ⟨y1, y2, y3⟩ := (hpend x p).1 hx
    exact .inl (by rw [XS_on (hall x y1) (fun e => y3 ((hin x).2 e)), y2])) (fun x p hx => by
    have := ((hpend x p).1 hx).1
    have := hst.bound
    omega)
  have hX : letX c (fun _ => true) (s L.length).pend (XS ms c L s X0 S t) = X0 := by
    funext b
    rcases Nat.lt_or_ge b c with h | h
    · rw [letX_out fun x p _ _ => by omega, XS_low h]
    · rw [hX0 b h]
      obtain ⟨x, rfl⟩ := Nat.exists_eq_add_of_le h
      cases hmx : made L s x with
      | none => exact letX_in (.inl (XS_none hmx))
      | some q =>
        have hxL : x < L.length := by
          unfold made at hmx
          split at hmx
          · rename_i o ho
            exact (List.getElem?_eq_some_iff.1 ho).1
          · cases hmx
        refine letX_in ?_
        by_cases x1 : In ms L s t x
        · exact .inl (XS_in x1)
        · exact .inr ⟨x, q, (hpend x q).2 ⟨hxL, hmx, fun e => x1 ((hin x).1 e)⟩, rfl, rfl⟩
  rw [hX] at g1
  refine ⟨σ, ⟨R.le, by rw [g2]; omega, fun b hb => R.old b (by omega)⟩, g1, ⟨R.tsz, hns, fun d hd => ?_⟩, R.dfs.trans hds.symm⟩
  obtain ⟨u, h1, h2, h3, h4⟩ := R.slots d hd
  rw [T.slot L.length h1 (Nat.le_refl _) fun j o h6 h7 h8 h9 => h2 j h6 (T.wr hns hd h8 h9) (hall j h7)]
  exact h4
/-- How many are still to come. -/
def left (S : Array Bool) (n : Nat) : Nat := (List.range n).countP fun k => !S.getD k false
theorem countP_lt {p q : Nat → Bool} {i : Nat} : ∀ (l : List Nat), (∀ k ∈ l, q k = true → p k = true) → i ∈ l → p i = true → q i = false → l.countP q < l.countP p
  | [], _, hi, _, _ => by simp at hi
  | x :: l, h, hi, hp, hq => by
    have hle : l.countP q ≤ l.countP p := List.countP_mono_left fun k hk hqk => h k (List.mem_cons_of_mem _ hk) hqk
    rw [List.countP_cons, List.countP_cons]
    by_cases e : x = i
    · subst e
      rw [hp, hq]
      simp
      omega
    · rw [List.mem_cons] at hi
      have := countP_lt l (fun k hk => h k (List.mem_cons_of_mem _ hk)) (hi.resolve_left fun h => e h.symm) hp hq
      cases hqx : q x
      · simp; omega
      · rw [h x (by simp) hqx]; simp; omega
theorem left_set {n : Nat} (hi : i < S.size) (hin : i < n) (hoff : ¬ On S i) : left (S.setIfInBounds i true) n < left S n := by
  refine countP_lt (i := i) (List.range n) (fun k _ h => ?_) (List.mem_range.2 hin) ?_ ?_
  · cases hk : S.getD k false
    · rfl
    · have : On (S.setIfInBounds i true) k := (On_set hi).2 (.inr hk)
      unfold On at this
      rw [this] at h
      exact h
  · cases hk : S.getD i false
    · rfl
    · exact absurd hk hoff
  · have : On (S.setIfInBounds i true) i := (On_set hi).2 (.inl rfl)
    unfold On at this
    rw [this]
    rfl
theorem left_zero {n : Nat} (h : left S n = 0) {k : Nat} (hk : k < n) : On S k := by
  unfold left at h
  rw [List.countP_eq_zero] at h
  have := h k (List.mem_range.2 hk)
  unfold On
  simpa using this
theorem any_ok (hn : NoNum P) (hcall : CallOk P call) (T : Tx P ns call ops ms c L s) (hns : ns < most) (hrec : ∀ r ∈ (s L.length).recs, readOk ms r (s L.length).Ms = true ∧ lastOk ms r (s L.length).Ms (s L.length).M = true)
    {A : AW} (hc : A.next = c) (hX0 : ∀ b, c ≤ b → X0 b = none) {a0 : Act} (hds : a0.defers = ds)
    (hQ : ∀ a' w', AftR P ns w0 σ0 A X0 a0 (s L.length).tm (letIn c (fun _ => true) (s L.length).pend (s L.length).M) a' w' → Q .normal a' w') :
    ∀ (fuel : Nat) (S : Array Bool) (a : Act) (w : World) (t : Nat) (σ : Sig), RI P ns w0 ops ms c L s X0 σ0 ds S a w t σ → left S L.length ≤ fuel → wpAny P .any ⟨ops⟩ Q fuel S a w := by
  have hlen := (crs_get T.crs).1
  have hend : ∀ (S : Array Bool) (a : Act) (w : World) (t : Nat) (σ : Sig), RI P ns w0 ops ms c L s X0 σ0 ds S a w t σ → Region.ready .any ⟨ops⟩ S = [] → Q .normal a w := fun S a w t σ R hr => by
    refine hQ a w (R.finish T hns hc hX0 (fun k => ?_) hds)
    induction k using Nat.strongRecOn with
    | _ k ih =>
      intro hk
      by_cases hon : On S k
      · exact hon
      · exfalso
        have hko : ops[k]? = some ops[k] := List.getElem?_eq_getElem (by omega)
        have : k ∈ Region.ready .any ⟨ops⟩ S := by
          refine mem_ready.2 ⟨?_, ops[k], by rw [List.getElem?_toArray]; exact hko, fun e he hb => ?_⟩
          · have hks : k < S.size := by rw [R.size]; exact hk
            unfold On at hon
            simp [hks] at hon ⊢
            exact hon
          · have hlt := T.ord.edge k _ e hko he hb
            exact ih e.on hlt (by omega)
        rw [hr] at this
        cases this
  intro fuel
  induction fuel with
  | zero =>
    intro S a w t σ R hl
    have hready : Region.ready .any ⟨ops⟩ S = [] := by
      cases hr : Region.ready .any ⟨ops⟩ S with
      | nil => rfl
      | cons i l =>
        exfalso
        obtain ⟨hoff, hisz⟩ := ready_off (ops := ops) (S := S) (i := i) (by rw [hr]; simp)
        exact hoff (left_zero (n := L.length) (by omega) (by rw [← R.size]; exact hisz))
    exact ⟨hready, hend S a w t σ R hready⟩
  | succ fuel ih =>
    intro S a w t σ R hl
    refine ⟨hend S a w t σ R, fun i hi => ?_⟩
    obtain ⟨hoff, hisz⟩ := ready_off hi
    refine R.step hn hcall T hns hrec hi fun a' w' t' σ' R' => ih _ a' w' t' σ' R' ?_
    have := left_set (n := L.length) hisz (by rw [← R.size]; exact hisz) hoff
    omega
theorem drawn_ok (hn : NoNum P) (hcall : CallOk P call) (hm : P.follows .mixedOrders = true) {id : Nat} {arr : Array Oper} {d : CD} {tm tm' : TM} {A A' : AW} {X : Nat → Option AObj} (hd : cd P ns arr (masks arr.toList []) = some d) (h : St P w0 σ A X w) (ht : TR ns σ tm a.tmps) (hr : drawn call d tm A = .ok tm' A')
    (hQ : ∀ a' w', AftR P ns w0 σ A X a tm' A' a' w' → Q .normal a' w') : (Code.region id arr true).wp P Q a w := by
  unfold cd at hd
  obtain ⟨hord, hd⟩ := cond_ok hd
  split at hd
  · rename_i L hL
    injection hd with hd
    subst hd
    unfold drawn at hr
    simp only at hr
    cases hb : Nat.ble (A.next + arr.size + 2) most
    · rw [hb] at hr; simp at hr
    · rw [hb] at hr
      simp only [cond_true] at hr
      have hb := Nat.le_of_ble_eq_true hb
      unfold drawEnd at hr
      split at hr
      · rename_i sn hdr
        cases hall : allOk (masks arr.toList []) sn
        · rw [hall] at hr; simp at hr
        · rw [hall] at hr
          simp only [cond_true, sA_eq, R2.ok.injEq] at hr
          obtain ⟨rfl, rfl⟩ := hr
          obtain ⟨f, f0, fn, fs⟩ := draw_trace L 0 _ _ hdr
          rw [Nat.zero_add] at fn
          have T : Tx P ns call arr.toList (masks arr.toList []) A.next L f := ⟨hL, fun i o hi => by have := fs i o hi; rwa [Nat.zero_add] at this, ord_of rfl hord, by rw [f0], by rw [f0]⟩
          have hlen : L.length = arr.size := (crs_get hL).1.trans (by simp)
          have hX0 : ∀ b, A.next ≤ b → X b = none := fun b hbb => (h.dead (h.free hbb)).2
          refine wp_region_any hm ?_
          rw [← fn] at hQ hall
          have hkey := any_ok hn hcall T ht.lt (X0 := X) (σ0 := σ) (ds := a.defers) (w0 := w0) (Q := Q) (fun r hr => by
            unfold allOk at hall
            rw [List.all_eq_true] at hall
            have := hall r hr
            rw [Bool.and_eq_true] at this
            exact this) (A := A) rfl hX0 (a0 := a) rfl hQ arr.size (Array.replicate arr.size false) a w.drew 0 σ
          have hoff : ∀ k, ¬ On (Array.replicate arr.size false) k := fun k hk => by
            unfold On at hk
            rcases Nat.lt_or_ge k arr.size with h1 | h1
            · simp [h1] at hk
            · rw [Array.getD_eq_getD_getElem?, Array.getElem?_eq_none (by simpa using h1)] at hk
              cases hk
          refine hkey ⟨by simp [hlen], fun i k hi => absurd hi (hoff i), Nat.zero_le _, fun k _ _ => hoff k, .inl rfl, ?_, ?_, Sig.le_refl σ, fun _ _ => rfl, fun k _ _ => h.free (by omega), ht.size, fun d hd => ⟨0, Nat.zero_le _, fun k _ _ => hoff k, .inl rfl, ?_⟩, rfl⟩ ?_
          · have : XS (masks arr.toList []) A.next L f X (Array.replicate arr.size false) 0 = X := (XS_ext (fun _ _ => rfl) fun k => by rw [XS_off (hoff k), hX0 _ (by omega)]).symm
            rw [this, f0]
            exact h.drew.share (by simp) (by show A.next + arr.size < most; omega) (fun b hb => h.disj b hb) (fun b p hp => hp)
          · rw [f0, hlen]
            exact Nat.le_refl _
          · rw [f0]
            exact ht.val d hd
          · unfold left
            have := List.countP_le_length (p := fun k => !(Array.replicate arr.size false).getD k false) (l := List.range L.length)
            rw [List.length_range, hlen] at this
            rw [hlen]
            exact this
      · cases hr
  · cases hd
end
end Ev
end Go.Proofs.YtiglblfjmmdeeaaGreat
