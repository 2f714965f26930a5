/- The evaluator: a region that draws its order: each order comes to what the text's run tells. -/
import Derived.Test.YtiglblfjmmdeeaaGreatEv20
namespace Go.Proofs.YtiglblfjmmdeeaaGreat
open Go.RowKit
namespace Ev

section
variable {P : Program} {w0 w : World} {σ : Sig} {A : AW} {X : Nat → Option AObj} {o : AObj} {b : Nat}
theorem Live_some {A : AW} {X : Nat → Option AObj} {b : Nat} (h : Live A X b) : ∃ p, A.den b = some p ∨ X b = some p := by
  rcases h with h1 | h1
  · obtain ⟨p, hp⟩ := Option.ne_none_iff_exists'.1 h1; exact ⟨p, .inl hp⟩
  · obtain ⟨p, hp⟩ := Option.ne_none_iff_exists'.1 h1; exact ⟨p, .inr hp⟩
theorem Live_of {A : AW} {X : Nat → Option AObj} {b : Nat} {p : AObj} (h : A.den b = some p ∨ X b = some p) : Live A X b := by
  rcases h with h | h
  · exact .inl (by rw [h]; simp)
  · exact .inr (by rw [h]; simp)
/-- The same things, otherwise shared out. -/
theorem St.share {A' : AW} {X' : Nat → Option AObj} (h : St P w0 σ A X w) (hn : A.next ≤ A'.next) (hb : A'.next < most) (hd : ∀ b, X' b ≠ none → A'.den b = none) (ho : ∀ b p, (A'.den b = some p ∨ X' b = some p) → (A.den b = some p ∨ X b = some p)) : St P w0 σ A' X' w := by
  have hl : ∀ b, Live A' X' b → Live A X b := fun b hb => let ⟨p, hp⟩ := Live_some hb; Live_of (ho b p hp)
  exact ⟨fun b x hx => Nat.lt_of_lt_of_le (h.dom b x hx) hn, hb, hd, fun b p hp => h.objs b p (ho b p hp), fun b b' L L' h1 h2 => h.inj b b' L L' (hl b h1) (hl b' h2), h.below⟩
theorem noMem_den (b : Nat) : noMem.den b = none := by
  unfold AW.den
  split <;> rfl
theorem St.away (h : St P w0 σ A X w) : St P w0 σ noMem (fun b => match A.den b with | some o => some o | none => X b) w := by
  refine h.share (Nat.le_of_lt_succ h.bound) (by decide) (fun b _ => noMem_den b) fun b p hp => ?_
  rw [noMem_den] at hp
  rcases hp with hp | hp
  · cases hp
  · cases hd : A.den b with
    | none => rw [hd] at hp; exact .inr hp
    | some q => rw [hd] at hp; exact .inl hp
theorem St.move (h : St P w0 σ A X w) (hx : X b = some o ∨ A.den b = some o) (hb : b < most) : St P w0 σ (A.upd b (some o)) (fun x => if x = b then none else X x) w := by
  refine h.share (by rw [upd_next]; exact Nat.le_refl _) (by rw [upd_next]; exact h.bound) (fun x hx => ?_) fun x p hp => ?_
  · rw [upd_den A _ hb]
    by_cases e : x = b
    · rw [if_pos e] at hx; exact absurd rfl hx
    · rw [if_neg e] at hx ⊢; exact h.disj x hx
  · rw [upd_den A _ hb] at hp
    by_cases e : x = b
    · subst e
      rw [if_pos rfl, if_pos rfl] at hp
      rcases hp with hp | hp
      · cases hp; exact hx.symm
      · cases hp
    · rw [if_neg e, if_neg e] at hp; exact hp
def letX (c : Nat) (keep : Nat → Bool) : List (Nat × AObj) → (Nat → Option AObj) → (Nat → Option AObj)
  | [], X => X
  | (k, _) :: l, X => letX c keep l (bif keep k then fun x => if x = c + k then none else X x else X)
theorem letX_in {c : Nat} {keep : Nat → Bool} : ∀ {l : List (Nat × AObj)} {X : Nat → Option AObj} {b : Nat}, (X b = none ∨ ∃ k o, (k, o) ∈ l ∧ keep k = true ∧ b = c + k) → letX c keep l X b = none
  | [], X, b, h => by
    rcases h with h | ⟨k, o, h, _⟩
    · exact h
    · simp at h
  | (k, o) :: l, X, b, h => by
    simp only [letX]
    refine letX_in ?_
    rcases h with h | ⟨k', o', h1, h2, h3⟩
    · left
      cases hk : keep k
      · exact h
      · simp only [cond_true]; split
        · rfl
        · exact h
    · rw [List.mem_cons] at h1
      rcases h1 with e | h1
      · cases e
        left
        rw [h2]
        simp [h3]
      · exact .inr ⟨k', o', h1, h2, h3⟩
theorem letX_out {c : Nat} {keep : Nat → Bool} : ∀ {l : List (Nat × AObj)} {X : Nat → Option AObj} {b : Nat}, (∀ k o, (k, o) ∈ l → keep k = true → b ≠ c + k) → letX c keep l X b = X b
  | [], X, b, _ => rfl
  | (k, o) :: l, X, b, h => by
    simp only [letX]
    rw [letX_out fun k' o' h1 h2 => h k' o' (List.mem_cons_of_mem _ h1) h2]
    cases hk : keep k
    · rfl
    · simp only [cond_true]
      rw [if_neg (h k o (by simp) hk)]
theorem St.letIn {c : Nat} {keep : Nat → Bool} {made : Nat → Option AObj} : ∀ (l : List (Nat × AObj)) (A : AW) (X : Nat → Option AObj), St P w0 σ A X w → (∀ k o, (k, o) ∈ l → made k = some o) → (∀ k o, (k, o) ∈ l → keep k = true → X (c + k) = some o ∨ A.den (c + k) = some o) → (∀ k o, (k, o) ∈ l → c + k < most) →
    St P w0 σ (Ev.letIn c keep l A) (letX c keep l X) w ∧ (Ev.letIn c keep l A).next = A.next
  | [], A, X, h, _, _, _ => ⟨h, rfl⟩
  | (k, o) :: l, A, X, h, hm, hx, hb => by
    simp only [Ev.letIn, letX]
    cases hk : keep k
    · simp only [cond_false]
      exact St.letIn l A X h (fun k o h1 => hm k o (List.mem_cons_of_mem _ h1)) (fun k o h1 => hx k o (List.mem_cons_of_mem _ h1)) (fun k o h1 => hb k o (List.mem_cons_of_mem _ h1))
    · simp only [cond_true]
      have hbk := hb k o (by simp)
      obtain ⟨h1, h2⟩ := St.letIn l (A.upd (c + k) (some o)) _ (h.move (hx k o (by simp) hk) hbk) (fun k o h1 => hm k o (List.mem_cons_of_mem _ h1)) (fun k' o' h1 h2 => by
        rw [upd_den A _ hbk]
        by_cases e : k' = k
        · subst e
          have e1 := hm k' o' (List.mem_cons_of_mem _ h1)
          rw [hm k' o (by simp)] at e1
          cases e1
          exact .inr (by rw [if_pos rfl])
        · have e2 : ¬ c + k' = c + k := by omega
          rw [if_neg e2]
          simp only [e2, if_false]
          exact hx k' o' (List.mem_cons_of_mem _ h1) h2) (fun k o h1 => hb k o (List.mem_cons_of_mem _ h1))
      exact ⟨h1, h2.trans (upd_next ..)⟩
end

section
variable {P : Program} {ns : Nat} {ops : List Oper}
theorem crs_get {whole : List Oper} : ∀ {l : List Oper} {L : List CR}, crs P ns whole l = some L → L.length = l.length ∧ ∀ (i : Nat) (o : Oper), l[i]? = some o → ∃ k, L[i]? = some k ∧ cr P ns whole o = some k
  | [], L, h => by
    simp only [crs, Option.some.injEq] at h
    subst h
    exact ⟨rfl, fun i o h => by simp at h⟩
  | o :: l, L, h => by
    simp only [crs] at h
    split at h
    · rename_i k L' h1 h2
      injection h with h
      subst h
      obtain ⟨h3, h4⟩ := crs_get h2
      refine ⟨by simp [h3], fun i p hp => ?_⟩
      cases i with
      | zero => simp at hp; subst hp; exact ⟨k, rfl, h1⟩
      | succ i => simpa using h4 i p (by simpa using hp)
    · cases h
variable {σ : Sig} {tm : TM} {a : Act} {o : Oper}
/-- What an operation looks at. -/
def Lk (ns : Nat) (ops : List Oper) (o : Oper) (σ : Sig) (tm : TM) (a : Act) : Prop := a.tmps.size = ns ∧ ∀ t, t ∈ o.looksAt ⟨ops⟩ → t < ns → VR σ (tm.val (path t)) (a.tmps.getD t undef)
theorem Lk.ev (h : Lk ns ops o σ tm a) {x : Operand} (hx : x ∈ o.op.operands) (hk : okO x = true) : VR σ ((co ns x).ev tm) (a.eval x) := by
  cases x with
  | tmp t =>
    cases hb : Nat.blt t ns
    · have hge : ns ≤ t := by
        have : ¬ t < ns := fun hl => by rw [show Nat.blt t ns = true from Nat.ble_eq_true_of_le hl] at hb; cases hb
        exact Nat.le_of_not_lt this
      have : a.eval (.tmp t) = undef := by
        show a.tmps.getD t undef = undef
        rw [Array.getD_eq_getD_getElem?, Array.getElem?_eq_none (by rw [h.1]; exact hge)]
        rfl
      rw [this]
      simp only [co, hb, cond_false]
      exact undef_r σ
    · have hlt : t < ns := Nat.le_of_ble_eq_true hb
      simp only [co, hb, cond_true]
      exact h.2 t (List.mem_append_left _ (List.mem_filterMap.2 ⟨.tmp t, by simpa using hx, rfl⟩)) hlt
  | const v => exact clo_r σ hk
  | global g => exact .glob g
  | func f => exact .func .nil .nil
theorem Lk.wanted {c : CR} (hc : cr P ns ops o = some c) (ht : Lk ns ops o σ tm a) : c.wanted tm = Region.wanted o (yielded ⟨ops⟩ a.tmps) := by
  unfold cr at hc
  split at hc
  · rename_i k g d hk hg hd
    obtain ⟨_, hc⟩ := cond_ok hc
    injection hc with hc
    subst hc
    unfold guardOf at hg
    unfold CR.wanted Region.wanted
    split at hg
    · rename_i hn
      injection hg with hg
      subst hg
      rw [hn]
    · rename_i j want hn
      split at hg
      · rename_i og hog
        split at hg
        · rename_i t hdst
          obtain ⟨hb, hg⟩ := cond_ok hg
          injection hg with hg
          subst hg
          rw [hn]
          have hlt : t < ns := Nat.le_of_ble_eq_true hb
          have hog' : (⟨ops⟩ : Array Oper)[j]? = some og := by rw [List.getElem?_toArray]; exact hog
          have hv := ht.2 t (by
            unfold Oper.looksAt
            refine List.mem_append_right _ ?_
            rw [hn]
            simp only [hog', Option.bind_some, hdst]
            simp) hlt
          have hts : t < a.tmps.size := by rw [ht.1]; exact hlt
          have hgd : a.tmps.getD t undef = a.tmps[t] := by simp [hts]
          simp only [yielded, hog', Option.bind_some, hdst, Array.getElem?_eq_getElem hts]
          rw [hgd] at hv
          generalize tm.val (path t) = q at hv
          generalize a.tmps[t] = q' at hv
          cases q' with
          | bool b => rw [hv.bool_of]; simp
          | _ =>
            cases q with
            | bool b => have := hv.bool_inv; cases this
            | _ => rfl
        · cases hg
      · cases hg
  · cases hc
end
def On (S : Array Bool) (k : Nat) : Prop := S.getD k false = true
theorem On_set {S : Array Bool} {i k : Nat} (hi : i < S.size) : On (S.setIfInBounds i true) k ↔ k = i ∨ On S k := by
  unfold On
  by_cases h : i = k
  · subst h
    simp [hi]
  · rw [getD_set_ne false h]
    have : k ≠ i := fun e => h e.symm
    simp [this]
theorem On_lt {S : Array Bool} {k : Nat} (h : On S k) : k < S.size := by
  unfold On at h
  rcases Nat.lt_or_ge k S.size with h' | h'
  · exact h'
  · simp [Array.getElem?_eq_none h'] at h
def Wr (ops : List Oper) (k d : Nat) : Prop := ∃ o, ops[k]? = some o ∧ o.dst = some d
open Classical in
noncomputable def XS (ms : List Nat) (c : Nat) (L : List CR) (s : Nat → DS) (X0 : Nat → Option AObj) (S : Array Bool) (t : Nat) : Nat → Option AObj := fun b =>
  if c ≤ b then (if On S (b - c) ∧ ¬ In ms L s t (b - c) then made L s (b - c) else none) else X0 b
/-- What holds when the operations S are done, in whatever order. -/
structure RI (P : Program) (ns : Nat) (w0 : World) (ops : List Oper) (ms : List Nat) (c : Nat) (L : List CR) (s : Nat → DS) (X0 : Nat → Option AObj) (σ0 : Sig) (ds : List Deferred) (S : Array Bool) (a : Act) (w : World) (t : Nat) (σ : Sig) : Prop where
  size : S.size = L.length
  down : ∀ i k, On S i → behind ms i k = true → On S k
  tn : t ≤ L.length
  acts : ∀ k, t ≤ k → IsAct L s k → ¬ On S k
  last : t = 0 ∨ ∃ k, t = k + 1 ∧ IsAct L s k ∧ On S k
  st : St P w0 σ (s t).M (XS ms c L s X0 S t) w
  next : c + L.length ≤ (s t).M.next
  le : σ0.le σ
  old : ∀ b, b < c → σ b = σ0 b
  free : ∀ k, k < L.length → ¬ On S k → σ (c + k) = none
  tsz : a.tmps.size = ns
  slots : ∀ d, d < ns → ∃ u, u ≤ L.length ∧ (∀ k, u ≤ k → Wr ops k d → ¬ On S k) ∧ (u = 0 ∨ ∃ k, u = k + 1 ∧ Wr ops k d ∧ On S k) ∧ VR σ ((s u).tm.val (path d)) (a.tmps.getD d undef)
  dfs : a.defers = ds
section
variable {P : Program} {ns : Nat} {w0 : World} {ops : List Oper} {ms : List Nat} {c : Nat} {L : List CR} {s : Nat → DS} {X0 : Nat → Option AObj} {σ0 : Sig} {ds : List Deferred} {S : Array Bool} {a : Act} {w : World} {t : Nat} {σ : Sig} {call : CallF} {Q : Exit → Act → World → Prop}
theorem Tx.wr (T : Tx P ns call ops ms c L s) (hns : ns < most) {k d : Nat} {o : CR} (hd : d < ns) (ho : L[k]? = some o) (h : o.dst = some (path d)) : Wr ops k d := by
  obtain ⟨hl, hg⟩ := crs_get T.crs
  have hk : k < ops.length := by rw [← hl]; exact (List.getElem?_eq_some_iff.1 ho).1
  obtain ⟨o', h1, h2⟩ := hg k _ (List.getElem?_eq_getElem hk)
  rw [ho] at h1
  cases h1
  obtain ⟨_, hp, _⟩ := cr_parts h2
  refine ⟨_, List.getElem?_eq_getElem hk, ?_⟩
  unfold pathO at hp
  cases hdst : (ops[k]).dst with
  | none => rw [hdst] at hp; simp at hp; rw [← hp] at h; cases h
  | some d' =>
    rw [hdst] at hp
    simp only at hp
    obtain ⟨hb, hp⟩ := cond_ok hp
    injection hp with hp
    rw [← hp] at h
    injection h with h
    have hlt : d' < ns := Nat.le_of_ble_eq_true hb
    rw [path_inj (Nat.lt_trans hlt hns) (Nat.lt_trans hd hns) h]
/-- Ahead of an operation that may come: each that it stands behind is done. -/
theorem RI.ahead (T : Tx P ns call ops ms c L s) (R : RI P ns w0 ops ms c L s X0 σ0 ds S a w t σ) {i : Nat} (hi : i ∈ Region.ready .any ⟨ops⟩ S) {k : Nat} (hk : behind ms i k = true) : On S k := by
  obtain ⟨h0, o, ho, hall⟩ := mem_ready.1 hi
  obtain ⟨o', e, ho', he, hb, hk⟩ := (T.ord.bit i k).1 hk
  rw [List.getElem?_toArray] at ho
  rw [ho] at ho'
  cases ho'
  have := hall e he hb
  rcases hk with rfl | hk
  · exact this
  · exact R.down _ _ this hk
theorem ready_off {i : Nat} (hi : i ∈ Region.ready .any ⟨ops⟩ S) : ¬ On S i ∧ i < S.size := by
  obtain ⟨h0, _⟩ := mem_ready.1 hi
  rcases Nat.lt_or_ge i S.size with h' | h'
  · refine ⟨fun h => ?_, h'⟩
    unfold On at h
    simp [h'] at h h0
    rw [h] at h0
    cases h0
  · simp [Array.getElem?_eq_none h'] at h0
theorem RI.looks (T : Tx P ns call ops ms c L s) (hns : ns < most) (R : RI P ns w0 ops ms c L s X0 σ0 ds S a w t σ) {i : Nat} {o : Oper} (hi : i ∈ Region.ready .any ⟨ops⟩ S) (ho : ops[i]? = some o) : Lk ns ops o σ (s i).tm a := by
  refine ⟨R.tsz, fun d hd hlt => ?_⟩
  obtain ⟨hoff, hisz⟩ := ready_off hi
  rw [R.size] at hisz
  have pr : ∀ k, Wr ops k d → k = i ∨ (i < k ∧ behind ms k i = true) ∨ (k < i ∧ behind ms i k = true) := fun k ⟨p, hp, hpd⟩ => T.ord.pair i o k p d ho hp hpd (List.mem_append_right _ hd)
  obtain ⟨u, hu, h1, h2, h3⟩ := R.slots d hlt
  have : (s u).tm.val (path d) = (s i).tm.val (path d) := by
    rcases Nat.lt_or_ge i u with hiu | hiu
    · exfalso
      rcases h2 with rfl | ⟨k, rfl, hw, hon⟩
      · omega
      · rcases pr k hw with rfl | ⟨_, h⟩ | ⟨h, _⟩
        · exact hoff hon
        · exact hoff (R.down _ _ hon h)
        · omega
    · refine (T.slot i hiu (by omega) fun k o' hk1 hk2 ho' hd' => ?_).symm
      have hw := T.wr hns hlt ho' hd'
      rcases pr k hw with rfl | ⟨h, _⟩ | ⟨_, h⟩
      · omega
      · omega
      · exact h1 k hk1 hw (R.ahead T hi h)
  rw [← this]
  exact h3
/-- One operation more. -/
theorem RI.more (T : Tx P ns call ops ms c L s) (R : RI P ns w0 ops ms c L s X0 σ0 ds S a w t σ) {i : Nat} {o : Oper} {k : CR} (hi : i ∈ Region.ready .any ⟨ops⟩ S) (ho : ops[i]? = some o) (hk : L[i]? = some k) (hc : cr P ns ops o = some k)
    {v v' : Value} {σ' : Sig} {w' : World} {t' : Nat} (hput : (s (i + 1)).tm = put (s i).tm k.dst v) (hv : VR σ' v v') (hle : σ.le σ') (hold : ∀ b, b < c → σ' b = σ b) (hfree : ∀ j, j < L.length → j ≠ i → σ (c + j) = none → σ' (c + j) = none)
    (hst : St P w0 σ' (s t').M (XS ms c L s X0 (S.setIfInBounds i true) t') w') (hnext : c + L.length ≤ (s t').M.next) (htn : t' ≤ L.length) (hacts : ∀ j, t' ≤ j → IsAct L s j → j ≠ i ∧ ¬ On S j) (hlast : t' = 0 ∨ ∃ j, t' = j + 1 ∧ IsAct L s j ∧ (j = i ∨ On S j)) :
    RI P ns w0 ops ms c L s X0 σ0 ds (S.setIfInBounds i true) (a.put o.dst v') w' t' σ' := by
  obtain ⟨hoff, hisz⟩ := ready_off hi
  obtain ⟨_, hp, _⟩ := cr_parts hc
  have hiL : i < L.length := by rw [← R.size]; exact hisz
  refine ⟨by rw [Array.size_setIfInBounds]; exact R.size, fun x y hx hy => ?_, htn, fun j h1 h2 h3 => ?_, ?_, hst, hnext, Sig.le_trans R.le hle, fun b hb => (hold b hb).trans (R.old b hb), fun j hj hnj => ?_, ?_, fun d hd => ?_, (put_defers ..).trans R.dfs⟩
  · rw [On_set hisz] at hx ⊢
    rcases hx with rfl | hx
    · exact .inr (R.ahead T hi hy)
    · exact .inr (R.down _ _ hx hy)
  · rw [On_set hisz] at h3
    rcases h3 with h3 | h3
    · exact (hacts j h1 h2).1 h3
    · exact (hacts j h1 h2).2 h3
  · rcases hlast with h | ⟨j, h1, h2, h3⟩
    · exact .inl h
    · exact .inr ⟨j, h1, h2, (On_set hisz).2 h3⟩
  · rw [On_set hisz] at hnj
    exact hfree j hj (fun e => hnj (.inl e)) (R.free j hj fun e => hnj (.inr e))
  · cases o.dst with
    | none => exact R.tsz
    | some d => simp [Act.put]; exact R.tsz
  · have hother : o.dst ≠ some d → ∃ u, u ≤ L.length ∧ (∀ k, u ≤ k → Wr ops k d → ¬ On (S.setIfInBounds i true) k) ∧ (u = 0 ∨ ∃ k, u = k + 1 ∧ Wr ops k d ∧ On (S.setIfInBounds i true) k) ∧ VR σ' ((s u).tm.val (path d)) ((a.put o.dst v').tmps.getD d undef) := fun hne => by
      obtain ⟨u, h1, h2, h3, h4⟩ := R.slots d hd
      refine ⟨u, h1, fun j hj hw => ?_, ?_, ?_⟩
      · rw [On_set hisz]
        rintro (rfl | h)
        · obtain ⟨p, hp1, hp2⟩ := hw
          rw [ho] at hp1
          cases hp1
          exact hne hp2
        · exact h2 j hj hw h
      · rcases h3 with h | ⟨j, h5, h6, h7⟩
        · exact .inl h
        · exact .inr ⟨j, h5, h6, (On_set hisz).2 (.inr h7)⟩
      · have : (a.put o.dst v').tmps.getD d undef = a.tmps.getD d undef := by
          cases hd2 : o.dst with
          | none => rfl
          | some e =>
            have hed : e ≠ d := fun h => hne (by rw [hd2, h])
            simp [Act.put, Array.getElem?_setIfInBounds_ne hed]
        rw [this]
        exact h4.mono hle
    by_cases hdd : o.dst = some d
    · refine ⟨i + 1, hiL, fun j hj hw => ?_, .inr ⟨i, rfl, ⟨o, ho, hdd⟩, (On_set hisz).2 (.inl rfl)⟩, ?_⟩
      · rw [On_set hisz]
        rintro (h | h)
        · omega
        · obtain ⟨p, hp1, hp2⟩ := hw
          have hlk : d ∈ Ev.looks ⟨ops⟩ o := by
            unfold Ev.looks
            rw [hdd]
            simp
          rcases T.ord.pair i o j p d ho hp1 hp2 hlk with h5 | ⟨_, h5⟩ | ⟨h5, _⟩
          · omega
          · exact hoff (R.down _ _ h h5)
          · omega
      · rw [hdd] at hp
        unfold pathO at hp
        simp only at hp
        obtain ⟨hb, hp⟩ := cond_ok hp
        injection hp with hp
        have hts : d < a.tmps.size := by rw [R.tsz]; exact hd
        rw [hput, ← hp, val_put, if_pos rfl, hdd]
        simp only [Act.put]
        rw [Array.getD_eq_getD_getElem?, Array.getElem?_setIfInBounds_self_of_lt hts]
        exact hv
    · exact hother hdd
end
end Ev
end Go.Proofs.YtiglblfjmmdeeaaGreat
