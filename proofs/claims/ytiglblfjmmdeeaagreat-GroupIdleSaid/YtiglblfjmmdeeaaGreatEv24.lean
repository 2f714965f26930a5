/- The evaluator: results, calls, the whole. -/
import Derived.Test.YtiglblfjmmdeeaaGreatEv23
namespace Go.Proofs.YtiglblfjmmdeeaaGreat
open Go.RowKit
namespace Ev

section
variable {P : Program} {ns : Nat} {w0 w : World} {σ : Sig} {A : AW} {X : Nat → Option AObj} {tm : TM} {a : Act} {call : CallF}
theorem load_ptr {x : CO} {u v : Value} {n : Nat} (hu : VR σ (x.ev tm) u) (h : rdLoad x tm A = some v ∨ rdLoadN n x tm A = some v) : ∃ p, u = .pointer (some p) := by
  have : ∃ b o, x.ev tm = .pointer (some ⟨b, o, none⟩) := by
    rcases h with h | h
    · unfold rdLoad at h
      split at h
      · rename_i b o he; exact ⟨b, o, he⟩
      · cases h
    · unfold rdLoadN at h
      split at h
      · rename_i b o he; exact ⟨b, o, he⟩
      · cases h
  obtain ⟨b, o, he⟩ := this
  rw [he] at hu
  obtain ⟨r, s, nn, zz, _, rfl⟩ := hu.ptr_inv
  exact ⟨_, rfl⟩
theorem load_var {t : TypeId} {u v' : Value} (hp : ∃ p, u = .pointer (some p)) (h : (Instr.loadAt t u).run P w = .ok v' w) : (do loadVar t (← asAddr u) : Sem Value).run P w = .ok v' w := by
  obtain ⟨p, rfl⟩ := hp
  simpa only [Instr.loadAt, Instr.sureAddr, asAddr, Sem.run_bind, Sem.run_pure, Result.andThen_ok] using h
/-- One result. -/
noncomputable def resultOf (tmps : Array Value) : ResultVar → Sem Value
  | .tmp t => pure (tmps.getD t undef)
  | .cell a t => do loadVar t (← asAddr (tmps.getD a undef))
theorem slot_r (ht : TR ns σ tm a.tmps) (t : Tmp) : VR σ ((co ns (.tmp t)).ev tm) (a.tmps.getD t undef) := ht.ev (.tmp t) rfl
theorem resL_ok (h : St P w0 σ A X w) (ht : TR ns σ tm a.tmps) : ∀ (l : List ResultVar) (vs : List Value), resL P ns l tm A = some vs → ∃ vs', (l.mapM (resultOf a.tmps)).run P w = .ok vs' w ∧ VRs σ vs vs'
  | [], vs, hv => by
    simp only [resL, Option.some.injEq] at hv
    subst hv
    exact ⟨[], by simp, .nil⟩
  | .tmp t :: l, vs, hv => by
    simp only [resL] at hv
    split at hv
    · rename_i vs2 h2
      injection hv with hv
      subst hv
      obtain ⟨vs', h3, h4⟩ := resL_ok h ht l vs2 h2
      refine ⟨a.tmps.getD t undef :: vs', ?_, .cons (slot_r ht t) h4⟩
      simp only [List.mapM_cons, resultOf, Sem.run_bind, Sem.run_pure, Result.andThen_ok, h3]
    · cases hv
  | .cell c t :: l, vs, hv => by
    simp only [resL] at hv
    have hu := slot_r ht c
    have fin : ∀ (v v' : Value) (vs2 : List Value), resL P ns l tm A = some vs2 → VR σ v v' → (resultOf a.tmps (.cell c t)).run P w = .ok v' w → vs = v :: vs2 → ∃ vs', ((ResultVar.cell c t :: l).mapM (resultOf a.tmps)).run P w = .ok vs' w ∧ VRs σ vs vs' := by
      intro v v' vs2 h2 hvv hrun he
      subst he
      obtain ⟨vs', h3, h4⟩ := resL_ok h ht l vs2 h2
      refine ⟨v' :: vs', ?_, .cons hvv h4⟩
      simp only [List.mapM_cons, Sem.run_bind, Sem.run_pure, Result.andThen_ok, h3, hrun]
    split at hv
    · rename_i n h1 h2
      split at hv
      · rename_i v vs2 h5 h6
        injection hv with hv
        obtain ⟨v', h7, h8⟩ := sim_loadN (P := P) h h1 h2 hu h5
        exact fin v v' vs2 h6 h8 (load_var (load_ptr hu (.inr h5)) h7) hv.symm
      · cases hv
    · rename_i h1
      split at hv
      · rename_i v vs2 h5 h6
        injection hv with hv
        obtain ⟨v', h7, h8⟩ := sim_load1 (P := P) h h1 hu h5
        exact fin v v' vs2 h6 h8 (load_var (load_ptr (n := 0) hu (.inl h5)) h7) hv.symm
      · cases hv
    · cases hv
theorem results_eq (fn : Func) (tmps : Array Value) : results fn tmps = (do let vs ← fn.results.mapM (resultOf tmps); pure (if h : vs.size = 1 then vs[0] else .tuple vs)) := by
  unfold results
  congr 1
theorem done_ok {fn : Func} {v : Value} {A' : AW} (h : St P w0 σ A X w) (ht : TR fn.ntmps σ tm a.tmps) (hd : done P fn tm A = some (v, A')) : A' = A ∧ ∃ v', (results fn a.tmps).run P w = .ok v' w ∧ VR σ v v' := by
  unfold done at hd
  split at hd
  · rename_i vs hvs
    injection hd with hd
    injection hd with h1 h2
    refine ⟨h2.symm, ?_⟩
    obtain ⟨vs', h3, h4⟩ := resL_ok h ht _ _ hvs
    rw [results_eq, Array.mapM_eq_mapM_toList]
    simp only [Sem.run_bind, h3, Result.andThen_ok, Sem.run_pure, Sem.run_map]
    refine ⟨_, rfl, ?_⟩
    rw [← h1]
    have hlen := h4.len
    cases h4 with
    | nil => simp [tupled]; first | done | exact .tuple .nil
    | cons hv t =>
      cases t with
      | nil => simpa [tupled] using hv
      | cons hv2 t =>
        simp only [tupled]
        rw [dif_neg (by simp)]
        exact .tuple (.cons hv (.cons hv2 t))
  · cases hd
theorem ends_ok {fn : Func} {r : R} {v : Value} {A' : AW} (hd : ends P fn r = some (v, A')) (ha : a.defers = []) {e : Exit} {a' : Act} {w' : World} (h : Aft P fn.ntmps w0 σ A X a r e a' w') :
    bodyPost P fn (fun e w' => ∃ v' σ', e = .returned v' ∧ Step σ A σ' A' ∧ St P w0 σ' A' X w' ∧ VR σ' v v') e a' w' := by
  cases r with
  | norm tm2 A2 =>
    cases e with
    | normal =>
      obtain ⟨σ', s1, s2, s3, s4⟩ := h
      obtain ⟨rfl, v', h1, h2⟩ := done_ok s2 s3 hd
      exact ⟨s4.trans ha, v', h1, v', σ', rfl, s1, s2, h2⟩
    | _ => exact h.elim
  | ret tm2 A2 =>
    cases e with
    | ret =>
      obtain ⟨σ', s1, s2, s3, s4⟩ := h
      obtain ⟨rfl, v', h1, h2⟩ := done_ok s2 s3 hd
      exact ⟨s4.trans ha, v', h1, v', σ', rfl, s1, s2, h2⟩
    | _ => exact h.elim
  | exit i tm2 A2 => cases hd
  | goto i tm2 A2 => cases hd
  | no => cases hd
/-- The slots at the start. -/
noncomputable def ent : List Value → Nat → TM → TM
  | [], _, tm => tm
  | v :: l, i, tm => ent l (i + 1) (put tm (some (path i)) v)
theorem enterTM_eq {β : Type} (k : TM → β) : ∀ (l : List Value) (i : Nat) (tm : TM), enterTM k l i tm = k (ent l i tm)
  | [], _, _ => rfl
  | v :: l, i, tm => by
    simp only [enterTM, sV_eq, ent]
    rw [setK_eq, enterTM_eq k l (i + 1)]
    rfl
theorem ent_val {ns : Nat} (hns : ns < most) : ∀ (l : List Value) (i : Nat) (tm : TM), i + l.length ≤ ns → ∀ t, t < ns → (ent l i tm).val (path t) = if i ≤ t ∧ t < i + l.length then l.getD (t - i) undef else tm.val (path t)
  | [], i, tm, _, t, _ => by
    rw [if_neg (by rintro ⟨h1, h2⟩; simp at h2; omega)]
    rfl
  | v :: l, i, tm, hl, t, ht => by
    simp only [List.length_cons] at hl
    simp only [ent]
    rw [ent_val hns l (i + 1) _ (by omega) t ht, val_put]
    by_cases h1 : t = i
    · subst h1
      rw [if_neg (by omega), if_pos rfl, if_pos (by simp)]
      simp
    · have h2 : path t ≠ path i := fun e => h1 (path_inj (by omega) (by omega) e)
      rw [if_neg h2]
      by_cases h3 : i + 1 ≤ t ∧ t < i + 1 + l.length
      · rw [if_pos h3, if_pos (by simp; omega), show t - i = (t - (i + 1)) + 1 by omega]
        simp
      · rw [if_neg h3, if_neg (by simp; omega)]
theorem enter_r {args : List Value} {args' : Array Value} (hns : ns < most) (hl : args.length ≤ ns) (hr : VRs σ args args'.toList) : TR ns σ (ent args 0 .nil) (args' ++ Array.replicate (ns - args'.size) undef) := by
  have hsz : args'.size = args.length := by rw [hr.len]; simp
  refine ⟨by simp; omega, hns, fun t ht => ?_⟩
  rw [ent_val hns args 0 .nil (by omega) t ht]
  by_cases h : t < args.length
  · rw [if_pos (by omega), Array.getD_eq_getD_getElem?, Array.getElem?_append_left (by omega)]
    obtain ⟨v', h1, h2⟩ := hr.get (List.getElem?_eq_getElem h)
    rw [Nat.sub_zero, List.getD_eq_getElem?_getD, List.getElem?_eq_getElem h]
    rw [Array.getElem?_toList] at h1
    rw [h1]
    exact h2
  · rw [if_neg (by omega), Array.getD_eq_getD_getElem?, Array.getElem?_append_right (by omega)]
    have : (Array.replicate (ns - args'.size) undef)[t - args'.size]?.getD undef = undef := by
      rw [Array.getElem?_replicate]
      split <;> rfl
    rw [this]
    exact undef_r σ
/-- What stands in for some functions' runs. -/
def OrcOk (P : Program) (orc : Orc) : Prop := ∀ (f : FuncId) (g : CallF), orc f = some g → ∀ (args : List Value) (A : AW) (v : Value) (A' : AW), g f args A = some (v, A') → ∀ (w0 : World) (σ : Sig) (X : Nat → Option AObj) (w : World) (args' : Array Value), St P w0 σ A X w → VRs σ args args'.toList →
  Calls P f args' w fun e w' => ∃ v' σ', e = .returned v' ∧ Step σ A σ' A' ∧ St P w0 σ' A' X w' ∧ VR σ' v v'
theorem callN_ok {orc : Orc} (hn : NoNum P) (hm : P.follows .mixedOrders = true) (ho : OrcOk P orc) : ∀ n, CallOk P (callN P orc n)
  | 0 => fun f args A v A' h => by cases h
  | n + 1 => fun f args A v A' h w0 σ X w args' hst hr => by
    simp only [callN] at h
    split at h
    · rename_i g hg
      exact ho f g hg args A v A' h w0 σ X w args' hst hr
    · unfold enterF at h
      split at h
      · rename_i fn hf
        split at h
        · rename_i b hb
          obtain ⟨hc, h⟩ := cond_ok h
          rw [Bool.and_eq_true] at hc
          have h1 := Nat.le_of_ble_eq_true hc.1
          have h2 := Nat.le_of_ble_eq_true hc.2
          rw [enterTM_eq] at h
          have hns : fn.ntmps < most := by unfold most; omega
          refine calls_of_wp hf hb ?_
          have hT := enter_r (σ := σ) hns h2 hr
          have hrun := run_ok (ns := fn.ntmps) hn hm (callN_ok hn hm ho n) 1000000 (.c b) (ent args 0 .nil) A (fun e => by rw [e] at h; cases h) w0 σ X { tmps := args' ++ Array.replicate (fn.ntmps - args'.size) undef, defers := [] } w hst hT
          exact wp_mono hrun.wp fun e a' w' he => ends_ok h rfl he
        · cases h
      · cases h
/-- From nothing: what the evaluator tells of a closed run. -/
theorem ev_calls {orc : Orc} (hn : NoNum P) (hm : P.follows .mixedOrders = true) (ho : OrcOk P orc) {n : Nat} {f : FuncId} {args : List Value} {v : Value} {A' : AW} (h : callN P orc n f args ⟨.nil, 0⟩ = some (v, A')) (hc : args.all clo = true) (w : World) :
    Calls P f ⟨args⟩ w fun e w' => ∃ v' σ', e = .returned v' ∧ St P w σ' A' (fun _ => none) w' ∧ VR σ' v v' := by
  have hst : St P w (fun _ => none) ⟨.nil, 0⟩ (fun _ => none) w := by
    refine ⟨(fun b x h => by cases h), (by decide), (fun b h => absurd rfl h), fun b o h => ?_, (fun b b' L L' _ _ h => by cases h), ⟨rfl, rfl, rfl, Nat.le_refl _, fun _ _ => rfl⟩⟩
    rcases h with h | h
    · unfold AW.den at h
      split at h <;> cases h
    · cases h
  have hr : VRs (fun _ => none) args (⟨args⟩ : Array Value).toList := by
    clear h hst
    induction args with
    | nil => exact .nil
    | cons x l ih =>
      rw [List.all_cons, Bool.and_eq_true] at hc
      exact .cons (clo_r _ hc.1) (ih hc.2)
  refine Calls.mono (callN_ok hn hm ho n f args _ v A' h w _ _ w ⟨args⟩ hst hr) fun e w' he => ?_
  obtain ⟨v', σ', h1, h2, h3, h4⟩ := he
  exact ⟨v', σ', h1, h3, h4⟩
end
end Ev
end Go.Proofs.YtiglblfjmmdeeaaGreat
