/- The evaluator: one operation, and regions in the text's order. -/
import Derived.Test.YtmohidgdmmkikaaGreatDoorEv17
namespace Go.Proofs.YtmohidgdmmkikaaGreatDoor
open Go.RowKit
namespace Ev

/-- A function's run does what the evaluator tells. -/
def CallOk (P : Program) (call : CallF) : Prop := ∀ (f : FuncId) (args : List Value) (A : AW) (v : Value) (A' : AW), call f args A = some (v, A') → ∀ (w0 : World) (σ : Sig) (X : Nat → Option AObj) (w : World) (args' : Array Value), St P w0 σ A X w → VRs σ args args'.toList →
  Calls P f args' w fun e w' => ∃ v' σ', e = .returned v' ∧ Step σ A σ' A' ∧ St P w0 σ' A' X w' ∧ VR σ' v v'
section
variable {P : Program} {ns : Nat} {w0 w : World} {σ : Sig} {A : AW} {X : Nat → Option AObj} {tm : TM} {a : Act} {o : Oper} {Q : Exit → Act → World → Prop} {call : CallF}
theorem put_defers (a : Act) (d : Option Tmp) (v : Value) : (a.put d v).defers = a.defers := by cases d <;> rfl
theorem TR.putD (h : TR ns σ tm a.tmps) {d : Option Tmp} {p : Option Path} (hp : pathO ns d = some p) {v v' : Value} (hv : VR σ v v') : TR ns σ (Ev.put tm p v) (a.put d v').tmps := by
  unfold pathO at hp
  cases d with
  | none => simp at hp; subst hp; exact h
  | some t =>
    simp only at hp
    obtain ⟨hb, hp⟩ := cond_ok hp
    injection hp with hp
    subst hp
    exact TR.put h (Nat.le_of_ble_eq_true hb) hv
theorem VR.bool_of {v : Value} {b : Bool} (h : VR σ v (.bool b)) : v = .bool b := by cases h; rfl
/-- A guard asks the same. -/
theorem wanted_eq {ops : List Oper} {c : CR} (hc : cr P ns ops o = some c) (ht : TR ns σ tm a.tmps) : c.wanted tm = Region.wanted o (yielded ⟨ops⟩ a.tmps) := by
  unfold cr at hc
  split at hc
  · rename_i k g d hk hg hd
    obtain ⟨_, hc⟩ := cond_ok hc
    injection hc with hc
    subst hc
    unfold guardOf at hg
    unfold CR.wanted Region.wanted
    split at hg
    · rename_i hn
      injection hg with hg
      subst hg
      rw [hn]
    · rename_i j want hn
      split at hg
      · rename_i og hog
        split at hg
        · rename_i t hdst
          obtain ⟨hb, hg⟩ := cond_ok hg
          injection hg with hg
          subst hg
          rw [hn]
          have hlt : t < ns := Nat.le_of_ble_eq_true hb
          have hv := ht.val t hlt
          have hts : t < a.tmps.size := by rw [ht.size]; exact hlt
          have hgd : a.tmps.getD t undef = a.tmps[t] := by simp [hts]
          have hog' : (⟨ops⟩ : Array Oper)[j]? = some og := by rw [List.getElem?_toArray]; exact hog
          simp only [yielded, hog', Option.bind_some, hdst, Array.getElem?_eq_getElem hts]
          rw [hgd] at hv
          generalize tm.val (path t) = q at hv
          generalize a.tmps[t] = q' at hv
          cases q' with
          | bool b => rw [hv.bool_of]; simp
          | _ =>
            cases q with
            | bool b => have := hv.bool_inv; cases this
            | _ => rfl
        · cases hg
      · cases hg
  · cases hc
theorem cr_parts {ops : List Oper} {c : CR} (hc : cr P ns ops o = some c) : ci P ns o = some c.ci ∧ pathO ns o.dst = some c.dst ∧ ∀ z ∈ o.op.operands, okO z = true := by
  unfold cr at hc
  split at hc
  · rename_i k g d hk hg hd
    obtain ⟨ha, hc⟩ := cond_ok hc
    injection hc with hc
    subst hc
    exact ⟨hk, hd, fun z hz => by rw [List.all_eq_true] at ha; exact ha z (by simpa using hz)⟩
  · cases hc
/-- One operation that is carried out. -/
theorem exec_ok {c : CI} {p : Option Path} {next : TM → AW → R2} {R : R2} {K : Act → World → Prop} (hn : NoNum P) (hcall : CallOk P call) (hc : ci P ns o = some c) (hE : ∀ z ∈ o.op.operands, VR σ ((co ns z).ev tm) (a.eval z)) (h : St P w0 σ A X w)
    (hr : exec1 call c p tm A next = R) (hR : R ≠ .no) (hK : ∀ v A' σ' v' w', next (put tm p v) A' = R → Step σ A σ' A' → St P w0 σ' A' X w' → VR σ' v v' → K (a.put o.dst v') w') : o.wp P a w K Q := by
  unfold Oper.wp
  cases c with
  | rd f =>
    simp only [exec1] at hr
    split at hr
    · rename_i v hv
      rw [putK_eq] at hr
      obtain ⟨v', h1, h2⟩ := ci_rd hc w0 w σ A X tm a.eval v h hE hv
      rw [h1]
      exact hK v A σ v' w hr (Step.refl σ A) h h2
    · exact absurd hr.symm hR
  | mk f =>
    simp only [exec1] at hr
    split at hr
    · rename_i p0 g hp
      rw [sObj_eq] at hr
      split at hr
      · rename_i b A' hnew
        rw [putK_eq] at hr
        obtain ⟨v', ob, w1, L, h1, h2, h3, h4, h5⟩ := ci_mk hc w σ tm a.eval p0 g hE hp
        obtain ⟨h6, h7⟩ := h.newA h2 h3 h4 hnew
        obtain ⟨hbn, n1, n2, n3⟩ := new_spec hnew
        rw [h1]
        exact hK (g b) A' _ v' w1 hr ⟨h7, by omega, fun x hx => by unfold Sig.ext; rw [if_neg (by omega)]⟩ h6 (h5 _ b (Sig.ext_at _ _ _))
      · exact absurd hr.symm hR
    · exact absurd hr.symm hR
  | act f =>
    have hok := ci_act hn hc w0 w σ A X tm a.eval h hE
    simp only [exec1] at hr
    split at hr
    · rename_i v A' hv
      rw [putK_eq] at hr
      rw [hv] at hok
      obtain ⟨σ', v', w', s1, s2, s3, s4⟩ := hok
      rcases s4 with s4 | ⟨s4, s5⟩
      · rw [s4]; exact hK v A' σ' v' w' hr s1 s2 s3
      · rw [s4]; subst s5; exact hK v A' σ' _ w' hr s1 s2 s3
    · rename_i g args A' hv
      rw [hv] at hok
      obtain ⟨rfl, args', h1, h2⟩ := hok
      rw [h1]
      unfold finish at hr
      split at hr
      · rename_i v A2 hcl
        rw [putK_eq] at hr
        rw [Oper.upon_enter]
        refine Calls.mono (hcall g args A' v A2 hcl w0 σ X w args' h h2) fun e w' he => ?_
        obtain ⟨v', σ', rfl, s1, s2, s3⟩ := he
        exact hK v A2 σ' v' w' hr s1 s2 s3
      · exact absurd hr.symm hR
    · exact absurd hr.symm hR
/-- Where a region leads. -/
def AftR (P : Program) (ns : Nat) (w0 : World) (σ : Sig) (A : AW) (X : Nat → Option AObj) (a : Act) (tm' : TM) (A' : AW) (a' : Act) (w' : World) : Prop :=
  ∃ σ', Step σ A σ' A' ∧ St P w0 σ' A' X w' ∧ TR ns σ' tm' a'.tmps ∧ a'.defers = a.defers
theorem ops_ok (hn : NoNum P) (hcall : CallOk P call) {ops : List Oper} {tm' : TM} {A' : AW} (K : Act → World → Prop) : ∀ (l : List Oper) (i : Nat) (cs : List CR) (σ : Sig) (A : AW) (tm : TM) (a : Act) (w : World), ops.drop i = l → crs P ns ops l = some cs → St P w0 σ A X w → TR ns σ tm a.tmps →
    seqOps call cs tm A = .ok tm' A' → (∀ a' w', AftR P ns w0 σ A X a tm' A' a' w' → Q .normal a' w') → wpOps P ⟨ops⟩ Q (List.range' i l.length) a w
  | [], i, cs, σ, A, tm, a, w, hd, hcs, h, ht, hr, hQ => by
    simp only [crs, Option.some.injEq] at hcs
    subst hcs
    simp only [seqOps, R2.ok.injEq] at hr
    obtain ⟨rfl, rfl⟩ := hr
    exact hQ a w ⟨σ, Step.refl σ A, h, ht, rfl⟩
  | o :: l, i, cs, σ, A, tm, a, w, hd, hcs, h, ht, hr, hQ => by
    simp only [crs] at hcs
    split at hcs
    · rename_i c cs' hc hcs'
      injection hcs with hcs
      subst hcs
      obtain ⟨hci, hp, hok⟩ := cr_parts hc
      have hio : ops[i]? = some o := by
        have : (ops.drop i)[0]? = some o := by rw [hd]; rfl
        simpa using this
      have hdr : ops.drop (i + 1) = l := by
        rw [← List.tail_drop, hd]
        rfl
      have hw := wanted_eq hc ht
      have hstep : stepCR call c (seqOps call cs') tm A = .ok tm' A' := hr
      have hio' : (⟨ops⟩ : Array Oper)[i]? = some o := by rw [List.getElem?_toArray]; exact hio
      simp only [List.length_cons, List.range'_succ, wpOps, hio']
      unfold stepCR at hstep
      rw [hw] at hstep
      cases hwa : Region.wanted o (yielded ⟨ops⟩ a.tmps)
      · rw [hwa] at hstep
        simp only [cond_false] at hstep
        rw [putK_eq] at hstep
        simp only [Bool.false_eq_true, if_false]
        refine ops_ok hn hcall K l (i + 1) cs' σ A _ (a.put o.dst undef) w hdr hcs' h ?_ hstep fun a' w' ha => hQ a' w' ?_
        · exact ht.putD hp (undef_r σ)
        · obtain ⟨σ', s1, s2, s3, s4⟩ := ha
          exact ⟨σ', s1, s2, s3, s4.trans (put_defers ..)⟩
      · rw [hwa] at hstep
        simp only [cond_true] at hstep
        simp only [if_true]
        refine .inl (exec_ok hn hcall hci (fun z hz => ht.ev z (hok z hz)) h hstep (by simp) fun v A2 σ2 v' w2 hr2 hst hS hv => ?_)
        refine ops_ok hn hcall K l (i + 1) cs' σ2 A2 _ (a.put o.dst v') w2 hdr hcs' hS ?_ hr2 fun a' w' ha => hQ a' w' ?_
        · exact (ht.mono hst.le).putD hp hv
        · obtain ⟨σ', s1, s2, s3, s4⟩ := ha
          exact ⟨σ', hst.trans s1, s2, s3, s4.trans (put_defers ..)⟩
    · cases hcs
theorem region_ok (hn : NoNum P) (hcall : CallOk P call) {id : Nat} {ops : Array Oper} {cs : List CR} {tm' : TM} {A' : AW} (hcs : crs P ns ops.toList ops.toList = some cs) (h : St P w0 σ A X w) (ht : TR ns σ tm a.tmps) (hr : seqOps call cs tm A = .ok tm' A')
    (hQ : ∀ a' w', AftR P ns w0 σ A X a tm' A' a' w' → Q .normal a' w') : (Code.region id ops false).wp P Q a w := by
  refine wp_region ?_
  have := ops_ok (Q := Q) hn hcall (fun _ _ => True) ops.toList 0 cs σ A tm a w rfl hcs h ht hr hQ
  rw [List.range_eq_range']
  simpa using this
end
end Ev
end Go.Proofs.YtmohidgdmmkikaaGreatDoor
