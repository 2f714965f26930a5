/- The evaluator: code, calls. -/
import Derived.Test.YtiglblfjmmdeeaaGreatEv22
import Derived.LoopN
import Derived.Scope
namespace Go.Proofs.YtiglblfjmmdeeaaGreat
open Go.RowKit
namespace Ev

section
variable {P : Program} {ns : Nat} {w0 w : World} {σ : Sig} {A : AW} {X : Nat → Option AObj} {tm : TM} {a : Act} {call : CallF}
/-- Where code leads. -/
def Aft (P : Program) (ns : Nat) (w0 : World) (σ : Sig) (A : AW) (X : Nat → Option AObj) (a : Act) : R → Exit → Act → World → Prop
  | .norm tm A', .normal, a', w' => AftR P ns w0 σ A X a tm A' a' w'
  | .exit i tm A', .exit j, a', w' => i = j ∧ AftR P ns w0 σ A X a tm A' a' w'
  | .goto i tm A', .goto j, a', w' => i = j ∧ AftR P ns w0 σ A X a tm A' a' w'
  | .ret tm A', .ret, a', w' => AftR P ns w0 σ A X a tm A' a' w'
  | _, _, _, _ => False
theorem AftR.trans {σ1 : Sig} {A1 A' : AW} {a1 : Act} {tm' : TM} {a' : Act} {w' : World} (h : Step σ A σ1 A1) (hd : a1.defers = a.defers) (h2 : AftR P ns w0 σ1 A1 X a1 tm' A' a' w') : AftR P ns w0 σ A X a tm' A' a' w' := by
  obtain ⟨σ', s1, s2, s3, s4⟩ := h2
  exact ⟨σ', h.trans s1, s2, s3, s4.trans hd⟩
theorem Aft.trans {σ1 : Sig} {A1 : AW} {a1 : Act} {r : R} {e : Exit} {a' : Act} {w' : World} (h : Step σ A σ1 A1) (hd : a1.defers = a.defers) (h2 : Aft P ns w0 σ1 A1 X a1 r e a' w') : Aft P ns w0 σ A X a r e a' w' := by
  cases r <;> cases e <;> first | exact AftR.trans h hd h2 | exact ⟨h2.1, AftR.trans h hd h2.2⟩ | exact h2.elim
/-- A job is done; within how many rounds. -/
def JobWp (P : Program) (n : Nat) (Q : Exit → Act → World → Prop) (a : Act) (w : World) : Job → Prop
  | .c (.loop b) => Code.rounds P b Q n a w
  | .c c => c.wp P Q a w
  | .s whole rest => ∀ (b : Frame) (k : List Item) (cs : List Frame), ∃ e a' w', Q e a' w' ∧ Arrives P (lone (b.at a (.code rest :: .inScope whole :: k)) cs w) b k cs e a' w'
theorem JobWp.wp {n : Nat} {Q : Exit → Act → World → Prop} {c : Code} (h : JobWp P n Q a w (.c c)) : c.wp P Q a w := by
  cases c <;> first | exact wp_loop_rounds n h | exact h
def RecOk (P : Program) (ns n : Nat) (rec : Rec1) : Prop := ∀ (j : Job) (tm : TM) (A : AW), rec j tm A ≠ .no → ∀ (w0 : World) (σ : Sig) (X : Nat → Option AObj) (a : Act) (w : World), St P w0 σ A X w → TR ns σ tm a.tmps → JobWp P n (Aft P ns w0 σ A X a (rec j tm A)) a w j
theorem rounds_mono {c : Code} {Q Q' : Exit → Act → World → Prop} (hq : ∀ e a w, Q e a w → Q' e a w) : ∀ {n : Nat} {a : Act} {w : World}, Code.rounds P c Q n a w → Code.rounds P c Q' n a w
  | 0, _, _, h => h
  | n + 1, _, _, h => wp_mono h fun e a' w' he => by
    cases e <;> first | exact hq _ _ _ he | exact rounds_mono hq he
theorem seq_ok {n : Nat} {rec : Rec1} (hrec : RecOk P ns n rec) (h : St P w0 σ A X w) (ht : TR ns σ tm a.tmps) {b : Code} {c : Code} (hne : doSeq rec b c tm A ≠ .no) {K : Act → World → Prop} (hK : ∀ a1 w1, JobWp P n (Aft P ns w0 σ A X a (doSeq rec b c tm A)) a1 w1 (.c c) → K a1 w1) :
    b.wp P (Exit.then K (Aft P ns w0 σ A X a (doSeq rec b c tm A))) a w := by
  unfold doSeq at *
  have h1 := hrec (.c b) tm A
  cases hr : rec (.c b) tm A with
  | no => rw [hr] at hne; exact absurd rfl hne
  | norm tm' A' =>
    rw [hr] at h1 hne hK
    simp only at hne hK ⊢
    refine wp_mono (h1 (by simp) w0 σ X a w h ht).wp fun e a1 w1 he => ?_
    cases e with
    | normal =>
      obtain ⟨σ1, s1, s2, s3, s4⟩ := he
      refine hK a1 w1 ?_
      have h2 := hrec (.c c) tm' A' hne w0 σ1 X a1 w1 s2 s3
      revert h2
      cases c <;> intro h2 <;> first
        | exact wp_mono h2 fun e a' w' he => Aft.trans s1 s4 he
        | exact rounds_mono (fun e a' w' he => Aft.trans s1 s4 he) h2
    | _ => exact he.elim
  | exit i tm' A' =>
    rw [hr] at h1
    refine wp_mono (h1 (by simp) w0 σ X a w h ht).wp fun e a1 w1 he => ?_
    cases e <;> first | exact he | exact he.elim
  | goto i tm' A' =>
    rw [hr] at h1
    refine wp_mono (h1 (by simp) w0 σ X a w h ht).wp fun e a1 w1 he => ?_
    cases e <;> first | exact he | exact he.elim
  | ret tm' A' =>
    rw [hr] at h1
    refine wp_mono (h1 (by simp) w0 σ X a w h ht).wp fun e a1 w1 he => ?_
    cases e <;> first | exact he | exact he.elim
/-- A scope's code, or what is behind a label in it. -/
theorem scope_ok {n : Nat} {rec : Rec1} (hrec : RecOk P ns n rec) (h : St P w0 σ A X w) (ht : TR ns σ tm a.tmps) {whole c : Code} (hne : doScope rec whole c tm A ≠ .no) (b : Frame) (k : List Item) (cs : List Frame) :
    ∃ e a' w', Aft P ns w0 σ A X a (doScope rec whole c tm A) e a' w' ∧ Arrives P (lone (b.at a (.code c :: .inScope whole :: k)) cs w) b k cs e a' w' := by
  unfold doScope at *
  have h1 := hrec (.c c) tm A
  cases hr : rec (.c c) tm A with
  | no => rw [hr] at hne; exact absurd rfl hne
  | norm tm' A' =>
    rw [hr] at h1
    obtain ⟨e, a1, w1, hq, harr⟩ := (h1 (by simp) w0 σ X a w h ht).wp b (.inScope whole :: k) cs
    cases e with
    | normal => exact ⟨.normal, a1, w1, hq, Steps.trans harr (.one step_inScope)⟩
    | _ => exact hq.elim
  | exit i tm' A' =>
    rw [hr] at h1
    obtain ⟨e, a1, w1, hq, harr⟩ := (h1 (by simp) w0 σ X a w h ht).wp b (.inScope whole :: k) cs
    cases e with
    | exit j => exact ⟨.exit j, a1, w1, hq, fun k' hk => harr k' (by simp [exitTo, hk])⟩
    | _ => exact hq.elim
  | ret tm' A' =>
    rw [hr] at h1
    obtain ⟨e, a1, w1, hq, harr⟩ := (h1 (by simp) w0 σ X a w h ht).wp b (.inScope whole :: k) cs
    cases e with
    | ret => exact ⟨.ret, a1, w1, hq, harr⟩
    | _ => exact hq.elim
  | goto l tm' A' =>
    rw [hr] at h1 hne
    obtain ⟨e, a1, w1, hq, harr⟩ := (h1 (by simp) w0 σ X a w h ht).wp b (.inScope whole :: k) cs
    cases e with
    | goto j =>
      obtain ⟨rfl, hq⟩ := hq
      simp only at hne ⊢
      cases hf : findLabel whole l with
      | none => exact ⟨.goto l, a1, w1, ⟨rfl, hq⟩, fun k' hk => harr k' (by simp [gotoIn, hf, hk])⟩
      | some rest =>
        rw [hf] at hne
        simp only at hne ⊢
        obtain ⟨σ1, s1, s2, s3, s4⟩ := hq
        have h2 := hrec (.s whole rest) tm' A' hne w0 σ1 X a1 w1 s2 s3
        obtain ⟨e2, a2, w2, hq2, harr2⟩ := h2 b k cs
        exact ⟨e2, a2, w2, Aft.trans s1 s4 hq2, .of_steps (harr _ (by simp [gotoIn, hf])) harr2⟩
    | _ => exact hq.elim
theorem block_ok {n : Nat} {rec : Rec1} (hrec : RecOk P ns n rec) (h : St P w0 σ A X w) (ht : TR ns σ tm a.tmps) {i : Nat} {c : Code} (hne : doBlock rec i c tm A ≠ .no) : (Code.block i c).wp P (Aft P ns w0 σ A X a (doBlock rec i c tm A)) a w := by
  refine wp_block ?_
  unfold doBlock at *
  have h1 := hrec (.c c) tm A
  cases hr : rec (.c c) tm A with
  | no => rw [hr] at hne; exact absurd rfl hne
  | norm tm' A' =>
    rw [hr] at h1
    refine wp_mono (h1 (by simp) w0 σ X a w h ht).wp fun e a1 w1 he => ?_
    cases e <;> first | exact he | exact he.elim
  | exit j tm' A' =>
    rw [hr] at h1
    refine wp_mono (h1 (by simp) w0 σ X a w h ht).wp fun e a1 w1 he => ?_
    cases e with
    | exit j' =>
      obtain ⟨rfl, he⟩ := he
      simp only [Exit.inBlock]
      cases hb : Nat.beq j i
      · have : j ≠ i := fun e => by subst e; rw [Nat.beq_refl] at hb; cases hb
        rw [if_neg this]
        exact ⟨rfl, he⟩
      · rw [if_pos (Nat.eq_of_beq_eq_true hb)]
        exact he
    | _ => exact he.elim
  | goto j tm' A' =>
    rw [hr] at h1
    refine wp_mono (h1 (by simp) w0 σ X a w h ht).wp fun e a1 w1 he => ?_
    cases e <;> first | exact he | exact he.elim
  | ret tm' A' =>
    rw [hr] at h1
    refine wp_mono (h1 (by simp) w0 σ X a w h ht).wp fun e a1 w1 he => ?_
    cases e <;> first | exact he | exact he.elim
theorem cond_ok' {n : Nat} {rec : Rec1} (hrec : RecOk P ns n rec) (h : St P w0 σ A X w) (ht : TR ns σ tm a.tmps) {x : Operand} {b c : Code} (hx : okO x = true) (hne : doCond rec ((co ns x).ev tm) b c tm A ≠ .no) :
    (Code.cond x b c).wp P (Aft P ns w0 σ A X a (doCond rec ((co ns x).ev tm) b c tm A)) a w := by
  have hv := ht.ev x hx
  unfold doCond at *
  split at hne
  · rename_i he
    rw [he] at hv
    exact wp_cond_true hv.bool_inv (hrec (.c b) tm A hne w0 σ X a w h ht).wp
  · rename_i he
    rw [he] at hv
    exact wp_cond_false hv.bool_inv (hrec (.c c) tm A hne w0 σ X a w h ht).wp
  · exact absurd rfl hne
theorem AftR.here (h : St P w0 σ A X w) (ht : TR ns σ tm a.tmps) : AftR P ns w0 σ A X a tm A a w := ⟨σ, Step.refl σ A, h, ht, rfl⟩
theorem run_ok (hn : NoNum P) (hm : P.follows .mixedOrders = true) (hcall : CallOk P call) : ∀ n, RecOk P ns n (run P ns call n)
  | 0 => fun j tm A hne => absurd rfl hne
  | n + 1 => fun j tm A hne w0 σ X a w h ht => by
    have ih := run_ok hn hm hcall n
    have hr : run P ns call (n + 1) j tm A = jobStep P ns call (run P ns call n) j tm A := rfl
    rw [hr] at hne ⊢
    cases j with
    | s whole b => exact fun fr k cs => scope_ok ih h ht hne fr k cs
    | c c =>
      cases c with
      | skip => exact wp_skip (AftR.here h ht)
      | label l => exact wp_label (AftR.here h ht)
      | ret => exact wp_ret (AftR.here h ht)
      | exit i => exact wp_exit ⟨rfl, AftR.here h ht⟩
      | goto l => exact wp_goto ⟨rfl, AftR.here h ht⟩
      | seq b c => exact wp_seq (seq_ok ih h ht hne fun a1 w1 h1 => h1.wp)
      | loop b => exact seq_ok ih h ht hne fun a1 w1 h1 => h1
      | cond x b c =>
        unfold jobStep at *
        simp only at hne ⊢
        cases hx : okO x
        · rw [hx] at hne; exact absurd rfl hne
        · rw [hx] at hne
          exact cond_ok' ih h ht hx hne
      | block i b => exact block_ok ih h ht hne
      | scope b =>
        intro fr k cs
        obtain ⟨e, a', w', hq, harr⟩ := scope_ok ih h ht hne fr k cs
        exact ⟨e, a', w', hq, .of_steps (.one step_scope) harr⟩
      | region id ops dr =>
        cases dr with
        | false =>
          unfold jobStep doRegion at *
          simp only at hne ⊢
          cases hcs : crs P ns ops.toList ops.toList with
          | none => rw [hcs] at hne; exact absurd rfl hne
          | some l =>
            rw [hcs] at hne
            simp only at hne ⊢
            cases hs : seqOps call l tm A with
            | no => rw [hs] at hne; exact absurd rfl hne
            | ok tm' A' => exact region_ok hn hcall hcs h ht hs fun a' w' h1 => h1
        | true =>
          unfold jobStep doDrawn at *
          simp only at hne ⊢
          cases hcs : cd P ns ops (masks ops.toList []) with
          | none => rw [hcs] at hne; exact absurd rfl hne
          | some l =>
            rw [hcs] at hne
            simp only at hne ⊢
            cases hs : drawn call l tm A with
            | no => rw [hs] at hne; exact absurd rfl hne
            | ok tm' A' => exact drawn_ok hn hcall hm hcs h ht hs fun a' w' h1 => h1
      | _ => exact absurd rfl hne
end
end Ev
end Go.Proofs.YtiglblfjmmdeeaaGreat
