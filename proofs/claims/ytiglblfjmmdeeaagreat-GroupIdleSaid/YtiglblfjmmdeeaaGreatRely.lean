/- Regions that draw their order, with calls that make memory: one walk in the order of the text serves every order, if each operation yields its value (or a value of which a fact is told that stays) whatever the others have done so far. -/
import Derived.Still
import Derived.StillTail
import Derived.Below
import Derived.Tactics
import Derived.BigRegion
namespace Go.Proofs.YtiglblfjmmdeeaaGreat
open Go.RowKit

/-- What was there is as it was. -/
def Ext (w w' : World) : Prop := Below w.heap.size w w'
theorem Ext.refl (w : World) : Ext w w := Below.refl _ _
theorem Ext.trans {a b c : World} (h : Ext a b) (k : Ext b c) : Ext a c := Below.trans h (Below.mono k h.size)
theorem Ext.drew (w : World) : Ext w w.drew := (Below.refl _ _).drew

inductive Spec where
  | pure (v : Value)
  | rel (R : Value → World → Prop)

abbrev Env := Nat → World → Prop
def Env.upd (Γ : Env) (k : Nat) (p : World → Prop) : Env := fun j => if j = k then p else Γ j
def Env.nil : Env := fun _ _ => True

section
variable {P : Program} {ops : Array Oper} {md : Region.Mode} {w0 : World} {sp : Nat → Spec}

/-- What operation 'o' waits for holds. -/
def deps (md : Region.Mode) (o : Oper) (Γ : Env) (w : World) : Prop := ∀ e ∈ o.after, Region.binds md e = true → Γ e.on w

def Oper.pureUpon (P : Program) (w : World) (v : Value) : Result Next → Prop
  | .ok (.value u) w' => w' = w ∧ u = v
  | .ok .skip w' => w' = w ∧ undef = v
  | .ok (.enter f args) w' => w' = w ∧ Calls P f args w (fun e w'' => e = .returned v ∧ Ext w w'')
  | _ => False
def Oper.relUpon (P : Program) (w : World) (R : Value → World → Prop) : Result Next → Prop
  | .ok (.value u) w' => R u w' ∧ Ext w w'
  | .ok (.enter f args) w' => w' = w ∧ Calls P f args w (fun e w'' => ∃ v, e = .returned v ∧ R v w'' ∧ Ext w w'')
  | _ => False

def Stays (R : Value → World → Prop) : Prop := ∀ v w w', R v w → Ext w w' → R v w'

def oblig (P : Program) (md : Region.Mode) (ops : Array Oper) (w0 : World) (s : Spec) (o : Oper) (a : Act) (Γ : Env) : Prop :=
  match s with
  | .pure v => (Region.wanted o (yielded ops a.tmps) = true ∧ ∀ w, Ext w0 w → deps md o Γ w → Oper.pureUpon P w v ((execOp a.eval o).run P w)) ∨ (Region.wanted o (yielded ops a.tmps) = false ∧ v = undef)
  | .rel R => Region.wanted o (yielded ops a.tmps) = true ∧ Stays R ∧ ∀ w, Ext w0 w → deps md o Γ w → Oper.relUpon P w R ((execOp a.eval o).run P w)

def nextR (s : Spec) (k : Nat) (o : Oper) (a : Act) (Γ : Env) (K : Act → Env → Prop) : Prop :=
  match s with
  | .pure v => K (a.put o.dst v) Γ
  | .rel R => ∀ v, K (a.put o.dst v) (Γ.upd k (R v))

def rOp (P : Program) (md : Region.Mode) (ops : Array Oper) (w0 : World) (sp : Nat → Spec) (i : Nat) (K : Act → Env → Prop) (a : Act) (Γ : Env) : Prop :=
  match ops[i]? with
  | none => K a Γ
  | some o => oblig P md ops w0 (sp i) o a Γ ∧ nextR (sp i) i o a Γ K

theorem nextR_mono {s : Spec} {k : Nat} {o : Oper} {a : Act} {Γ : Env} {K K' : Act → Env → Prop} (h : ∀ a Γ, K a Γ → K' a Γ) (hh : nextR s k o a Γ K) : nextR s k o a Γ K' := by
  cases s with
  | pure v => exact h _ _ hh
  | rel R => exact fun v => h _ _ (hh v)

theorem rOp_mono {i : Nat} {a : Act} {Γ : Env} {K K' : Act → Env → Prop} (h : ∀ a Γ, K a Γ → K' a Γ) (hh : rOp P md ops w0 sp i K a Γ) : rOp P md ops w0 sp i K' a Γ := by
  unfold rOp at *
  split
  · exact h _ _ (by simpa [*] using hh)
  · rename_i o ho
    simp only [ho] at hh
    exact ⟨hh.1, nextR_mono h hh.2⟩

/-- Whatever order is picked from here on, for the first n operations. -/
def wpAnyR (P : Program) (md : Region.Mode) (ops : Array Oper) (w0 : World) (sp : Nat → Spec) (n : Nat) (L : Array Bool → Act → Env → Prop) : Nat → Array Bool → Act → Env → Prop
  | 0, listed, a, Γ => L listed a Γ
  | fuel + 1, listed, a, Γ =>
    Region.ready md ops listed ≠ [] ∧
    ∀ i ∈ Region.ready md ops listed, i < n ∧ rOp P md ops w0 sp i (wpAnyR P md ops w0 sp n L fuel (listed.setIfInBounds i true)) a Γ

/-- All that is told so far holds here. -/
def EnvAt (w0 : World) (Γ : Env) (w : World) : Prop := Ext w0 w ∧ ∀ j, (Γ j w ∧ ∀ w', Ext w w' → Γ j w')

theorem EnvAt.ext {Γ : Env} {w w' : World} (h : EnvAt w0 Γ w) (e : Ext w w') : EnvAt w0 Γ w' :=
  ⟨h.1.trans e, fun j => ⟨(h.2 j).2 _ e, fun w'' e' => (h.2 j).2 _ (e.trans e')⟩⟩
theorem EnvAt.upd {Γ : Env} {w w' : World} {R : Value → World → Prop} {k : Nat} {v : Value} (h : EnvAt w0 Γ w) (e : Ext w w') (hs : Stays R) (hr : R v w') : EnvAt w0 (Γ.upd k (R v)) w' := by
  have h' := h.ext e
  refine ⟨h'.1, fun j => ?_⟩
  unfold Env.upd
  split
  · exact ⟨hr, fun w'' e'' => hs _ _ _ hr e''⟩
  · exact h'.2 j

theorem wpOp_of_rOp {i : Nat} {a : Act} {Γ : Env} {K : Act → Env → Prop} {K' : Act → World → Prop} {Q' : Exit → Act → World → Prop} {w : World} (hC : EnvAt w0 Γ w)
    (h : ∀ a Γ w', EnvAt w0 Γ w' → K a Γ → K' a w') (hh : rOp P md ops w0 sp i K a Γ) : wpOp P ops Q' i K' a w := by
  unfold rOp at hh
  unfold wpOp
  split
  · rename_i ho; simp only [ho] at hh; exact h _ _ _ hC hh
  · rename_i o ho
    simp only [ho] at hh
    obtain ⟨h1, h2⟩ := hh
    generalize sp i = s at *
    cases s with
    | pure v =>
      rcases h1 with ⟨hw, h1⟩ | ⟨hw, rfl⟩
      · rw [if_pos hw]
        refine .inl ?_
        have h3 := h1 w hC.1 (fun e _ _ => (hC.2 _).1)
        unfold Oper.wp
        generalize (execOp a.eval o).run P w = r at *
        cases r with
        | ok n w' =>
          cases n <;> simp only [Oper.pureUpon] at h3 <;> simp only [Oper.upon]
          case value u => obtain ⟨rfl, rfl⟩ := h3; exact h _ _ _ hC h2
          case skip => obtain ⟨rfl, rfl⟩ := h3; exact h _ _ _ hC h2
          case enter f args =>
            obtain ⟨rfl, hc⟩ := h3
            exact hc.mono fun e w'' ⟨he, hw''⟩ => by subst he; exact h _ _ _ (hC.ext hw'') h2
        | halt x w' => simp only [Oper.pureUpon] at h3
      · rw [if_neg (by rw [hw]; exact Bool.false_ne_true)]
        exact h _ _ _ hC h2
    | rel R =>
      obtain ⟨hw, hs, h1⟩ := h1
      rw [if_pos hw]
      refine .inl ?_
      have h3 := h1 w hC.1 (fun e _ _ => (hC.2 _).1)
      unfold Oper.wp
      generalize (execOp a.eval o).run P w = r at *
      cases r with
      | ok n w' =>
        cases n <;> simp only [Oper.relUpon] at h3 <;> simp only [Oper.upon]
        case value u => exact h _ _ _ (hC.upd h3.2 hs h3.1) (h2 u)
        case enter f args =>
          obtain ⟨rfl, hc⟩ := h3
          exact hc.mono fun e w'' ⟨v, he, hr, hx⟩ => by subst he; exact h _ _ _ (hC.upd hx hs hr) (h2 v)
      | halt x w' => simp only [Oper.relUpon] at h3

theorem wpAny_of_R {n g : Nat} {L : Array Bool → Act → Env → Prop} {Q' : Exit → Act → World → Prop} (hL : ∀ listed a Γ w, EnvAt w0 Γ w → L listed a Γ → wpAny P md ops Q' g listed a w) : ∀ (f : Nat) (listed : Array Bool) (a : Act) (Γ : Env) (w : World), EnvAt w0 Γ w →
    wpAnyR P md ops w0 sp n L f listed a Γ → wpAny P md ops Q' (f + g) listed a w
  | 0, _, _, _, _, hw, h => by rw [Nat.zero_add]; exact hL _ _ _ _ hw h
  | f + 1, _, _, _, _, hw, h => by
    rw [show f + 1 + g = (f + g) + 1 by omega]
    exact ⟨fun h0 => absurd h0 h.1, fun i hi => wpOp_of_rOp hw (fun a' Γ' w' hw' h' => wpAny_of_R hL f _ a' Γ' w' hw' h') (h.2 i hi).2⟩

theorem upd_comm (Γ : Env) {i j : Nat} (hij : i ≠ j) (p q : World → Prop) : (Γ.upd i p).upd j q = (Γ.upd j q).upd i p := by
  funext k
  unfold Env.upd
  by_cases h1 : k = i <;> by_cases h2 : k = j <;> simp_all
theorem upd_ne (Γ : Env) {i j : Nat} (hij : j ≠ i) (p : World → Prop) : Γ.upd i p j = Γ j := by unfold Env.upd; rw [if_neg hij]

theorem oblig_keep {s : Spec} {i j : Nat} {oi oj : Oper} {a : Act} {Γ Γ' : Env} {u : Value} (h3 : ∀ d, oj.dst = some d → d ∉ oi.looksAt ops) (hsi : ∀ cs b, oi.op ≠ .select cs b)
    (hΓ : ∀ e ∈ oi.after, Region.binds md e = true → Γ' e.on = Γ e.on) (h : oblig P md ops w0 s oi a Γ) : oblig P md ops w0 s oi (a.put oj.dst u) Γ' := by
  have e1 := execOp_put oi hsi a oj.dst u h3
  have e2 := wanted_put oi a oj.dst u h3
  have e3 : ∀ w, deps md oi Γ' w → deps md oi Γ w := fun w hd e he hb => by rw [← hΓ e he hb]; exact hd e he hb
  unfold oblig at *
  rw [e1, e2]
  cases s with
  | pure v => exact h.imp (fun ⟨h1, h2⟩ => ⟨h1, fun w hw hd => h2 w hw (e3 w hd)⟩) id
  | rel R => exact ⟨h.1, h.2.1, fun w hw hd => h.2.2 w hw (e3 w hd)⟩

/-- A ready operation may be taken first. -/
theorem rOp_swap {i j : Nat} {oi oj : Oper} (hi : ops[i]? = some oi) (hj : ops[j]? = some oj) (hij : i ≠ j) (hap : oi.apart ops oj = true)
    (hsi : ∀ cs b, oi.op ≠ .select cs b) (hsj : ∀ cs b, oj.op ≠ .select cs b)
    (hni : ∀ e ∈ oi.after, Region.binds md e = true → e.on ≠ j) (hnj : ∀ e ∈ oj.after, Region.binds md e = true → e.on ≠ i)
    {K : Act → Env → Prop} {a : Act} {Γ : Env} (ho : oblig P md ops w0 (sp i) oi a Γ) (h : nextR (sp i) i oi a Γ (rOp P md ops w0 sp j K)) :
    rOp P md ops w0 sp j (fun a' Γ' => oblig P md ops w0 (sp i) oi a' Γ' ∧ nextR (sp i) i oi a' Γ' K) a Γ := by
  obtain ⟨h1, h2, h3⟩ := Oper.apart_spec hap
  -- what j owes, ahead of i
  have back : ∀ (v : Value) (Γ1 : Env), (∀ k, k ≠ i → Γ1 k = Γ k) → oblig P md ops w0 (sp j) oj (a.put oi.dst v) Γ1 → oblig P md ops w0 (sp j) oj a Γ := by
    intro v Γ1 hΓ1 hob
    have e1 := execOp_put oj hsj a oi.dst v h1
    have e2 := wanted_put oj a oi.dst v h1
    have e3 : ∀ w, deps md oj Γ w → deps md oj Γ1 w := fun w hd e he hb => by rw [hΓ1 _ (hnj e he hb)]; exact hd e he hb
    unfold oblig at *
    rw [e1, e2] at hob
    generalize sp j = s at *
    cases s with
    | pure u => exact hob.imp (fun ⟨h1, h2⟩ => ⟨h1, fun w hw hd => h2 w hw (e3 w hd)⟩) id
    | rel R => exact ⟨hob.1, hob.2.1, fun w hw hd => hob.2.2 w hw (e3 w hd)⟩
  unfold rOp at h ⊢
  simp only [hj] at h ⊢
  have hobj : oblig P md ops w0 (sp j) oj a Γ := by
    generalize hs : sp i = s at *
    cases s with
    | pure v => exact back v Γ (fun _ _ => rfl) h.1
    | rel R => exact back undef _ (fun k hk => upd_ne Γ hk _) (h undef).1
  refine ⟨hobj, ?_⟩
  generalize hsj' : sp j = t at *
  cases t with
  | pure u =>
    refine ⟨oblig_keep (i := i) (j := j) h3 hsi (fun _ _ _ => rfl) ho, ?_⟩
    generalize sp i = s at *
    cases s with
    | pure v =>
      have h5 : K ((a.put oi.dst v).put oj.dst u) Γ := h.2
      show K ((a.put oj.dst u).put oi.dst v) Γ
      rwa [← Act.put_comm a v u h2]
    | rel R =>
      intro v
      have h5 : K ((a.put oi.dst v).put oj.dst u) (Γ.upd i (R v)) := (h v).2
      rwa [← Act.put_comm a v u h2]
  | rel R' =>
    intro u
    refine ⟨oblig_keep (i := i) (j := j) h3 hsi (fun e he hb => upd_ne Γ (hni e he hb) _) ho, ?_⟩
    generalize sp i = s at *
    cases s with
    | pure v =>
      have h5 : K ((a.put oi.dst v).put oj.dst u) (Γ.upd j (R' u)) := h.2 u
      show K ((a.put oj.dst u).put oi.dst v) _
      rwa [← Act.put_comm a v u h2]
    | rel R =>
      intro v
      have h5 : K ((a.put oi.dst v).put oj.dst u) ((Γ.upd i (R v)).upd j (R' u)) := (h v).2 u
      rwa [← Act.put_comm a v u h2, ← upd_comm Γ hij]

theorem wpAnyR_first {n i : Nat} {oi : Oper} {L : Array Bool → Act → Env → Prop} (hi : ops[i]? = some oi) (hsel : ∀ (j : Nat) (o : Oper) cs b, ops[j]? = some o → o.op ≠ .select cs b)
    (hin : i < n) (hw8 : ∀ listed, HeadInv md ops n listed → listed.getD i true = false → ∀ t ∈ Region.ready md ops listed, t < n)
    (hdone : ∀ listed a Γ, L listed a Γ → ∀ j ∈ Region.ready md ops listed, n ≤ j) :
    ∀ (f : Nat) (listed : Array Bool) (a : Act) (Γ : Env), HeadInv md ops n listed →
      (∀ j oj, ops[j]? = some oj → j ≠ i → listed.getD j true = false → (∀ e ∈ oj.after, Region.binds md e = true → e.on ≠ i) → oi.apart ops oj = true) →
      i ∈ Region.ready md ops listed → oblig P md ops w0 (sp i) oi a Γ →
      nextR (sp i) i oi a Γ (wpAnyR P md ops w0 sp n L f (listed.setIfInBounds i true)) → wpAnyR P md ops w0 sp n L (f + 1) listed a Γ := by
  intro f
  induction f with
  | zero =>
    intro listed a Γ inv _ hr ho H
    have hun := (mem_ready.1 hr).1
    refine ⟨fun h => (by rw [h] at hr; cases hr), fun j hj => ⟨hw8 listed inv hun j hj, ?_⟩⟩
    by_cases hji : j = i
    · subst hji
      unfold rOp
      simp only [hi]
      exact ⟨ho, H⟩
    · have hx : ∃ a' Γ', L (listed.setIfInBounds i true) a' Γ' := by
        generalize sp i = s at *
        cases s with
        | pure v => exact ⟨_, _, H⟩
        | rel R => exact ⟨_, _, H undef⟩
      obtain ⟨a', Γ', hx⟩ := hx
      have h1 := hdone _ _ _ hx j (ready_mono hj hji)
      have h2 := hw8 listed inv hun j hj
      omega
  | succ f ih =>
    intro listed a Γ inv hfree hr ho H
    have hun := (mem_ready.1 hr).1
    refine ⟨fun h => (by rw [h] at hr; cases hr), fun j hj => ?_⟩
    have hjn := hw8 listed inv hun j hj
    refine ⟨hjn, ?_⟩
    by_cases hji : j = i
    · subst hji
      unfold rOp
      simp only [hi]
      exact ⟨ho, H⟩
    · obtain ⟨hjun, oj, hoj, hall⟩ := mem_ready.1 hj
      obtain ⟨_, oi', hoi', halli⟩ := mem_ready.1 hr
      have : oi' = oi := Option.some.inj (hoi'.symm.trans hi)
      subst this
      have hnot : ∀ e ∈ oj.after, Region.binds md e = true → e.on ≠ i := fun e he hb heq => by
        have h1 := hall e he hb
        rw [heq, getD_both hun] at h1
        cases h1
      have hnoti : ∀ e ∈ oi'.after, Region.binds md e = true → e.on ≠ j := fun e he hb heq => by
        have h1 := halli e he hb
        rw [heq, getD_both hjun] at h1
        cases h1
      have H' : nextR (sp i) i oi' a Γ (rOp P md ops w0 sp j (wpAnyR P md ops w0 sp n L f ((listed.setIfInBounds i true).setIfInBounds j true))) :=
        nextR_mono (fun a Γ h => (h.2 j (ready_mono hj hji)).2) H
      have h2 := rOp_swap hi hoj (Ne.symm hji) (hfree j oj hoj hji hjun hnot) (fun cs b => hsel i oi' cs b hi) (fun cs b => hsel j oj cs b hoj) hnoti hnot ho H'
      have hfree' : ∀ k ok, ops[k]? = some ok → k ≠ i → (listed.setIfInBounds j true).getD k true = false →
          (∀ e ∈ ok.after, Region.binds md e = true → e.on ≠ i) → oi'.apart ops ok = true := fun k ok hk hki hunk hno => by
        refine hfree k ok hk hki ?_ hno
        by_cases hjk : j = k
        · subst hjk; exact hjun
        · rw [getD_set_ne true hjk] at hunk; exact hunk
      refine rOp_mono (fun a' Γ' h3 => ih (listed.setIfInBounds j true) a' Γ' (inv.set hj hjn) hfree' (ready_mono hr (Ne.symm hji)) h3.1 ?_) h2
      rw [Array.setIfInBounds_comm _ _ hji]
      exact h3.2

/-- THE WALK, IN THE ORDER OF THE TEXT: the specs of the operations, one behind the other. -/
def wpRely (P : Program) (ops : Array Oper) (w0 : World) (Q : Act → Env → Prop) : Nat → List Spec → List Oper → Act → Env → Prop
  | _, [], [], a, Γ => Q a Γ
  | k, s :: ss, o :: rest, a, Γ => oblig P .any ops w0 s o a Γ ∧ nextR s k o a Γ (wpRely P ops w0 Q (k + 1) ss rest)
  | _, _, _, _, _ => False

theorem wpAnyR_lex {n : Nat} {L : Array Bool → Act → Env → Prop} {Lq : Act → Env → Prop} (hsel : Region.noSelect ops = true)
    (hw8 : ∀ i, i < n → ∀ listed, HeadInv .any ops n listed → listed.getD i true = false → ∀ t ∈ Region.ready .any ops listed, t < n)
    (hdone : ∀ listed a Γ, L listed a Γ → ∀ j ∈ Region.ready .any ops listed, n ≤ j) (lexB : Nat → Nat → Array Bool → Bool)
    (hlex : ∀ f k listed, lexB (f + 1) k listed = true → (Region.ready .any ops listed).contains k = true ∧ Region.free .any ops listed k = true ∧ lexB f (k + 1) (listed.setIfInBounds k true) = true)
    (hend : ∀ listed a Γ, lexB 0 n listed = true → Lq a Γ → L listed a Γ) :
    ∀ (l : List Oper) (ss : List Spec) (k : Nat) (listed : Array Bool) (a : Act) (Γ : Env), (∀ j, j < l.length → l[j]? = ops[k + j]?) → (∀ j s, ss[j]? = some s → sp (k + j) = s) → k + l.length = n → HeadInv .any ops n listed →
    lexB l.length k listed = true → wpRely P ops w0 Lq k ss l a Γ → wpAnyR P .any ops w0 sp n L l.length listed a Γ
  | [], ss, k, listed, a, Γ, _, _, hk, _, hB, h => by
    have : k = n := by simpa using hk
    subst this
    cases ss with
    | nil => exact hend _ _ _ hB h
    | cons s ss => exact False.elim h
  | o :: l, [], k, listed, a, Γ, _, _, _, _, _, h => False.elim h
  | o :: l, s :: ss, k, listed, a, Γ, hl, hs, hk, inv, hB, h => by
    have h0 : ops[k]? = some o := by simpa using (hl 0 (by simp)).symm
    have hsp : sp k = s := hs 0 s rfl
    obtain ⟨hr, hf, hB'⟩ := hlex _ _ _ hB
    have hkn : k < n := by simp only [List.length_cons] at hk; omega
    have hr' : k ∈ Region.ready .any ops listed := by simpa using hr
    obtain ⟨h1, h2⟩ := h
    subst hsp
    refine wpAnyR_first h0 (Region.noSelect_spec hsel) hkn (hw8 k hkn) hdone l.length listed a Γ inv (Region.free_spec h0 hf) hr' h1 (nextR_mono (fun a' Γ' h' => ?_) h2)
    exact wpAnyR_lex hsel hw8 hdone lexB hlex hend l ss (k + 1) _ a' Γ' (fun j hj => by have := hl (j + 1) (by simp; omega); simpa [Nat.add_assoc, Nat.add_comm 1 j] using this)
      (fun j s hj => by have := hs (j + 1) s (by simpa using hj); simpa [Nat.add_assoc, Nat.add_comm 1 j] using this) (by simp only [List.length_cons] at hk; omega) (inv.set hr' hkn) hB' h'

theorem envAt_nil (w : World) : EnvAt w Env.nil w.drew := ⟨Ext.drew w, fun _ => ⟨trivial, fun _ _ => trivial⟩⟩

/-- Kinds of operations: 'none': it yields one value; 'some R': a value of which R is told. -/
def Wit : List (Option (Value → World → Prop)) → (List Spec → Prop) → Prop
  | [], F => F []
  | none :: ks, F => ∃ v, Wit ks fun ss => F (.pure v :: ss)
  | some R :: ks, F => Wit ks fun ss => F (.rel R :: ss)

theorem Wit.ex : ∀ (ks : List (Option (Value → World → Prop))) (F : List Spec → Prop), Wit ks F → ∃ ss, F ss
  | [], _, h => ⟨_, h⟩
  | none :: ks, F, ⟨v, h⟩ => let ⟨ss, h'⟩ := Wit.ex ks _ h; ⟨_, h'⟩
  | some R :: ks, F, h => let ⟨ss, h'⟩ := Wit.ex ks _ h; ⟨_, h'⟩

/-- A region that draws its order, all of it. -/
theorem wp_region_rely {id : Nat} {Q : Exit → Act → World → Prop} {a : Act} {w : World} {l : List Oper} (ks : List (Option (Value → World → Prop))) (hm : P.follows .mixedOrders = true) (hB : Region.lexB .any l.toArray = true)
    (h : Wit ks fun ss => wpRely P l.toArray w (fun a' Γ => ∀ w', EnvAt w Γ w' → Q .normal a' w') 0 ss l a Env.nil) : (Code.region id l.toArray true).wp P Q a w := by
  obtain ⟨ss, h⟩ := Wit.ex _ _ h
  simp only [Region.lexB, Bool.and_eq_true] at hB
  have inv0 : HeadInv .any l.toArray l.length (Array.replicate l.toArray.size false) :=
    ⟨by simp, fun j oj _ hl => (by rw [getD_replicate_false] at hl; cases hl), fun t _ ht => getD_in (by simpa using ht) (getD_replicate_false _ _)⟩
  refine wp_region_any hm ?_
  have H := wpAnyR_lex (P := P) (ops := l.toArray) (w0 := w) (sp := fun k => (ss[k]?).getD (.pure undef)) (n := l.length) (L := fun listed a Γ => Region.ready .any l.toArray listed = [] ∧ ∀ w', EnvAt w Γ w' → Q .normal a w')
    (Lq := fun a Γ => ∀ w', EnvAt w Γ w' → Q .normal a w') hB.1
    (fun i _ listed _ _ t ht => by obtain ⟨_, ot, hot, _⟩ := mem_ready.1 ht; have := (Array.getElem?_eq_some_iff.1 hot).1; simpa using this)
    (fun listed a Γ hL j hj => by rw [hL.1] at hj; cases hj) (Region.lexFrom .any l.toArray)
    (fun f k listed hb => by simp only [Region.lexFrom, Bool.and_eq_true] at hb; exact ⟨hb.1.1, hb.1.2, hb.2⟩)
    (fun listed a Γ hb hq => ⟨by simpa [Region.lexFrom] using hb, hq⟩) l ss 0 _ a Env.nil (by simp) (fun j s hj => by simp [hj]) (by simp) inv0 (by simpa using hB.2) h
  have := wpAny_of_R (Q' := Q) (g := 0) (fun listed a Γ w' hw' hL => ⟨hL.1, hL.2 w' hw'⟩) _ _ _ _ w.drew (envAt_nil w) H
  simpa using this

/-- A region that draws its order: the first n operations; those behind come one behind the other. -/
theorem wp_region_rely_tail {id : Nat} {Q : Exit → Act → World → Prop} {a : Act} {w : World} {l : List Oper} (n : Nat) (ks : List (Option (Value → World → Prop))) (hm : P.follows .mixedOrders = true) (hB : Region.lexTailB .any l.toArray n = true)
    (h : Wit ks fun ss => wpRely P l.toArray w (fun a' Γ => ∀ w', EnvAt w Γ w' → wpList P l.toArray Q (l.drop n) a' w') 0 ss (l.take n) a Env.nil) : (Code.region id l.toArray true).wp P Q a w := by
  obtain ⟨ss, h⟩ := Wit.ex _ _ h
  simp only [Region.lexTailB, Bool.and_eq_true, decide_eq_true_eq] at hB
  obtain ⟨⟨⟨⟨hsel, hn⟩, hs⟩, hc⟩, hlex⟩ := hB
  have hn' : n < l.length := by simpa using hn
  have htl : (l.take n).length = n := by simp; omega
  have hdl : (l.drop n).length = l.toArray.size - n := by simp
  have inv0 : HeadInv .any l.toArray n (Array.replicate l.toArray.size false) :=
    ⟨by simp, fun j oj _ hl => (by rw [getD_replicate_false] at hl; cases hl), fun t _ ht => getD_in (by simpa using ht) (getD_replicate_false _ _)⟩
  refine wp_region_any hm ?_
  have H := wpAnyR_lex (P := P) (ops := l.toArray) (w0 := w) (sp := fun k => (ss[k]?).getD (.pure undef)) (n := n) (L := fun listed a Γ => Region.seqB .any l.toArray (l.toArray.size - n) n listed = true ∧ ∀ w', EnvAt w Γ w' → wpList P l.toArray Q (l.drop n) a w')
    (Lq := fun a Γ => ∀ w', EnvAt w Γ w' → wpList P l.toArray Q (l.drop n) a w') hsel
    (fun i hi listed inv hun t ht => by
      rcases Nat.lt_or_ge t n with h | h
      · exact h
      · exact absurd ht (tail_waits hs hc hn inv _ i rfl hi hun t h))
    (fun listed a Γ hL => seqB_ready hL.1) (Region.lexHead .any l.toArray (l.toArray.size - n))
    (fun f k listed hb => by simp only [Region.lexHead, Bool.and_eq_true] at hb; exact ⟨hb.1.1, hb.1.2, hb.2⟩)
    (fun listed a Γ hb hq => ⟨by simpa [Region.lexHead] using hb, hq⟩) (l.take n) ss 0 _ a Env.nil (fun j hj => by
      have hj' : j < n := by rw [htl] at hj; exact hj
      simp [hj']) (fun j s hj => by simp [hj]) (by simpa using htl) inv0 (by rw [htl]; exact hlex) h
  have := wpAny_of_R (Q' := Q) (g := l.toArray.size - n) (fun listed a' Γ w' hw' hL => by
    have := wpAny_of_seq (md := .any) (Q' := Q) (l.drop n) n listed a' w' (fun j => by simp [List.getElem?_drop]) (by rw [hdl]; exact hL.1) (hL.2 w' hw')
    rwa [hdl] at this) _ _ _ _ w.drew (envAt_nil w) H
  rw [htl, show n + (l.toArray.size - n) = l.toArray.size by omega] at this
  exact this

section
variable {Q : Act → Env → Prop} {k : Nat} {ss : List Spec} {o : Oper} {rest : List Oper} {a : Act} {Γ : Env}
theorem rely_pure {v : Value} (h1 : Region.wanted o (yielded ops a.tmps) = true) (h2 : ∀ w, Ext w0 w → deps .any o Γ w → Oper.pureUpon P w v ((execOp a.eval o).run P w))
    (h3 : wpRely P ops w0 Q (k + 1) ss rest (a.put o.dst v) Γ) : wpRely P ops w0 Q k (.pure v :: ss) (o :: rest) a Γ := ⟨.inl ⟨h1, h2⟩, h3⟩
theorem rely_skip (h1 : Region.wanted o (yielded ops a.tmps) = false) (h3 : wpRely P ops w0 Q (k + 1) ss rest (a.put o.dst undef) Γ) : wpRely P ops w0 Q k (.pure undef :: ss) (o :: rest) a Γ := ⟨.inr ⟨h1, rfl⟩, h3⟩
theorem rely_rel {R : Value → World → Prop} (h1 : Region.wanted o (yielded ops a.tmps) = true) (hs : Stays R) (h2 : ∀ w, Ext w0 w → deps .any o Γ w → Oper.relUpon P w R ((execOp a.eval o).run P w))
    (h3 : ∀ v, wpRely P ops w0 Q (k + 1) ss rest (a.put o.dst v) (Γ.upd k (R v))) : wpRely P ops w0 Q k (.rel R :: ss) (o :: rest) a Γ := ⟨⟨h1, hs, h2⟩, h3⟩
theorem rely_nil (h : Q a Γ) : wpRely P ops w0 Q k [] [] a Γ := h
theorem rely_move {x : Operand} (hg : o.guard = none) (ho : o.op = .move x) (h3 : wpRely P ops w0 Q (k + 1) ss rest (a.put o.dst (a.eval x)) Γ) : wpRely P ops w0 Q k (.pure (a.eval x) :: ss) (o :: rest) a Γ :=
  rely_pure (by simp [Region.wanted, hg]) (fun w _ _ => by rw [BigFrame.run_move x ho]; exact ⟨rfl, rfl⟩) h3
end

end
end Go.Proofs.YtiglblfjmmdeeaaGreat
