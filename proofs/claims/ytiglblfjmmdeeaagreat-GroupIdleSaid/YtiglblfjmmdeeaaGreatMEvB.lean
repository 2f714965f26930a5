/- Texts merged: Ev9, Ev10, Ev11, Ev12, Ev13, Ev14, Ev15, Ev16. -/
import Derived.Test.YtiglblfjmmdeeaaGreatMEvA
import Derived.Laws.AppendOwn
import Derived.MapKept

/- The evaluator: each operation that reads does what it tells. -/
namespace Go.Proofs.YtiglblfjmmdeeaaGreat
open Go.RowKit
namespace Ev

section
variable {P : Program} {ns : Nat}
/-- A read that tells a value yields it. -/
def RdOk (P : Program) (ns : Nat) (o : Oper) (f : TM → AW → Option Value) : Prop :=
  ∀ (w0 w : World) (σ : Sig) (A : AW) (X : Nat → Option AObj) (tm : TM) (ρ : Operand → Value) (v : Value), St P w0 σ A X w → (∀ z ∈ o.op.operands, VR σ ((co ns z).ev tm) (ρ z)) → f tm A = some v →
    ∃ v', (execOp ρ o).run P w = .ok (.value v') w ∧ VR σ v v'
theorem RdOk.orElse {o : Oper} {f g : TM → AW → Option Value} (hf : RdOk P ns o f) (hg : RdOk P ns o g) : RdOk P ns o (orElse f g) := by
  intro w0 w σ A X tm ρ v h hE hv
  unfold Ev.orElse at hv
  split at hv
  · rename_i v2 h2
    injection hv with hv
    subst hv
    exact hf w0 w σ A X tm ρ _ h hE h2
  · exact hg w0 w σ A X tm ρ v h hE hv
theorem rd_closed (o : Oper) (hsel : ∀ cs b, o.op ≠ .select cs b) : RdOk P ns o (rdClosed P ns o) := fun _ _ _ _ _ _ _ _ _ hE hv => sim_closed hsel hE hv
theorem val_of {s : Sem Value} {v' : Value} {w : World} (h : s.run P w = .ok v' w) : (do pure (Next.value (← s)) : Sem Next).run P w = .ok (.value v') w := by
  simp only [Sem.run_bind, h, Result.andThen_ok, Sem.run_pure]

theorem bin_rd {o : Oper} {op : BinOp} {t yt : TypeId} {x y : Operand} {f : TM → AW → Option Value} (ho : o.op = .binOp op t x y yt) (h : ciBin P ns o op t (co ns x) (co ns y) = some (.rd f)) : RdOk P ns o f := by
  have hsel : ∀ cs b, o.op ≠ .select cs b := fun cs b e => by rw [ho] at e; cases e
  have hx : x ∈ o.op.operands := by rw [ho]; simp [Op.operands]
  have hy : y ∈ o.op.operands := by rw [ho]; simp [Op.operands]
  unfold ciBin at h
  split at h
  · rename_i g k h1 _
    injection h with h
    injection h with h
    subst h
    exact RdOk.orElse (fun w0 w σ A X tm ρ v hs hE hv => sim_ints ho h1 (hE x hx) (hE y hy) hv) (rd_closed o hsel)
  · rename_i g h1 _
    injection h with h
    injection h with h
    subst h
    exact RdOk.orElse (fun w0 w σ A X tm ρ v hs hE hv => sim_strs ho h1 (hE x hx) (hE y hy) hv) (rd_closed o hsel)
  · rename_i d hd _ _
    split at h
    · injection h with h
      injection h with h
      subst h
      exact RdOk.orElse (fun w0 w σ A X tm ρ v hs hE hv => sim_shr ho (hE x hx) (hE y hy) hv) (rd_closed o hsel)
    · injection h with h
      injection h with h
      subst h
      exact RdOk.orElse (fun w0 w σ A X tm ρ v hs hE hv => sim_nil (neg := false) ho rfl hd (hE x hx) (hE y hy) hv) (rd_closed o hsel)
    · injection h with h
      injection h with h
      subst h
      exact RdOk.orElse (fun w0 w σ A X tm ρ v hs hE hv => sim_nil (neg := true) ho rfl hd (hE x hx) (hE y hy) hv) (rd_closed o hsel)
    · injection h with h
      injection h with h
      subst h
      exact rd_closed o hsel
  · cases h
theorem slice_rd {o : Oper} {t : TypeId} {x : Operand} {lo hi mx : Option Operand} {f : TM → AW → Option Value} (ho : o.op = .slice t x lo hi mx) (h : ciSlice P ns o t (co ns x) (lo.map (co ns)) (hi.map (co ns)) (mx.map (co ns)) = some (.rd f)) : RdOk P ns o f := by
  have hsel : ∀ cs b, o.op ≠ .select cs b := fun cs b e => by rw [ho] at e; cases e
  have hx : x ∈ o.op.operands := by rw [ho]; simp [Op.operands]
  have hlo : ∀ q, lo = some q → q ∈ o.op.operands := fun q hq => by rw [ho]; subst hq; simp [Op.operands]
  have hhi : ∀ q, hi = some q → q ∈ o.op.operands := fun q hq => by rw [ho]; subst hq; simp [Op.operands]
  have hmx : ∀ q, mx = some q → q ∈ o.op.operands := fun q hq => by rw [ho]; subst hq; simp [Op.operands]
  unfold ciSlice at h
  split at h
  · rename_i n elem hd
    split at h
    · rename_i size hs
      injection h with h
      injection h with h
      subst h
      intro w0 w σ A X tm ρ v hst hE hv
      obtain ⟨v', h1, h2⟩ := sim_sliceArr (w := w) hd hs (hE x hx) (evM_r fun q hq => hE q (hlo q hq)) (evM_r fun q hq => hE q (hhi q hq)) (evM_r fun q hq => hE q (hmx q hq)) hv
      exact ⟨v', by simp only [execOp, ho]; exact val_of h1, h2⟩
    · cases h
  · rename_i elem hd
    split at h
    · rename_i size hs
      injection h with h
      injection h with h
      subst h
      refine RdOk.orElse (fun w0 w σ A X tm ρ v hst hE hv => ?_) (rd_closed o hsel)
      obtain ⟨v', h1, h2⟩ := sim_sliceSlc hst hd hs (hE x hx) (evM_r fun q hq => hE q (hlo q hq)) (evM_r fun q hq => hE q (hhi q hq)) (evM_r fun q hq => hE q (hmx q hq)) hv
      exact ⟨v', by simp only [execOp, ho]; exact val_of h1, h2⟩
    · cases h
  · rename_i hd
    split at h
    · rename_i hm
      injection h with h
      injection h with h
      subst h
      intro w0 w σ A X tm ρ v hst hE hv
      obtain ⟨v', h1, h2⟩ := sim_sliceStr (w := w) hd (hE x hx) (evM_r fun q hq => hE q (hlo q hq)) (evM_r fun q hq => hE q (hhi q hq)) hv
      have hm0 : mx = none := by cases mx with
        | none => rfl
        | some q => simp at hm
      subst hm0
      exact ⟨v', by simp only [execOp, ho]; exact val_of h1, h2⟩
    · cases h
  · cases h
theorem call_rd {o : Oper} {c : Call} {f : TM → AW → Option Value} (ho : o.op = .call c) (h : ciCall P ns o c = some (.rd f)) : RdOk P ns o f := by
  have hsel : ∀ cs b, o.op ≠ .select cs b := fun cs b e => by rw [ho] at e; cases e
  unfold ciCall at h
  obtain ⟨callee, args, argTypes⟩ := c
  split at h
  · rename_i g _
    cases hb : hasBody P g <;> rw [hb] at h <;> simp at h
  · simp at h
  · simp at h
  · rename_i b hcal
    simp only at hcal
    subst hcal
    have hargs : ∀ z ∈ args, z ∈ o.op.operands := fun z hz => by rw [ho]; simp [Op.operands, Call.operands, hz]
    simp only at h
    split at h
    · -- append
      split at h
      · cases h
      · split at h
        · split at h
          · obtain ⟨_, h⟩ := cond_ok h
            simp at h
          · cases h
        · cases h
      · cases h
    · split at h
      · split at h <;> simp at h
      · cases h
    · split at h
      · split at h <;> simp at h
      · cases h
    · split at h
      · split at h <;> simp at h
      · cases h
    · -- len
      rename_i x t hxs hts
      obtain ⟨z, rfl, rfl⟩ : ∃ z, args = #[z] ∧ co ns z = x := by
        unfold cos at hxs
        obtain ⟨l⟩ := args
        cases l with
        | nil => simp at hxs
        | cons z l => cases l with
          | nil => simp at hxs; exact ⟨z, rfl, hxs⟩
          | cons _ _ => simp at hxs
      obtain rfl : argTypes = #[t] := by
        obtain ⟨l⟩ := argTypes
        simp at hts
        subst hts
        rfl
      have hop : ∀ (ρ : Operand → Value), execOp ρ o = (do pure (Next.value (← Builtin.len_ #[t] o.type #[ρ z]))) := fun ρ => by
        simp only [execOp, ho, resolve, invoke, builtin, pure_bind, List.map_toArray, List.map_cons, List.map_nil]
      split at h
      · rename_i arr hd
        split at h
        · rename_i n e hd2
          injection h with h
          injection h with h
          subst h
          intro w0 w σ A X tm ρ v hst hE hv
          injection hv with hv
          subst hv
          have hd' : P.underlying t = some (.pointer arr) := hd
          have hd2' : P.underlying arr = some (.array n e) := hd2
          refine ⟨_, ?_, .clo rfl⟩
          rw [hop]
          exact val_of (by simp [Builtin.len_, run_underlying hd', run_underlying hd2', goInt])
        · cases h
      · rename_i n e hd
        injection h with h
        injection h with h
        subst h
        intro w0 w σ A X tm ρ v hst hE hv
        injection hv with hv
        subst hv
        have hd' : P.underlying t = some (.array n e) := hd
        refine ⟨_, ?_, .clo rfl⟩
        rw [hop]
        exact val_of (by simp [Builtin.len_, run_underlying hd', goInt])
      · rename_i d hd
        injection h with h
        injection h with h
        subst h
        intro w0 w σ A X tm ρ v hst hE hv
        obtain ⟨v', h1, h2⟩ := sim_len (P := P) (ty := o.type) hst hd (hE z (hargs z (by simp))) hv
        exact ⟨v', by rw [hop]; exact val_of h1, h2⟩
      · cases h
    · -- cap
      rename_i x t hxs hts
      obtain ⟨z, rfl, rfl⟩ : ∃ z, args = #[z] ∧ co ns z = x := by
        unfold cos at hxs
        obtain ⟨l⟩ := args
        cases l with
        | nil => simp at hxs
        | cons z l => cases l with
          | nil => simp at hxs; exact ⟨z, rfl, hxs⟩
          | cons _ _ => simp at hxs
      obtain rfl : argTypes = #[t] := by
        obtain ⟨l⟩ := argTypes
        simp at hts
        subst hts
        rfl
      have hop : ∀ (ρ : Operand → Value), execOp ρ o = (do pure (Next.value (← Builtin.cap_ #[t] o.type #[ρ z]))) := fun ρ => by
        simp only [execOp, ho, resolve, invoke, builtin, pure_bind, List.map_toArray, List.map_cons, List.map_nil]
      split at h
      · rename_i e hd
        injection h with h
        injection h with h
        subst h
        intro w0 w σ A X tm ρ v hst hE hv
        obtain ⟨v', h1, h2⟩ := sim_cap (P := P) (w := w) (ty := o.type) hd (hE z (hargs z (by simp))) hv
        exact ⟨v', by rw [hop]; exact val_of h1, h2⟩
      · cases h
    · injection h with h
      injection h with h
      subst h
      exact rd_closed o hsel
    · injection h with h
      injection h with h
      subst h
      exact rd_closed o hsel
    · cases h
theorem vrs_map {σ : Sig} {tm : TM} {ρ : Operand → Value} : ∀ (l : List Operand), (∀ z ∈ l, VR σ ((co ns z).ev tm) (ρ z)) → VRs σ (l.map ((fun x : CO => x.ev tm) ∘ co ns)) (l.map ρ)
  | [], _ => .nil
  | z :: l, h => .cons (h z (by simp)) (vrs_map l fun y hy => h y (by simp [hy]))
theorem ci_rd {o : Oper} {f : TM → AW → Option Value} (h : ci P ns o = some (.rd f)) : RdOk P ns o f := by
  have mem1 : ∀ {z : Operand}, o.op.operands = #[z] → z ∈ o.op.operands := fun e => by rw [e]; simp
  unfold ci at h
  cases ho : o.op <;> rw [ho] at h <;> simp only [reduceCtorEq, Option.some.injEq, CI.rd.injEq] at h
  case move x =>
    subst h
    intro w0 w σ A X tm ρ v hst hE hv
    injection hv with hv
    subst hv
    exact ⟨ρ x, by simp only [execOp, ho, Sem.run_pure], hE x (by rw [ho]; simp [Op.operands])⟩
  case assign x =>
    subst h
    intro w0 w σ A X tm ρ v hst hE hv
    injection hv with hv
    subst hv
    exact ⟨ρ x, by simp only [execOp, ho, Sem.run_pure], hE x (by rw [ho]; simp [Op.operands])⟩
  case pick c a b =>
    subst h
    intro w0 w σ A X tm ρ v hst hE hv
    have hc := hE c (by rw [ho]; simp [Op.operands])
    have ha := hE a (by rw [ho]; simp [Op.operands])
    have hb := hE b (by rw [ho]; simp [Op.operands])
    unfold rdPick at hv
    split at hv
    · rename_i he
      rw [he] at hc
      injection hv with hv
      subst hv
      refine ⟨ρ a, ?_, ha⟩
      simp only [execOp, ho, hc.bool_inv, asBool, Sem.run_bind, Sem.run_pure, Result.andThen_ok, if_true]
    · rename_i he
      rw [he] at hc
      injection hv with hv
      subst hv
      refine ⟨ρ b, ?_, hb⟩
      simp only [execOp, ho, hc.bool_inv, asBool, Sem.run_bind, Sem.run_pure, Result.andThen_ok, Bool.false_eq_true, if_false]
    · cases hv
  case alloc t => split at h <;> simp at h
  case build t ps =>
    intro w0 w σ A X tm ρ v hst hE hv
    obtain ⟨v', h1, h2⟩ := sim_build (w := w) (ρ := ρ) h (fun p hp => hE p.2 (by rw [ho]; simp only [Op.operands]; exact List.mem_toArray.2 (List.mem_map.2 ⟨p, by simpa using hp, rfl⟩))) hv
    exact ⟨v', by simp only [execOp, ho]; exact val_of h1, h2⟩
  case buildSlice t len ps =>
    unfold ciBuildSlice at h
    split at h
    · split at h
      · obtain ⟨_, h⟩ := cond_ok h
        simp at h
      · cases h
    · cases h
  case load t a =>
    split at h
    · rename_i n h1 h2
      injection h with h
      injection h with h
      subst h
      intro w0 w σ A X tm ρ v hst hE hv
      obtain ⟨v', h3, h4⟩ := sim_loadN (P := P) hst h1 h2 (hE a (by rw [ho]; simp [Op.operands])) hv
      exact ⟨v', by simp only [execOp, ho]; exact val_of h3, h4⟩
    · rename_i h1
      injection h with h
      injection h with h
      subst h
      intro w0 w σ A X tm ρ v hst hE hv
      obtain ⟨v', h3, h4⟩ := sim_load1 (P := P) hst h1 (hE a (by rw [ho]; simp [Op.operands])) hv
      exact ⟨v', by simp only [execOp, ho]; exact val_of h3, h4⟩
    · cases h
  case store t a x => split at h <;> simp at h
  case nilCheck x =>
    subst h
    intro w0 w σ A X tm ρ v hst hE hv
    exact sim_nilCheck ho (hE x (by rw [ho]; simp [Op.operands])) hv
  case binOp op t x y yt => exact bin_rd ho h
  case unOp op t x =>
    split at h
    · injection h with h
      injection h with h
      subst h
      intro w0 w σ A X tm ρ v hst hE hv
      obtain ⟨v', h3, h4⟩ := sim_not (P := P) (w := w) (hE x (by rw [ho]; simp [Op.operands])) hv
      exact ⟨v', by simp only [execOp, ho]; exact val_of h3, h4⟩
    · injection h with h
      injection h with h
      subst h
      exact rd_closed o (fun cs b e => by rw [ho] at e; cases e)
  case convert src dst x =>
    split at h
    · split at h
      · split at h <;> simp at h
      · cases h
    · rename_i e h1 h2
      split at h
      · rename_i h3
        injection h with h
        injection h with h
        subst h
        intro w0 w σ A X tm ρ v hst hE hv
        obtain ⟨v', h4, h5⟩ := sim_str (P := P) hst h1 h3 h2 (hE x (by rw [ho]; simp [Op.operands])) hv
        exact ⟨v', by simp only [execOp, ho]; exact val_of h4, h5⟩
      · cases h
    · rename_i h1 h2
      injection h with h
      injection h with h
      subst h
      refine RdOk.orElse (fun w0 w σ A X tm ρ v hst hE hv => ?_) (rd_closed o (fun cs b e => by rw [ho] at e; cases e))
      obtain ⟨v', h4, h5⟩ := sim_conv (P := P) (w := w) h1 h2 (hE x (by rw [ho]; simp [Op.operands])) hv
      exact ⟨v', by simp only [execOp, ho]; exact val_of h4, h5⟩
    · injection h with h
      injection h with h
      subst h
      exact rd_closed o (fun cs b e => by rw [ho] at e; cases e)
    · cases h
  case makeInterface t x =>
    split at h
    · cases h
    · rename_i d hni hd
      injection h with h
      injection h with h
      subst h
      intro w0 w σ A X tm ρ v hst hE hv
      injection hv with hv
      subst hv
      refine ⟨.iface t (ρ x), ?_, .iface (hE x (by rw [ho]; simp [Op.operands]))⟩
      have hd' : P.underlying t = some d := hd
      simp only [execOp, ho]
      refine val_of ?_
      simp only [Instr.makeInterface, Sem.run_bind, run_underlying hd', Result.andThen_ok]
      cases d <;> first | rfl | exact (hni _ rfl).elim
    · cases h
  case makeFunc fn first captured =>
    subst h
    intro w0 w σ A X tm ρ v hst hE hv
    injection hv with hv
    subst hv
    refine ⟨.func fn (first.map ρ) (captured.map ρ), by simp only [execOp, ho]; rfl, .func ?_ ?_⟩
    · simp only [cos, List.map_map, Array.toList_map]
      exact vrs_map first.toList fun z hz => hE z (by rw [ho]; simp [Op.operands]; exact .inl (by simpa using hz))
    · simp only [cos, List.map_map, Array.toList_map]
      exact vrs_map captured.toList fun z hz => hE z (by rw [ho]; simp [Op.operands]; exact .inr (by simpa using hz))
  case makeMap t r =>
    split at h
    · simp at h
    · split at h <;> simp at h
  case makeSlice t l c =>
    split at h
    · split at h
      · split at h
        · obtain ⟨_, h⟩ := cond_ok h
          simp at h
        · cases h
      · cases h
    · cases h
  case slice t x lo hi mx => exact slice_rd ho h
  case fieldAddr s x f' =>
    split at h
    · rename_i fields hd
      split at h
      · rename_i fd hf
        split at h
        · rename_i n hs
          injection h with h
          injection h with h
          subst h
          intro w0 w σ A X tm ρ v hst hE hv
          obtain ⟨v', h4, h5⟩ := sim_field (P := P) (w := w) hd hf hs (hE x (by rw [ho]; simp [Op.operands])) hv
          exact ⟨v', by simp only [execOp, ho]; exact val_of h4, h5⟩
        · cases h
      · cases h
    · cases h
  case field t x f' =>
    split at h
    · rename_i fields hd
      split at h
      · rename_i fd hf
        split at h
        · rename_i g hg
          injection h with h
          injection h with h
          subst h
          intro w0 w σ A X tm ρ v hst hE hv
          obtain ⟨v', h4, h5⟩ := sim_fieldOf (P := P) (w := w) hd hf hg (hE x (by rw [ho]; simp [Op.operands])) hv
          exact ⟨v', by simp only [execOp, ho]; exact val_of h4, h5⟩
        · cases h
      · cases h
    · cases h
  case indexAddr t x i =>
    split at h
    · rename_i len elem hd
      split at h
      · rename_i size hs
        injection h with h
        injection h with h
        subst h
        intro w0 w σ A X tm ρ v hst hE hv
        obtain ⟨v', h4, h5⟩ := sim_indexArr (P := P) (w := w) hd hs (hE x (by rw [ho]; simp [Op.operands])) (hE i (by rw [ho]; simp [Op.operands])) hv
        exact ⟨v', by simp only [execOp, ho]; exact val_of h4, h5⟩
      · cases h
    · rename_i elem hd
      split at h
      · rename_i size hs
        injection h with h
        injection h with h
        subst h
        intro w0 w σ A X tm ρ v hst hE hv
        obtain ⟨v', h4, h5⟩ := sim_indexSlc (P := P) (w := w) hd hs (hE x (by rw [ho]; simp [Op.operands])) (hE i (by rw [ho]; simp [Op.operands])) hv
        exact ⟨v', by simp only [execOp, ho]; exact val_of h4, h5⟩
      · cases h
    · cases h
  case index t x i =>
    split at h
    · rename_i len elem hd
      split at h
      · rename_i size h1 h2
        injection h with h
        injection h with h
        subst h
        intro w0 w σ A X tm ρ v hst hE hv
        obtain ⟨v', h4, h5⟩ := sim_indexOf (P := P) (w := w) hd h2 (fun off => by unfold partOf; rw [h1, h2]) (hE x (by rw [ho]; simp [Op.operands])) (hE i (by rw [ho]; simp [Op.operands])) hv
        exact ⟨v', by simp only [execOp, ho]; exact val_of h4, h5⟩
      · rename_i size h1 h2
        injection h with h
        injection h with h
        subst h
        intro w0 w σ A X tm ρ v hst hE hv
        obtain ⟨v', h4, h5⟩ := sim_indexOf (P := P) (w := w) hd h2 (fun off => by unfold partOf; rw [h1, h2]) (hE x (by rw [ho]; simp [Op.operands])) (hE i (by rw [ho]; simp [Op.operands])) hv
        exact ⟨v', by simp only [execOp, ho]; exact val_of h4, h5⟩
      · cases h
    · rename_i hd
      injection h with h
      injection h with h
      subst h
      intro w0 w σ A X tm ρ v hst hE hv
      obtain ⟨v', h4, h5⟩ := sim_byteAt (P := P) (w := w) hd (hE x (by rw [ho]; simp [Op.operands])) (hE i (by rw [ho]; simp [Op.operands])) hv
      exact ⟨v', by simp only [execOp, ho]; exact val_of h4, h5⟩
    · cases h
  case lookup t m k ok =>
    split at h
    · rename_i kt et ht
      split at h
      · rename_i d z hd hz
        injection h with h
        injection h with h
        subst h
        intro w0 w σ A X tm ρ v hst hE hv
        obtain ⟨v', h4, h5⟩ := sim_lookup (P := P) hst ht hd hz (hE m (by rw [ho]; simp [Op.operands])) (hE k (by rw [ho]; simp [Op.operands])) hv
        exact ⟨v', by simp only [execOp, ho]; exact val_of h4, h5⟩
      · cases h
    · cases h
  case mapUpdate t m k x =>
    split at h
    · split at h <;> simp at h
    · cases h
  case extract t i =>
    subst h
    intro w0 w σ A X tm ρ v hst hE hv
    obtain ⟨v', h4, h5⟩ := sim_extract (P := P) (w := w) (hE t (by rw [ho]; simp [Op.operands])) hv
    exact ⟨v', by simp only [execOp, ho]; exact val_of h4, h5⟩
  case call c => exact call_rd ho h
end
end Ev
end Go.Proofs.YtiglblfjmmdeeaaGreat

/- The evaluator: blocks that are made; cells that are written. -/
namespace Go.Proofs.YtiglblfjmmdeeaaGreat
open Go.RowKit
namespace Ev

/-- One block more. -/
structure NewW (w w1 : World) (ob : Obj) : Prop where
  os : w1.os = w.os
  tape : w1.tape = w.tape
  output : w1.output = w.output
  heap : w1.heap = w.heap.push ob
theorem NewW.keep {w w1 : World} {ob : Obj} (h : NewW w w1 ob) {r : Nat} (hr : r < w.heap.size) : w1.heap[r]? = w.heap[r]? := by
  rw [h.heap, Array.getElem?_push]
  simp [Nat.ne_of_lt hr]
theorem NewW.new {w w1 : World} {ob : Obj} (h : NewW w w1 ob) : w1.heap[w.heap.size]? = some ob := by rw [h.heap]; simp
theorem NewW.below {w0 w w1 : World} {ob : Obj} (h : NewW w w1 ob) (hb : Below w0.heap.size w0 w) : Below w0.heap.size w0 w1 :=
  ⟨h.os.trans hb.os, h.tape.trans hb.tape, h.output.trans hb.output, by rw [h.heap]; simp; have := hb.size; omega, fun k hk => (h.keep (Nat.lt_of_lt_of_le hk hb.size)).trans (hb.block k hk)⟩
def Sig.ext (σ : Sig) (b : Nat) (x : Loc) : Sig := fun c => if c = b then some x else σ c
theorem Sig.le_ext {σ : Sig} {b : Nat} {x : Loc} (h : σ b = none) : σ.le (σ.ext b x) := fun c y hc => by
  unfold Sig.ext
  by_cases e : c = b
  · subst e; rw [h] at hc; cases hc
  · rw [if_neg e]; exact hc
theorem Sig.ext_at (σ : Sig) (b : Nat) (x : Loc) : σ.ext b x b = some x := by simp [Sig.ext]
def updX (X : Nat → Option AObj) (b : Nat) (o : AObj) : Nat → Option AObj := fun c => if c = b then some o else X c

section
variable {P : Program} {w0 w w1 : World} {σ : Sig} {A A' : AW} {X : Nat → Option AObj} {tm : TM} {ob : Obj} {o : AObj} {b : Nat} {L : Loc}
theorem St.free (h : St P w0 σ A X w) (hb : A.next ≤ b) : σ b = none := by
  cases hs : σ b with
  | none => rfl
  | some x => have := h.dom b x hs; omega
theorem St.dead (h : St P w0 σ A X w) (hs : σ b = none) : A.den b = none ∧ X b = none := by
  constructor
  · cases hd : A.den b with
    | none => rfl
    | some o => obtain ⟨L, h1, _⟩ := h.objs b o (.inl hd); rw [hs] at h1; cases h1
  · cases hd : X b with
    | none => rfl
    | some o => obtain ⟨L, h1, _⟩ := h.objs b o (.inr hd); rw [hs] at h1; cases h1
/-- A step that makes one block and gives it a name that was free. -/
theorem St.grow (h : St P w0 σ A X w) (hw : NewW w w1 ob) (hL : L.r = w.heap.size) (ho : ObjR P σ o L w1) (hs : σ b = none) {X' : Nat → Option AObj} (hlt : b < A'.next) (hnext : A.next ≤ A'.next) (hbound : A'.next < most)
    (hdisj : ∀ c, X' c ≠ none → A'.den c = none) (hobj : ∀ c p, (A'.den c = some p ∨ X' c = some p) → (c = b ∧ p = o) ∨ (c ≠ b ∧ (A.den c = some p ∨ X c = some p))) : St P w0 (σ.ext b L) A' X' w1 := by
  have hlive : ∀ c, Live A' X' c → c = b ∨ Live A X c := fun c hc => by
    rcases hc with h1 | h1
    · obtain ⟨p, hp⟩ := Option.ne_none_iff_exists'.1 h1
      rcases hobj c p (.inl hp) with ⟨e, _⟩ | ⟨_, h2 | h2⟩
      · exact .inl e
      · exact .inr (.inl (by rw [h2]; simp))
      · exact .inr (.inr (by rw [h2]; simp))
    · obtain ⟨p, hp⟩ := Option.ne_none_iff_exists'.1 h1
      rcases hobj c p (.inr hp) with ⟨e, _⟩ | ⟨_, h2 | h2⟩
      · exact .inl e
      · exact .inr (.inl (by rw [h2]; simp))
      · exact .inr (.inr (by rw [h2]; simp))
  have hold : ∀ c L, Live A X c → σ c = some L → L.r < w.heap.size := fun c L hc hx => by
    have : ∃ p, A.den c = some p ∨ X c = some p := by
      rcases hc with h1 | h1
      · obtain ⟨p, hp⟩ := Option.ne_none_iff_exists'.1 h1; exact ⟨p, .inl hp⟩
      · obtain ⟨p, hp⟩ := Option.ne_none_iff_exists'.1 h1; exact ⟨p, .inr hp⟩
    obtain ⟨p, hp⟩ := this
    obtain ⟨L', h1, _, h3⟩ := h.objs c p hp
    rw [hx] at h1
    cases h1
    exact h3.lt
  refine ⟨fun c x hc => ?_, hbound, hdisj, fun c p hp => ?_, fun c c' L1 L2 hc hc' h1 h2 h12 => ?_, hw.below h.below⟩
  · unfold Sig.ext at hc
    by_cases e : c = b
    · rw [e]; exact hlt
    · rw [if_neg e] at hc; exact Nat.lt_of_lt_of_le (h.dom c x hc) hnext
  · rcases hobj c p hp with ⟨rfl, rfl⟩ | ⟨e, h1⟩
    · exact ⟨_, Sig.ext_at _ _ _, by rw [hL]; exact h.below.size, ho.mono (Sig.le_ext hs)⟩
    · obtain ⟨L1, h2, h3, h4⟩ := h.objs c p h1
      exact ⟨L1, by unfold Sig.ext; rw [if_neg e]; exact h2, h3, (h4.mono (Sig.le_ext hs)).keep (hw.keep h4.lt)⟩
  · unfold Sig.ext at h1 h2
    rcases hlive c hc with rfl | hc2 <;> rcases hlive c' hc' with rfl | hc2'
    · rfl
    · rw [if_pos rfl] at h1
      by_cases e : c' = c
      · exact e.symm
      · rw [if_neg e] at h2
        have := hold c' L2 hc2' h2
        cases h1
        omega
    · rw [if_pos rfl] at h2
      by_cases e : c = c'
      · exact e
      · rw [if_neg e] at h1
        have := hold c L1 hc2 h1
        cases h2
        omega
    · by_cases e : c = b
      · subst e
        exfalso
        have := h.dead hs
        rcases hc2 with h5 | h5
        · exact h5 this.1
        · exact h5 this.2
      · by_cases e' : c' = b
        · subst e'
          exfalso
          have := h.dead hs
          rcases hc2' with h5 | h5
          · exact h5 this.1
          · exact h5 this.2
        · rw [if_neg e] at h1
          rw [if_neg e'] at h2
          exact h.inj c c' L1 L2 hc2 hc2' h1 h2 h12
theorem St.newA (h : St P w0 σ A X w) (hw : NewW w w1 ob) (hL : L.r = w.heap.size) (ho : ObjR P σ o L w1) (hn : A.new o = some (b, A')) : St P w0 (σ.ext b L) A' X w1 ∧ σ.le (σ.ext b L) := by
  obtain ⟨rfl, h1, h2, h3⟩ := new_spec hn
  have hs := h.free (Nat.le_refl A.next)
  have hd := h.dead hs
  refine ⟨h.grow hw hL ho hs (by omega) (by omega) (by omega) (fun c hc => ?_) (fun c p hp => ?_), Sig.le_ext hs⟩
  · rw [h3]
    by_cases e : c = A.next
    · subst e; exact absurd hd.2 hc
    · rw [if_neg e]; exact h.disj c hc
  · rw [h3] at hp
    by_cases e : c = A.next
    · subst e
      rw [if_pos rfl, hd.2] at hp
      rcases hp with hp | hp
      · cases hp; exact .inl ⟨rfl, rfl⟩
      · cases hp
    · rw [if_neg e] at hp; exact .inr ⟨e, hp⟩
theorem St.newX (h : St P w0 σ A X w) (hw : NewW w w1 ob) (hL : L.r = w.heap.size) (ho : ObjR P σ o L w1) (hs : σ b = none) (hlt : b < A.next) : St P w0 (σ.ext b L) A (updX X b o) w1 ∧ σ.le (σ.ext b L) := by
  have hd := h.dead hs
  refine ⟨h.grow hw hL ho hs hlt (Nat.le_refl _) h.bound (fun c hc => ?_) (fun c p hp => ?_), Sig.le_ext hs⟩
  · unfold updX at hc
    by_cases e : c = b
    · subst e; exact hd.1
    · rw [if_neg e] at hc; exact h.disj c hc
  · unfold updX at hp
    by_cases e : c = b
    · subst e
      rw [if_pos rfl, hd.1] at hp
      rcases hp with hp | hp
      · cases hp
      · cases hp; exact .inl ⟨rfl, rfl⟩
    · rw [if_neg e] at hp; exact .inr ⟨e, hp⟩

/- What makes a block. -/
def MkOk (P : Program) (ns : Nat) (o : Oper) (f : TM → Option (AObj × (Nat → Value))) : Prop :=
  ∀ (w : World) (σ : Sig) (tm : TM) (ρ : Operand → Value) (p : AObj) (g : Nat → Value), (∀ z ∈ o.op.operands, VR σ ((co ns z).ev tm) (ρ z)) → f tm = some (p, g) →
    ∃ v' ob w1 L, (execOp ρ o).run P w = .ok (.value v') w1 ∧ NewW w w1 ob ∧ L.r = w.heap.size ∧ ObjR P σ p L w1 ∧ ∀ (σ' : Sig) (b : Nat), σ' b = some L → VR σ' (g b) v'
theorem newW_push (w : World) (ob : Obj) : NewW w { w with heap := w.heap.push ob } ob := ⟨rfl, rfl, rfl, rfl⟩
/-- Where a new row lies. -/
noncomputable def newL (P : Program) (e : TypeId) (r n : Nat) : Loc := ⟨r, 0, n, (sizeT P e).getD 0⟩
theorem row_new {cs : List Value} {c' : Array Value} {e e' : TypeId} {fr : Nat × Nat} (hr : VRs σ cs (c'.toList.take cs.length)) (hf : fr.1 = fr.2 ∨ c'.size ≤ fr.1) (hw : NewW w w1 (.cells c' e' fr)) : ObjR P σ (.row cs e) (newL P e w.heap.size c'.size) w1 := by
  refine ⟨c', e', fr, hw.new, rfl, by
    have := hr.len
    simp at this
    show 0 + cs.length ≤ c'.size
    omega, fun z hz => by simp [newL, hz], fun j hj => ?_, fun i v hv => ?_⟩
  · have : j < c'.size := hj
    omega
  · have hi : i < cs.length := (List.getElem?_eq_some_iff.1 hv).1
    obtain ⟨v', h1, h2⟩ := hr.get hv
    rw [List.getElem?_take_of_lt hi] at h1
    refine ⟨v', ?_, h2⟩
    have : (newL P e w.heap.size c'.size).s = 0 := rfl
    rw [this, Nat.zero_add]
    simpa using h1
theorem row_new' {cs : List Value} {c' : Array Value} {e e' : TypeId} (hr : VRs σ cs c'.toList) (hw : NewW w w1 (.cells c' e')) : ObjR P σ (.row cs e) (newL P e w.heap.size c'.size) w1 := row_new (by rw [hr.len, List.take_length]; exact hr) (.inl rfl) hw
end
end Ev
end Go.Proofs.YtiglblfjmmdeeaaGreat

/- The evaluator: each operation that makes a block does what it tells. -/
namespace Go.Proofs.YtiglblfjmmdeeaaGreat
open Go.RowKit
namespace Ev

theorem flat_get (l : List Value) : ∀ (n i : Nat), i < n * l.length → (List.replicate n l).flatten[i]? = l[i % l.length]?
  | 0, i, h => by simp at h
  | n + 1, i, h => by
    rw [List.replicate_succ, List.flatten_cons]
    by_cases hi : i < l.length
    · rw [List.getElem?_append_left hi, Nat.mod_eq_of_lt hi]
    · have h2 : l.length ≤ i := Nat.le_of_not_lt hi
      rw [List.getElem?_append_right h2, flat_get l n (i - l.length) (by rw [Nat.succ_mul] at h; omega), ← Nat.mod_eq_sub_mod h2]
theorem flat_len (l : List Value) (n : Nat) : (List.replicate n l).flatten.length = n * l.length := by
  induction n with
  | zero => simp
  | succ n ih => rw [List.replicate_succ, List.flatten_cons, List.length_append, ih, Nat.succ_mul]; omega
theorem zero_row (z : Array Value) (n size : Nat) (h : z.size = size) : ((Array.range (n * size)).map fun i => z[i % z.size]!).toList = (List.replicate n z.toList).flatten := by
  apply List.ext_getElem?
  intro i
  by_cases hi : i < n * size
  · have hz : 0 < z.size := by
      rcases Nat.eq_zero_or_pos z.size with h0 | h0
      · rw [← h, h0] at hi; simp at hi
      · exact h0
    rw [flat_get z.toList n i (by simpa [h] using hi)]
    have hm : i % z.size < z.size := Nat.mod_lt _ hz
    simp [hi, hm]
  · rw [List.getElem?_eq_none (by simp; omega), List.getElem?_eq_none (by rw [flat_len]; simp [h]; omega)]
theorem zero_row0 (n size : Nat) (h : n * size = 0) (l : List Value) (hl : l.length = size) : (List.replicate n l).flatten = [] := by
  apply List.length_eq_zero_iff.1
  rw [flat_len, hl, h]

theorem nat48 (b m : Nat) (h : b * m ≤ 281474976710656) : (b : Int) * (Int.ofNat m) ≤ 281474976710656 := by
  rw [Int.ofNat_eq_natCast, ← Int.natCast_mul]
  omega
theorem nat63' (m : Nat) (h : m ≤ 1048576) : Int.ofNat m ≤ 9223372036854775807 := by
  rw [Int.ofNat_eq_natCast]; omega
section
variable {P : Program} {ns : Nat}
theorem mk_row {s : Sem Value} {w : World} {c' : Array Value} {e e' : TypeId} {cs : List Value} {f : Nat → Value} {g : Nat → Value} {σ : Sig} (hrun : s.run P w = .ok (f w.heap.size) { w with heap := w.heap.push (.cells c' e') }) (hr : VRs σ cs c'.toList)
    (hg : ∀ (σ' : Sig) (b r nn zz : Nat), σ' b = some ⟨r, 0, nn, zz⟩ → VR σ' (g b) (f r)) :
    ∃ v' ob w1 L, s.run P w = .ok v' w1 ∧ NewW w w1 ob ∧ L.r = w.heap.size ∧ ObjR P σ (.row cs e) L w1 ∧ ∀ (σ' : Sig) (b : Nat), σ' b = some L → VR σ' (g b) v' :=
  ⟨_, _, _, _, hrun, newW_push w _, rfl, row_new' hr (newW_push w _), fun σ' b hb => hg σ' b _ _ _ hb⟩
theorem val_of2 {s : Sem Value} {v' : Value} {w w1 : World} (h : s.run P w = .ok v' w1) : (do pure (Next.value (← s)) : Sem Next).run P w = .ok (.value v') w1 := by
  simp only [Sem.run_bind, h, Result.andThen_ok, Sem.run_pure]
theorem lift_mk {o : Oper} {ρ : Operand → Value} {s : Sem Value} {w : World} {σ : Sig} {p : AObj} {g : Nat → Value} (he : execOp ρ o = (do pure (Next.value (← s)))) (h : ∃ v' ob w1 L, s.run P w = .ok v' w1 ∧ NewW w w1 ob ∧ L.r = w.heap.size ∧ ObjR P σ p L w1 ∧ ∀ (σ' : Sig) (b : Nat), σ' b = some L → VR σ' (g b) v') :
    ∃ v' ob w1 L, (execOp ρ o).run P w = .ok (.value v') w1 ∧ NewW w w1 ob ∧ L.r = w.heap.size ∧ ObjR P σ p L w1 ∧ ∀ (σ' : Sig) (b : Nat), σ' b = some L → VR σ' (g b) v' := by
  obtain ⟨v', ob, w1, L, h1, h2⟩ := h
  exact ⟨v', ob, w1, L, by rw [he]; exact val_of2 h1, h2⟩
theorem ptr_new (σ' : Sig) (b r nn zz : Nat) (h : σ' b = some ⟨r, 0, nn, zz⟩) : VR σ' (aptr b 0) (.pointer (some ⟨r, 0, none⟩)) := by
  have := VR.ptr (σ := σ') 0 h
  simpa [aptr] using this
theorem slc_new (n m : Nat) (σ' : Sig) (b r nn zz : Nat) (h : σ' b = some ⟨r, 0, nn, zz⟩) : VR σ' (aslc b 0 n (2 * m + 1)) (.slice (some ⟨r, 0, none⟩) n m) := by
  have := VR.slc (σ := σ') 0 n (2 * m + 1) m h (by omega) (by omega) (by omega)
  simpa [aslc] using this
theorem ci_mk {o : Oper} {f : TM → Option (AObj × (Nat → Value))} (h : ci P ns o = some (.mk f)) : MkOk P ns o f := by
  unfold ci at h
  cases ho : o.op <;> rw [ho] at h <;> simp only [reduceCtorEq, Option.some.injEq, CI.mk.injEq] at h
  case alloc t =>
    split at h
    · rename_i z hz
      injection h with h
      injection h with h
      subst h
      intro w σ tm ρ p g hE hv
      injection hv with hv
      injection hv with h1 h2
      subst h1
      subst h2
      obtain ⟨_, _, _, hzc⟩ := zeroT_info hz
      refine lift_mk (s := Instr.alloc t true (.tuple #[])) (by simp only [execOp, ho]) (mk_row (f := fun r => .pointer (some ⟨r, 0, none⟩)) (c' := z.cells) (e' := t) ?_ (clo1_r σ hzc).cells ptr_new)
      simp only [Instr.alloc, newVar, Go.newRow, Sem.run_bind, zero_run hz, Result.andThen_ok, run_newObj, Sem.run_pure]
    · cases h
  case box t x =>
    subst h
    intro w σ tm ρ p g hE hv
    injection hv with hv
    injection hv with h1 h2
    subst h1
    subst h2
    refine lift_mk (s := Instr.box t (ρ x)) (by simp only [execOp, ho]) (mk_row (f := fun r => .pointer (some ⟨r, 0, none⟩)) (c' := (ρ x).cells) (e' := t) ?_ (hE x (by rw [ho]; simp [Op.operands])).cells ptr_new)
    simp only [Instr.box, newVar, Go.newRow, Sem.run_bind, Result.andThen_ok, run_newObj, Sem.run_pure]
  case build t ps =>
    unfold ciBuild at h
    split at h
    · split at h <;> simp at h
    · split at h <;> simp at h
    · cases h
  case buildSlice t len ps =>
    unfold ciBuildSlice at h
    split at h
    · rename_i elem hd
      split at h
      · rename_i size z hs hz
        obtain ⟨hc, h⟩ := cond_ok h
        rw [Bool.and_eq_true] at hc
        have hc1 := Nat.le_of_ble_eq_true hc.1
        have hc2 := Nat.eq_of_beq_eq_true hc.2
        injection h with h
        injection h with h
        subst h
        intro w σ tm ρ p g hE hv
        unfold mkSlice at hv
        split at hv
        · rename_i cs hcs
          injection hv with hv
          injection hv with h1 h2
          subst h1
          subst h2
          obtain ⟨i, hi, hzi, hzc⟩ := zeroT_info hz
          have hd' : P.underlying t = some (.slice elem) := hd
          have hzs : z.cells.size = size := by rw [← hc2, cellsL_eq]; simp
          have hzr : VRs σ (cellsL z) z.cells.toList := (clo1_r σ hzc).cells
          obtain ⟨zz, hzz, hzrun⟩ : ∃ zz : Array Value, zz.size = (if len * size = 0 then 0 else size) ∧ ∀ w, ((if len * size = 0 then pure #[] else do pure (← zeroValue elem).cells : Sem (Array Value))).run P w = .ok zz w ∧ ((Array.range (len * size)).map fun i => zz[i % zz.size]!).toList = (List.replicate len z.cells.toList).flatten := by
            by_cases h0 : len * size = 0
            · refine ⟨#[], by simp [h0], fun w => ?_⟩
              rw [if_pos h0]
              refine ⟨rfl, ?_⟩
              rw [zero_row0 len size h0 _ (by simpa using hzs)]
              simp [h0]
            · refine ⟨z.cells, by rw [if_neg h0, hzs], fun w => ?_⟩
              rw [if_neg h0]
              exact ⟨by simp only [Sem.run_bind, zero_run hz, Result.andThen_ok, Sem.run_pure], zero_row _ _ _ hzs⟩
          obtain ⟨er, h3, h4⟩ := fill_r (ρ := ρ) ps.toList _ ((Array.range (len * size)).map fun i => zz[i % zz.size]!) cs (fun q hq => hE q.2 (by rw [ho]; simp only [Op.operands]; exact List.mem_toArray.2 (List.mem_map.2 ⟨q, hq, rfl⟩))) (by rw [(hzrun w).2]; exact hzr.flatten) hcs
          refine lift_mk (s := Instr.buildSlice t len (ps.map fun q => (q.1, ρ q.2))) (by simp only [execOp, ho]) (mk_row (f := fun r => .slice (some ⟨r, 0, none⟩) len len) (c' := er) (e' := elem) ?_ h4 (slc_new len len))
          have hfill : Instr.fill (fun i => some (i * size, size)) ((Array.range (len * size)).map fun i => zz[i % zz.size]!) (ps.map fun q => (q.1, ρ q.2)).toList = some er := by rw [← h3]; simp
          have hlim : ¬ len * size > 2 ^ 24 := by omega
          have h9 := (hzrun w).1
          unfold Instr.buildSlice
          simp only [Sem.run_bind, run_underlying hd', Result.andThen_ok, sizeOf_run hs]
          rw [if_neg hlim]
          by_cases h0 : len * size = 0
          · rw [if_pos h0] at h9 ⊢
            injection h9 with h9
            subst h9
            simp only [Sem.run_bind, Sem.run_pure, Result.andThen_ok]
            rw [hfill]
            simp only [Sem.run_bind, Go.newRow, run_newObj, Result.andThen_ok, Sem.run_pure]
          · rw [if_neg h0] at h9 ⊢
            simp only [Sem.run_bind, zero_run hz, Result.andThen_ok, Sem.run_pure, Result.ok.injEq, and_true] at h9
            subst h9
            simp only [Sem.run_bind, zero_run hz, Result.andThen_ok, Sem.run_pure]
            rw [hfill]
            simp only [Sem.run_bind, Go.newRow, run_newObj, Result.andThen_ok, Sem.run_pure]
        · cases hv
      · cases h
    · cases h
  case load t a => split at h <;> simp at h
  case store t a x => split at h <;> simp at h
  case binOp op t x y yt =>
    unfold ciBin at h
    split at h
    · cases h
    · cases h
    · split at h <;> cases h
    · cases h
  case unOp op t x => split at h <;> cases h
  case convert src dst x =>
    split at h
    · rename_i e h1 h2
      split at h
      · rename_i h3
        split at h
        rotate_left
        · cases h
        rename_i hs1
        injection h with h
        injection h with h
        subst h
        intro w σ tm ρ p g hE hv
        unfold mkBytes at hv
        split at hv
        · rename_i s hx
          have hu := hE x (by rw [ho]; simp [Op.operands])
          rw [hx] at hu
          injection hv with hv
          injection hv with h4 h5
          subst h4
          subst h5
          have h1' : P.underlying src = some .string := h1
          have h2' : P.underlying dst = some (.slice e) := h2
          have h3' : P.underlying e = some (.int .u8) := h3
          have hrun := run_bytes_of_string (P := P) w src dst e s h1' h2' h3'
          have hcap : s.size ≤ grownCap w s.size 0 e := by unfold grownCap; simp [Question.cut]
          have hsz : (bytesRow s (grownCap w s.size 0 e)).size = grownCap w s.size 0 e := by
            unfold bytesRow
            simp
            omega
          refine lift_mk (s := convert src dst (.string s)) (by simp only [execOp, ho, hu.str_inv]) ⟨_, _, _, _, hrun, ⟨rfl, rfl, rfl, rfl⟩, rfl, row_new ?_ (.inr ?_) (e' := e) (fr := ((bytesRow s (grownCap w s.size 0 e)).size, (bytesRow s (grownCap w s.size 0 e)).size + 1)) (c' := bytesRow s (grownCap w s.size 0 e)) ⟨rfl, rfl, rfl, rfl⟩, fun σ' b hb => ?_⟩
          · have : (bytesRow s (grownCap w s.size 0 e)).toList.take (s.data.toList.map fun b => Value.int .u8 b.toNat).length = s.data.toList.map fun b => Value.int .u8 b.toNat := by
              unfold bytesRow
              rw [Array.toList_append, List.take_append_of_le_length (by simp)]
              simp only [Array.toList_map]
              exact List.take_of_length_le (Nat.le_refl _)
            rw [this]
            refine clo0_rs σ ?_
            rw [List.all_eq_true]
            intro q hq
            obtain ⟨b, _, rfl⟩ := List.mem_map.1 hq
            rfl
          · exact Nat.le_refl _
          · have := VR.slc (σ := σ') 0 s.size (2 * s.size) (grownCap w s.size 0 e) hb (by omega) (by omega) (fun _ => by
              rw [hs1, hsz]
              simp)
            rw [← ba_len]
            simpa [aslc] using this
        · cases hv
      · cases h
    · split at h <;> simp at h
    · cases h
    · cases h
    · cases h
  case makeInterface t x => split at h <;> cases h
  case makeMap t r =>
    split at h
    · injection h with h
      injection h with h
      subst h
      intro w σ tm ρ p g hE hv
      injection hv with hv
      injection hv with h4 h5
      subst h4
      subst h5
      refine lift_mk (s := Instr.makeMap t none) (by simp only [execOp, ho]; rfl) ⟨.map (some w.heap.size), _, _, ⟨w.heap.size, 0, 0, 0⟩, rfl, newW_push w _, rfl, ⟨rfl, #[], (newW_push w _).new, .nil⟩, fun σ' b hb => .map hb⟩
    · rename_i x
      split at h
      · rename_i kt et hd
        injection h with h
        injection h with h
        subst h
        intro w σ tm ρ p g hE hv
        unfold mkMapN at hv
        split at hv
        · rename_i k n hx
          have hu := hE x (by rw [ho]; simp [Op.operands])
          rw [hx] at hu
          injection hv with hv
          injection hv with h4 h5
          subst h4
          subst h5
          have hd' : P.underlying t = some (.map kt et) := hd
          refine lift_mk (s := Instr.makeMap t (some (ρ x))) (by simp only [execOp, ho]; rfl) ⟨.map (some w.heap.size), _, _, ⟨w.heap.size, 0, 0, 0⟩, ?_, newW_push w _, rfl, ⟨rfl, #[], (newW_push w _).new, .nil⟩, fun σ' b hb => .map hb⟩
          rw [hu.int_inv]
          simp only [Instr.makeMap, asInt, asIntOf, Sem.run_bind, run_underlying hd', Result.andThen_ok, Sem.run_pure, run_newObj]
        · cases hv
      · cases h
  case makeSlice t l c =>
    split at h
    · rename_i elem hd
      split at h
      · rename_i size z hs hz
        obtain ⟨bytes, hby, h⟩ : ∃ bytes, bytesT P elem = some bytes ∧ (bif Nat.beq (cellsL z).length size then some (CI.mk (mkMake elem (cellsL z) bytes (co ns l) (co ns c))) else none) = some (CI.mk f) := by
          split at h
          · rename_i bytes hby
            exact ⟨bytes, hby, h⟩
          · cases h
        obtain ⟨hc, h⟩ := cond_ok h
        have hc := Nat.eq_of_beq_eq_true hc
        injection h with h
        injection h with h
        subst h
        intro w σ tm ρ p g hE hv
        unfold mkMake at hv
        split at hv
        · rename_i n m hl hm
          have hu := hE l (by rw [ho]; simp [Op.operands])
          have hu2 := hE c (by rw [ho]; simp [Op.operands])
          rw [hl] at hu
          rw [hm] at hu2
          obtain ⟨hnm, hv⟩ := cond_ok hv
          rw [Bool.and_eq_true, Bool.and_eq_true] at hnm
          have hn1 := Nat.le_of_ble_eq_true hnm.1.1
          have hn2 := Nat.le_of_ble_eq_true hnm.1.2
          have hn3 := Nat.le_of_ble_eq_true hnm.2
          injection hv with hv
          injection hv with h1 h2
          subst h1
          subst h2
          obtain ⟨i, hi, hzi, hzc⟩ := zeroT_info hz
          have hd' : P.underlying t = some (.slice elem) := hd
          obtain ⟨ie, hie, hsz⟩ := sizeT_info hs
          have hzs : z.cells.size = size := by rw [← hc, cellsL_eq]; simp
          have hzr : VRs σ (cellsL z) z.cells.toList := (clo1_r σ hzc).cells
          have hbi : ie.bytes = bytes := by
            unfold bytesT at hby
            rw [hie] at hby
            injection hby
          have hrun := run_make (P := P) w t elem ie z hd' hie (by rw [hi] at hie; injection hie with hie; rw [← hie]; exact hzi) .i64 .i64 (Int.ofNat n) (Int.ofNat m) (Int.natCast_nonneg n) (Int.ofNat_le.2 hn1) (by rw [hbi]; exact nat48 _ _ hn3) (nat63' m hn2)
          refine lift_mk (s := Instr.makeSlice t (ρ l) (ρ c)) (by simp only [execOp, ho]) (mk_row (f := fun r => .slice (some ⟨r, 0, none⟩) n m) (c' := madeCells z.cells (m * size)) (e' := elem) ?_ ?_ (slc_new n m))
          · rw [hu.int_inv, hu2.int_inv, hrun, ← hsz]
            rfl
          · have : (madeCells z.cells (m * size)).toList = (List.replicate m z.cells.toList).flatten := zero_row z.cells m size hzs
            rw [this]
            exact hzr.flatten
        · cases hv
      · cases h
    · cases h
  case slice t x lo hi mx =>
    unfold ciSlice at h
    split at h
    · split at h <;> cases h
    · split at h <;> cases h
    · split at h <;> cases h
    · cases h
  case fieldAddr s x f' =>
    split at h
    · split at h
      · split at h <;> cases h
      · cases h
    · cases h
  case field t x f' =>
    split at h
    · split at h
      · split at h <;> cases h
      · cases h
    · cases h
  case indexAddr t x i =>
    split at h
    · split at h <;> cases h
    · split at h <;> cases h
    · cases h
  case index t x i =>
    split at h
    · split at h <;> cases h
    · cases h
    · cases h
  case lookup t m k ok =>
    split at h
    · split at h <;> cases h
    · cases h
  case mapUpdate t m k x =>
    split at h
    · split at h <;> cases h
    · cases h
  case call c =>
    unfold ciCall at h
    split at h
    · rename_i g _
      cases hb : hasBody P g <;> rw [hb] at h <;> simp at h
    · cases h
    · cases h
    · split at h
      · split at h
        · cases h
        · split at h
          · split at h
            · obtain ⟨_, h⟩ := cond_ok h
              cases h
            · cases h
          · cases h
        · cases h
      · split at h
        · split at h <;> cases h
        · cases h
      · split at h
        · split at h <;> cases h
        · cases h
      · split at h
        · split at h <;> cases h
        · cases h
      · split at h
        · split at h <;> cases h
        · cases h
        · cases h
        · cases h
      · split at h <;> cases h
      · cases h
      · cases h
      · cases h
end
end Ev
end Go.Proofs.YtiglblfjmmdeeaaGreat

/- The evaluator: cells that are written. -/
namespace Go.Proofs.YtiglblfjmmdeeaaGreat
open Go.RowKit
namespace Ev

theorem over_eq {β : Type} (no : β) : ∀ (cs c : List Value) (k : List Value → β), overK no cs c k = if cs.length ≤ c.length then k (cs ++ c.drop cs.length) else no
  | [], c, k => by simp [overK]
  | v :: cs, c, k => by
    cases c with
    | nil => simp [overK]
    | cons u c =>
      have h := over_eq no cs c (fun l => k (v :: l))
      show sV0 v (fun v => overK no cs c fun l => k (v :: l)) = _
      rw [sV0_eq, h]
      simp
theorem spl_eq {β : Type} (no : β) (cs : List Value) : ∀ (o : Nat) (c : List Value) (k : List Value → β), splK no cs o c k = if o + cs.length ≤ c.length then k (c.take o ++ (cs ++ c.drop (o + cs.length))) else no
  | 0, c, k => by
    show overK no cs c k = _
    rw [over_eq]
    simp
  | o + 1, c, k => by
    cases c with
    | nil =>
      show no = _
      rw [if_neg (by simp)]
    | cons u c =>
      have h := spl_eq no cs o c (fun l => k (u :: l))
      show splK no cs o c (fun l => k (u :: l)) = _
      rw [h]
      simp only [List.length_cons]
      by_cases hh : o + cs.length ≤ c.length
      · rw [if_pos hh, if_pos (by omega)]
        congr 1
        rw [show o + 1 + cs.length = (o + cs.length) + 1 by omega]
        simp
      · rw [if_neg hh, if_neg (by omega)]
theorem wr_spec {A A' : AW} {b o : Nat} {cs : List Value} (h : wr A b o cs = some A') : ∃ c e, A.get b = some (.row c e) ∧ o + cs.length ≤ c.length ∧ cs.all atomB = true ∧ A' = A.upd b (some (.row (c.take o ++ (cs ++ c.drop (o + cs.length))) e)) := by
  unfold wr at h
  split at h
  · rename_i c e hg
    obtain ⟨ha, h⟩ := cond_ok h
    rw [spl_eq] at h
    split at h
    · rename_i hle
      injection h with h
      exact ⟨c, e, hg, hle, ha, h.symm⟩
    · cases h
  · cases h
/-- Cells over cells, as a list. -/
def over (c : List Value) (o : Nat) (vs : List Value) : List Value := c.take o ++ (vs ++ c.drop (o + vs.length))
theorem over_get {c vs : List Value} {o : Nat} (h : o + vs.length ≤ c.length) (i : Nat) : (over c o vs)[i]? = if i < o then c[i]? else if i < o + vs.length then vs[i - o]? else c[i]? := by
  unfold over
  by_cases h1 : i < o
  · rw [if_pos h1, List.getElem?_append_left (by simp; omega), List.getElem?_take_of_lt h1]
  · rw [if_neg h1, List.getElem?_append_right (by simp; omega)]
    have h2 : (c.take o).length = o := by simp; omega
    rw [h2]
    by_cases h3 : i < o + vs.length
    · rw [if_pos h3, List.getElem?_append_left (by omega)]
    · rw [if_neg h3, List.getElem?_append_right (by omega), List.getElem?_drop]
      congr 1
      omega
theorem over_len {c vs : List Value} {o : Nat} (h : o + vs.length ≤ c.length) : (over c o vs).length = c.length := by
  unfold over
  simp
  omega
theorem setCells_spec (b : Nat) : ∀ (vs : List Value) (o : Nat) (w : World) (c : Array Value) (e : TypeId) (fr : Nat × Nat), w.heap[b]? = some (.cells c e fr) → o + vs.length ≤ c.size →
    (w.setCells b o vs).heap[b]? = some (.cells ⟨over c.toList o vs⟩ e fr) ∧ (∀ k, k ≠ b → (w.setCells b o vs).heap[k]? = w.heap[k]?) ∧ (w.setCells b o vs).heap.size = w.heap.size ∧ (w.setCells b o vs).os = w.os ∧ (w.setCells b o vs).tape = w.tape ∧ (w.setCells b o vs).output = w.output
  | [], o, w, c, e, fr, h, _ => by
    refine ⟨?_, fun _ _ => rfl, rfl, rfl, rfl, rfl⟩
    have : over c.toList o [] = c.toList := by unfold over; simp
    rw [this]
    exact h
  | v :: vs, o, w, c, e, fr, h, hl => by
    simp only [List.length_cons] at hl
    have h1 : (w.setCell ⟨b, o, none⟩ v).heap[b]? = some (.cells (c.setIfInBounds o v) e fr) := by
      simp [World.setCell, Array.getElem?_modify, h]
    have h2 : ∀ k, k ≠ b → (w.setCell ⟨b, o, none⟩ v).heap[k]? = w.heap[k]? := fun k hk => by
      simp [World.setCell, Array.getElem?_modify, Ne.symm hk]
    have h3 : (w.setCell ⟨b, o, none⟩ v).heap.size = w.heap.size := by simp [World.setCell]
    obtain ⟨i1, i2, i3, i4, i5, i6⟩ := setCells_spec b vs (o + 1) (w.setCell ⟨b, o, none⟩ v) _ e fr h1 (by simp; omega)
    refine ⟨?_, fun k hk => (i2 k hk).trans (h2 k hk), i3.trans h3, i4, i5, i6⟩
    show ((w.setCell ⟨b, o, none⟩ v).setCells b (o + 1) vs).heap[b]? = _
    rw [i1]
    congr 2
    apply Array.ext'
    show over (c.setIfInBounds o v).toList (o + 1) vs = over c.toList o (v :: vs)
    have hs : (c.setIfInBounds o v).toList.length = c.toList.length := by simp
    have hcl : c.toList.length = c.size := by simp
    apply List.ext_getElem?
    intro i
    rw [over_get (by rw [hs, hcl]; omega), over_get (by simp; omega)]
    simp only [Array.toList_setIfInBounds, List.length_cons]
    by_cases hi : i < o
    · rw [if_pos (by omega), if_pos hi, List.getElem?_set_ne (by omega)]
    · rw [if_neg hi]
      by_cases hi2 : i = o
      · subst hi2
        rw [if_pos (by omega), if_pos (by omega), List.getElem?_set_self (by rw [hcl]; omega)]
        simp
      · rw [if_neg (by omega)]
        by_cases hi3 : i < o + 1 + vs.length
        · rw [if_pos hi3, if_pos (by omega), show i - o = (i - (o + 1)) + 1 by omega]
          simp
        · rw [if_neg hi3, if_neg (by omega), List.getElem?_set_ne (by omega)]

section
variable {P : Program} {w0 w w1 : World} {σ : Sig} {A : AW} {X : Nat → Option AObj} {tm : TM} {b o : Nat} {L : Loc} {c cs vs : List Value} {e : TypeId}
theorem St.live_get (h : St P w0 σ A X w) {p : AObj} (hb : σ b = some L) (hg : A.get b = some p) : A.den b = some p := by rw [← h.den hb]; exact hg
/-- The cells of a row that stores go to are there. -/
theorem store_run {c'_ : Array Value} (hr : ∃ e' fr, w.heap[L.r]? = some (.cells c'_ e' fr) ∧ c'_.size = L.n ∧ ∀ j, j < L.n → ¬(fr.1 ≤ j ∧ j < fr.2)) (hl : o + vs.length ≤ L.n) (ha : vs.all atomB = true) : (storeCells ⟨L.r, o, none⟩ vs).run P w = .ok () (w.setCells L.r o vs) := by
  obtain ⟨e', fr, h1, h2, h3⟩ := hr
  have := run_storeCells_cells (P := P) L.r o vs 0 w (fun j hj => by
      have : o + j < c'_.size := by rw [h2]; omega
      simp [World.cell?, h1, this]) (fun j hj => by
      have h4 := h3 (o + 0 + j) (by omega)
      simp only [World.frozen?, h1]
      simp only [Nat.add_zero] at h4 ⊢
      rw [Bool.and_eq_false_iff]
      simp
      omega) (fun v hv => by
      rw [List.all_eq_true] at ha
      have := ha v hv
      cases v <;> first | rfl | simp [atomB] at this)
  simpa using this
theorem St.write (h : St P w0 σ A X w) (hb : σ b = some L) (hg : A.get b = some (.row c e)) (hl : o + cs.length ≤ c.length) (hv : VRs σ cs vs) : St P w0 σ (A.upd b (some (.row (over c o cs) e))) X (w.setCells L.r (L.s + o) vs) ∧ L.s + o + vs.length ≤ L.n := by
  obtain ⟨c', e', fr, hr⟩ := h.row hb hg
  have hbn : b < most := Nat.lt_trans (h.dom _ _ hb) h.bound
  have hd := h.live_get hb hg
  have hlen := hv.len
  have hfit := hr.fit
  have hsz : L.s + o + vs.length ≤ L.n := by omega
  refine ⟨?_, hsz⟩
  have hcs : c'.toList.length = c'.size := by simp
  obtain ⟨i1, i2, i3, i4, i5, i6⟩ := setCells_spec L.r vs (L.s + o) w c' e' fr hr.heap (by rw [hr.size]; exact hsz)
  have hlv : ∀ x, Live (A.upd b (some (.row (over c o cs) e))) X x → Live A X x := fun x hx => by
    rcases hx with h1 | h1
    · rw [upd_den A _ hbn] at h1
      by_cases e : x = b
      · subst e; exact .inl (by rw [hd]; simp)
      · rw [if_neg e] at h1; exact .inl h1
    · exact .inr h1
  refine ⟨fun x y hx => by rw [upd_next]; exact h.dom x y hx, by rw [upd_next]; exact h.bound, fun x hx => ?_, fun x p hp => ?_, fun x x' L1 L2 h1 h2 => h.inj x x' L1 L2 (hlv x h1) (hlv x' h2), ⟨i4.trans h.below.os, i5.trans h.below.tape, i6.trans h.below.output, by rw [i3]; exact h.below.size, fun k hk => ?_⟩⟩
  · rw [upd_den A _ hbn]
    have := h.disj x hx
    by_cases e : x = b
    · subst e; rw [hd] at this; cases this
    · rw [if_neg e]; exact this
  · rw [upd_den A _ hbn] at hp
    by_cases e : x = b
    · subst e
      have hX : X x = none := by
        cases hx : X x with
        | none => rfl
        | some q => have := h.disj x (by rw [hx]; simp); rw [hd] at this; cases this
      rw [if_pos rfl, hX] at hp
      rcases hp with hp | hp
      · injection hp with hp
        subst hp
        obtain ⟨L1, g1, g2, _⟩ := h.objs x _ (.inl hd)
        rw [hb] at g1
        cases g1
        refine ⟨L, hb, g2, _, e', fr, i1, ?_, ?_, hr.elem, hr.free, fun i v hi => ?_⟩
        · show (over c'.toList (L.s + o) vs).length = L.n
          rw [over_len (by rw [hcs, hr.size]; exact hsz), hcs, hr.size]
        · rw [over_len hl]; exact hfit
        · rw [over_get hl] at hi
          have hg2 : ∀ j : Nat, (⟨over c'.toList (L.s + o) vs⟩ : Array Value)[j]? = (over c'.toList (L.s + o) vs)[j]? := fun j => List.getElem?_toArray ..
          rw [hg2, over_get (by rw [hcs, hr.size]; exact hsz)]
          by_cases h1 : i < o
          · rw [if_pos h1] at hi
            rw [if_pos (by omega)]
            simpa using hr.val i v hi
          · rw [if_neg h1] at hi
            rw [if_neg (by omega)]
            by_cases h2 : i < o + cs.length
            · rw [if_pos h2] at hi
              rw [if_pos (by omega), show L.s + i - (L.s + o) = i - o by omega]
              exact hv.get hi
            · rw [if_neg h2] at hi
              rw [if_neg (by omega)]
              simpa using hr.val i v hi
      · cases hp
    · rw [if_neg e] at hp
      obtain ⟨L1, g1, g2, g3⟩ := h.objs x p hp
      refine ⟨L1, g1, g2, g3.keep (i2 _ fun er => e ?_)⟩
      exact h.inj x b L1 L (hp.imp (fun e => by rw [e]; exact Option.some_ne_none _) (fun e => by rw [e]; exact Option.some_ne_none _)) (.inl (by rw [hd]; simp)) g1 hb er
  · obtain ⟨L1, g1, g2, _⟩ := h.objs b _ (.inl hd)
    rw [hb] at g1
    cases g1
    rw [i2 k (by omega)]
    exact h.below.block k hk
end
end Ev
end Go.Proofs.YtiglblfjmmdeeaaGreat

/- The evaluator: what acts: stores, append. -/
namespace Go.Proofs.YtiglblfjmmdeeaaGreat
open Go.RowKit
namespace Ev

/-- From one state of the evaluator to a later one. -/
structure Step (σ : Sig) (A : AW) (σ' : Sig) (A' : AW) : Prop where
  le : σ.le σ'
  next : A.next ≤ A'.next
  old : ∀ b, b < A.next → σ' b = σ b
theorem Step.refl (σ : Sig) (A : AW) : Step σ A σ A := ⟨Sig.le_refl σ, Nat.le_refl _, fun _ _ => rfl⟩
theorem Step.trans {a b c : Sig} {A B C : AW} (h : Step a A b B) (k : Step b B c C) : Step a A c C := ⟨Sig.le_trans h.le k.le, Nat.le_trans h.next k.next, fun x hx => (k.old x (Nat.lt_of_lt_of_le hx h.next)).trans (h.old x hx)⟩
/-- What is said of an operation's outcome holds of its run. -/
def OutOk (P : Program) (w0 : World) (σ : Sig) (A : AW) (X : Nat → Option AObj) (w : World) (r : Result Next) : Out → Prop
  | .no => True
  | .val v A' => ∃ σ' v' w', Step σ A σ' A' ∧ St P w0 σ' A' X w' ∧ VR σ' v v' ∧ (r = .ok (.value v') w' ∨ (r = .ok .skip w' ∧ v' = undef))
  | .ent g args A' => A' = A ∧ ∃ args' : Array Value, r = .ok (.enter g args') w ∧ VRs σ args args'.toList
def ActOk (P : Program) (ns : Nat) (o : Oper) (f : TM → AW → Out) : Prop :=
  ∀ (w0 w : World) (σ : Sig) (A : AW) (X : Nat → Option AObj) (tm : TM) (ρ : Operand → Value), St P w0 σ A X w → (∀ z ∈ o.op.operands, VR σ ((co ns z).ev tm) (ρ z)) → OutOk P w0 σ A X w ((execOp ρ o).run P w) (f tm A)

section
variable {P : Program} {w0 w w1 : World} {σ : Sig} {A A' : AW} {X : Nat → Option AObj} {tm : TM} {v u u2 : Value} {x y : CO} {t elem : TypeId} {b o : Nat}
theorem valA_some (v : Value) (A : AW) : valA v (some A) = .val v A := by simp only [valA, sA_eq]
theorem valA_none (v : Value) : valA v none = .no := rfl
theorem St.wr (h : St P w0 σ A X w) {L : Loc} {cs vs : List Value} (hb : σ b = some L) (hw : wr A b o cs = some A') (hv : VRs σ cs vs) : ∃ w', (storeCells ⟨L.r, L.s + o, none⟩ vs).run P w = .ok () w' ∧ St P w0 σ A' X w' ∧ Step σ A σ A' := by
  obtain ⟨c, e, hg, hl, ha, rfl⟩ := wr_spec hw
  obtain ⟨h1, h2⟩ := h.write hb hg hl hv
  obtain ⟨c', e', fr, hr⟩ := h.row hb hg
  have ha' : vs.all atomB = true := by rw [← VRs.all (fun _ _ h => VR.atom h) hv]; exact ha
  exact ⟨_, store_run (c'_ := c') ⟨e', fr, hr.heap, hr.size, hr.free⟩ h2 ha', h1, Sig.le_refl σ, by rw [upd_next]; exact Nat.le_refl _, fun _ _ => rfl⟩
theorem sim_store {n : Nat} (h : St P w0 σ A X w) (hs : sizeT P t = some n) (hu : VR σ (x.ev tm) u) (hu2 : VR σ (y.ev tm) u2) : OutOk P w0 σ A X w ((do Instr.storeAt t u u2; pure Next.skip : Sem Next).run P w) (acStore n x y tm A) := by
  unfold acStore
  split
  · rename_i b o he
    rw [he] at hu
    obtain ⟨r, s, nn, zz, hb, rfl⟩ := hu.ptr_inv
    cases hlen : Nat.beq (cellsL (y.ev tm)).length n
    · trivial
    · have hlen := Nat.eq_of_beq_eq_true hlen
      simp only [cond_true]
      cases hw : Ev.wr A b o (cellsL (y.ev tm)) with
      | none => trivial
      | some A' =>
        rw [valA_some]
        have hc := hu2.cells
        obtain ⟨w', h1, h2, h3⟩ := h.wr hb hw hc
        refine ⟨σ, undef, w', h3, h2, undef_r σ, .inr ⟨?_, rfl⟩⟩
        have hsz : u2.cells.size = n := by rw [← hlen, hc.len]; simp
        have h1' : (storeCells ⟨r, s + o, none⟩ u2.cells.toList).run P w = .ok () w' := h1
        simp only [Instr.storeAt, Instr.sureAddr, storeVar, Sem.run_bind, Sem.run_pure, Result.andThen_ok, sizeOf_run hs, hsz, ne_eq, not_true, if_false, h1']
  · trivial

/- Append. -/
theorem append_room {st xt ty : TypeId} {dx : TypeDesc} {i : TypeInfo} {a : Addr} {sLen sCap m : Nat} {new : Array Value} (hd : P.underlying st = some (.slice elem)) (hx : P.underlying xt = some dx) (hni : ∀ k, dx ≠ .int k) (hi : P.info? elem = some i) (hl : (Builtin.lenOf u).run P w = .ok m w)
    (hf : (Builtin.firstCells i.size m u).run P w = .ok new w) (hroom : sLen + m ≤ sCap) (hst : (storeCells (a.add (sLen * i.size)) new.toList).run P w = .ok () w1) :
    (Builtin.append_ #[st, xt] ty #[.slice (some a) sLen sCap, u]).run P w = .ok (.slice (some a) (sLen + m) sCap) w1 := by
  have hz : (match dx with | .int _ => true | _ => false) = false := by cases dx <;> first | rfl | exact (hni _ rfl).elim
  simp [Builtin.append_, run_underlying hd, run_underlying hx, sizeOf, typeInfo, hi, hz, hl, hroom, hf, hst]
theorem append_grow {st xt ty : TypeId} {dx : TypeDesc} {i : TypeInfo} {z : Value} {base : Option Addr} {sLen sCap m : Nat} {old new : Array Value} (hd : P.underlying st = some (.slice elem)) (hx : P.underlying xt = some dx) (hni : ∀ k, dx ≠ .int k) (hi : P.info? elem = some i) (hz0 : i.zero = some z) (hl : (Builtin.lenOf u).run P w = .ok m w)
    (hf : (Builtin.firstCells i.size m u).run P w.drew = .ok new w.drew) (hfo : (Builtin.firstCells i.size sLen (.slice base sLen sCap)).run P w.drew = .ok old w.drew) (hg : sCap < sLen + m) (h63 : ((sLen + m : Nat) : Int) ≤ 9223372036854775807) (hfit : Builtin.nextslicecap (sLen + m) sCap * i.bytes ≤ 281474976710656) :
    (Builtin.append_ #[st, xt] ty #[.slice base sLen sCap, u]).run P w = .ok (.slice (some ⟨w.heap.size, 0, none⟩) (sLen + m) (grownCap w (sLen + m) sCap elem))
        (w.drew.alloc (.cells (old ++ new ++ Builtin.zeroCells z.cells (grownCap w (sLen + m) sCap elem - (sLen + m))) elem)) := by
  have hz : (match dx with | .int _ => true | _ => false) = false := by cases dx <;> first | rfl | exact (hni _ rfl).elim
  have hn : ¬ (sLen + m ≤ sCap) := by omega
  have h63' : ¬ (9223372036854775807 < ((sLen : Int) + (m : Int))) := by omega
  have h48' : ¬ (281474976710656 < Builtin.nextslicecap (sLen + m) sCap * i.bytes) := by omega
  simp [Builtin.append_, run_underlying hd, run_underlying hx, sizeOf, typeInfo, zeroValue, hi, hz0, hz, hl, hn, h63', h48', Question.forced, Go.newRow, grownCap]
  rw [hfo, Result.andThen_ok, hf, Result.andThen_ok]
  rfl
theorem drew_heap (w : World) : w.drew.heap = w.heap := rfl
theorem St.drew (h : St P w0 σ A X w) : St P w0 σ A X w.drew := ⟨h.dom, h.bound, h.disj, fun b o ho => let ⟨L, h1, h2, h3⟩ := h.objs b o ho; ⟨L, h1, h2, h3.keep rfl⟩, h.inj, ⟨h.below.os, h.below.tape, h.below.output, h.below.size, h.below.block⟩⟩
/-- What is handed to append or copy, cell by cell. -/
theorem rowCells_r (h : St P w0 σ A X w) {size : Nat} {q : Value} {cs : List Value} (hu : VR σ q u) (hg : rowCells A size q = some cs) (hlen : cs.length = lenA q * size) :
    ∃ cs', VRs σ cs cs' ∧ (Builtin.lenOf u).run P w = .ok (lenA q) w ∧ ∀ n, n ≤ lenA q → (Builtin.firstCells size n u).run P w = .ok ⟨cs'.take (n * size)⟩ w := by
  unfold rowCells at hg
  split at hg
  · injection hg with hg
    subst hg
    obtain rfl := clo0_eq rfl hu
    exact ⟨[], .nil, rfl, fun n hn => by simp [Builtin.firstCells]⟩
  · rename_i b o n k
    obtain ⟨r, s, nn, zz, o', c', hb, rfl, _, _, ho, _⟩ := hu.slc_inv
    obtain ⟨cs', h1, h2, h3⟩ := h.cells hb hg
    refine ⟨cs', h2, rfl, fun m hm => ?_⟩
    have hm' : m ≤ n := hm
    have hms : m * size ≤ n * size := Nat.mul_le_mul_right _ hm'
    have hl : (cs'.take (m * size)).length = m * size := by simp; omega
    by_cases h0 : m = 0
    · subst h0
      simp [Builtin.firstCells, loadCells, loadCellsFrom]
    · obtain rfl : o' = s + o := by
        rcases ho with ⟨h4, _⟩ | h4
        · omega
        · exact h4
      have := run_loadCells_list (P := P) w ⟨r, s + o, none⟩ (cs'.take (m * size)) (fun j v hj => by
        rw [addr_add]
        have hj2 : j < m * size := by
          have := (List.getElem?_eq_some_iff.1 hj).1
          omega
        rw [List.getElem?_take_of_lt hj2] at hj
        exact h3 j v hj)
      rw [hl] at this
      exact this
  · rename_i s
    injection hg with hg
    subst hg
    obtain rfl := clo0_eq rfl hu
    refine ⟨_, clo0_rs σ ?_, by show Result.ok s.size w = _; rw [ba_len]; rfl, fun n hn => ?_⟩
    · rw [List.all_eq_true]
      intro v hv
      obtain ⟨b, _, rfl⟩ := List.mem_map.1 hv
      rfl
    · have hn' : n ≤ s.data.toList.length := hn
      simp only [List.length_map] at hlen
      have hns : n * size = n := by
        have h1 : lenA (.string s) = s.data.toList.length := rfl
        rw [h1] at hlen
        rcases Nat.eq_zero_or_pos s.data.toList.length with h2 | h2
        · have : n = 0 := by omega
          subst this
          simp
        · have : size = 1 := by
            have h3 : s.data.toList.length * 1 = s.data.toList.length * size := by rw [Nat.mul_one]; exact hlen
            exact (Nat.eq_of_mul_eq_mul_left h2 h3).symm
          rw [this, Nat.mul_one]
      rw [hns]
      simp only [Builtin.firstCells, Sem.run_pure]
      congr 1
      apply Array.ext'
      rw [ba_ext]
      simp [List.map_take]
  · simp at hg
end
end Ev
end Go.Proofs.YtiglblfjmmdeeaaGreat

/- The evaluator: append. -/
namespace Go.Proofs.YtiglblfjmmdeeaaGreat
open Go.RowKit
namespace Ev

section
variable {P : Program} {w0 w w1 : World} {σ : Sig} {A A' : AW} {X : Nat → Option AObj} {tm : TM} {v u u2 : Value} {x y : CO} {t elem : TypeId} {b o : Nat}
theorem St.kill (h : St P w0 σ A X w) (hb : b < most) : St P w0 σ (A.upd b none) X w := by
  have hd : ∀ c p, (A.upd b none).den c = some p → A.den c = some p := fun c p hp => by
    rw [upd_den A _ hb] at hp
    by_cases e : c = b
    · rw [if_pos e] at hp; cases hp
    · rw [if_neg e] at hp; exact hp
  have hlv : ∀ c, Live (A.upd b none) X c → Live A X c := fun c hc => by
    rcases hc with h1 | h1
    · obtain ⟨p, hp⟩ := Option.ne_none_iff_exists'.1 h1
      exact .inl (by rw [hd c p hp]; exact Option.some_ne_none _)
    · exact .inr h1
  refine ⟨fun x y hx => by rw [upd_next]; exact h.dom x y hx, by rw [upd_next]; exact h.bound, fun x hx => ?_, fun x p hp => h.objs x p (hp.imp (hd x p) id), fun c c' L1 L2 h1 h2 => h.inj c c' L1 L2 (hlv c h1) (hlv c' h2), h.below⟩
  rw [upd_den A _ hb]
  by_cases e : x = b
  · rw [if_pos e]
  · rw [if_neg e]; exact h.disj x hx
/-- A row that goes on under a new name, cells written behind it. -/
theorem St.take (h : St P w0 σ A X w) {r s nn zz o' b2 off : Nat} {c cs vs : List Value} {e : TypeId} (hb : σ b = some ⟨r, s, nn, zz⟩) (hg : A.get b = some (.row c elem)) (hn : (A.upd b none).new (.row cs e) = some (b2, A'))
    (hsz : ∀ z, sizeT P e = some z → zz = z) (hoff : off + vs.length ≤ nn) (hfit : o' + cs.length ≤ nn)
    (hcs : ∀ c' : Array Value, (∃ e' fr, w.heap[r]? = some (.cells c' e' fr)) → ∀ (i : Nat) (v : Value), cs[i]? = some v → ∃ v', (over c'.toList off vs)[o' + i]? = some v' ∧ VR σ v v') :
    St P w0 (σ.ext b2 ⟨r, o', nn, zz⟩) A' X (w.setCells r off vs) ∧ Step σ A (σ.ext b2 ⟨r, o', nn, zz⟩) A' := by
  obtain ⟨c', e', fr, hr⟩ := h.row hb hg
  have hbn : b < most := Nat.lt_trans (h.dom _ _ hb) h.bound
  have hd := h.live_get hb hg
  obtain ⟨rfl, n1, n2, n3⟩ := new_spec hn
  rw [upd_next] at n1 n2 n3
  simp only [upd_next] at *
  have hs := h.free (Nat.le_refl A.next)
  have hdd := h.dead hs
  have hheap : w.heap[r]? = some (.cells c' e' fr) := hr.heap
  have hcsz : c'.size = nn := hr.size
  obtain ⟨i1, i2, i3, i4, i5, i6⟩ := setCells_spec r vs off w c' e' fr hheap (by rw [hcsz]; exact hoff)
  have hden : ∀ x, A'.den x = if x = A.next then some (.row cs e) else if x = b then none else A.den x := fun x => by
    rw [n3, upd_den A _ hbn]
  have hbx : b ≠ A.next := by have := h.dom _ _ hb; omega
  have hXb : X b = none := by
    cases hx : X b with
    | none => rfl
    | some q => have := h.disj b (by rw [hx]; simp); rw [hd] at this; cases this
  have hold : ∀ x, x ≠ A.next → Live A' X x → Live A X x ∧ x ≠ b := fun x hx hl => by
    rcases hl with h1 | h1
    · rw [hden, if_neg hx] at h1
      by_cases e : x = b
      · rw [if_pos e] at h1; exact absurd rfl h1
      · rw [if_neg e] at h1; exact ⟨.inl h1, e⟩
    · exact ⟨.inr h1, fun e => by subst e; exact h1 hXb⟩
  obtain ⟨L0, g1, g2, _⟩ := h.objs b _ (.inl hd)
  rw [hb] at g1
  cases g1
  have g2 : w0.heap.size ≤ r := g2
  refine ⟨⟨fun x y hx => ?_, by omega, fun x hx => ?_, fun x p hp => ?_, fun x x' L1 L2 h1 h2 l1 l2 l12 => ?_, ⟨i4.trans h.below.os, i5.trans h.below.tape, i6.trans h.below.output, by rw [i3]; exact h.below.size, fun k hk => by rw [i2 k (by omega)]; exact h.below.block k hk⟩⟩, Sig.le_ext hs, by omega, fun x hx => by unfold Sig.ext; rw [if_neg (by omega)]⟩
  · unfold Sig.ext at hx
    by_cases e : x = A.next
    · omega
    · rw [if_neg e] at hx; have := h.dom x y hx; omega
  · rw [hden]
    by_cases e : x = A.next
    · subst e; exact absurd hdd.2 hx
    · rw [if_neg e]
      by_cases e2 : x = b
      · rw [if_pos e2]
      · rw [if_neg e2]; exact h.disj x hx
  · by_cases e : x = A.next
    · subst e
      rw [hden, if_pos rfl, hdd.2] at hp
      rcases hp with hp | hp
      · injection hp with hp
        subst hp
        refine ⟨_, Sig.ext_at _ _ _, g2, _, e', fr, i1, ?_, hfit, fun z hz => hsz z hz, fun j hj => hr.free j hj, fun i v hi => ?_⟩
        · show (over c'.toList off vs).length = nn
          rw [over_len (by simp; omega)]
          simpa using hcsz
        · obtain ⟨v', k1, k2⟩ := hcs c' ⟨e', fr, hheap⟩ i v hi
          exact ⟨v', (List.getElem?_toArray ..).trans k1, k2.mono (Sig.le_ext hs)⟩
      · cases hp
    · have hl : Live A' X x := by
        rcases hp with hp | hp
        · exact .inl (by rw [hp]; exact Option.some_ne_none _)
        · exact .inr (by rw [hp]; exact Option.some_ne_none _)
      have hxb := (hold x e hl).2
      rw [hden, if_neg e, if_neg hxb] at hp
      obtain ⟨L1, k1, k2, k3⟩ := h.objs x p hp
      refine ⟨L1, by unfold Sig.ext; rw [if_neg e]; exact k1, k2, (k3.mono (Sig.le_ext hs)).keep (i2 _ fun er => hxb ?_)⟩
      exact h.inj x b L1 _ (hold x e hl).1 (.inl (by rw [hd]; exact Option.some_ne_none _)) k1 hb er
  · unfold Sig.ext at l1 l2
    by_cases e1 : x = A.next
    · by_cases e2 : x' = A.next
      · rw [e1, e2]
      · rw [if_pos e1] at l1
        rw [if_neg e2] at l2
        injection l1 with l1
        subst l1
        obtain ⟨k1, k2⟩ := hold x' e2 h2
        exact absurd (h.inj x' b L2 _ k1 (.inl (by rw [hd]; exact Option.some_ne_none _)) l2 hb l12.symm) k2
    · by_cases e2 : x' = A.next
      · rw [if_neg e1] at l1
        rw [if_pos e2] at l2
        injection l2 with l2
        subst l2
        obtain ⟨k1, k2⟩ := hold x e1 h1
        exact absurd (h.inj x b L1 _ k1 (.inl (by rw [hd]; exact Option.some_ne_none _)) l1 hb l12) k2
      · rw [if_neg e1] at l1
        rw [if_neg e2] at l2
        exact h.inj x x' L1 L2 (hold x e1 h1).1 (hold x' e2 h2).1 l1 l2 l12
theorem newRow_ok {e : TypeId} {f : Nat → Value} {cs : List Value} {r : Out} (h : Ev.newRow e f cs A = r) : r = .no ∨ ∃ b A', A.new (.row cs e) = some (b, A') ∧ r = .val (f b) A' := by
  unfold Ev.newRow at h
  rw [sL_eq sV0_eq] at h
  split at h
  · rename_i b A' hn
    exact .inr ⟨b, A', hn, h.symm⟩
  · exact .inl h.symm
theorem zeroCells_size (z : Array Value) (n : Nat) : (Builtin.zeroCells z n).size = n * z.size := by simp [Builtin.zeroCells]
/-- A new array with what was there and what is new. -/
theorem grow_new (h : St P w0 σ A X w) {size cap n : Nat} {cs : List Value} {c1 : List Value} {z : Value} (hs : sizeT P elem = some size) (hz : z.cells.size = size) (hr : VRs σ cs c1) (hl : cs.length = n * size) (hcap : n ≤ cap) (hn : A.new (.row cs elem) = some (b, A')) :
    ∃ σ', Step σ A σ' A' ∧ St P w0 σ' A' X (w.drew.alloc (.cells (⟨c1⟩ ++ Builtin.zeroCells z.cells (cap - n)) elem)) ∧ VR σ' (aslc b 0 n (2 * n)) (.slice (some ⟨w.heap.size, 0, none⟩) n cap) := by
  have hw : NewW w.drew (w.drew.alloc (.cells (⟨c1⟩ ++ Builtin.zeroCells z.cells (cap - n)) elem)) (.cells (⟨c1⟩ ++ Builtin.zeroCells z.cells (cap - n)) elem) := ⟨rfl, rfl, rfl, rfl⟩
  have ho : ObjR P σ (.row cs elem) (newL P elem w.drew.heap.size (⟨c1⟩ ++ Builtin.zeroCells z.cells (cap - n) : Array Value).size) (w.drew.alloc (.cells (⟨c1⟩ ++ Builtin.zeroCells z.cells (cap - n)) elem)) := by
    refine row_new ?_ (.inl rfl) hw
    rw [hr.len]
    simpa using hr
  obtain ⟨h1, h2⟩ := h.drew.newA hw rfl ho hn
  obtain ⟨rfl, n1, n2, n3⟩ := new_spec hn
  refine ⟨_, ⟨h2, by omega, fun x hx => by unfold Sig.ext; rw [if_neg (by omega)]⟩, h1, ?_⟩
  have hsz : (⟨c1⟩ ++ Builtin.zeroCells z.cells (cap - n) : Array Value).size = cap * size := by
    have : (⟨c1⟩ : Array Value).size = n * size := by rw [← hl, hr.len]; rfl
    rw [Array.size_append, this, zeroCells_size, hz, ← Nat.add_mul]
    congr 1
    omega
  have := VR.slc (σ := σ.ext A.next (newL P elem w.drew.heap.size (⟨c1⟩ ++ Builtin.zeroCells z.cells (cap - n) : Array Value).size)) (r := w.heap.size) (s := 0) 0 n (2 * n) cap (Sig.ext_at _ _ _) (by omega) (by omega) (fun _ => by
    rw [hsz, hs]
    simp)
  simpa [aslc] using this
end
end Ev
end Go.Proofs.YtiglblfjmmdeeaaGreat

/- The evaluator: append, copy, clear. -/
namespace Go.Proofs.YtiglblfjmmdeeaaGreat
open Go.RowKit
namespace Ev

/-- What is said of an outcome holds of a run that yields a value. -/
def ValOk (P : Program) (w0 : World) (σ : Sig) (A : AW) (X : Nat → Option AObj) (r : Result Value) : Out → Prop
  | .no => True
  | .val v A' => ∃ σ' v' w', Step σ A σ' A' ∧ St P w0 σ' A' X w' ∧ VR σ' v v' ∧ r = .ok v' w'
  | .ent _ _ _ => False
section
variable {P : Program} {w0 w w1 : World} {σ : Sig} {A A' : AW} {X : Nat → Option AObj} {tm : TM} {v u u2 : Value} {x y : CO} {t elem : TypeId} {b o : Nat}
theorem ValOk.lift {s : Sem Value} {r : Out} (h : ValOk P w0 σ A X (s.run P w) r) : OutOk P w0 σ A X w ((do pure (Next.value (← s)) : Sem Next).run P w) r := by
  cases r with
  | no => trivial
  | val v A' =>
    obtain ⟨σ', v', w', h1, h2, h3, h4⟩ := h
    exact ⟨σ', v', w', h1, h2, h3, .inl (by simp only [Sem.run_bind, h4, Result.andThen_ok, Sem.run_pure])⟩
  | ent f args A' => exact h.elim
theorem rowCells_zero {size : Nat} {q : Value} {cs : List Value} (hg : rowCells A size q = some cs) (h0 : lenA q = 0) : cs = [] := by
  unfold rowCells at hg
  split at hg
  · injection hg with hg; exact hg.symm
  · rename_i b o n k
    have : n = 0 := h0
    subst this
    unfold cellsAt at hg
    split at hg
    · obtain ⟨_, hg⟩ := cond_ok hg
      injection hg with hg
      rw [← hg]
      simp
    · cases hg
  · rename_i s
    injection hg with hg
    have : s.data.toList.length = 0 := h0
    rw [← hg, List.length_eq_zero_iff.1 this]
    rfl
  · cases hg
theorem take_all {l : List Value} {n : Nat} (h : l.length = n) : l.take n = l := by rw [← h, List.take_length]
/-- Nothing is appended. -/
theorem append_none {st xt ty : TypeId} {dx : TypeDesc} {i : TypeInfo} {base : Option Addr} {sLen sCap : Nat} (hd : P.underlying st = some (.slice elem)) (hx : P.underlying xt = some dx) (hni : ∀ k, dx ≠ .int k) (hi : P.info? elem = some i) (hl : (Builtin.lenOf u).run P w = .ok 0 w)
    (hf : (Builtin.firstCells i.size 0 u).run P w = .ok #[] w) (hroom : sLen ≤ sCap) :
    (Builtin.append_ #[st, xt] ty #[.slice base sLen sCap, u]).run P w = .ok (.slice base sLen sCap) w := by
  have hz : (match dx with | .int _ => true | _ => false) = false := by cases dx <;> first | rfl | exact (hni _ rfl).elim
  cases base <;> simp [Builtin.append_, run_underlying hd, run_underlying hx, sizeOf, typeInfo, hi, hz, hl, hroom, hf, storeCells]
theorem VR.slice_inv {a : Option Addr} {n k : Nat} (h : VR σ (.slice a n k) u) : ∃ base c, u = .slice base n c ∧ k / 2 ≤ c := by
  cases h with
  | clo h => exact ⟨_, _, rfl, by omega⟩
  | slc o n k c h h1 h2 h3 => exact ⟨_, _, rfl, h2⟩
  | slc0 o o' k c h h1 h2 h3 => exact ⟨_, _, rfl, by omega⟩
theorem bytesT_info {n : Nat} (h : bytesT P t = some n) : ∃ i, P.info? t = some i ∧ i.bytes = n := by
  unfold bytesT at h
  cases hi : P.info? t with
  | none => rw [hi] at h; simp at h
  | some i => rw [hi] at h; simp at h; exact ⟨i, rfl, h⟩
theorem sim_append {st xt ty : TypeId} {dx : TypeDesc} {size bytes : Nat} {z : Value} (h : St P w0 σ A X w) (hd : P.underlying st = some (.slice elem)) (hx : P.underlying xt = some dx) (hni : ∀ k, dx ≠ .int k) (hs : sizeT P elem = some size) (hz : zeroT P elem = some z) (hb : bytesT P elem = some bytes) (hb2 : bytes ≤ 1000001)
    (hzs : (cellsL z).length = size) (hu : VR σ (x.ev tm) u) (hu2 : VR σ (y.ev tm) u2) : ValOk P w0 σ A X ((Builtin.append_ #[st, xt] ty #[u, u2]).run P w) (acAppend elem size x y tm A) := by
  obtain ⟨i, hi, hisz⟩ := sizeT_info hs
  obtain ⟨i2, hi2, hib⟩ := bytesT_info hb
  rw [hi] at hi2
  cases hi2
  obtain ⟨i3, hi3, hz0, hzc⟩ := zeroT_info hz
  rw [hi] at hi3
  cases hi3
  have hzsz : z.cells.size = size := by rw [← hzs, cellsL_eq]; simp
  unfold acAppend
  split
  · trivial
  · rename_i new hnew
    split
    · rename_i h0
      obtain rfl := rowCells_zero hnew h0
      obtain ⟨cs', k1, k2, k3⟩ := rowCells_r (P := P) h hu2 hnew (by rw [h0]; simp)
      cases k1
      split
      · rename_i a n k he
        cases hle : Nat.ble n (k / 2)
        · trivial
        · have hle := Nat.le_of_ble_eq_true hle
          simp only [cond_true]
          rw [he] at hu
          obtain ⟨base, c, rfl, hc⟩ := hu.slice_inv
          rw [h0] at k2
          have k4 := k3 0 (Nat.zero_le _)
          exact ⟨σ, _, w, Step.refl σ A, h, hu, append_none hd hx hni hi k2 (by rw [hisz]; simpa using k4) (by omega)⟩
      · trivial
    · rename_i m hm
      cases hcc : (new.all atomB && Nat.ble m bigN && Nat.beq new.length ((m + 1) * size))
      · trivial
      · simp only [cond_true]
        simp only [Bool.and_eq_true] at hcc
        obtain ⟨⟨hat, hmb⟩, hnl⟩ := hcc
        have hmb := Nat.le_of_ble_eq_true hmb
        have hnl := Nat.eq_of_beq_eq_true hnl
        obtain ⟨cs', k1, k2, k3⟩ := rowCells_r (P := P) h hu2 hnew (by rw [hm]; exact hnl)
        obtain ⟨cs2, l1, l2, l3⟩ := rowCells_r (P := P) h.drew hu2 hnew (by rw [hm]; exact hnl)
        have hcl : cs'.length = (m + 1) * size := by rw [← k1.len]; exact hnl
        have hcl2 : cs2.length = (m + 1) * size := by rw [← l1.len]; exact hnl
        have k4 := k3 (m + 1) (by rw [hm]; exact Nat.le_refl _)
        have l4 := l3 (m + 1) (by rw [hm]; exact Nat.le_refl _)
        rw [take_all hcl] at k4
        rw [take_all hcl2] at l4
        rw [hm] at k2
        rw [← hisz] at k4 l4
        have hmb' : m ≤ 33554432 := hmb
        have fit : ∀ n c, n ≤ 33554432 → c < n + (m + 1) → Builtin.nextslicecap (n + (m + 1)) c * i.bytes ≤ 281474976710656 := fun n c hn hg =>
          growslice_fits hg (Nat.le_trans (Nat.mul_le_mul (show n + (m + 1) ≤ 67108865 by omega) (by rw [hib]; exact hb2)) (by decide))
        unfold appendTo
        split
        · rename_i he
          rw [he] at hu
          obtain rfl := clo0_eq rfl hu
          generalize hr : Ev.newRow elem (fun b => aslc b 0 (m + 1) (2 * (m + 1))) new A = r
          rcases newRow_ok hr with rfl | ⟨b, A', hn, rfl⟩
          · trivial
          · have hrun := append_grow (P := P) (w := w) (u := u2) (base := none) (sLen := 0) (sCap := 0) (m := m + 1) (old := #[]) (ty := ty) hd hx hni hi hz0 k2 l4 (by simp [Builtin.firstCells]) (by omega) (by omega) (fit 0 0 (by omega) (by omega))
            obtain ⟨σ', s1, s2, s3⟩ := grow_new h (cap := grownCap w (0 + (m + 1)) 0 elem) hs hzsz l1 hnl (by have := grownCap_ge w (0 + (m + 1)) 0 elem; omega) hn
            refine ⟨σ', _, _, s1, s2, s3, ?_⟩
            rw [hrun]
            simp
        · rename_i b o n k he
          rw [he] at hu
          obtain ⟨r, s, nn, zz, o', c, hbl, rfl, hex, hleast, ho, hroom⟩ := hu.slc_inv
          cases hle : Nat.ble (n + (m + 1)) (k / 2)
          · simp only [cond_false]
            cases hc2 : (Nat.ble n bigN && Nat.ble k bigN && elemOk A b elem k)
            · trivial
            · simp only [cond_true]
              simp only [Bool.and_eq_true] at hc2
              obtain ⟨⟨hnb, hkb⟩, hel⟩ := hc2
              have hnb' : n ≤ 33554432 := Nat.le_of_ble_eq_true hnb
              have hlt : k / 2 < n + (m + 1) := by
                rcases Nat.lt_or_ge (k / 2) (n + (m + 1)) with q | q
                · exact q
                · rw [Nat.ble_eq_true_of_le q] at hle; cases hle
              split
              · rename_i old hold
                obtain ⟨old', q1, q2, q3⟩ := rowCells_r (P := P) h.drew hu (cs := old) (size := size) (by exact hold) (by
                  unfold cellsAt at hold
                  split at hold
                  · obtain ⟨hb3, hold⟩ := cond_ok hold
                    have hb3 := Nat.le_of_ble_eq_true hb3
                    injection hold with hold
                    rw [← hold]
                    show _ = n * size
                    simp
                    omega
                  · cases hold)
                have holdlen : old.length = n * size := by
                  unfold cellsAt at hold
                  split at hold
                  · obtain ⟨hb3, hold⟩ := cond_ok hold
                    have hb3 := Nat.le_of_ble_eq_true hb3
                    injection hold with hold
                    rw [← hold]
                    simp
                    omega
                  · cases hold
                have q4 := q3 n (Nat.le_refl _)
                rw [take_all (by rw [← q1.len]; exact holdlen), ← hisz] at q4
                have hlen2 : (old ++ new).length = (n + (m + 1)) * size := by rw [List.length_append, holdlen, hnl, ← Nat.add_mul]
                have grow : ∀ A1 : AW, St P w0 σ A1 X w → Step σ A σ A1 → c < n + (m + 1) → ∀ q, Ev.newRow elem (fun b => aslc b 0 (n + (m + 1)) (2 * (n + (m + 1)))) (old ++ new) A1 = q → ValOk P w0 σ A X ((Builtin.append_ #[st, xt] ty #[.slice (some ⟨r, o', none⟩) n c, u2]).run P w) q := by
                  intro A1 hA1 hst hcap q hq
                  rcases newRow_ok hq with rfl | ⟨b, A', hn, rfl⟩
                  · trivial
                  · have hrun := append_grow (P := P) (w := w) (u := u2) (base := some ⟨r, o', none⟩) (sLen := n) (sCap := c) (m := m + 1) (ty := ty) hd hx hni hi hz0 k2 l4 q4 hcap (by omega) (fit n c hnb' hcap)
                    obtain ⟨σ', s1, s2, s3⟩ := grow_new hA1 (cap := grownCap w (n + (m + 1)) c elem) hs hzsz (q1.append l1) hlen2 (grownCap_ge w (n + (m + 1)) c elem) hn
                    refine ⟨σ', _, _, hst.trans s1, s2, s3, ?_⟩
                    rw [hrun]
                    simp
                cases hpar : Nat.beq (k % 2) 1
                · simp only [cond_false]
                  have hkp : k % 2 = 0 := by
                    have : k % 2 ≠ 1 := fun e => by rw [e] at hpar; cases hpar
                    omega
                  have hbn : b < most := Nat.lt_trans (h.dom _ _ hbl) h.bound
                  by_cases hcap : c < n + (m + 1)
                  · exact grow _ (h.kill hbn) ⟨Sig.le_refl σ, by rw [upd_next]; exact Nat.le_refl _, fun _ _ => rfl⟩ hcap _ rfl
                  · generalize hq : Ev.newRow elem (fun b => aslc b 0 (n + (m + 1)) (2 * (n + (m + 1)))) (old ++ new) (A.upd b none) = q
                    rcases newRow_ok hq with rfl | ⟨b2, A', hn, rfl⟩
                    · trivial
                    · have hel' : ∃ c0, A.get b = some (.row c0 elem) := by
                        unfold elemOk at hel
                        rw [hpar] at hel
                        simp only [cond_false] at hel
                        split at hel
                        · rename_i c0 e0 hg
                          have := Nat.eq_of_beq_eq_true hel
                          subst this
                          exact ⟨c0, hg⟩
                        · cases hel
                      obtain ⟨c0, hg⟩ := hel'
                      obtain ⟨c', e', fr, hr⟩ := h.row hbl hg
                      have hzz : zz = size := hr.elem size hs
                      have hroom' := hroom hkp
                      rw [hzz] at hroom'
                      have hmul : (n + (m + 1)) * size ≤ c * size := Nat.mul_le_mul_right _ (by omega)
                      have hsplit : (n + (m + 1)) * size = n * size + (m + 1) * size := Nat.add_mul _ _ _
                      have hnn : c'.size = nn := hr.size
                      obtain ⟨hT, hS⟩ := h.take (o' := o') (off := o' + n * size) (vs := cs') (cs := old ++ new) (e := elem) hbl hg hn (fun z hz => hr.elem z hz) (by rw [hcl]; omega) (by rw [hlen2]; omega) (fun c2 hc2 j v hj => by
                        obtain ⟨e2, fr2, hc2⟩ := hc2
                        have hheap : w.heap[r]? = some (.cells c' e' fr) := hr.heap
                        rw [hheap] at hc2
                        injection hc2 with hc2
                        injection hc2 with hc2 _ _
                        subst hc2
                        rw [over_get (by simp only [Array.length_toList]; rw [hnn, hcl]; omega)]
                        by_cases hjn : j < n * size
                        · rw [if_pos (by omega)]
                          rw [List.getElem?_append_left (by rw [holdlen]; exact hjn)] at hj
                          have hval := hr.val
                          unfold cellsAt at hold
                          rw [hg] at hold
                          obtain ⟨hb3, hold⟩ := cond_ok hold
                          injection hold with hold
                          rw [← hold, List.getElem?_take_of_lt hjn, List.getElem?_drop] at hj
                          obtain ⟨v', t1, t2⟩ := hval _ v hj
                          have ho' : o' = s + o := by
                            rcases ho with ⟨h4, _⟩ | h4
                            · subst h4; simp at hjn
                            · exact h4
                          refine ⟨v', ?_, t2⟩
                          have t1 : c'[s + (o + j)]? = some v' := t1
                          rw [show o' + j = s + (o + j) by omega]
                          simpa using t1
                        · have hj2 : j < (old ++ new).length := (List.getElem?_eq_some_iff.1 hj).1
                          rw [hlen2] at hj2
                          rw [if_neg (by omega), if_pos (by rw [hcl]; omega)]
                          rw [List.getElem?_append_right (by rw [holdlen]; omega), holdlen] at hj
                          obtain ⟨v', t1, t2⟩ := k1.get hj
                          refine ⟨v', ?_, t2⟩
                          rw [show o' + j - (o' + n * size) = j - n * size by omega]
                          exact t1)
                      refine ⟨_, _, _, hS, hT, ?_, append_room hd hx hni hi k2 k4 (by omega) ?_⟩
                      · have := VR.slc (σ := σ.ext b2 ⟨r, o', nn, zz⟩) 0 (n + (m + 1)) (2 * (n + (m + 1))) c (Sig.ext_at _ _ _) (by omega) (by omega) (fun _ => by rw [hzz]; omega)
                        simpa [aslc] using this
                      · have ha' : cs'.all atomB = true := by rw [← VRs.all (fun _ _ h => VR.atom h) k1]; exact hat
                        have := store_run (P := P) (w := w) (L := ⟨r, o', nn, zz⟩) (o := o' + n * size) (vs := cs') (c'_ := c') ⟨e', fr, hr.heap, hr.size, hr.free⟩ (by show o' + n * size + cs'.length ≤ nn; rw [hcl]; omega) ha'
                        rw [hisz, addr_add]
                        exact this
                · simp only [cond_true]
                  have hk1 : k % 2 = 1 := Nat.eq_of_beq_eq_true hpar
                  exact grow A h (Step.refl σ A) (by rw [hex hk1]; exact hlt) _ rfl
              · trivial
          · simp only [cond_true]
            have hle := Nat.le_of_ble_eq_true hle
            cases hw : Ev.wr A b (o + n * size) new with
            | none => trivial
            | some A' =>
              rw [valA_some]
              obtain ⟨w', s1, s2, s3⟩ := h.wr hbl hw k1
              have ho' : o' = s + o := by
                rcases ho with ⟨h4, h5⟩ | h4
                · omega
                · exact h4
              subst ho'
              refine ⟨σ, _, w', s3, s2, .slc o (n + (m + 1)) k c hbl hex hleast hroom, append_room hd hx hni hi k2 k4 (by omega) ?_⟩
              rw [hisz, addr_add, Nat.add_assoc]
              exact s1
        · trivial

/- Copy, clear. -/
theorem sim_copy {st ty : TypeId} {size : Nat} {ats : Array TypeId} (hat : ats[0]? = some st) (h : St P w0 σ A X w) (hd : P.underlying st = some (.slice elem)) (hs : sizeT P elem = some size) (hu : VR σ (x.ev tm) u) (hu2 : VR σ (y.ev tm) u2) : ValOk P w0 σ A X ((Builtin.copy_ ats ty #[u, u2]).run P w) (acCopy size x y tm A) := by
  unfold acCopy
  split
  · rename_i b o n k cs he hcs
    cases hcc : Nat.beq cs.length (lenA (y.ev tm) * size)
    · trivial
    · have hnl := Nat.eq_of_beq_eq_true hcc
      simp only [cond_true]
      rw [he] at hu
      obtain ⟨r, s, nn, zz, o', c, hbl, rfl, hex, hleast, ho, hroom⟩ := hu.slc_inv
      obtain ⟨cs', k1, k2, k3⟩ := rowCells_r (P := P) h hu2 hcs hnl
      have k4 := k3 (Nat.min (lenA (y.ev tm)) n) (Nat.min_le_left _ _)
      cases hw : Ev.wr A b o (cs.take (Nat.min (lenA (y.ev tm)) n * size)) with
      | none => trivial
      | some A' =>
        rw [valA_some]
        obtain ⟨w', s1, s2, s3⟩ := h.wr hbl hw (k1.take _)
        refine ⟨σ, _, w', s3, s2, .clo rfl, ?_⟩
        have s1' : (storeCells ⟨r, o', none⟩ (cs'.take (Nat.min (lenA (y.ev tm)) n * size))).run P w = .ok () w' := by
          rcases ho with ⟨h4, h5⟩ | h4
          · subst h4
            have hm : Nat.min (lenA (y.ev tm)) 0 * size = 0 := by simp
            rw [hm] at s1 ⊢
            exact s1
          · rw [h4]; exact s1
        simp [Builtin.copy_, hat, run_underlying hd, k2, sizeOf_run hs, Result.andThen, k4, s1', goInt]
  · trivial
theorem zeroCells_list {z : Value} {n : Nat} : (Builtin.zeroCells z.cells n).toList = (List.replicate n z.cells.toList).flatten := zero_row z.cells n z.cells.size rfl
theorem sim_clear {st ty : TypeId} {z : Value} (h : St P w0 σ A X w) (hd : P.underlying st = some (.slice elem)) (hz : zeroT P elem = some z) (hu : VR σ (x.ev tm) u) : ValOk P w0 σ A X ((Builtin.clear_ #[st] ty #[u]).run P w) (acClear (cellsL z) x tm A) := by
  obtain ⟨i3, hi3, hz0, hzc⟩ := zeroT_info hz
  unfold acClear
  split
  · rename_i a k he
    rw [he] at hu
    obtain ⟨base, c, rfl, _⟩ := hu.slice_inv
    refine ⟨σ, _, w, Step.refl σ A, h, .tuple .nil, ?_⟩
    cases base <;> simp [Builtin.clear_, run_underlying hd]
  · rename_i b o n k hne he
    rw [he] at hu
    obtain ⟨r, s, nn, zz, o', c, hbl, rfl, hex, hleast, ho, hroom⟩ := hu.slc_inv
    have hn0 : n ≠ 0 := fun e => by subst e; first | exact hne _ _ he | exact hne _ _ rfl | exact (hne rfl).elim | simp at hne
    have ho' : o' = s + o := by
      rcases ho with ⟨h4, _⟩ | h4
      · exact absurd h4 hn0
      · exact h4
    subst ho'
    cases hw : Ev.wr A b o ((List.replicate n (cellsL z)).flatten) with
    | none => trivial
    | some A' =>
      rw [valA_some]
      obtain ⟨w', s1, s2, s3⟩ := h.wr hbl hw ((clo1_r σ hzc).cells.flatten)
      refine ⟨σ, _, w', s3, s2, .tuple .nil, ?_⟩
      have s1' : (storeCells ⟨r, s + o, none⟩ (List.replicate n z.cells.toList).flatten).run P w = .ok () w' := s1
      obtain ⟨m, rfl⟩ := Nat.exists_eq_succ_of_ne_zero hn0
      simp [Builtin.clear_, run_underlying hd, zero_run hz, zeroCells_list, s1']
  · trivial
end
end Ev
end Go.Proofs.YtiglblfjmmdeeaaGreat

/- The evaluator: maps that are changed. -/
namespace Go.Proofs.YtiglblfjmmdeeaaGreat
open Go.RowKit
namespace Ev

section
variable {P : Program} {w0 w w1 : World} {σ : Sig} {A A' : AW} {X : Nat → Option AObj} {tm : TM} {v u u2 u3 k : Value} {x y z : CO} {t kt : TypeId} {d : TypeDesc} {b o : Nat} {L : Loc} {es es2 : List MapEntry}
/-- What a name stands for is changed. -/
theorem St.change (h : St P w0 σ A X w) (hb : σ b = some L) {p0 p : AObj} (hg : A.get b = some p0) (hk : ∀ k, k ≠ L.r → w1.heap[k]? = w.heap[k]?) (hsz : w1.heap.size = w.heap.size) (hos : w1.os = w.os) (htp : w1.tape = w.tape) (hout : w1.output = w.output) (ho : ObjR P σ p L w1) : St P w0 σ (A.upd b (some p)) X w1 := by
  have hbn : b < most := Nat.lt_trans (h.dom _ _ hb) h.bound
  have hd := h.live_get hb hg
  obtain ⟨L1, g1, g2, _⟩ := h.objs b _ (.inl hd)
  rw [hb] at g1
  cases g1
  have hlv : ∀ x, Live (A.upd b (some p)) X x → Live A X x := fun x hx => by
    rcases hx with h1 | h1
    · rw [upd_den A _ hbn] at h1
      by_cases e : x = b
      · subst e; exact .inl (by rw [hd]; simp)
      · rw [if_neg e] at h1; exact .inl h1
    · exact .inr h1
  refine ⟨fun x y hx => by rw [upd_next]; exact h.dom x y hx, by rw [upd_next]; exact h.bound, fun x hx => ?_, fun x q hp => ?_, fun x x' L1 L2 h1 h2 => h.inj x x' L1 L2 (hlv x h1) (hlv x' h2), ⟨hos.trans h.below.os, htp.trans h.below.tape, hout.trans h.below.output, by rw [hsz]; exact h.below.size, fun k hk2 => ?_⟩⟩
  · rw [upd_den A _ hbn]
    have := h.disj x hx
    by_cases e : x = b
    · subst e; rw [hd] at this; cases this
    · rw [if_neg e]; exact this
  · rw [upd_den A _ hbn] at hp
    by_cases e : x = b
    · subst e
      have hX : X x = none := by
        cases hx : X x with
        | none => rfl
        | some q => have := h.disj x (by rw [hx]; simp); rw [hd] at this; cases this
      rw [if_pos rfl, hX] at hp
      rcases hp with hp | hp
      · injection hp with hp
        subst hp
        exact ⟨L, hb, g2, ho⟩
      · cases hp
    · rw [if_neg e] at hp
      obtain ⟨L1, g1, g2, g3⟩ := h.objs x q hp
      refine ⟨L1, g1, g2, g3.keep (hk _ fun er => e ?_)⟩
      exact h.inj x b L1 L (hp.imp (fun e => by rw [e]; exact Option.some_ne_none _) (fun e => by rw [e]; exact Option.some_ne_none _)) (.inl (by rw [hd]; simp)) g1 hb er
  · rw [hk k (by omega)]
    exact h.below.block k hk2
theorem ERs.get {l l' : List MapEntry} (h : ERs σ l l') {i : Nat} {e : MapEntry} (he : l[i]? = some e) : ∃ e', l'[i]? = some e' ∧ e'.key = e.key ∧ e'.born = e.born ∧ VR σ e.val e'.val := by
  induction i generalizing l l' with
  | zero => cases h with
    | nil => simp at he
    | cons hk hc hb hv t => simp at he; subst he; exact ⟨_, rfl, hk, hb, hv⟩
  | succ i ih => cases h with
    | nil => simp at he
    | cons hk hc hb hv t => simpa using ih t (by simpa using he)
theorem ERs.set {l l' : List MapEntry} (h : ERs σ l l') (i : Nat) {e e' : MapEntry} (hk : e'.key = e.key) (hc : clo e.key = true) (hb : e'.born = e.born) (hv : VR σ e.val e'.val) : ERs σ (l.set i e) (l'.set i e') := by
  induction i generalizing l l' with
  | zero => cases h with
    | nil => exact .nil
    | cons _ _ _ _ t => exact .cons hk hc hb hv t
  | succ i ih => cases h with
    | nil => exact .nil
    | cons a b c d t => exact .cons a b c d (ih t)
theorem ERs.push {l l' : List MapEntry} (h : ERs σ l l') {e e' : MapEntry} (hk : e'.key = e.key) (hc : clo e.key = true) (hb : e'.born = e.born) (hv : VR σ e.val e'.val) : ERs σ (l ++ [e]) (l' ++ [e']) := by
  induction h with
  | nil => exact .cons hk hc hb hv .nil
  | cons a b c d t ih => exact .cons a b c d ih
theorem ERs.erase {l l' : List MapEntry} (h : ERs σ l l') (i : Nat) : ERs σ (l.eraseIdx i) (l'.eraseIdx i) := by
  induction i generalizing l l' with
  | zero => cases h with
    | nil => exact .nil
    | cons _ _ _ _ t => exact t
  | succ i ih => cases h with
    | nil => exact .nil
    | cons a b c d t => exact .cons a b c d (ih t)
theorem St.setMap (h : St P w0 σ A X w) (hb : σ b = some L) {clock clock2 : Nat} {es' : Array MapEntry} (hg : A.get b = some (.map es clock)) (he : ERs σ es2 es'.toList) :
    ∃ w', (setObj L.r (.map es' clock2)).run P w = .ok () w' ∧ St P w0 σ (A.upd b (some (.map es2 clock2))) X w' ∧ Step σ A σ (A.upd b (some (.map es2 clock2))) := by
  obtain ⟨L0, g1, g2, g3⟩ := h.objs b _ (.inl (h.live_get hb hg))
  rw [hb] at g1
  cases g1
  obtain ⟨hs, e0, hh, _⟩ := g3
  refine ⟨_, MapKept.run_setObj_map _ hh, h.change hb hg (fun k hk => ?_) ?_ rfl rfl rfl ⟨hs, es', ?_, he⟩, Sig.le_refl σ, by rw [upd_next]; exact Nat.le_refl _, fun _ _ => rfl⟩
  · simp [Ne.symm hk]
  · simp
  · have := (Array.getElem?_eq_some_iff.1 hh).1
    simp [this]
theorem modify_set {es : Array MapEntry} {i : Nat} {e : MapEntry} {f : MapEntry → MapEntry} (h : es.toList[i]? = some e) : (es.modify i f).toList = es.toList.set i (f e) := by
  apply List.ext_getElem?
  intro j
  rw [Array.toList_modify, List.getElem?_modify, List.getElem?_set]
  by_cases hij : i = j
  · subst hij
    have := (List.getElem?_eq_some_iff.1 h).1
    simp [h]
    simpa using this
  · simp [hij]
theorem sim_update {et : TypeId} (h : St P w0 σ A X w) (ht : P.underlying t = some (.map kt et)) (hd : P.underlying kt = some d) (hu : VR σ (x.ev tm) u) (hu2 : VR σ (y.ev tm) u2) (hu3 : VR σ (z.ev tm) u3) :
    OutOk P w0 σ A X w ((do Instr.mapUpdate t u u2 u3; pure Next.skip : Sem Next).run P w) (acUpdate P kt d x y z tm A) := by
  unfold acUpdate
  split
  · rename_i b he
    rw [he] at hu
    obtain ⟨r, nn, zz, hb, rfl⟩ := hu.map_inv
    split
    · rename_i es clock hg
      cases hk : keyOk P false kt d (y.ev tm)
      · trivial
      · simp only [cond_true]
        obtain ⟨hc, hck⟩ := keyOk_run (w := w) hd hk
        obtain rfl := clo_eq hc hu2
        obtain ⟨es', hes, hER⟩ := h.entries hb hg
        have hes : w.heap[r]? = some (.map es' clock) := hes
        have hget : (getObj r).run P w = .ok (.map es' clock) w := by simp [getObj, Sem.run, hes]
        cases hf : find P kt d (y.ev tm) es with
        | none => trivial
        | some fd =>
          obtain ⟨r', h3, h4⟩ := find_r (w := w) hd hER hf
          cases fd with
          | none =>
            cases r' with
            | some r' => exact h4.elim
            | none =>
              simp only [putEntry, sNat_eq, sEs_eq, valA_some]
              obtain ⟨w', s1, s2, s3⟩ := h.setMap (clock2 := clock + 1) (es' := es'.push { key := y.ev tm, val := u3, born := clock }) (es2 := es ++ [{ key := y.ev tm, val := z.ev tm, born := clock }]) hb hg (by rw [Array.toList_push]; exact hER.push rfl hc rfl hu3)
              have s1 : (setObj r (.map (es'.push { key := y.ev tm, val := u3, born := clock }) (clock + 1))).run P w = .ok () w' := s1
              refine ⟨σ, undef, w', s3, s2, undef_r σ, .inr ⟨?_, rfl⟩⟩
              simp only [Instr.mapUpdate, Sem.run_bind, run_underlying ht, Result.andThen_ok, hget, hck, h3, s1, Sem.run_pure]
          | some iv =>
            obtain ⟨i, q⟩ := iv
            cases r' with
            | none => exact h4.elim
            | some r' =>
              obtain ⟨j, q'⟩ := r'
              obtain ⟨rfl, hq⟩ := h4
              simp only [putEntry, setEntry]
              cases hi : es[i]? with
              | none => trivial
              | some e =>
                simp only
                cases hsb : Instr.sameBits 10000 e.key (y.ev tm)
                · trivial
                · simp only [cond_true, sNat_eq, sEs_eq, valA_some]
                  obtain ⟨e', f1, f2, f3, f4⟩ := hER.get hi
                  obtain ⟨w', s1, s2, s3⟩ := h.setMap (clock2 := clock) (es' := es'.modify i fun e => { e with key := y.ev tm, val := u3 }) (es2 := es.set i { e with key := y.ev tm, val := z.ev tm }) hb hg (by rw [modify_set f1]; exact hER.set i rfl hc f3 hu3)
                  have s1 : (setObj r (.map (es'.modify i fun e => { e with key := y.ev tm, val := u3 }) clock)).run P w = .ok () w' := s1
                  refine ⟨σ, undef, w', s3, s2, undef_r σ, .inr ⟨?_, rfl⟩⟩
                  have f1' : es'[i]? = some e' := by simpa using f1
                  have hkt : (Instr.keyThatStays (((es'[i]?).map (·.key)).getD (y.ev tm)) (y.ev tm)).run P w = .ok (y.ev tm) w := by
                    rw [f1']
                    simp only [Option.map_some, Option.getD_some, f2, Instr.keyThatStays, hsb, if_true, Sem.run_pure]
                  simp only [Instr.mapUpdate, Sem.run_bind, run_underlying ht, Result.andThen_ok, hget, hck, h3, hkt, s1, Sem.run_pure]
    · trivial
  · trivial
theorem erase_list (es : Array MapEntry) (i : Nat) : (es.eraseIdxIfInBounds i).toList = es.toList.eraseIdx i := by
  unfold Array.eraseIdxIfInBounds
  split
  · simp
  · rename_i h
    rw [List.eraseIdx_of_length_le (by simpa using h)]
theorem sim_delete {st et ty : TypeId} (h : St P w0 σ A X w) (ht : P.underlying st = some (.map kt et)) (hd : P.underlying kt = some d) (hu : VR σ (x.ev tm) u) (hu2 : VR σ (y.ev tm) u2) {ats : Array TypeId} (hat : ats[0]? = some st) :
    ValOk P w0 σ A X ((Builtin.delete_ ats ty #[u, u2]).run P w) (acDelete P kt d x y tm A) := by
  unfold acDelete
  split
  · rename_i b he
    rw [he] at hu
    obtain ⟨r, nn, zz, hb, rfl⟩ := hu.map_inv
    split
    · rename_i es clock hg
      cases hk : keyOk P es.isEmpty kt d (y.ev tm)
      · trivial
      · simp only [cond_true]
        obtain ⟨hc, hck⟩ := keyOk_run (w := w) hd hk
        obtain rfl := clo_eq hc hu2
        obtain ⟨es', hes, hER⟩ := h.entries hb hg
        have hes : w.heap[r]? = some (.map es' clock) := hes
        have hget : (getObj r).run P w = .ok (.map es' clock) w := by simp [getObj, Sem.run, hes]
        rw [← hER.empty] at hck
        cases hf : find P kt d (y.ev tm) es with
        | none => trivial
        | some fd =>
          obtain ⟨r', h3, h4⟩ := find_r (w := w) hd hER hf
          cases fd with
          | none =>
            cases r' with
            | some r' => exact h4.elim
            | none =>
              have s1 : (setObj r (.map es' clock)).run P w = .ok () w := by
                rw [MapKept.run_setObj_map _ hes]
                congr 1
                have : w.heap.setIfInBounds r (.map es' clock) = w.heap := by
                  apply Array.ext_getElem?
                  intro j
                  rw [Array.getElem?_setIfInBounds]
                  by_cases hj : r = j
                  · subst hj
                    have := (Array.getElem?_eq_some_iff.1 hes).1
                    rw [if_pos rfl, if_pos this, hes]
                  · rw [if_neg hj]
                rw [this]
              refine ⟨σ, _, w, Step.refl σ A, h, .tuple .nil, ?_⟩
              simp [Builtin.delete_, hat, Sem.run_bind, run_underlying ht, Result.andThen_ok, hget, hck, h3, s1, Sem.run_pure]
          | some iv =>
            obtain ⟨i, q⟩ := iv
            cases r' with
            | none => exact h4.elim
            | some r' =>
              obtain ⟨j, q'⟩ := r'
              obtain ⟨rfl, hq⟩ := h4
              simp only [sEs_eq, valA_some]
              obtain ⟨w', s1, s2, s3⟩ := h.setMap (clock2 := clock) (es' := es'.eraseIdxIfInBounds i) (es2 := es.eraseIdx i) hb hg (by rw [erase_list]; exact hER.erase i)
              have s1 : (setObj r (.map (es'.eraseIdxIfInBounds i) clock)).run P w = .ok () w' := s1
              refine ⟨σ, _, w', s3, s2, .tuple .nil, ?_⟩
              simp [Builtin.delete_, hat, Sem.run_bind, run_underlying ht, Result.andThen_ok, hget, hck, h3, s1, Sem.run_pure]
    · trivial
  · trivial
end
end Ev
end Go.Proofs.YtiglblfjmmdeeaaGreat
