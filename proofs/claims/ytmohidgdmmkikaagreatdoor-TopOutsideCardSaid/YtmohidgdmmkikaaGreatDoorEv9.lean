/- The evaluator: each operation that reads does what it tells. -/
import Derived.Test.YtmohidgdmmkikaaGreatDoorEv8
namespace Go.Proofs.YtmohidgdmmkikaaGreatDoor
open Go.RowKit
namespace Ev

section
variable {P : Program} {ns : Nat}
/-- A read that tells a value yields it. -/
def RdOk (P : Program) (ns : Nat) (o : Oper) (f : TM → AW → Option Value) : Prop :=
  ∀ (w0 w : World) (σ : Sig) (A : AW) (X : Nat → Option AObj) (tm : TM) (ρ : Operand → Value) (v : Value), St P w0 σ A X w → (∀ z ∈ o.op.operands, VR σ ((co ns z).ev tm) (ρ z)) → f tm A = some v →
    ∃ v', (execOp ρ o).run P w = .ok (.value v') w ∧ VR σ v v'
theorem RdOk.orElse {o : Oper} {f g : TM → AW → Option Value} (hf : RdOk P ns o f) (hg : RdOk P ns o g) : RdOk P ns o (orElse f g) := by
  intro w0 w σ A X tm ρ v h hE hv
  unfold Ev.orElse at hv
  split at hv
  · rename_i v2 h2
    injection hv with hv
    subst hv
    exact hf w0 w σ A X tm ρ _ h hE h2
  · exact hg w0 w σ A X tm ρ v h hE hv
theorem rd_closed (o : Oper) (hsel : ∀ cs b, o.op ≠ .select cs b) : RdOk P ns o (rdClosed P ns o) := fun _ _ _ _ _ _ _ _ _ hE hv => sim_closed hsel hE hv
theorem val_of {s : Sem Value} {v' : Value} {w : World} (h : s.run P w = .ok v' w) : (do pure (Next.value (← s)) : Sem Next).run P w = .ok (.value v') w := by
  simp only [Sem.run_bind, h, Result.andThen_ok, Sem.run_pure]

theorem bin_rd {o : Oper} {op : BinOp} {t yt : TypeId} {x y : Operand} {f : TM → AW → Option Value} (ho : o.op = .binOp op t x y yt) (h : ciBin P ns o op t (co ns x) (co ns y) = some (.rd f)) : RdOk P ns o f := by
  have hsel : ∀ cs b, o.op ≠ .select cs b := fun cs b e => by rw [ho] at e; cases e
  have hx : x ∈ o.op.operands := by rw [ho]; simp [Op.operands]
  have hy : y ∈ o.op.operands := by rw [ho]; simp [Op.operands]
  unfold ciBin at h
  split at h
  · rename_i g k h1 _
    injection h with h
    injection h with h
    subst h
    exact RdOk.orElse (fun w0 w σ A X tm ρ v hs hE hv => sim_ints ho h1 (hE x hx) (hE y hy) hv) (rd_closed o hsel)
  · rename_i g h1 _
    injection h with h
    injection h with h
    subst h
    exact RdOk.orElse (fun w0 w σ A X tm ρ v hs hE hv => sim_strs ho h1 (hE x hx) (hE y hy) hv) (rd_closed o hsel)
  · rename_i d hd _ _
    split at h
    · injection h with h
      injection h with h
      subst h
      exact RdOk.orElse (fun w0 w σ A X tm ρ v hs hE hv => sim_shr ho (hE x hx) (hE y hy) hv) (rd_closed o hsel)
    · injection h with h
      injection h with h
      subst h
      exact RdOk.orElse (fun w0 w σ A X tm ρ v hs hE hv => sim_nil (neg := false) ho rfl hd (hE x hx) (hE y hy) hv) (rd_closed o hsel)
    · injection h with h
      injection h with h
      subst h
      exact RdOk.orElse (fun w0 w σ A X tm ρ v hs hE hv => sim_nil (neg := true) ho rfl hd (hE x hx) (hE y hy) hv) (rd_closed o hsel)
    · injection h with h
      injection h with h
      subst h
      exact rd_closed o hsel
  · cases h
theorem slice_rd {o : Oper} {t : TypeId} {x : Operand} {lo hi mx : Option Operand} {f : TM → AW → Option Value} (ho : o.op = .slice t x lo hi mx) (h : ciSlice P ns o t (co ns x) (lo.map (co ns)) (hi.map (co ns)) (mx.map (co ns)) = some (.rd f)) : RdOk P ns o f := by
  have hsel : ∀ cs b, o.op ≠ .select cs b := fun cs b e => by rw [ho] at e; cases e
  have hx : x ∈ o.op.operands := by rw [ho]; simp [Op.operands]
  have hlo : ∀ q, lo = some q → q ∈ o.op.operands := fun q hq => by rw [ho]; subst hq; simp [Op.operands]
  have hhi : ∀ q, hi = some q → q ∈ o.op.operands := fun q hq => by rw [ho]; subst hq; simp [Op.operands]
  have hmx : ∀ q, mx = some q → q ∈ o.op.operands := fun q hq => by rw [ho]; subst hq; simp [Op.operands]
  unfold ciSlice at h
  split at h
  · rename_i n elem hd
    split at h
    · rename_i size hs
      injection h with h
      injection h with h
      subst h
      intro w0 w σ A X tm ρ v hst hE hv
      obtain ⟨v', h1, h2⟩ := sim_sliceArr (w := w) hd hs (hE x hx) (evM_r fun q hq => hE q (hlo q hq)) (evM_r fun q hq => hE q (hhi q hq)) (evM_r fun q hq => hE q (hmx q hq)) hv
      exact ⟨v', by simp only [execOp, ho]; exact val_of h1, h2⟩
    · cases h
  · rename_i elem hd
    split at h
    · rename_i size hs
      injection h with h
      injection h with h
      subst h
      refine RdOk.orElse (fun w0 w σ A X tm ρ v hst hE hv => ?_) (rd_closed o hsel)
      obtain ⟨v', h1, h2⟩ := sim_sliceSlc hst hd hs (hE x hx) (evM_r fun q hq => hE q (hlo q hq)) (evM_r fun q hq => hE q (hhi q hq)) (evM_r fun q hq => hE q (hmx q hq)) hv
      exact ⟨v', by simp only [execOp, ho]; exact val_of h1, h2⟩
    · cases h
  · rename_i hd
    split at h
    · rename_i hm
      injection h with h
      injection h with h
      subst h
      intro w0 w σ A X tm ρ v hst hE hv
      obtain ⟨v', h1, h2⟩ := sim_sliceStr (w := w) hd (hE x hx) (evM_r fun q hq => hE q (hlo q hq)) (evM_r fun q hq => hE q (hhi q hq)) hv
      have hm0 : mx = none := by cases mx with
        | none => rfl
        | some q => simp at hm
      subst hm0
      exact ⟨v', by simp only [execOp, ho]; exact val_of h1, h2⟩
    · cases h
  · cases h
theorem call_rd {o : Oper} {c : Call} {f : TM → AW → Option Value} (ho : o.op = .call c) (h : ciCall P ns o c = some (.rd f)) : RdOk P ns o f := by
  have hsel : ∀ cs b, o.op ≠ .select cs b := fun cs b e => by rw [ho] at e; cases e
  unfold ciCall at h
  obtain ⟨callee, args, argTypes⟩ := c
  split at h
  · rename_i g _
    cases hb : hasBody P g <;> rw [hb] at h <;> simp at h
  · simp at h
  · simp at h
  · rename_i b hcal
    simp only at hcal
    subst hcal
    have hargs : ∀ z ∈ args, z ∈ o.op.operands := fun z hz => by rw [ho]; simp [Op.operands, Call.operands, hz]
    simp only at h
    split at h
    · -- append
      split at h
      · cases h
      · split at h
        · split at h
          · obtain ⟨_, h⟩ := cond_ok h
            simp at h
          · cases h
        · cases h
      · cases h
    · split at h
      · split at h <;> simp at h
      · cases h
    · split at h
      · split at h <;> simp at h
      · cases h
    · split at h
      · split at h <;> simp at h
      · cases h
    · -- len
      rename_i x t hxs hts
      obtain ⟨z, rfl, rfl⟩ : ∃ z, args = #[z] ∧ co ns z = x := by
        unfold cos at hxs
        obtain ⟨l⟩ := args
        cases l with
        | nil => simp at hxs
        | cons z l => cases l with
          | nil => simp at hxs; exact ⟨z, rfl, hxs⟩
          | cons _ _ => simp at hxs
      obtain rfl : argTypes = #[t] := by
        obtain ⟨l⟩ := argTypes
        simp at hts
        subst hts
        rfl
      have hop : ∀ (ρ : Operand → Value), execOp ρ o = (do pure (Next.value (← Builtin.len_ #[t] o.type #[ρ z]))) := fun ρ => by
        simp only [execOp, ho, resolve, invoke, builtin, pure_bind, List.map_toArray, List.map_cons, List.map_nil]
      split at h
      · rename_i arr hd
        split at h
        · rename_i n e hd2
          injection h with h
          injection h with h
          subst h
          intro w0 w σ A X tm ρ v hst hE hv
          injection hv with hv
          subst hv
          have hd' : P.underlying t = some (.pointer arr) := hd
          have hd2' : P.underlying arr = some (.array n e) := hd2
          refine ⟨_, ?_, .clo rfl⟩
          rw [hop]
          exact val_of (by simp [Builtin.len_, run_underlying hd', run_underlying hd2', goInt])
        · cases h
      · rename_i n e hd
        injection h with h
        injection h with h
        subst h
        intro w0 w σ A X tm ρ v hst hE hv
        injection hv with hv
        subst hv
        have hd' : P.underlying t = some (.array n e) := hd
        refine ⟨_, ?_, .clo rfl⟩
        rw [hop]
        exact val_of (by simp [Builtin.len_, run_underlying hd', goInt])
      · rename_i d hd
        injection h with h
        injection h with h
        subst h
        intro w0 w σ A X tm ρ v hst hE hv
        obtain ⟨v', h1, h2⟩ := sim_len (P := P) (ty := o.type) hst hd (hE z (hargs z (by simp))) hv
        exact ⟨v', by rw [hop]; exact val_of h1, h2⟩
      · cases h
    · -- cap
      rename_i x t hxs hts
      obtain ⟨z, rfl, rfl⟩ : ∃ z, args = #[z] ∧ co ns z = x := by
        unfold cos at hxs
        obtain ⟨l⟩ := args
        cases l with
        | nil => simp at hxs
        | cons z l => cases l with
          | nil => simp at hxs; exact ⟨z, rfl, hxs⟩
          | cons _ _ => simp at hxs
      obtain rfl : argTypes = #[t] := by
        obtain ⟨l⟩ := argTypes
        simp at hts
        subst hts
        rfl
      have hop : ∀ (ρ : Operand → Value), execOp ρ o = (do pure (Next.value (← Builtin.cap_ #[t] o.type #[ρ z]))) := fun ρ => by
        simp only [execOp, ho, resolve, invoke, builtin, pure_bind, List.map_toArray, List.map_cons, List.map_nil]
      split at h
      · rename_i e hd
        injection h with h
        injection h with h
        subst h
        intro w0 w σ A X tm ρ v hst hE hv
        obtain ⟨v', h1, h2⟩ := sim_cap (P := P) (w := w) (ty := o.type) hd (hE z (hargs z (by simp))) hv
        exact ⟨v', by rw [hop]; exact val_of h1, h2⟩
      · cases h
    · injection h with h
      injection h with h
      subst h
      exact rd_closed o hsel
    · injection h with h
      injection h with h
      subst h
      exact rd_closed o hsel
    · cases h
theorem vrs_map {σ : Sig} {tm : TM} {ρ : Operand → Value} : ∀ (l : List Operand), (∀ z ∈ l, VR σ ((co ns z).ev tm) (ρ z)) → VRs σ (l.map ((fun x : CO => x.ev tm) ∘ co ns)) (l.map ρ)
  | [], _ => .nil
  | z :: l, h => .cons (h z (by simp)) (vrs_map l fun y hy => h y (by simp [hy]))
theorem ci_rd {o : Oper} {f : TM → AW → Option Value} (h : ci P ns o = some (.rd f)) : RdOk P ns o f := by
  have mem1 : ∀ {z : Operand}, o.op.operands = #[z] → z ∈ o.op.operands := fun e => by rw [e]; simp
  unfold ci at h
  cases ho : o.op <;> rw [ho] at h <;> simp only [reduceCtorEq, Option.some.injEq, CI.rd.injEq] at h
  case move x =>
    subst h
    intro w0 w σ A X tm ρ v hst hE hv
    injection hv with hv
    subst hv
    exact ⟨ρ x, by simp only [execOp, ho, Sem.run_pure], hE x (by rw [ho]; simp [Op.operands])⟩
  case assign x =>
    subst h
    intro w0 w σ A X tm ρ v hst hE hv
    injection hv with hv
    subst hv
    exact ⟨ρ x, by simp only [execOp, ho, Sem.run_pure], hE x (by rw [ho]; simp [Op.operands])⟩
  case pick c a b =>
    subst h
    intro w0 w σ A X tm ρ v hst hE hv
    have hc := hE c (by rw [ho]; simp [Op.operands])
    have ha := hE a (by rw [ho]; simp [Op.operands])
    have hb := hE b (by rw [ho]; simp [Op.operands])
    unfold rdPick at hv
    split at hv
    · rename_i he
      rw [he] at hc
      injection hv with hv
      subst hv
      refine ⟨ρ a, ?_, ha⟩
      simp only [execOp, ho, hc.bool_inv, asBool, Sem.run_bind, Sem.run_pure, Result.andThen_ok, if_true]
    · rename_i he
      rw [he] at hc
      injection hv with hv
      subst hv
      refine ⟨ρ b, ?_, hb⟩
      simp only [execOp, ho, hc.bool_inv, asBool, Sem.run_bind, Sem.run_pure, Result.andThen_ok, Bool.false_eq_true, if_false]
    · cases hv
  case alloc t => split at h <;> simp at h
  case build t ps =>
    intro w0 w σ A X tm ρ v hst hE hv
    obtain ⟨v', h1, h2⟩ := sim_build (w := w) (ρ := ρ) h (fun p hp => hE p.2 (by rw [ho]; simp only [Op.operands]; exact List.mem_toArray.2 (List.mem_map.2 ⟨p, by simpa using hp, rfl⟩))) hv
    exact ⟨v', by simp only [execOp, ho]; exact val_of h1, h2⟩
  case buildSlice t len ps =>
    unfold ciBuildSlice at h
    split at h
    · split at h
      · obtain ⟨_, h⟩ := cond_ok h
        simp at h
      · cases h
    · cases h
  case load t a =>
    split at h
    · rename_i n h1 h2
      injection h with h
      injection h with h
      subst h
      intro w0 w σ A X tm ρ v hst hE hv
      obtain ⟨v', h3, h4⟩ := sim_loadN (P := P) hst h1 h2 (hE a (by rw [ho]; simp [Op.operands])) hv
      exact ⟨v', by simp only [execOp, ho]; exact val_of h3, h4⟩
    · rename_i h1
      injection h with h
      injection h with h
      subst h
      intro w0 w σ A X tm ρ v hst hE hv
      obtain ⟨v', h3, h4⟩ := sim_load1 (P := P) hst h1 (hE a (by rw [ho]; simp [Op.operands])) hv
      exact ⟨v', by simp only [execOp, ho]; exact val_of h3, h4⟩
    · cases h
  case store t a x => split at h <;> simp at h
  case nilCheck x =>
    subst h
    intro w0 w σ A X tm ρ v hst hE hv
    exact sim_nilCheck ho (hE x (by rw [ho]; simp [Op.operands])) hv
  case binOp op t x y yt => exact bin_rd ho h
  case unOp op t x =>
    split at h
    · injection h with h
      injection h with h
      subst h
      intro w0 w σ A X tm ρ v hst hE hv
      obtain ⟨v', h3, h4⟩ := sim_not (P := P) (w := w) (hE x (by rw [ho]; simp [Op.operands])) hv
      exact ⟨v', by simp only [execOp, ho]; exact val_of h3, h4⟩
    · injection h with h
      injection h with h
      subst h
      exact rd_closed o (fun cs b e => by rw [ho] at e; cases e)
  case convert src dst x =>
    split at h
    · split at h
      · split at h <;> simp at h
      · cases h
    · rename_i e h1 h2
      split at h
      · rename_i h3
        injection h with h
        injection h with h
        subst h
        intro w0 w σ A X tm ρ v hst hE hv
        obtain ⟨v', h4, h5⟩ := sim_str (P := P) hst h1 h3 h2 (hE x (by rw [ho]; simp [Op.operands])) hv
        exact ⟨v', by simp only [execOp, ho]; exact val_of h4, h5⟩
      · cases h
    · rename_i h1 h2
      injection h with h
      injection h with h
      subst h
      refine RdOk.orElse (fun w0 w σ A X tm ρ v hst hE hv => ?_) (rd_closed o (fun cs b e => by rw [ho] at e; cases e))
      obtain ⟨v', h4, h5⟩ := sim_conv (P := P) (w := w) h1 h2 (hE x (by rw [ho]; simp [Op.operands])) hv
      exact ⟨v', by simp only [execOp, ho]; exact val_of h4, h5⟩
    · injection h with h
      injection h with h
      subst h
      exact rd_closed o (fun cs b e => by rw [ho] at e; cases e)
    · cases h
  case makeInterface t x =>
    split at h
    · cases h
    · rename_i d hni hd
      injection h with h
      injection h with h
      subst h
      intro w0 w σ A X tm ρ v hst hE hv
      injection hv with hv
      subst hv
      refine ⟨.iface t (ρ x), ?_, .iface (hE x (by rw [ho]; simp [Op.operands]))⟩
      have hd' : P.underlying t = some d := hd
      simp only [execOp, ho]
      refine val_of ?_
      simp only [Instr.makeInterface, Sem.run_bind, run_underlying hd', Result.andThen_ok]
      cases d <;> first | rfl | exact (hni _ rfl).elim
    · cases h
  case makeFunc fn first captured =>
    subst h
    intro w0 w σ A X tm ρ v hst hE hv
    injection hv with hv
    subst hv
    refine ⟨.func fn (first.map ρ) (captured.map ρ), by simp only [execOp, ho]; rfl, .func ?_ ?_⟩
    · simp only [cos, List.map_map, Array.toList_map]
      exact vrs_map first.toList fun z hz => hE z (by rw [ho]; simp [Op.operands]; exact .inl (by simpa using hz))
    · simp only [cos, List.map_map, Array.toList_map]
      exact vrs_map captured.toList fun z hz => hE z (by rw [ho]; simp [Op.operands]; exact .inr (by simpa using hz))
  case makeMap t r =>
    split at h
    · simp at h
    · split at h <;> simp at h
  case makeSlice t l c =>
    split at h
    · split at h
      · split at h
        · obtain ⟨_, h⟩ := cond_ok h
          simp at h
        · cases h
      · cases h
    · cases h
  case slice t x lo hi mx => exact slice_rd ho h
  case fieldAddr s x f' =>
    split at h
    · rename_i fields hd
      split at h
      · rename_i fd hf
        split at h
        · rename_i n hs
          injection h with h
          injection h with h
          subst h
          intro w0 w σ A X tm ρ v hst hE hv
          obtain ⟨v', h4, h5⟩ := sim_field (P := P) (w := w) hd hf hs (hE x (by rw [ho]; simp [Op.operands])) hv
          exact ⟨v', by simp only [execOp, ho]; exact val_of h4, h5⟩
        · cases h
      · cases h
    · cases h
  case field t x f' =>
    split at h
    · rename_i fields hd
      split at h
      · rename_i fd hf
        split at h
        · rename_i g hg
          injection h with h
          injection h with h
          subst h
          intro w0 w σ A X tm ρ v hst hE hv
          obtain ⟨v', h4, h5⟩ := sim_fieldOf (P := P) (w := w) hd hf hg (hE x (by rw [ho]; simp [Op.operands])) hv
          exact ⟨v', by simp only [execOp, ho]; exact val_of h4, h5⟩
        · cases h
      · cases h
    · cases h
  case indexAddr t x i =>
    split at h
    · rename_i len elem hd
      split at h
      · rename_i size hs
        injection h with h
        injection h with h
        subst h
        intro w0 w σ A X tm ρ v hst hE hv
        obtain ⟨v', h4, h5⟩ := sim_indexArr (P := P) (w := w) hd hs (hE x (by rw [ho]; simp [Op.operands])) (hE i (by rw [ho]; simp [Op.operands])) hv
        exact ⟨v', by simp only [execOp, ho]; exact val_of h4, h5⟩
      · cases h
    · rename_i elem hd
      split at h
      · rename_i size hs
        injection h with h
        injection h with h
        subst h
        intro w0 w σ A X tm ρ v hst hE hv
        obtain ⟨v', h4, h5⟩ := sim_indexSlc (P := P) (w := w) hd hs (hE x (by rw [ho]; simp [Op.operands])) (hE i (by rw [ho]; simp [Op.operands])) hv
        exact ⟨v', by simp only [execOp, ho]; exact val_of h4, h5⟩
      · cases h
    · cases h
  case index t x i =>
    split at h
    · rename_i len elem hd
      split at h
      · rename_i size h1 h2
        injection h with h
        injection h with h
        subst h
        intro w0 w σ A X tm ρ v hst hE hv
        obtain ⟨v', h4, h5⟩ := sim_indexOf (P := P) (w := w) hd h2 (fun off => by unfold partOf; rw [h1, h2]) (hE x (by rw [ho]; simp [Op.operands])) (hE i (by rw [ho]; simp [Op.operands])) hv
        exact ⟨v', by simp only [execOp, ho]; exact val_of h4, h5⟩
      · rename_i size h1 h2
        injection h with h
        injection h with h
        subst h
        intro w0 w σ A X tm ρ v hst hE hv
        obtain ⟨v', h4, h5⟩ := sim_indexOf (P := P) (w := w) hd h2 (fun off => by unfold partOf; rw [h1, h2]) (hE x (by rw [ho]; simp [Op.operands])) (hE i (by rw [ho]; simp [Op.operands])) hv
        exact ⟨v', by simp only [execOp, ho]; exact val_of h4, h5⟩
      · cases h
    · rename_i hd
      injection h with h
      injection h with h
      subst h
      intro w0 w σ A X tm ρ v hst hE hv
      obtain ⟨v', h4, h5⟩ := sim_byteAt (P := P) (w := w) hd (hE x (by rw [ho]; simp [Op.operands])) (hE i (by rw [ho]; simp [Op.operands])) hv
      exact ⟨v', by simp only [execOp, ho]; exact val_of h4, h5⟩
    · cases h
  case lookup t m k ok =>
    split at h
    · rename_i kt et ht
      split at h
      · rename_i d z hd hz
        injection h with h
        injection h with h
        subst h
        intro w0 w σ A X tm ρ v hst hE hv
        obtain ⟨v', h4, h5⟩ := sim_lookup (P := P) hst ht hd hz (hE m (by rw [ho]; simp [Op.operands])) (hE k (by rw [ho]; simp [Op.operands])) hv
        exact ⟨v', by simp only [execOp, ho]; exact val_of h4, h5⟩
      · cases h
    · cases h
  case mapUpdate t m k x =>
    split at h
    · split at h <;> simp at h
    · cases h
  case extract t i =>
    subst h
    intro w0 w σ A X tm ρ v hst hE hv
    obtain ⟨v', h4, h5⟩ := sim_extract (P := P) (w := w) (hE t (by rw [ho]; simp [Op.operands])) hv
    exact ⟨v', by simp only [execOp, ho]; exact val_of h4, h5⟩
  case call c => exact call_rd ho h
end
end Ev
end Go.Proofs.YtmohidgdmmkikaaGreatDoor
