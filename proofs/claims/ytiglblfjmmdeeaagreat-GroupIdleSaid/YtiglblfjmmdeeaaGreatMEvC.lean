/- Texts merged: Ev17, Ev18, Ev19. -/
import Derived.Test.YtiglblfjmmdeeaaGreatMEvB

/- The evaluator: calls; all that acts. -/
namespace Go.Proofs.YtiglblfjmmdeeaaGreat
open Go.RowKit
namespace Ev

/-- No function of the program is the one that asks how many goroutines there are. -/
def NoNum (P : Program) : Prop := ∀ (f : FuncId) (fn : Func), P.funcs[f]? = some fn → (fn.name == "runtime.NumGoroutine") = false
section
variable {P : Program} {ns : Nat}
theorem callFunc_run {f : FuncId} {args : Array Value} {w : World} (hn : NoNum P) (hb : hasBody P f = true) : (callFunc f args).run P w = .ok (.enter f args) w := by
  unfold hasBody at hb
  split at hb
  · rename_i fn hf
    have h1 : fn.name ≠ "runtime.NumGoroutine" := by simpa using hn f fn hf
    have h2 : fn.body ≠ none := by
      intro e
      rw [e] at hb
      cases hb
    simp [callFunc, Sem.run_bind, Sem.run, program, hf, h1, h2]
  · cases hb
theorem cos_r {σ : Sig} {tm : TM} {ρ : Operand → Value} {args : Array Operand} (h : ∀ z ∈ args, VR σ ((co ns z).ev tm) (ρ z)) : VRs σ ((cos ns args).map (·.ev tm)) (args.map ρ).toList := by
  simp only [cos, List.map_map, Array.toList_map]
  exact vrs_map args.toList fun z hz => h z (by simpa using hz)
theorem arr_nil {a : Array Value} {σ : Sig} (h : VRs σ [] a.toList) : a = #[] := by
  obtain ⟨l⟩ := a
  cases h
  rfl
theorem call_run {o : Oper} {ρ : Operand → Value} {w : World} {fq : Operand} {args : Array Operand} {ts : Array TypeId} {g : FuncId} {a c : Array Value} (ho : o.op = .call { callee := .value fq, args := args, argTypes := ts }) (hf : ρ fq = .func (.func g) a c) :
    (execOp ρ o).run P w = (callFunc g (a ++ args.map ρ ++ c)).run P w := by
  simp only [execOp, ho, resolve, Deferred.ofValue, hf, invoke, Sem.run_bind, Sem.run_pure, Result.andThen_ok]
theorem method_run {t : TypeId} {name : String} {f : FuncId} {v : Value} {w : World} {n : Nat} (h : Ev.method P t name = some f) : (Go.method (n + 1) t v name).run P w = .ok (f, v) w := by
  unfold Ev.method at h
  split at h
  · rename_i i e hi hd
    split at h
    · rename_i m hm
      obtain ⟨hp, h⟩ := cond_ok h
      split at h
      · rename_i g hg
        injection h with h
        subst h
        have hp' : m.path.toList = [] := by simpa using hp
        have hd' : P.underlying t = some (.pointer e) := hd
        simp [Go.method, typeInfo, hi, hm, hp', follow, hg, receiverAt, run_underlying hd', Place.get]
      · cases h
    · cases h
  · cases h
theorem one_arg {α : Type} {f : Operand → α} {args : Array Operand} {x : α} (h : args.toList.map f = [x]) : ∃ z, args = #[z] ∧ f z = x := by
  obtain ⟨l⟩ := args
  cases l with
  | nil => simp at h
  | cons z l => cases l with
    | nil => simp at h; exact ⟨z, rfl, h⟩
    | cons _ _ => simp at h
theorem two_args {α : Type} {f : Operand → α} {args : Array Operand} {x y : α} (h : args.toList.map f = [x, y]) : ∃ z z2, args = #[z, z2] ∧ f z = x ∧ f z2 = y := by
  obtain ⟨l⟩ := args
  cases l with
  | nil => simp at h
  | cons z l => cases l with
    | nil => simp at h
    | cons z2 l => cases l with
      | nil => simp at h; exact ⟨z, z2, rfl, h⟩
      | cons _ _ => simp at h
theorem call_act {o : Oper} {c : Call} {f : TM → AW → Out} (hn : NoNum P) (ho : o.op = .call c) (h : ciCall P ns o c = some (.act f)) : ActOk P ns o f := by
  unfold ciCall at h
  obtain ⟨callee, args, argTypes⟩ := c
  have hargs : ∀ z ∈ args, z ∈ o.op.operands := fun z hz => by rw [ho]; simp [Op.operands, Call.operands, hz]
  split at h
  · rename_i g hcal
    simp only at hcal
    subst hcal
    have key : ∀ (σ : Sig) (tm : TM) (ρ : Operand → Value), (∀ z ∈ o.op.operands, VR σ ((co ns z).ev tm) (ρ z)) → ∀ w, (execOp ρ o).run P w = (callFunc g (args.map ρ)).run P w := fun σ tm ρ hE w => by
      have hf := hE (.func g) (by rw [ho]; simp [Op.operands, Call.operands])
      obtain ⟨a', c', he, h1, h2⟩ := VR.func_inv (a := #[]) (c := #[]) hf
      have := call_run (P := P) (w := w) ho he
      rw [arr_nil h1, arr_nil h2] at this
      simpa using this
    cases hb : hasBody P g
    · rw [hb] at h
      simp only [cond_false, Option.some.injEq, CI.act.injEq] at h
      subst h
      intro w0 w σ A X tm ρ hst hE
      unfold acExtern
      cases hc : cloL (cos ns args) tm
      · trivial
      · simp only [cond_true]
        have hcl : ∀ z ∈ args, (co ns z).ev tm = ρ z := fun z hz => by
          have hz2 : clo ((co ns z).ev tm) = true := by
            unfold cloL at hc
            rw [List.all_eq_true] at hc
            exact hc _ (List.mem_map.2 ⟨z, by simpa using hz, rfl⟩)
          exact (clo_eq hz2 (hE z (hargs z hz))).symm
        have ha : (⟨(cos ns args).map (·.ev tm)⟩ : Array Value) = args.map ρ := by
          apply Array.ext'
          simp only [cos, List.map_map, Array.toList_map]
          exact List.map_congr_left fun z hz => hcl z (by simpa using hz)
        rw [ha]
        split
        · rename_i v hr
          cases hv : clo v
          · trivial
          · exact ⟨σ, v, w, Step.refl σ A, hst, clo_r σ hv, .inl (by rw [key σ tm ρ hE]; exact run_pure_of hr w)⟩
        · trivial
    · rw [hb] at h
      simp only [cond_true, Option.some.injEq, CI.act.injEq] at h
      subst h
      intro w0 w σ A X tm ρ hst hE
      exact ⟨rfl, args.map ρ, by rw [key σ tm ρ hE]; exact callFunc_run hn hb, cos_r fun z hz => hE z (hargs z hz)⟩
  · rename_i q hq hcal
    simp only at hcal
    subst hcal
    simp only [Option.some.injEq, CI.act.injEq] at h
    subst h
    intro w0 w σ A X tm ρ hst hE
    have hf := hE q (by rw [ho]; simp [Op.operands, Call.operands])
    unfold acCallV
    split
    · rename_i g a b he
      rw [he] at hf
      obtain ⟨a', c', he', h1, h2⟩ := hf.func_inv
      cases hb : hasBody P g
      · trivial
      · refine ⟨rfl, a' ++ args.map ρ ++ c', by rw [call_run ho he']; exact callFunc_run hn hb, ?_⟩
        rw [Array.toList_append, Array.toList_append, List.append_assoc]
        exact h1.append ((cos_r fun z hz => hE z (hargs z hz)).append h2)
    · trivial
  · rename_i r name hcal
    simp only at hcal
    subst hcal
    simp only [Option.some.injEq, CI.act.injEq] at h
    subst h
    intro w0 w σ A X tm ρ hst hE
    have hf := hE r (by rw [ho]; simp [Op.operands, Call.operands])
    unfold acInvoke
    split
    · rename_i t v he
      rw [he] at hf
      obtain ⟨v', he', h1⟩ := hf.iface_inv
      split
      · rename_i g hg
        cases hb : hasBody P g
        · trivial
        · refine ⟨rfl, #[v'] ++ args.map ρ, ?_, ?_⟩
          · have h2 : (#[Value.iface t v'] ++ args.map ρ)[0]? = some (Value.iface t v') := by rw [Array.getElem?_append]; rfl
            have h3 : (#[Value.iface t v'] ++ args.map ρ).extract 1 (#[Value.iface t v'] ++ args.map ρ).size = args.map ρ := by
              apply Array.ext'
              simp only [Array.toList_extract, Array.toList_append, Array.size_append, List.extract_eq_take_drop]
              simp [List.take_of_length_le]
            have h4 := method_run (P := P) (v := v') (w := w) (n := P.types.size + 99) hg
            have h5 : (program : Sem Program).run P w = .ok P w := rfl
            simp only [execOp, ho, resolve, invoke, Sem.run_bind, Sem.run_pure, Result.andThen_ok, he', h2, h3, callMethod, h5]
            have h6 : P.types.size + Made.depth = P.types.size + 99 + 1 := by simp [Made.depth]
            rw [h6, h4, Result.andThen_ok]
            exact callFunc_run hn hb
          · rw [Array.toList_append]
            exact .cons h1 (cos_r fun z hz => hE z (hargs z hz))
      · trivial
    · trivial
  · rename_i b hcal
    simp only at hcal
    subst hcal
    have hE1 : ∀ {σ : Sig} {tm : TM} {ρ : Operand → Value}, (∀ z ∈ o.op.operands, VR σ ((co ns z).ev tm) (ρ z)) → ∀ z ∈ args, VR σ ((co ns z).ev tm) (ρ z) := fun hE z hz => hE z (hargs z hz)
    simp only at h
    split at h
    · -- append
      rename_i x y st xt hxs hts
      obtain ⟨z, z2, rfl, rfl, rfl⟩ := two_args hxs
      obtain rfl : argTypes = #[st, xt] := Array.ext' hts
      split at h
      · cases h
      · rename_i elem dx hni hd hx
        split at h
        · rename_i size zz hs hz
          split at h
          · rename_i bb hbt
            obtain ⟨hc, h⟩ := cond_ok h
            rw [Bool.and_eq_true] at hc
            injection h with h
            injection h with h
            subst h
            intro w0 w σ A X tm ρ hst hE
            have := sim_append (P := P) (ty := o.type) hst hd hx hni hs hz hbt (by have := Nat.le_of_ble_eq_true hc.1; omega) (Nat.eq_of_beq_eq_true hc.2) (hE1 hE z (by simp)) (hE1 hE z2 (by simp))
            have h2 := this.lift (w := w)
            simpa only [execOp, ho, resolve, invoke, builtin, pure_bind, List.map_toArray, List.map_cons, List.map_nil] using h2
          · cases h
        · cases h
      · cases h
    · -- copy
      rename_i d x t ts hxs hts
      obtain ⟨z, z2, rfl, rfl, rfl⟩ := two_args hxs
      have hat : argTypes[0]? = some t := by rw [← Array.getElem?_toList, hts]; rfl
      split at h
      · rename_i elem hd
        split at h
        · rename_i size hs
          injection h with h
          injection h with h
          subst h
          intro w0 w σ A X tm ρ hst hE
          have h2 := (sim_copy (P := P) (ty := o.type) hat hst hd hs (hE1 hE z (by simp)) (hE1 hE z2 (by simp))).lift (w := w)
          simpa only [execOp, ho, resolve, invoke, builtin, pure_bind, List.map_toArray, List.map_cons, List.map_nil] using h2
        · cases h
      · cases h
    · -- clear
      rename_i x t hxs hts
      obtain ⟨z, rfl, rfl⟩ := one_arg hxs
      obtain rfl : argTypes = #[t] := Array.ext' hts
      split at h
      · rename_i elem hd
        split at h
        · rename_i zz hz
          injection h with h
          injection h with h
          subst h
          intro w0 w σ A X tm ρ hst hE
          have h2 := (sim_clear (P := P) (ty := o.type) hst hd hz (hE1 hE z (by simp))).lift (w := w)
          simpa only [execOp, ho, resolve, invoke, builtin, pure_bind, List.map_toArray, List.map_cons, List.map_nil] using h2
        · cases h
      · cases h
    · -- delete
      rename_i m k t ts hxs hts
      obtain ⟨z, z2, rfl, rfl, rfl⟩ := two_args hxs
      have hat : argTypes[0]? = some t := by rw [← Array.getElem?_toList, hts]; rfl
      split at h
      · rename_i kt et hd
        split at h
        · rename_i d hdk
          injection h with h
          injection h with h
          subst h
          intro w0 w σ A X tm ρ hst hE
          have h2 := (sim_delete (P := P) (ty := o.type) hst hd hdk (hE1 hE z (by simp)) (hE1 hE z2 (by simp)) hat).lift (w := w)
          simpa only [execOp, ho, resolve, invoke, builtin, pure_bind, List.map_toArray, List.map_cons, List.map_nil] using h2
        · cases h
      · cases h
    · split at h
      · split at h <;> simp at h
      · simp at h
      · simp at h
      · cases h
    · split at h <;> simp at h
    · simp at h
    · simp at h
    · cases h
theorem ci_act {o : Oper} {f : TM → AW → Out} (hn : NoNum P) (h : ci P ns o = some (.act f)) : ActOk P ns o f := by
  unfold ci at h
  cases ho : o.op <;> rw [ho] at h <;> simp only [reduceCtorEq, Option.some.injEq, CI.act.injEq] at h
  case alloc t => split at h <;> simp at h
  case build t ps =>
    unfold ciBuild at h
    split at h
    · split at h <;> simp at h
    · split at h <;> simp at h
    · cases h
  case buildSlice t len ps =>
    unfold ciBuildSlice at h
    split at h
    · split at h
      · obtain ⟨_, h⟩ := cond_ok h
        simp at h
      · cases h
    · cases h
  case load t a => split at h <;> simp at h
  case store t a x =>
    split at h
    · rename_i n hs
      injection h with h
      injection h with h
      subst h
      intro w0 w σ A X tm ρ hst hE
      have := sim_store (P := P) hst hs (hE a (by rw [ho]; simp [Op.operands])) (hE x (by rw [ho]; simp [Op.operands]))
      simpa only [execOp, ho] using this
    · cases h
  case binOp op t x y yt =>
    unfold ciBin at h
    split at h
    · simp at h
    · simp at h
    · split at h <;> simp at h
    · cases h
  case unOp op t x => split at h <;> simp at h
  case convert src dst x =>
    split at h
    · split at h
      · split at h <;> simp at h
      · cases h
    · split at h <;> simp at h
    · simp at h
    · simp at h
    · cases h
  case makeInterface t x => split at h <;> simp at h
  case makeMap t r =>
    split at h
    · simp at h
    · split at h <;> simp at h
  case makeSlice t l c =>
    split at h
    · split at h
      · split at h
        · obtain ⟨_, h⟩ := cond_ok h
          simp at h
        · cases h
      · cases h
    · cases h
  case slice t x lo hi mx =>
    unfold ciSlice at h
    split at h
    · split at h <;> simp at h
    · split at h <;> simp at h
    · split at h <;> simp at h
    · cases h
  case fieldAddr s x f' =>
    split at h
    · split at h
      · split at h <;> simp at h
      · cases h
    · cases h
  case field t x f' =>
    split at h
    · split at h
      · split at h <;> simp at h
      · cases h
    · cases h
  case indexAddr t x i =>
    split at h
    · split at h <;> simp at h
    · split at h <;> simp at h
    · cases h
  case index t x i =>
    split at h
    · split at h <;> simp at h
    · simp at h
    · cases h
  case lookup t m k ok =>
    split at h
    · split at h <;> simp at h
    · cases h
  case mapUpdate t m k x =>
    split at h
    · rename_i kt et hd
      split at h
      · rename_i d hdk
        injection h with h
        injection h with h
        subst h
        intro w0 w σ A X tm ρ hst hE
        have := sim_update (P := P) hst hd hdk (hE m (by rw [ho]; simp [Op.operands])) (hE k (by rw [ho]; simp [Op.operands])) (hE x (by rw [ho]; simp [Op.operands]))
        simpa only [execOp, ho] using this
      · cases h
    · cases h
  case call c => exact call_act hn ho h
end
end Ev
end Go.Proofs.YtiglblfjmmdeeaaGreat

/- The evaluator: one operation, and regions in the text's order. -/
namespace Go.Proofs.YtiglblfjmmdeeaaGreat
open Go.RowKit
namespace Ev

/-- A function's run does what the evaluator tells. -/
def CallOk (P : Program) (call : CallF) : Prop := ∀ (f : FuncId) (args : List Value) (A : AW) (v : Value) (A' : AW), call f args A = some (v, A') → ∀ (w0 : World) (σ : Sig) (X : Nat → Option AObj) (w : World) (args' : Array Value), St P w0 σ A X w → VRs σ args args'.toList →
  Calls P f args' w fun e w' => ∃ v' σ', e = .returned v' ∧ Step σ A σ' A' ∧ St P w0 σ' A' X w' ∧ VR σ' v v'
section
variable {P : Program} {ns : Nat} {w0 w : World} {σ : Sig} {A : AW} {X : Nat → Option AObj} {tm : TM} {a : Act} {o : Oper} {Q : Exit → Act → World → Prop} {call : CallF}
theorem put_defers (a : Act) (d : Option Tmp) (v : Value) : (a.put d v).defers = a.defers := by cases d <;> rfl
theorem TR.putD (h : TR ns σ tm a.tmps) {d : Option Tmp} {p : Option Path} (hp : pathO ns d = some p) {v v' : Value} (hv : VR σ v v') : TR ns σ (Ev.put tm p v) (a.put d v').tmps := by
  unfold pathO at hp
  cases d with
  | none => simp at hp; subst hp; exact h
  | some t =>
    simp only at hp
    obtain ⟨hb, hp⟩ := cond_ok hp
    injection hp with hp
    subst hp
    exact TR.put h (Nat.le_of_ble_eq_true hb) hv
theorem VR.bool_of {v : Value} {b : Bool} (h : VR σ v (.bool b)) : v = .bool b := by cases h; rfl
/-- A guard asks the same. -/
theorem wanted_eq {ops : List Oper} {c : CR} (hc : cr P ns ops o = some c) (ht : TR ns σ tm a.tmps) : c.wanted tm = Region.wanted o (yielded ⟨ops⟩ a.tmps) := by
  unfold cr at hc
  split at hc
  · rename_i k g d hk hg hd
    obtain ⟨_, hc⟩ := cond_ok hc
    injection hc with hc
    subst hc
    unfold guardOf at hg
    unfold CR.wanted Region.wanted
    split at hg
    · rename_i hn
      injection hg with hg
      subst hg
      rw [hn]
    · rename_i j want hn
      split at hg
      · rename_i og hog
        split at hg
        · rename_i t hdst
          obtain ⟨hb, hg⟩ := cond_ok hg
          injection hg with hg
          subst hg
          rw [hn]
          have hlt : t < ns := Nat.le_of_ble_eq_true hb
          have hv := ht.val t hlt
          have hts : t < a.tmps.size := by rw [ht.size]; exact hlt
          have hgd : a.tmps.getD t undef = a.tmps[t] := by simp [hts]
          have hog' : (⟨ops⟩ : Array Oper)[j]? = some og := by rw [List.getElem?_toArray]; exact hog
          simp only [yielded, hog', Option.bind_some, hdst, Array.getElem?_eq_getElem hts]
          rw [hgd] at hv
          generalize tm.val (path t) = q at hv
          generalize a.tmps[t] = q' at hv
          cases q' with
          | bool b => rw [hv.bool_of]; simp
          | _ =>
            cases q with
            | bool b => have := hv.bool_inv; cases this
            | _ => rfl
        · cases hg
      · cases hg
  · cases hc
theorem cr_parts {ops : List Oper} {c : CR} (hc : cr P ns ops o = some c) : ci P ns o = some c.ci ∧ pathO ns o.dst = some c.dst ∧ ∀ z ∈ o.op.operands, okO z = true := by
  unfold cr at hc
  split at hc
  · rename_i k g d hk hg hd
    obtain ⟨ha, hc⟩ := cond_ok hc
    injection hc with hc
    subst hc
    exact ⟨hk, hd, fun z hz => by rw [List.all_eq_true] at ha; exact ha z (by simpa using hz)⟩
  · cases hc
/-- One operation that is carried out. -/
theorem exec_ok {c : CI} {p : Option Path} {next : TM → AW → R2} {R : R2} {K : Act → World → Prop} (hn : NoNum P) (hcall : CallOk P call) (hc : ci P ns o = some c) (hE : ∀ z ∈ o.op.operands, VR σ ((co ns z).ev tm) (a.eval z)) (h : St P w0 σ A X w)
    (hr : exec1 call c p tm A next = R) (hR : R ≠ .no) (hK : ∀ v A' σ' v' w', next (put tm p v) A' = R → Step σ A σ' A' → St P w0 σ' A' X w' → VR σ' v v' → K (a.put o.dst v') w') : o.wp P a w K Q := by
  unfold Oper.wp
  cases c with
  | rd f =>
    simp only [exec1] at hr
    split at hr
    · rename_i v hv
      rw [putK_eq] at hr
      obtain ⟨v', h1, h2⟩ := ci_rd hc w0 w σ A X tm a.eval v h hE hv
      rw [h1]
      exact hK v A σ v' w hr (Step.refl σ A) h h2
    · exact absurd hr.symm hR
  | mk f =>
    simp only [exec1] at hr
    split at hr
    · rename_i p0 g hp
      rw [sObj_eq] at hr
      split at hr
      · rename_i b A' hnew
        rw [putK_eq] at hr
        obtain ⟨v', ob, w1, L, h1, h2, h3, h4, h5⟩ := ci_mk hc w σ tm a.eval p0 g hE hp
        obtain ⟨h6, h7⟩ := h.newA h2 h3 h4 hnew
        obtain ⟨hbn, n1, n2, n3⟩ := new_spec hnew
        rw [h1]
        exact hK (g b) A' _ v' w1 hr ⟨h7, by omega, fun x hx => by unfold Sig.ext; rw [if_neg (by omega)]⟩ h6 (h5 _ b (Sig.ext_at _ _ _))
      · exact absurd hr.symm hR
    · exact absurd hr.symm hR
  | act f =>
    have hok := ci_act hn hc w0 w σ A X tm a.eval h hE
    simp only [exec1] at hr
    split at hr
    · rename_i v A' hv
      rw [putK_eq] at hr
      rw [hv] at hok
      obtain ⟨σ', v', w', s1, s2, s3, s4⟩ := hok
      rcases s4 with s4 | ⟨s4, s5⟩
      · rw [s4]; exact hK v A' σ' v' w' hr s1 s2 s3
      · rw [s4]; subst s5; exact hK v A' σ' _ w' hr s1 s2 s3
    · rename_i g args A' hv
      rw [hv] at hok
      obtain ⟨rfl, args', h1, h2⟩ := hok
      rw [h1]
      unfold finish at hr
      split at hr
      · rename_i v A2 hcl
        rw [putK_eq] at hr
        rw [Oper.upon_enter]
        refine Calls.mono (hcall g args A' v A2 hcl w0 σ X w args' h h2) fun e w' he => ?_
        obtain ⟨v', σ', rfl, s1, s2, s3⟩ := he
        exact hK v A2 σ' v' w' hr s1 s2 s3
      · exact absurd hr.symm hR
    · exact absurd hr.symm hR
/-- Where a region leads. -/
def AftR (P : Program) (ns : Nat) (w0 : World) (σ : Sig) (A : AW) (X : Nat → Option AObj) (a : Act) (tm' : TM) (A' : AW) (a' : Act) (w' : World) : Prop :=
  ∃ σ', Step σ A σ' A' ∧ St P w0 σ' A' X w' ∧ TR ns σ' tm' a'.tmps ∧ a'.defers = a.defers
theorem ops_ok (hn : NoNum P) (hcall : CallOk P call) {ops : List Oper} {tm' : TM} {A' : AW} (K : Act → World → Prop) : ∀ (l : List Oper) (i : Nat) (cs : List CR) (σ : Sig) (A : AW) (tm : TM) (a : Act) (w : World), ops.drop i = l → crs P ns ops l = some cs → St P w0 σ A X w → TR ns σ tm a.tmps →
    seqOps call cs tm A = .ok tm' A' → (∀ a' w', AftR P ns w0 σ A X a tm' A' a' w' → Q .normal a' w') → wpOps P ⟨ops⟩ Q (List.range' i l.length) a w
  | [], i, cs, σ, A, tm, a, w, hd, hcs, h, ht, hr, hQ => by
    simp only [crs, Option.some.injEq] at hcs
    subst hcs
    simp only [seqOps, R2.ok.injEq] at hr
    obtain ⟨rfl, rfl⟩ := hr
    exact hQ a w ⟨σ, Step.refl σ A, h, ht, rfl⟩
  | o :: l, i, cs, σ, A, tm, a, w, hd, hcs, h, ht, hr, hQ => by
    simp only [crs] at hcs
    split at hcs
    · rename_i c cs' hc hcs'
      injection hcs with hcs
      subst hcs
      obtain ⟨hci, hp, hok⟩ := cr_parts hc
      have hio : ops[i]? = some o := by
        have : (ops.drop i)[0]? = some o := by rw [hd]; rfl
        simpa using this
      have hdr : ops.drop (i + 1) = l := by
        rw [← List.tail_drop, hd]
        rfl
      have hw := wanted_eq hc ht
      have hstep : stepCR call c (seqOps call cs') tm A = .ok tm' A' := hr
      have hio' : (⟨ops⟩ : Array Oper)[i]? = some o := by rw [List.getElem?_toArray]; exact hio
      simp only [List.length_cons, List.range'_succ, wpOps, hio']
      unfold stepCR at hstep
      rw [hw] at hstep
      cases hwa : Region.wanted o (yielded ⟨ops⟩ a.tmps)
      · rw [hwa] at hstep
        simp only [cond_false] at hstep
        rw [putK_eq] at hstep
        simp only [Bool.false_eq_true, if_false]
        refine ops_ok hn hcall K l (i + 1) cs' σ A _ (a.put o.dst undef) w hdr hcs' h ?_ hstep fun a' w' ha => hQ a' w' ?_
        · exact ht.putD hp (undef_r σ)
        · obtain ⟨σ', s1, s2, s3, s4⟩ := ha
          exact ⟨σ', s1, s2, s3, s4.trans (put_defers ..)⟩
      · rw [hwa] at hstep
        simp only [cond_true] at hstep
        simp only [if_true]
        refine .inl (exec_ok hn hcall hci (fun z hz => ht.ev z (hok z hz)) h hstep (by simp) fun v A2 σ2 v' w2 hr2 hst hS hv => ?_)
        refine ops_ok hn hcall K l (i + 1) cs' σ2 A2 _ (a.put o.dst v') w2 hdr hcs' hS ?_ hr2 fun a' w' ha => hQ a' w' ?_
        · exact (ht.mono hst.le).putD hp hv
        · obtain ⟨σ', s1, s2, s3, s4⟩ := ha
          exact ⟨σ', hst.trans s1, s2, s3, s4.trans (put_defers ..)⟩
    · cases hcs
theorem region_ok (hn : NoNum P) (hcall : CallOk P call) {id : Nat} {ops : Array Oper} {cs : List CR} {tm' : TM} {A' : AW} (hcs : crs P ns ops.toList ops.toList = some cs) (h : St P w0 σ A X w) (ht : TR ns σ tm a.tmps) (hr : seqOps call cs tm A = .ok tm' A')
    (hQ : ∀ a' w', AftR P ns w0 σ A X a tm' A' a' w' → Q .normal a' w') : (Code.region id ops false).wp P Q a w := by
  refine wp_region ?_
  have := ops_ok (Q := Q) hn hcall (fun _ _ => True) ops.toList 0 cs σ A tm a w rfl hcs h ht hr hQ
  rw [List.range_eq_range']
  simpa using this
end
end Ev
end Go.Proofs.YtiglblfjmmdeeaaGreat

/- The evaluator: a region that draws its order: what its text tells. -/
namespace Go.Proofs.YtiglblfjmmdeeaaGreat
open Go.RowKit
namespace Ev

/- Who stands behind whom. -/
theorem maskOf_bit (acc : List Nat) (k : Nat) : ∀ (l : List Edge) (s : Nat), (maskOf acc l s).testBit k = true ↔ s.testBit k = true ∨ ∃ e ∈ l, Region.binds .any e = true ∧ (k = e.on ∨ (acc.getD e.on 0).testBit k = true)
  | [], s => by simp [maskOf]
  | e :: l, s => by
    unfold maskOf
    rw [maskOf_bit acc k l]
    cases hb : Region.binds .any e
    · simp [hb]
    · simp only [cond_true, Nat.testBit_or, Bool.or_eq_true, List.mem_cons, exists_eq_or_imp, hb, true_and, Nat.testBit_two_pow, decide_eq_true_eq]
      constructor
      · rintro ((h | h) | h)
        · rcases h with h | h
          · exact .inl h
          · exact .inr (.inl (.inl h.symm))
        · exact .inr (.inl (.inr h))
        · exact .inr (.inr h)
      · rintro (h | (h | h) | h)
        · exact .inl (.inl (.inl h))
        · exact .inl (.inl (.inr h.symm))
        · exact .inl (.inr h)
        · exact .inr h
theorem masks_get : ∀ (l : List Oper) (acc : List Nat), (masks l acc).length = acc.length + l.length ∧ (∀ j, j < acc.length → (masks l acc).getD j 0 = acc.getD j 0) ∧
    ∀ m o, l[m]? = some o → (masks l acc).getD (acc.length + m) 0 = maskOf ((masks l acc).take (acc.length + m)) o.after.toList 0
  | [], acc => ⟨by simp [masks], fun j _ => rfl, fun m o h => by simp at h⟩
  | o :: l, acc => by
    obtain ⟨h1, h2, h3⟩ := masks_get l (acc ++ [maskOf acc o.after.toList 0])
    have hl : (acc ++ [maskOf acc o.after.toList 0]).length = acc.length + 1 := by simp
    rw [hl] at h1 h2 h3
    have hget : ∀ j, j < acc.length → (masks l (acc ++ [maskOf acc o.after.toList 0])).getD j 0 = acc.getD j 0 := fun j hj => by
      rw [h2 j (by omega)]
      simp [List.getD_eq_getElem?_getD, List.getElem?_append_left hj]
    refine ⟨by simp only [masks, List.length_cons]; omega, hget, fun m o' hm => ?_⟩
    simp only [masks]
    cases m with
    | zero =>
      simp at hm
      subst hm
      have htake : (masks l (acc ++ [maskOf acc o.after.toList 0])).take acc.length = acc := by
        apply List.ext_getElem?
        intro j
        by_cases hj : j < acc.length
        · rw [List.getElem?_take_of_lt hj]
          have h4 := hget j hj
          rw [List.getD_eq_getElem?_getD, List.getD_eq_getElem?_getD, List.getElem?_eq_getElem (by omega), List.getElem?_eq_getElem hj] at h4
          simp only [Option.getD_some] at h4
          rw [List.getElem?_eq_getElem (by omega), List.getElem?_eq_getElem hj, h4]
        · rw [List.getElem?_eq_none (by simp; omega), List.getElem?_eq_none (by omega)]
      rw [Nat.add_zero, htake, h2 acc.length (by omega)]
      simp [List.getD_eq_getElem?_getD]
    | succ m =>
      have := h3 m o' (by simpa using hm)
      rw [show acc.length + 1 + m = acc.length + (m + 1) by omega] at this
      exact this
section
variable {ops : List Oper} {ms : List Nat}
theorem order_from (hs : ∀ x, x ∈ (⟨ops⟩ : Array Oper).toList → True) : ∀ (l : List Oper) (i : Nat), orderFrom ⟨ops⟩ ms l i = true → ∀ m o, l[m]? = some o →
    (∀ e ∈ o.after, Region.binds .any e = true → e.on < i + m) ∧ (∀ cs b, o.op ≠ .select cs b) ∧ pairOk ms (looks ⟨ops⟩ o) (i + m) ops 0 = true
  | [], i, _, m, o, hm => by simp at hm
  | o' :: l, i, h, m, o, hm => by
    unfold orderFrom at h
    simp only [Bool.and_eq_true] at h
    obtain ⟨⟨⟨h1, h2⟩, h3⟩, h4⟩ := h
    cases m with
    | zero =>
      simp at hm
      subst hm
      refine ⟨fun e he hb => ?_, fun cs b e => ?_, h3⟩
      · rw [List.all_eq_true] at h1
        have := h1 e (by simpa using he)
        rw [hb] at this
        simp only [Bool.not_true, Bool.false_or] at this
        exact Nat.le_of_ble_eq_true this
      · rw [e] at h2; simp at h2
    | succ m =>
      have := order_from hs l (i + 1) h4 m o (by simpa using hm)
      rw [show i + 1 + m = i + (m + 1) by omega] at this
      exact this
theorem pair_ok {l : List Tmp} {i : Nat} : ∀ (rest : List Oper) (k : Nat), pairOk ms l i rest k = true → ∀ m p d, rest[m]? = some p → p.dst = some d → d ∈ l → k + m = i ∨ (i < k + m ∧ behind ms (k + m) i = true) ∨ (k + m < i ∧ behind ms i (k + m) = true)
  | [], k, _, m, p, d, hm, _, _ => by simp at hm
  | q :: rest, k, h, m, p, d, hm, hd, hl => by
    unfold pairOk at h
    rw [Bool.and_eq_true] at h
    cases m with
    | zero =>
      simp at hm
      subst hm
      have h1 := h.1
      rw [hd] at h1
      have hc : l.contains d = true := by simpa using hl
      simp only [hc, Bool.not_true, Bool.false_or] at h1
      cases hb : Nat.beq i k
      · rw [hb] at h1
        simp only [cond_false] at h1
        have hne : i ≠ k := fun e => by subst e; rw [Nat.beq_refl] at hb; cases hb
        cases hlt : Nat.blt i k
        · rw [hlt] at h1
          have : ¬ i < k := fun hl => by rw [show Nat.blt i k = true from Nat.ble_eq_true_of_le hl] at hlt; cases hlt
          exact .inr (.inr ⟨by omega, h1⟩)
        · rw [hlt] at h1
          have : i < k := Nat.le_of_ble_eq_true hlt
          exact .inr (.inl ⟨this, h1⟩)
      · exact .inl (Nat.eq_of_beq_eq_true hb).symm
    | succ m =>
      have := pair_ok rest (k + 1) h.2 m p d (by simpa using hm) hd hl
      rw [show k + 1 + m = k + (m + 1) by omega] at this
      exact this
structure Ordr (ops : List Oper) (ms : List Nat) : Prop where
  edge : ∀ (i : Nat) (o : Oper) (e : Edge), ops[i]? = some o → e ∈ o.after → Region.binds .any e = true → e.on < i
  sel : ∀ (i : Nat) (o : Oper), ops[i]? = some o → ∀ cs b, o.op ≠ .select cs b
  pair : ∀ (i : Nat) (o : Oper) (k : Nat) (p : Oper) (d : Tmp), ops[i]? = some o → ops[k]? = some p → p.dst = some d → d ∈ looks ⟨ops⟩ o → k = i ∨ (i < k ∧ behind ms k i = true) ∨ (k < i ∧ behind ms i k = true)
  bit : ∀ (i k : Nat), behind ms i k = true ↔ ∃ (o : Oper) (e : Edge), ops[i]? = some o ∧ e ∈ o.after ∧ Region.binds .any e = true ∧ (k = e.on ∨ behind ms e.on k = true)
theorem ord_of (hms : ms = masks ops []) (h : orderOk ⟨ops⟩ ms = true) : Ordr ops ms := by
  have key := fun i o ho => by
    have := order_from (ops := ops) (ms := ms) (fun _ _ => trivial) ops 0 h i o ho
    rwa [Nat.zero_add] at this
  refine ⟨fun i o e ho he hb => (key i o ho).1 e he hb, fun i o ho => (key i o ho).2.1, fun i o k p d ho hp hd hl => ?_, fun i k => ?_⟩
  · have := pair_ok ops 0 (key i o ho).2.2 k p d hp hd hl
    rwa [Nat.zero_add] at this
  · obtain ⟨h1, _, h3⟩ := masks_get ops []
    rw [← hms] at h1 h3
    simp only [List.length_nil, Nat.zero_add] at h1 h3
    unfold behind
    cases ho : ops[i]? with
    | none =>
      have : ms.getD i 0 = 0 := by
        rw [List.getD_eq_getElem?_getD, List.getElem?_eq_none (by rw [h1]; exact List.getElem?_eq_none_iff.1 ho)]
        rfl
      rw [this]
      simp
    | some o =>
      rw [h3 i o ho, maskOf_bit]
      have hin : i < ops.length := (List.getElem?_eq_some_iff.1 ho).1
      have htk : ∀ j, j < i → (ms.take i).getD j 0 = ms.getD j 0 := fun j hj => by
        simp [List.getD_eq_getElem?_getD, List.getElem?_take_of_lt hj]
      constructor
      · rintro (h | ⟨e, he, hb, h⟩)
        · simp at h
        · have he' : e ∈ o.after := by simpa using he
          rw [htk _ ((key i o ho).1 e he' hb)] at h
          exact ⟨o, e, rfl, he', hb, h⟩
      · rintro ⟨o', e, ho', he, hb, h⟩
        cases ho'
        refine .inr ⟨e, by simpa using he, hb, ?_⟩
        rw [htk _ ((key i o ho).1 e he hb)]
        exact h
theorem Ordr.lower (h : Ordr ops ms) : ∀ (i k : Nat), behind ms i k = true → k < i := by
  intro i
  induction i using Nat.strongRecOn with
  | _ i ih =>
    intro k hk
    obtain ⟨o, e, ho, he, hb, hk⟩ := (h.bit i k).1 hk
    have hlt := h.edge i o e ho he hb
    rcases hk with rfl | hk
    · exact hlt
    · have := ih _ hlt k hk
      omega
theorem Ordr.trans (h : Ordr ops ms) : ∀ (i j k : Nat), behind ms i j = true → behind ms j k = true → behind ms i k = true := by
  intro i
  induction i using Nat.strongRecOn with
  | _ i ih =>
    intro j k hj hk
    obtain ⟨o, e, ho, he, hb, hj⟩ := (h.bit i j).1 hj
    refine (h.bit i k).2 ⟨o, e, ho, he, hb, .inr ?_⟩
    rcases hj with rfl | hj
    · exact hk
    · exact ih _ (h.edge i o e ho he hb) j k hj hk
end

/- The text's run. -/
structure Tx (P : Program) (ns : Nat) (call : CallF) (ops : List Oper) (ms : List Nat) (c : Nat) (L : List CR) (s : Nat → DS) : Prop where
  crs : crs P ns ops ops = some L
  step : ∀ i o, L[i]? = some o → dStep call ms c o i (s i) = some (s (i + 1))
  ord : Ordr ops ms
  ms0 : (s 0).Ms = []
  pend0 : (s 0).pend = []
theorem draw_trace {call : CallF} {ms : List Nat} {c : Nat} : ∀ (l : List CR) (i : Nat) (s s' : DS), drawOps call ms c l i s = some s' → ∃ f : Nat → DS, f i = s ∧ f (i + l.length) = s' ∧ ∀ k o, l[k]? = some o → dStep call ms c o (i + k) (f (i + k)) = some (f (i + k + 1))
  | [], i, s, s', h => by
    simp only [drawOps, Option.some.injEq] at h
    subst h
    exact ⟨fun _ => s, rfl, rfl, fun k o hk => by simp at hk⟩
  | o :: l, i, s, s', h => by
    simp only [drawOps] at h
    split at h
    · rename_i s1 h1
      obtain ⟨f, h2, h3, h4⟩ := draw_trace l (i + 1) s1 s' h
      refine ⟨fun m => if m ≤ i then s else f m, by simp, ?_, fun k p hk => ?_⟩
      · simp only [List.length_cons]
        rw [if_neg (by omega), show i + (l.length + 1) = i + 1 + l.length by omega]
        exact h3
      · cases k with
        | zero =>
          simp at hk
          subst hk
          simp only [Nat.add_zero, Nat.le_refl, if_true]
          rw [if_neg (by omega), h2]
          exact h1
        | succ k =>
          have := h4 k p (by simpa using hk)
          rw [show i + 1 + k = i + (k + 1) by omega] at this
          have e1 : ¬ i + (k + 1) ≤ i := by omega
          have e2 : ¬ i + (k + 1) + 1 ≤ i := by omega
          simp only [e1, e2, if_false]
          exact this
    · cases h
section
variable {P : Program} {ns : Nat} {call : CallF} {ops : List Oper} {ms : List Nat} {c : Nat} {L : List CR} {s : Nat → DS}
def IsAct (L : List CR) (s : Nat → DS) (k : Nat) : Prop := ∃ o f, L[k]? = some o ∧ o.ci = .act f ∧ o.wanted (s k).tm = true
noncomputable def made (L : List CR) (s : Nat → DS) (k : Nat) : Option AObj := match L[k]? with
  | some o => bif o.wanted (s k).tm then (match o.ci with | .mk f => (f (s k).tm).map (·.1) | _ => none) else none
  | none => none
/-- What one step of the text's run is. -/
inductive Kind (call : CallF) (ms : List Nat) (c : Nat) (o : CR) (i : Nat) (s s' : DS) : Prop
  | skip (h : o.wanted s.tm = false) (h1 : s'.tm = put s.tm o.dst undef) (h2 : s'.M = s.M) (h3 : s'.Ms = s.Ms) (h4 : s'.pend = s.pend) (h5 : s'.recs = s.recs)
  | rd (f : TM → AW → Option Value) (v : Value) (h : o.wanted s.tm = true) (hc : o.ci = .rd f) (h1 : s'.tm = put s.tm o.dst v) (h2 : s'.M = s.M) (h3 : s'.Ms = s.Ms) (h4 : s'.pend = s.pend) (h5 : (f s.tm noMem = some v ∧ s'.recs = s.recs) ∨ s'.recs = ⟨i, f, s.tm, v⟩ :: s.recs)
  | mk (f : TM → Option (AObj × (Nat → Value))) (p : AObj) (g : Nat → Value) (h : o.wanted s.tm = true) (hc : o.ci = .mk f) (hf : f s.tm = some (p, g)) (h1 : s'.tm = put s.tm o.dst (g (c + i))) (h2 : s'.M = s.M) (h3 : s'.Ms = s.Ms) (h4 : s'.pend = (i, p) :: s.pend) (h5 : s'.recs = s.recs)
  | act (f : TM → AW → Out) (h : o.wanted s.tm = true) (hc : o.ci = .act f) (hch : chained ms i s.Ms = true) (h1 : exec1 call (.act f) o.dst s.tm (letIn c (behind ms i) s.pend s.M) R2.ok = .ok s'.tm s'.M) (h3 : s'.Ms = (i, s.M) :: s.Ms) (h4 : s'.pend = s.pend.filter (fun p => !behind ms i p.1)) (h5 : s'.recs = s.recs)
theorem kind_of {o : CR} {i : Nat} {s s' : DS} (h : dStep call ms c o i s = some s') : Kind call ms c o i s s' := by
  unfold dStep at h
  cases hw : o.wanted s.tm
  · rw [hw] at h
    simp only [cond_false, DS.put, putK_eq, Option.some.injEq] at h
    subst h
    exact .skip hw rfl rfl rfl rfl rfl
  · rw [hw] at h
    simp only [cond_true] at h
    cases hc : o.ci with
    | rd f =>
      rw [hc] at h
      simp only [dRead] at h
      split at h
      · rename_i v hv
        simp only [DS.put, putK_eq, Option.some.injEq] at h
        subst h
        exact .rd f v hw hc rfl rfl rfl rfl (.inl ⟨hv, rfl⟩)
      · split at h
        · rename_i v hv
          simp only [DS.put, putK_eq, Option.some.injEq] at h
          subst h
          exact .rd f v hw hc rfl rfl rfl rfl (.inr rfl)
        · cases h
    | mk f =>
      rw [hc] at h
      simp only [dMake] at h
      split at h
      · rename_i p g hf
        rw [sObj_eq] at h
        simp only [DS.put, putK_eq, Option.some.injEq] at h
        subst h
        exact .mk f p g hw hc hf rfl rfl rfl rfl rfl
      · cases h
    | act f =>
      rw [hc] at h
      simp only at h
      obtain ⟨hch, h⟩ := cond_ok h
      unfold dDone at h
      split at h
      · rename_i tm M he
        injection h with h
        subst h
        exact .act f hw hc hch he rfl rfl rfl
      · cases h
end
end Ev
end Go.Proofs.YtiglblfjmmdeeaaGreat
