/- The evaluator: calls; all that acts. -/
import Derived.Test.YtmohidgdmmkikaaGreatDoorEv16
namespace Go.Proofs.YtmohidgdmmkikaaGreatDoor
open Go.RowKit
namespace Ev

/-- No function of the program is the one that asks how many goroutines there are. -/
def NoNum (P : Program) : Prop := ∀ (f : FuncId) (fn : Func), P.funcs[f]? = some fn → (fn.name == "runtime.NumGoroutine") = false
section
variable {P : Program} {ns : Nat}
theorem callFunc_run {f : FuncId} {args : Array Value} {w : World} (hn : NoNum P) (hb : hasBody P f = true) : (callFunc f args).run P w = .ok (.enter f args) w := by
  unfold hasBody at hb
  split at hb
  · rename_i fn hf
    have h1 : fn.name ≠ "runtime.NumGoroutine" := by simpa using hn f fn hf
    have h2 : fn.body ≠ none := by
      intro e
      rw [e] at hb
      cases hb
    simp [callFunc, Sem.run_bind, Sem.run, program, hf, h1, h2]
  · cases hb
theorem cos_r {σ : Sig} {tm : TM} {ρ : Operand → Value} {args : Array Operand} (h : ∀ z ∈ args, VR σ ((co ns z).ev tm) (ρ z)) : VRs σ ((cos ns args).map (·.ev tm)) (args.map ρ).toList := by
  simp only [cos, List.map_map, Array.toList_map]
  exact vrs_map args.toList fun z hz => h z (by simpa using hz)
theorem arr_nil {a : Array Value} {σ : Sig} (h : VRs σ [] a.toList) : a = #[] := by
  obtain ⟨l⟩ := a
  cases h
  rfl
theorem call_run {o : Oper} {ρ : Operand → Value} {w : World} {fq : Operand} {args : Array Operand} {ts : Array TypeId} {g : FuncId} {a c : Array Value} (ho : o.op = .call { callee := .value fq, args := args, argTypes := ts }) (hf : ρ fq = .func (.func g) a c) :
    (execOp ρ o).run P w = (callFunc g (a ++ args.map ρ ++ c)).run P w := by
  simp only [execOp, ho, resolve, Deferred.ofValue, hf, invoke, Sem.run_bind, Sem.run_pure, Result.andThen_ok]
theorem method_run {t : TypeId} {name : String} {f : FuncId} {v : Value} {w : World} {n : Nat} (h : Ev.method P t name = some f) : (Go.method (n + 1) t v name).run P w = .ok (f, v) w := by
  unfold Ev.method at h
  split at h
  · rename_i i e hi hd
    split at h
    · rename_i m hm
      obtain ⟨hp, h⟩ := cond_ok h
      split at h
      · rename_i g hg
        injection h with h
        subst h
        have hp' : m.path.toList = [] := by simpa using hp
        have hd' : P.underlying t = some (.pointer e) := hd
        simp [Go.method, typeInfo, hi, hm, hp', follow, hg, receiverAt, run_underlying hd', Place.get]
      · cases h
    · cases h
  · cases h
theorem one_arg {α : Type} {f : Operand → α} {args : Array Operand} {x : α} (h : args.toList.map f = [x]) : ∃ z, args = #[z] ∧ f z = x := by
  obtain ⟨l⟩ := args
  cases l with
  | nil => simp at h
  | cons z l => cases l with
    | nil => simp at h; exact ⟨z, rfl, h⟩
    | cons _ _ => simp at h
theorem two_args {α : Type} {f : Operand → α} {args : Array Operand} {x y : α} (h : args.toList.map f = [x, y]) : ∃ z z2, args = #[z, z2] ∧ f z = x ∧ f z2 = y := by
  obtain ⟨l⟩ := args
  cases l with
  | nil => simp at h
  | cons z l => cases l with
    | nil => simp at h
    | cons z2 l => cases l with
      | nil => simp at h; exact ⟨z, z2, rfl, h⟩
      | cons _ _ => simp at h
theorem call_act {o : Oper} {c : Call} {f : TM → AW → Out} (hn : NoNum P) (ho : o.op = .call c) (h : ciCall P ns o c = some (.act f)) : ActOk P ns o f := by
  unfold ciCall at h
  obtain ⟨callee, args, argTypes⟩ := c
  have hargs : ∀ z ∈ args, z ∈ o.op.operands := fun z hz => by rw [ho]; simp [Op.operands, Call.operands, hz]
  split at h
  · rename_i g hcal
    simp only at hcal
    subst hcal
    have key : ∀ (σ : Sig) (tm : TM) (ρ : Operand → Value), (∀ z ∈ o.op.operands, VR σ ((co ns z).ev tm) (ρ z)) → ∀ w, (execOp ρ o).run P w = (callFunc g (args.map ρ)).run P w := fun σ tm ρ hE w => by
      have hf := hE (.func g) (by rw [ho]; simp [Op.operands, Call.operands])
      obtain ⟨a', c', he, h1, h2⟩ := VR.func_inv (a := #[]) (c := #[]) hf
      have := call_run (P := P) (w := w) ho he
      rw [arr_nil h1, arr_nil h2] at this
      simpa using this
    cases hb : hasBody P g
    · rw [hb] at h
      simp only [cond_false, Option.some.injEq, CI.act.injEq] at h
      subst h
      intro w0 w σ A X tm ρ hst hE
      unfold acExtern
      cases hc : cloL (cos ns args) tm
      · trivial
      · simp only [cond_true]
        have hcl : ∀ z ∈ args, (co ns z).ev tm = ρ z := fun z hz => by
          have hz2 : clo ((co ns z).ev tm) = true := by
            unfold cloL at hc
            rw [List.all_eq_true] at hc
            exact hc _ (List.mem_map.2 ⟨z, by simpa using hz, rfl⟩)
          exact (clo_eq hz2 (hE z (hargs z hz))).symm
        have ha : (⟨(cos ns args).map (·.ev tm)⟩ : Array Value) = args.map ρ := by
          apply Array.ext'
          simp only [cos, List.map_map, Array.toList_map]
          exact List.map_congr_left fun z hz => hcl z (by simpa using hz)
        rw [ha]
        split
        · rename_i v hr
          cases hv : clo v
          · trivial
          · exact ⟨σ, v, w, Step.refl σ A, hst, clo_r σ hv, .inl (by rw [key σ tm ρ hE]; exact run_pure_of hr w)⟩
        · trivial
    · rw [hb] at h
      simp only [cond_true, Option.some.injEq, CI.act.injEq] at h
      subst h
      intro w0 w σ A X tm ρ hst hE
      exact ⟨rfl, args.map ρ, by rw [key σ tm ρ hE]; exact callFunc_run hn hb, cos_r fun z hz => hE z (hargs z hz)⟩
  · rename_i q hq hcal
    simp only at hcal
    subst hcal
    simp only [Option.some.injEq, CI.act.injEq] at h
    subst h
    intro w0 w σ A X tm ρ hst hE
    have hf := hE q (by rw [ho]; simp [Op.operands, Call.operands])
    unfold acCallV
    split
    · rename_i g a b he
      rw [he] at hf
      obtain ⟨a', c', he', h1, h2⟩ := hf.func_inv
      cases hb : hasBody P g
      · trivial
      · refine ⟨rfl, a' ++ args.map ρ ++ c', by rw [call_run ho he']; exact callFunc_run hn hb, ?_⟩
        rw [Array.toList_append, Array.toList_append, List.append_assoc]
        exact h1.append ((cos_r fun z hz => hE z (hargs z hz)).append h2)
    · trivial
  · rename_i r name hcal
    simp only at hcal
    subst hcal
    simp only [Option.some.injEq, CI.act.injEq] at h
    subst h
    intro w0 w σ A X tm ρ hst hE
    have hf := hE r (by rw [ho]; simp [Op.operands, Call.operands])
    unfold acInvoke
    split
    · rename_i t v he
      rw [he] at hf
      obtain ⟨v', he', h1⟩ := hf.iface_inv
      split
      · rename_i g hg
        cases hb : hasBody P g
        · trivial
        · refine ⟨rfl, #[v'] ++ args.map ρ, ?_, ?_⟩
          · have h2 : (#[Value.iface t v'] ++ args.map ρ)[0]? = some (Value.iface t v') := by rw [Array.getElem?_append]; rfl
            have h3 : (#[Value.iface t v'] ++ args.map ρ).extract 1 (#[Value.iface t v'] ++ args.map ρ).size = args.map ρ := by
              apply Array.ext'
              simp only [Array.toList_extract, Array.toList_append, Array.size_append, List.extract_eq_take_drop]
              simp [List.take_of_length_le]
            have h4 := method_run (P := P) (v := v') (w := w) (n := P.types.size + 99) hg
            have h5 : (program : Sem Program).run P w = .ok P w := rfl
            simp only [execOp, ho, resolve, invoke, Sem.run_bind, Sem.run_pure, Result.andThen_ok, he', h2, h3, callMethod, h5]
            have h6 : P.types.size + Made.depth = P.types.size + 99 + 1 := by simp [Made.depth]
            rw [h6, h4, Result.andThen_ok]
            exact callFunc_run hn hb
          · rw [Array.toList_append]
            exact .cons h1 (cos_r fun z hz => hE z (hargs z hz))
      · trivial
    · trivial
  · rename_i b hcal
    simp only at hcal
    subst hcal
    have hE1 : ∀ {σ : Sig} {tm : TM} {ρ : Operand → Value}, (∀ z ∈ o.op.operands, VR σ ((co ns z).ev tm) (ρ z)) → ∀ z ∈ args, VR σ ((co ns z).ev tm) (ρ z) := fun hE z hz => hE z (hargs z hz)
    simp only at h
    split at h
    · -- append
      rename_i x y st xt hxs hts
      obtain ⟨z, z2, rfl, rfl, rfl⟩ := two_args hxs
      obtain rfl : argTypes = #[st, xt] := Array.ext' hts
      split at h
      · cases h
      · rename_i elem dx hni hd hx
        split at h
        · rename_i size zz hs hz
          split at h
          · rename_i bb hbt
            obtain ⟨hc, h⟩ := cond_ok h
            rw [Bool.and_eq_true] at hc
            injection h with h
            injection h with h
            subst h
            intro w0 w σ A X tm ρ hst hE
            have := sim_append (P := P) (ty := o.type) hst hd hx hni hs hz hbt (by have := Nat.le_of_ble_eq_true hc.1; omega) (Nat.eq_of_beq_eq_true hc.2) (hE1 hE z (by simp)) (hE1 hE z2 (by simp))
            have h2 := this.lift (w := w)
            simpa only [execOp, ho, resolve, invoke, builtin, pure_bind, List.map_toArray, List.map_cons, List.map_nil] using h2
          · cases h
        · cases h
      · cases h
    · -- copy
      rename_i d x t ts hxs hts
      obtain ⟨z, z2, rfl, rfl, rfl⟩ := two_args hxs
      have hat : argTypes[0]? = some t := by rw [← Array.getElem?_toList, hts]; rfl
      split at h
      · rename_i elem hd
        split at h
        · rename_i size hs
          injection h with h
          injection h with h
          subst h
          intro w0 w σ A X tm ρ hst hE
          have h2 := (sim_copy (P := P) (ty := o.type) hat hst hd hs (hE1 hE z (by simp)) (hE1 hE z2 (by simp))).lift (w := w)
          simpa only [execOp, ho, resolve, invoke, builtin, pure_bind, List.map_toArray, List.map_cons, List.map_nil] using h2
        · cases h
      · cases h
    · -- clear
      rename_i x t hxs hts
      obtain ⟨z, rfl, rfl⟩ := one_arg hxs
      obtain rfl : argTypes = #[t] := Array.ext' hts
      split at h
      · rename_i elem hd
        split at h
        · rename_i zz hz
          injection h with h
          injection h with h
          subst h
          intro w0 w σ A X tm ρ hst hE
          have h2 := (sim_clear (P := P) (ty := o.type) hst hd hz (hE1 hE z (by simp))).lift (w := w)
          simpa only [execOp, ho, resolve, invoke, builtin, pure_bind, List.map_toArray, List.map_cons, List.map_nil] using h2
        · cases h
      · cases h
    · -- delete
      rename_i m k t ts hxs hts
      obtain ⟨z, z2, rfl, rfl, rfl⟩ := two_args hxs
      have hat : argTypes[0]? = some t := by rw [← Array.getElem?_toList, hts]; rfl
      split at h
      · rename_i kt et hd
        split at h
        · rename_i d hdk
          injection h with h
          injection h with h
          subst h
          intro w0 w σ A X tm ρ hst hE
          have h2 := (sim_delete (P := P) (ty := o.type) hst hd hdk (hE1 hE z (by simp)) (hE1 hE z2 (by simp)) hat).lift (w := w)
          simpa only [execOp, ho, resolve, invoke, builtin, pure_bind, List.map_toArray, List.map_cons, List.map_nil] using h2
        · cases h
      · cases h
    · split at h
      · split at h <;> simp at h
      · simp at h
      · simp at h
      · cases h
    · split at h <;> simp at h
    · simp at h
    · simp at h
    · cases h
theorem ci_act {o : Oper} {f : TM → AW → Out} (hn : NoNum P) (h : ci P ns o = some (.act f)) : ActOk P ns o f := by
  unfold ci at h
  cases ho : o.op <;> rw [ho] at h <;> simp only [reduceCtorEq, Option.some.injEq, CI.act.injEq] at h
  case alloc t => split at h <;> simp at h
  case build t ps =>
    unfold ciBuild at h
    split at h
    · split at h <;> simp at h
    · split at h <;> simp at h
    · cases h
  case buildSlice t len ps =>
    unfold ciBuildSlice at h
    split at h
    · split at h
      · obtain ⟨_, h⟩ := cond_ok h
        simp at h
      · cases h
    · cases h
  case load t a => split at h <;> simp at h
  case store t a x =>
    split at h
    · rename_i n hs
      injection h with h
      injection h with h
      subst h
      intro w0 w σ A X tm ρ hst hE
      have := sim_store (P := P) hst hs (hE a (by rw [ho]; simp [Op.operands])) (hE x (by rw [ho]; simp [Op.operands]))
      simpa only [execOp, ho] using this
    · cases h
  case binOp op t x y yt =>
    unfold ciBin at h
    split at h
    · simp at h
    · simp at h
    · split at h <;> simp at h
    · cases h
  case unOp op t x => split at h <;> simp at h
  case convert src dst x =>
    split at h
    · split at h
      · split at h <;> simp at h
      · cases h
    · split at h <;> simp at h
    · simp at h
    · simp at h
    · cases h
  case makeInterface t x => split at h <;> simp at h
  case makeMap t r =>
    split at h
    · simp at h
    · split at h <;> simp at h
  case makeSlice t l c =>
    split at h
    · split at h
      · split at h
        · obtain ⟨_, h⟩ := cond_ok h
          simp at h
        · cases h
      · cases h
    · cases h
  case slice t x lo hi mx =>
    unfold ciSlice at h
    split at h
    · split at h <;> simp at h
    · split at h <;> simp at h
    · split at h <;> simp at h
    · cases h
  case fieldAddr s x f' =>
    split at h
    · split at h
      · split at h <;> simp at h
      · cases h
    · cases h
  case field t x f' =>
    split at h
    · split at h
      · split at h <;> simp at h
      · cases h
    · cases h
  case indexAddr t x i =>
    split at h
    · split at h <;> simp at h
    · split at h <;> simp at h
    · cases h
  case index t x i =>
    split at h
    · split at h <;> simp at h
    · simp at h
    · cases h
  case lookup t m k ok =>
    split at h
    · split at h <;> simp at h
    · cases h
  case mapUpdate t m k x =>
    split at h
    · rename_i kt et hd
      split at h
      · rename_i d hdk
        injection h with h
        injection h with h
        subst h
        intro w0 w σ A X tm ρ hst hE
        have := sim_update (P := P) hst hd hdk (hE m (by rw [ho]; simp [Op.operands])) (hE k (by rw [ho]; simp [Op.operands])) (hE x (by rw [ho]; simp [Op.operands]))
        simpa only [execOp, ho] using this
      · cases h
    · cases h
  case call c => exact call_act hn ho h
end
end Ev
end Go.Proofs.YtmohidgdmmkikaaGreatDoor
