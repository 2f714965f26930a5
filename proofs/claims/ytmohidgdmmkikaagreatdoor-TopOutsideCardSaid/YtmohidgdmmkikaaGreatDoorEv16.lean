/- The evaluator: maps that are changed. -/
import Derived.Test.YtmohidgdmmkikaaGreatDoorEv15
import Derived.MapKept
namespace Go.Proofs.YtmohidgdmmkikaaGreatDoor
open Go.RowKit
namespace Ev

section
variable {P : Program} {w0 w w1 : World} {σ : Sig} {A A' : AW} {X : Nat → Option AObj} {tm : TM} {v u u2 u3 k : Value} {x y z : CO} {t kt : TypeId} {d : TypeDesc} {b o : Nat} {L : Loc} {es es2 : List MapEntry}
/-- What a name stands for is changed. -/
theorem St.change (h : St P w0 σ A X w) (hb : σ b = some L) {p0 p : AObj} (hg : A.get b = some p0) (hk : ∀ k, k ≠ L.r → w1.heap[k]? = w.heap[k]?) (hsz : w1.heap.size = w.heap.size) (hos : w1.os = w.os) (htp : w1.tape = w.tape) (hout : w1.output = w.output) (ho : ObjR P σ p L w1) : St P w0 σ (A.upd b (some p)) X w1 := by
  have hbn : b < most := Nat.lt_trans (h.dom _ _ hb) h.bound
  have hd := h.live_get hb hg
  obtain ⟨L1, g1, g2, _⟩ := h.objs b _ (.inl hd)
  rw [hb] at g1
  cases g1
  have hlv : ∀ x, Live (A.upd b (some p)) X x → Live A X x := fun x hx => by
    rcases hx with h1 | h1
    · rw [upd_den A _ hbn] at h1
      by_cases e : x = b
      · subst e; exact .inl (by rw [hd]; simp)
      · rw [if_neg e] at h1; exact .inl h1
    · exact .inr h1
  refine ⟨fun x y hx => by rw [upd_next]; exact h.dom x y hx, by rw [upd_next]; exact h.bound, fun x hx => ?_, fun x q hp => ?_, fun x x' L1 L2 h1 h2 => h.inj x x' L1 L2 (hlv x h1) (hlv x' h2), ⟨hos.trans h.below.os, htp.trans h.below.tape, hout.trans h.below.output, by rw [hsz]; exact h.below.size, fun k hk2 => ?_⟩⟩
  · rw [upd_den A _ hbn]
    have := h.disj x hx
    by_cases e : x = b
    · subst e; rw [hd] at this; cases this
    · rw [if_neg e]; exact this
  · rw [upd_den A _ hbn] at hp
    by_cases e : x = b
    · subst e
      have hX : X x = none := by
        cases hx : X x with
        | none => rfl
        | some q => have := h.disj x (by rw [hx]; simp); rw [hd] at this; cases this
      rw [if_pos rfl, hX] at hp
      rcases hp with hp | hp
      · injection hp with hp
        subst hp
        exact ⟨L, hb, g2, ho⟩
      · cases hp
    · rw [if_neg e] at hp
      obtain ⟨L1, g1, g2, g3⟩ := h.objs x q hp
      refine ⟨L1, g1, g2, g3.keep (hk _ fun er => e ?_)⟩
      exact h.inj x b L1 L (hp.imp (fun e => by rw [e]; exact Option.some_ne_none _) (fun e => by rw [e]; exact Option.some_ne_none _)) (.inl (by rw [hd]; simp)) g1 hb er
  · rw [hk k (by omega)]
    exact h.below.block k hk2
theorem ERs.get {l l' : List MapEntry} (h : ERs σ l l') {i : Nat} {e : MapEntry} (he : l[i]? = some e) : ∃ e', l'[i]? = some e' ∧ e'.key = e.key ∧ e'.born = e.born ∧ VR σ e.val e'.val := by
  induction i generalizing l l' with
  | zero => cases h with
    | nil => simp at he
    | cons hk hc hb hv t => simp at he; subst he; exact ⟨_, rfl, hk, hb, hv⟩
  | succ i ih => cases h with
    | nil => simp at he
    | cons hk hc hb hv t => simpa using ih t (by simpa using he)
theorem ERs.set {l l' : List MapEntry} (h : ERs σ l l') (i : Nat) {e e' : MapEntry} (hk : e'.key = e.key) (hc : clo e.key = true) (hb : e'.born = e.born) (hv : VR σ e.val e'.val) : ERs σ (l.set i e) (l'.set i e') := by
  induction i generalizing l l' with
  | zero => cases h with
    | nil => exact .nil
    | cons _ _ _ _ t => exact .cons hk hc hb hv t
  | succ i ih => cases h with
    | nil => exact .nil
    | cons a b c d t => exact .cons a b c d (ih t)
theorem ERs.push {l l' : List MapEntry} (h : ERs σ l l') {e e' : MapEntry} (hk : e'.key = e.key) (hc : clo e.key = true) (hb : e'.born = e.born) (hv : VR σ e.val e'.val) : ERs σ (l ++ [e]) (l' ++ [e']) := by
  induction h with
  | nil => exact .cons hk hc hb hv .nil
  | cons a b c d t ih => exact .cons a b c d ih
theorem ERs.erase {l l' : List MapEntry} (h : ERs σ l l') (i : Nat) : ERs σ (l.eraseIdx i) (l'.eraseIdx i) := by
  induction i generalizing l l' with
  | zero => cases h with
    | nil => exact .nil
    | cons _ _ _ _ t => exact t
  | succ i ih => cases h with
    | nil => exact .nil
    | cons a b c d t => exact .cons a b c d (ih t)
theorem St.setMap (h : St P w0 σ A X w) (hb : σ b = some L) {clock clock2 : Nat} {es' : Array MapEntry} (hg : A.get b = some (.map es clock)) (he : ERs σ es2 es'.toList) :
    ∃ w', (setObj L.r (.map es' clock2)).run P w = .ok () w' ∧ St P w0 σ (A.upd b (some (.map es2 clock2))) X w' ∧ Step σ A σ (A.upd b (some (.map es2 clock2))) := by
  obtain ⟨L0, g1, g2, g3⟩ := h.objs b _ (.inl (h.live_get hb hg))
  rw [hb] at g1
  cases g1
  obtain ⟨hs, e0, hh, _⟩ := g3
  refine ⟨_, MapKept.run_setObj_map _ hh, h.change hb hg (fun k hk => ?_) ?_ rfl rfl rfl ⟨hs, es', ?_, he⟩, Sig.le_refl σ, by rw [upd_next]; exact Nat.le_refl _, fun _ _ => rfl⟩
  · simp [Ne.symm hk]
  · simp
  · have := (Array.getElem?_eq_some_iff.1 hh).1
    simp [this]
theorem modify_set {es : Array MapEntry} {i : Nat} {e : MapEntry} {f : MapEntry → MapEntry} (h : es.toList[i]? = some e) : (es.modify i f).toList = es.toList.set i (f e) := by
  apply List.ext_getElem?
  intro j
  rw [Array.toList_modify, List.getElem?_modify, List.getElem?_set]
  by_cases hij : i = j
  · subst hij
    have := (List.getElem?_eq_some_iff.1 h).1
    simp [h]
    simpa using this
  · simp [hij]
theorem sim_update {et : TypeId} (h : St P w0 σ A X w) (ht : P.underlying t = some (.map kt et)) (hd : P.underlying kt = some d) (hu : VR σ (x.ev tm) u) (hu2 : VR σ (y.ev tm) u2) (hu3 : VR σ (z.ev tm) u3) :
    OutOk P w0 σ A X w ((do Instr.mapUpdate t u u2 u3; pure Next.skip : Sem Next).run P w) (acUpdate P kt d x y z tm A) := by
  unfold acUpdate
  split
  · rename_i b he
    rw [he] at hu
    obtain ⟨r, nn, zz, hb, rfl⟩ := hu.map_inv
    split
    · rename_i es clock hg
      cases hk : keyOk P false kt d (y.ev tm)
      · trivial
      · simp only [cond_true]
        obtain ⟨hc, hck⟩ := keyOk_run (w := w) hd hk
        obtain rfl := clo_eq hc hu2
        obtain ⟨es', hes, hER⟩ := h.entries hb hg
        have hes : w.heap[r]? = some (.map es' clock) := hes
        have hget : (getObj r).run P w = .ok (.map es' clock) w := by simp [getObj, Sem.run, hes]
        cases hf : find P kt d (y.ev tm) es with
        | none => trivial
        | some fd =>
          obtain ⟨r', h3, h4⟩ := find_r (w := w) hd hER hf
          cases fd with
          | none =>
            cases r' with
            | some r' => exact h4.elim
            | none =>
              simp only [putEntry, sNat_eq, sEs_eq, valA_some]
              obtain ⟨w', s1, s2, s3⟩ := h.setMap (clock2 := clock + 1) (es' := es'.push { key := y.ev tm, val := u3, born := clock }) (es2 := es ++ [{ key := y.ev tm, val := z.ev tm, born := clock }]) hb hg (by rw [Array.toList_push]; exact hER.push rfl hc rfl hu3)
              have s1 : (setObj r (.map (es'.push { key := y.ev tm, val := u3, born := clock }) (clock + 1))).run P w = .ok () w' := s1
              refine ⟨σ, undef, w', s3, s2, undef_r σ, .inr ⟨?_, rfl⟩⟩
              simp only [Instr.mapUpdate, Sem.run_bind, run_underlying ht, Result.andThen_ok, hget, hck, h3, s1, Sem.run_pure]
          | some iv =>
            obtain ⟨i, q⟩ := iv
            cases r' with
            | none => exact h4.elim
            | some r' =>
              obtain ⟨j, q'⟩ := r'
              obtain ⟨rfl, hq⟩ := h4
              simp only [putEntry, setEntry]
              cases hi : es[i]? with
              | none => trivial
              | some e =>
                simp only
                cases hsb : Instr.sameBits 10000 e.key (y.ev tm)
                · trivial
                · simp only [cond_true, sNat_eq, sEs_eq, valA_some]
                  obtain ⟨e', f1, f2, f3, f4⟩ := hER.get hi
                  obtain ⟨w', s1, s2, s3⟩ := h.setMap (clock2 := clock) (es' := es'.modify i fun e => { e with key := y.ev tm, val := u3 }) (es2 := es.set i { e with key := y.ev tm, val := z.ev tm }) hb hg (by rw [modify_set f1]; exact hER.set i rfl hc f3 hu3)
                  have s1 : (setObj r (.map (es'.modify i fun e => { e with key := y.ev tm, val := u3 }) clock)).run P w = .ok () w' := s1
                  refine ⟨σ, undef, w', s3, s2, undef_r σ, .inr ⟨?_, rfl⟩⟩
                  have f1' : es'[i]? = some e' := by simpa using f1
                  have hkt : (Instr.keyThatStays (((es'[i]?).map (·.key)).getD (y.ev tm)) (y.ev tm)).run P w = .ok (y.ev tm) w := by
                    rw [f1']
                    simp only [Option.map_some, Option.getD_some, f2, Instr.keyThatStays, hsb, if_true, Sem.run_pure]
                  simp only [Instr.mapUpdate, Sem.run_bind, run_underlying ht, Result.andThen_ok, hget, hck, h3, hkt, s1, Sem.run_pure]
    · trivial
  · trivial
theorem erase_list (es : Array MapEntry) (i : Nat) : (es.eraseIdxIfInBounds i).toList = es.toList.eraseIdx i := by
  unfold Array.eraseIdxIfInBounds
  split
  · simp
  · rename_i h
    rw [List.eraseIdx_of_length_le (by simpa using h)]
theorem sim_delete {st et ty : TypeId} (h : St P w0 σ A X w) (ht : P.underlying st = some (.map kt et)) (hd : P.underlying kt = some d) (hu : VR σ (x.ev tm) u) (hu2 : VR σ (y.ev tm) u2) {ats : Array TypeId} (hat : ats[0]? = some st) :
    ValOk P w0 σ A X ((Builtin.delete_ ats ty #[u, u2]).run P w) (acDelete P kt d x y tm A) := by
  unfold acDelete
  split
  · rename_i b he
    rw [he] at hu
    obtain ⟨r, nn, zz, hb, rfl⟩ := hu.map_inv
    split
    · rename_i es clock hg
      cases hk : keyOk P es.isEmpty kt d (y.ev tm)
      · trivial
      · simp only [cond_true]
        obtain ⟨hc, hck⟩ := keyOk_run (w := w) hd hk
        obtain rfl := clo_eq hc hu2
        obtain ⟨es', hes, hER⟩ := h.entries hb hg
        have hes : w.heap[r]? = some (.map es' clock) := hes
        have hget : (getObj r).run P w = .ok (.map es' clock) w := by simp [getObj, Sem.run, hes]
        rw [← hER.empty] at hck
        cases hf : find P kt d (y.ev tm) es with
        | none => trivial
        | some fd =>
          obtain ⟨r', h3, h4⟩ := find_r (w := w) hd hER hf
          cases fd with
          | none =>
            cases r' with
            | some r' => exact h4.elim
            | none =>
              have s1 : (setObj r (.map es' clock)).run P w = .ok () w := by
                rw [MapKept.run_setObj_map _ hes]
                congr 1
                have : w.heap.setIfInBounds r (.map es' clock) = w.heap := by
                  apply Array.ext_getElem?
                  intro j
                  rw [Array.getElem?_setIfInBounds]
                  by_cases hj : r = j
                  · subst hj
                    have := (Array.getElem?_eq_some_iff.1 hes).1
                    rw [if_pos rfl, if_pos this, hes]
                  · rw [if_neg hj]
                rw [this]
              refine ⟨σ, _, w, Step.refl σ A, h, .tuple .nil, ?_⟩
              simp [Builtin.delete_, hat, Sem.run_bind, run_underlying ht, Result.andThen_ok, hget, hck, h3, s1, Sem.run_pure]
          | some iv =>
            obtain ⟨i, q⟩ := iv
            cases r' with
            | none => exact h4.elim
            | some r' =>
              obtain ⟨j, q'⟩ := r'
              obtain ⟨rfl, hq⟩ := h4
              simp only [sEs_eq, valA_some]
              obtain ⟨w', s1, s2, s3⟩ := h.setMap (clock2 := clock) (es' := es'.eraseIdxIfInBounds i) (es2 := es.eraseIdx i) hb hg (by rw [erase_list]; exact hER.erase i)
              have s1 : (setObj r (.map (es'.eraseIdxIfInBounds i) clock)).run P w = .ok () w' := s1
              refine ⟨σ, _, w', s3, s2, .tuple .nil, ?_⟩
              simp [Builtin.delete_, hat, Sem.run_bind, run_underlying ht, Result.andThen_ok, hget, hck, h3, s1, Sem.run_pure]
    · trivial
  · trivial
end
end Ev
end Go.Proofs.YtmohidgdmmkikaaGreatDoor
