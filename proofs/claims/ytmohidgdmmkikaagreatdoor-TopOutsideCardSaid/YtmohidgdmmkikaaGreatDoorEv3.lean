/- The evaluator: what stands behind its heap; what it reads is there. -/
import Derived.Test.YtmohidgdmmkikaaGreatDoorEv2
import Derived.Laws.Tables
import Derived.Laws.Cells
import Derived.Laws.IdiomCopy
import Derived.Laws.Entries
namespace Go.Proofs.YtmohidgdmmkikaaGreatDoor
open Go.RowKit
namespace Ev

inductive ERs (σ : Sig) : List MapEntry → List MapEntry → Prop
  | nil : ERs σ [] []
  | cons {e e' : MapEntry} {l l' : List MapEntry} (hk : e'.key = e.key) (hc : clo e.key = true) (hb : e'.born = e.born) (hv : VR σ e.val e'.val) (t : ERs σ l l') : ERs σ (e :: l) (e' :: l')
theorem ERs.mono {σ σ' : Sig} (hs : σ.le σ') : ∀ {l l' : List MapEntry}, ERs σ l l' → ERs σ' l l'
  | _, _, .nil => .nil
  | _, _, .cons hk hc hb hv t => .cons hk hc hb (hv.mono hs) (ERs.mono hs t)
/-- A row's cells as they are in the world. -/
structure RowR (P : Program) (σ : Sig) (c : List Value) (e : TypeId) (L : Loc) (w : World) (c' : Array Value) (e' : TypeId) (fr : Nat × Nat) : Prop where
  heap : w.heap[L.r]? = some (.cells c' e' fr)
  size : c'.size = L.n
  fit : L.s + c.length ≤ L.n
  elem : ∀ z, sizeT P e = some z → L.z = z
  free : ∀ j, j < L.n → ¬(fr.1 ≤ j ∧ j < fr.2)
  val : ∀ (i : Nat) (v : Value), c[i]? = some v → ∃ v', c'[L.s + i]? = some v' ∧ VR σ v v'
def ObjR (P : Program) (σ : Sig) (o : AObj) (L : Loc) (w : World) : Prop :=
  match o with
  | .row c e => ∃ c' e' fr, RowR P σ c e L w c' e' fr
  | .map es clock => L.s = 0 ∧ ∃ es', w.heap[L.r]? = some (.map es' clock) ∧ ERs σ es es'.toList
theorem ObjR.mono {P : Program} {σ σ' : Sig} (hs : σ.le σ') {o : AObj} {L : Loc} {w : World} (h : ObjR P σ o L w) : ObjR P σ' o L w := by
  cases o with
  | row c e =>
    obtain ⟨c', e', fr, h⟩ := h
    exact ⟨c', e', fr, h.heap, h.size, h.fit, h.elem, h.free, fun i v hv => let ⟨v', h3, h4⟩ := h.val i v hv; ⟨v', h3, h4.mono hs⟩⟩
  | map es clock =>
    obtain ⟨h0, es', h1, h2⟩ := h
    exact ⟨h0, es', h1, h2.mono hs⟩
theorem ObjR.keep {P : Program} {σ : Sig} {o : AObj} {L : Loc} {w w' : World} (h : ObjR P σ o L w) (hk : w'.heap[L.r]? = w.heap[L.r]?) : ObjR P σ o L w' := by
  cases o with
  | row c e => obtain ⟨c', e', fr, h⟩ := h; exact ⟨c', e', fr, hk.trans h.heap, h.size, h.fit, h.elem, h.free, h.val⟩
  | map es clock => obtain ⟨h0, es', h1, h2⟩ := h; exact ⟨h0, es', hk.trans h1, h2⟩
theorem ObjR.lt {P : Program} {σ : Sig} {o : AObj} {L : Loc} {w : World} (h : ObjR P σ o L w) : L.r < w.heap.size := by
  cases o with
  | row c e => obtain ⟨c', e', fr, h⟩ := h; exact (Array.getElem?_eq_some_iff.1 h.heap).1
  | map es clock => obtain ⟨h0, es', h1, h2⟩ := h; exact (Array.getElem?_eq_some_iff.1 h1).1

def Live (A : AW) (X : Nat → Option AObj) (b : Nat) : Prop := A.den b ≠ none ∨ X b ≠ none
/-- The world holds what the evaluator's heap says, and the rest X beside it; what was there at w0 is as it was. -/
structure St (P : Program) (w0 : World) (σ : Sig) (A : AW) (X : Nat → Option AObj) (w : World) : Prop where
  dom : ∀ b x, σ b = some x → b < A.next
  bound : A.next < most
  disj : ∀ b, X b ≠ none → A.den b = none
  objs : ∀ b o, (A.den b = some o ∨ X b = some o) → ∃ L, σ b = some L ∧ w0.heap.size ≤ L.r ∧ ObjR P σ o L w
  inj : ∀ b b' L L', Live A X b → Live A X b' → σ b = some L → σ b' = some L' → L.r = L'.r → b = b'
  below : Below w0.heap.size w0 w

section
variable {P : Program} {w0 w : World} {σ : Sig} {A : AW} {X : Nat → Option AObj}
theorem St.den (h : St P w0 σ A X w) {b : Nat} {L : Loc} (hb : σ b = some L) : A.get b = A.den b := den_get (Nat.lt_trans (h.dom _ _ hb) h.bound)
theorem St.row (h : St P w0 σ A X w) {b : Nat} {L : Loc} {c : List Value} {e : TypeId} (hb : σ b = some L) (hg : A.get b = some (.row c e)) : ∃ c' e' fr, RowR P σ c e L w c' e' fr := by
  rw [h.den hb] at hg
  obtain ⟨L', h1, _, h3⟩ := h.objs b _ (.inl hg)
  rw [hb] at h1
  cases h1
  exact h3
theorem St.entries (h : St P w0 σ A X w) {b : Nat} {L : Loc} {es : List MapEntry} {clock : Nat} (hb : σ b = some L) (hg : A.get b = some (.map es clock)) :
    ∃ es', w.heap[L.r]? = some (.map es' clock) ∧ ERs σ es es'.toList := by
  rw [h.den hb] at hg
  obtain ⟨L', h1, _, h3⟩ := h.objs b _ (.inl hg)
  rw [hb] at h1
  cases h1
  exact h3.2
theorem St.cell (h : St P w0 σ A X w) {b r s nn zz o : Nat} {v : Value} (hb : σ b = some ⟨r, s, nn, zz⟩) (hg : cellAt A b o = some v) : ∃ v', w.cell? ⟨r, s + o, none⟩ = some v' ∧ VR σ v v' := by
  unfold cellAt at hg
  cases hx : A.get b with
  | none => rw [hx] at hg; simp at hg
  | some x =>
    rw [hx] at hg
    cases x with
    | map es clock => simp at hg
    | row c e =>
      obtain ⟨c', e', fr, hr⟩ := h.row hb hx
      obtain ⟨v', h3, h4⟩ := hr.val o v hg
      have h1 := hr.heap
      simp only at h1 h3
      exact ⟨v', by simp [World.cell?, h1, h3], h4⟩
theorem VRs.of_get {σ : Sig} : ∀ {l l' : List Value}, l.length = l'.length → (∀ (i : Nat) (v : Value), l[i]? = some v → ∃ v', l'[i]? = some v' ∧ VR σ v v') → VRs σ l l'
  | [], [], _, _ => .nil
  | v :: l, v' :: l', hl, h => by
    obtain ⟨u, h1, h2⟩ := h 0 v rfl
    simp at h1
    subst h1
    exact .cons h2 (VRs.of_get (by simpa using hl) fun i v hv => by simpa using h (i + 1) v (by simpa using hv))
  | [], _ :: _, hl, _ => by simp at hl
  | _ :: _, [], hl, _ => by simp at hl
theorem St.cells (h : St P w0 σ A X w) {b r s nn zz o n : Nat} {cs : List Value} (hb : σ b = some ⟨r, s, nn, zz⟩) (hg : cellsAt A b o n = some cs) :
    ∃ cs', cs'.length = n ∧ VRs σ cs cs' ∧ ∀ j v, cs'[j]? = some v → w.cell? ⟨r, s + o + j, none⟩ = some v := by
  unfold cellsAt at hg
  cases hx : A.get b with
  | none => rw [hx] at hg; simp at hg
  | some x =>
    rw [hx] at hg
    cases x with
    | map es clock => simp at hg
    | row c e =>
      obtain ⟨c', e', fr, hr⟩ := h.row hb hx
      have h1 := hr.heap
      have h2 := hr.val
      simp only at hg h1 h2
      cases hle : Nat.ble (o + n) c.length
      · rw [hle] at hg; simp at hg
      · rw [hle] at hg
        simp only [cond_true, Option.some.injEq] at hg
        have hle' := Nat.le_of_ble_eq_true hle
        subst hg
        have hj : ∀ j, j < n → ∃ v v', c[o + j]? = some v ∧ c'[s + o + j]? = some v' ∧ VR σ v v' := fun j hj => by
          have h3 : c[o + j]? = some c[o + j] := List.getElem?_eq_getElem (by omega)
          obtain ⟨v', h4, h5⟩ := h2 (o + j) _ h3
          exact ⟨_, v', h3, by rw [Nat.add_assoc]; exact h4, h5⟩
        refine ⟨(List.range n).map fun j => (c'[s + o + j]?).getD undef, by simp, VRs.of_get (by simp; omega) fun i v hv => ?_, fun j v hv => ?_⟩
        · have hin : i < n := by
            have := (List.getElem?_eq_some_iff.1 hv).1
            simp at this
            omega
          obtain ⟨u, v', h3, h4, h5⟩ := hj i hin
          have : v = u := by
            rw [List.getElem?_take_of_lt hin, List.getElem?_drop, h3] at hv
            injection hv with hv
            exact hv.symm
          subst this
          exact ⟨v', by simp [hin, h4], h5⟩
        · have hin : j < n := by
            have := (List.getElem?_eq_some_iff.1 hv).1
            simpa using this
          obtain ⟨u, v', h3, h4, h5⟩ := hj j hin
          simp [hin, h4] at hv
          subst hv
          simp [World.cell?, h1, h4]

/- Slots. -/
structure TR (ns : Nat) (σ : Sig) (tm : TM) (tmps : Array Value) : Prop where
  size : tmps.size = ns
  lt : ns < most
  val : ∀ t, t < ns → VR σ (tm.val (path t)) (tmps.getD t undef)
theorem TR.mono {σ σ' : Sig} (hs : σ.le σ') {ns : Nat} {tm : TM} {tmps : Array Value} (h : TR ns σ tm tmps) : TR ns σ' tm tmps := ⟨h.size, h.lt, fun t ht => (h.val t ht).mono hs⟩
theorem TR.ev {ns : Nat} {tm : TM} {a : Act} (h : TR ns σ tm a.tmps) (x : Operand) (hx : okO x = true) : VR σ ((co ns x).ev tm) (a.eval x) := by
  cases x with
  | tmp t =>
    cases hb : Nat.blt t ns
    · have hge : ns ≤ t := by
        have : ¬ t < ns := fun hl => by rw [show Nat.blt t ns = true from Nat.ble_eq_true_of_le hl] at hb; cases hb
        exact Nat.le_of_not_lt this
      have : a.eval (.tmp t) = undef := by
        show a.tmps.getD t undef = undef
        rw [Array.getD_eq_getD_getElem?, Array.getElem?_eq_none (by rw [h.size]; exact hge)]
        rfl
      rw [this]
      simp only [co, hb, cond_false]
      exact undef_r σ
    · have hlt : t < ns := Nat.le_of_ble_eq_true hb
      simp only [co, hb, cond_true]
      exact h.val t hlt
  | const v => exact clo_r σ hx
  | global g => exact .glob g
  | func f => exact .func .nil .nil
theorem TR.put {ns : Nat} {tm : TM} {tmps : Array Value} (h : TR ns σ tm tmps) {d : Nat} (hd : d < ns) {v v' : Value} (hv : VR σ v v') : TR ns σ (put tm (some (path d)) v) (tmps.setIfInBounds d v') := by
  refine ⟨by rw [Array.size_setIfInBounds]; exact h.size, h.lt, fun t ht => ?_⟩
  rw [val_put]
  by_cases e : t = d
  · subst e
    rw [if_pos rfl, Array.getD_eq_getD_getElem?, Array.getElem?_setIfInBounds_self_of_lt (by rw [h.size]; exact hd)]
    exact hv
  · have hp : path t ≠ path d := fun hp => e (path_inj (Nat.lt_trans ht h.lt) (Nat.lt_trans hd h.lt) hp)
    rw [if_neg hp, Array.getD_eq_getD_getElem?, Array.getElem?_setIfInBounds_ne (fun hh => e hh.symm), ← Array.getD_eq_getD_getElem?]
    exact h.val t ht

/- What the program's text tells. -/
theorem run_pure_of {α : Type} {s : Sem α} {a : α} : runPure P s = some a → ∀ w, s.run P w = .ok a w := by
  intro h
  induction s with
  | pure b => simp only [runPure, Option.some.injEq] at h; subst h; intro w; rfl
  | program k ih => intro w; exact ih P h w
  | choose q k ih =>
    intro w
    simp only [runPure] at h
    cases hq : q.forced
    · rw [hq] at h; simp at h
    · rw [hq] at h
      simp only [cond_true] at h
      simp only [Sem.run, hq, if_true]
      exact ih 0 h w
  | mark m k ih => intro w; exact ih h w
  | _ => simp [runPure] at h
theorem isAgg_run {t : TypeId} {b : Bool} (h : isAggT P t = some b) (w : World) : (isAgg t).run P w = .ok b w := by
  unfold isAggT at h
  cases hu : P.underlying t with
  | none => rw [hu] at h; simp at h
  | some d =>
    rw [hu] at h
    unfold isAgg
    simp only [Sem.run_bind, run_underlying hu, Result.andThen_ok]
    cases d <;> simp at h <;> subst h <;> rfl
theorem sizeT_info {t : TypeId} {n : Nat} (h : sizeT P t = some n) : ∃ i, P.info? t = some i ∧ i.size = n := by
  unfold sizeT at h
  cases hi : P.info? t with
  | none => rw [hi] at h; simp at h
  | some i => rw [hi] at h; simp at h; exact ⟨i, rfl, h⟩
theorem sizeOf_run {t : TypeId} {n : Nat} (h : sizeT P t = some n) (w : World) : (sizeOf t).run P w = .ok n w := by
  obtain ⟨i, hi, rfl⟩ := sizeT_info h
  simp [sizeOf, typeInfo, hi]
theorem zeroT_info {t : TypeId} {z : Value} (h : zeroT P t = some z) : ∃ i, P.info? t = some i ∧ i.zero = some z ∧ clo1 z = true := by
  unfold zeroT at h
  cases hi : P.info? t with
  | none => rw [hi] at h; simp at h
  | some i =>
    rw [hi] at h
    simp only at h
    cases hz : i.zero with
    | none => rw [hz] at h; simp at h
    | some u =>
      rw [hz] at h
      simp only at h
      cases hc : clo1 u
      · rw [hc] at h; simp at h
      · rw [hc] at h; simp at h; subst h; exact ⟨i, rfl, hz, hc⟩
theorem zero_run {t : TypeId} {z : Value} (h : zeroT P t = some z) (w : World) : (zeroValue t).run P w = .ok z w := by
  obtain ⟨i, hi, hz, _⟩ := zeroT_info h
  simp [zeroValue, typeInfo, hi, hz]
end
end Ev
end Go.Proofs.YtmohidgdmmkikaaGreatDoor
