/- The evaluator: its words: tries, what is worked out first, values that stand for one another. -/
import Derived.Test.YtmohidgdmmkikaaGreatDoorEv
import Derived.Below
namespace Go.Proofs.YtmohidgdmmkikaaGreatDoor
namespace Ev

/- Tries. -/
section
variable {α β : Type}
theorem setK_any (v : Option α) (p : Path) : ∀ (β : Type) (t : Tr α) (k : Tr α → β), Tr.setK v p t k = k (Tr.setK v p t id) := by
  induction p with
  | nil => intro β t k; cases t <;> rfl
  | cons b p ih =>
    intro β t k
    cases t with
    | nil =>
      cases b
      · show Tr.setK v p .nil (fun r => k (.node .nil none r)) = k (Tr.setK v p .nil (fun r => Tr.node .nil none r))
        rw [ih, ih _ .nil (fun r => Tr.node .nil none r)]
      · show Tr.setK v p .nil (fun r => k (.node r none .nil)) = k (Tr.setK v p .nil (fun r => Tr.node r none .nil))
        rw [ih, ih _ .nil (fun r => Tr.node r none .nil)]
    | node l x r =>
      cases b
      · show Tr.setK v p r (fun r' => k (.node l x r')) = k (Tr.setK v p r (fun r' => Tr.node l x r'))
        rw [ih, ih _ r (fun r' => Tr.node l x r')]
      · show Tr.setK v p l (fun r' => k (.node r' x r)) = k (Tr.setK v p l (fun r' => Tr.node r' x r))
        rw [ih, ih _ l (fun r' => Tr.node r' x r)]
theorem setK_eq (v : Option α) (p : Path) (t : Tr α) (k : Tr α → β) : Tr.setK v p t k = k (Tr.setK v p t id) := setK_any v p β t k
theorem get_nil (p : Path) : Tr.get (.nil : Tr α) p = none := rfl
theorem get_set (v : Option α) (p : Path) : ∀ (t : Tr α) (q : Path), Tr.get (Tr.setK v p t id) q = if q = p then v else Tr.get t q := by
  induction p with
  | nil => intro t q; cases t <;> cases q <;> simp [Tr.setK, Tr.get] <;> (rename_i b q; cases b <;> rfl)
  | cons b p ih =>
    intro t q
    cases t with
    | nil =>
      cases b
      · show Tr.get (Tr.setK v p .nil (fun r => .node .nil none r)) q = _
        rw [setK_eq]
        cases q with
        | nil => simp [Tr.get]
        | cons c q =>
          cases c
          · show Tr.get (Tr.setK v p .nil id) q = _
            rw [ih]; simp [get_nil]
          · show Tr.get (.nil : Tr α) q = _
            simp [get_nil]
      · show Tr.get (Tr.setK v p .nil (fun r => .node r none .nil)) q = _
        rw [setK_eq]
        cases q with
        | nil => simp [Tr.get]
        | cons c q =>
          cases c
          · show Tr.get (.nil : Tr α) q = _
            simp [get_nil]
          · show Tr.get (Tr.setK v p .nil id) q = _
            rw [ih]; simp [get_nil]
    | node l x r =>
      cases b
      · show Tr.get (Tr.setK v p r (fun r' => .node l x r')) q = _
        rw [setK_eq]
        cases q with
        | nil => simp [Tr.get]
        | cons c q =>
          cases c
          · show Tr.get (Tr.setK v p r id) q = if false :: q = false :: p then v else Tr.get r q
            rw [ih]; simp
          · show Tr.get l q = if true :: q = false :: p then v else Tr.get l q
            simp
      · show Tr.get (Tr.setK v p l (fun r' => .node r' x r)) q = _
        rw [setK_eq]
        cases q with
        | nil => simp [Tr.get]
        | cons c q =>
          cases c
          · show Tr.get r q = if false :: q = true :: p then v else Tr.get r q
            simp
          · show Tr.get (Tr.setK v p l id) q = if true :: q = true :: p then v else Tr.get l q
            rw [ih]; simp
end
theorem pathF_inj : ∀ (f n m : Nat), n + 1 < 2 ^ f → m + 1 < 2 ^ f → pathF f n = pathF f m → n = m := by
  intro f
  induction f with
  | zero => intro n m hn; simp at hn
  | succ f ih =>
    intro n m hn hm h
    have hp : 2 ^ (f + 1) = 2 * 2 ^ f := by rw [Nat.pow_succ]; omega
    rw [hp] at hn hm
    cases n with
    | zero => cases m with
      | zero => rfl
      | succ m => simp [pathF] at h
    | succ n => cases m with
      | zero => simp [pathF] at h
      | succ m =>
        simp only [pathF, List.cons.injEq] at h
        obtain ⟨h1, h2⟩ := h
        have h3 := ih (n / 2) (m / 2) (by omega) (by omega) h2
        have h4 : (n % 2 = 0) ↔ (m % 2 = 0) := by
          have e : ∀ x : Nat, (x % 2 = 0) ↔ Nat.beq (x % 2) 0 = true := fun x => by simp
          rw [e, e, h1]
        omega
theorem path_inj {n m : Nat} (hn : n < most) (hm : m < most) (h : path n = path m) : n = m := by
  unfold most at hn hm
  exact pathF_inj 48 n m (by omega) (by omega) h

/- What is worked out first is the same. -/
section
variable {β : Type}
theorem sNat_eq {β : Sort _} (n : Nat) (k : Nat → β) : sNat n k = k n := by cases n <;> rfl
theorem sInt_eq (n : Int) (k : Int → β) : sInt n k = k n := by cases n <;> simp only [sInt, sNat_eq]
theorem sBytes_eq (l : List UInt8) : ∀ (k : List UInt8 → β), sBytes l k = k l := by
  induction l with
  | nil => intro k; rfl
  | cons b l ih =>
    intro k
    show sNat b.toNat (fun n => sBytes l fun l => k (UInt8.ofNat n :: l)) = _
    rw [sNat_eq, ih]
    simp
theorem sAddr_eq (a : Addr) (k : Addr → β) : sAddr a k = k a := by cases a; simp only [sAddr, sNat_eq]
theorem sPtr_eq (a : Option Addr) (k : Option Addr → β) : sPtr a k = k a := by cases a <;> simp only [sPtr, sAddr_eq]
theorem sMap_eq (a : Option Nat) (k : Option Nat → β) : sMap a k = k a := by cases a <;> simp only [sMap, sNat_eq]
theorem sL_eq {f : Value → (Value → β) → β} (hf : ∀ v k, f v k = k v) (l : List Value) : ∀ (k : List Value → β), sL f l k = k l := by
  induction l with
  | nil => intro k; rfl
  | cons v l ih =>
    intro k
    show f v (fun v => sL f l fun l => k (v :: l)) = _
    rw [hf, ih]
theorem sWith_eq {f : Value → (Value → β) → β} (hf : ∀ v k, f v k = k v) (v : Value) (k : Value → β) : sWith f v k = k v := by
  cases v <;> simp only [sWith, sInt_eq, sBytes_eq, sPtr_eq, sMap_eq, sNat_eq, sL_eq hf, hf]
  case bool b => cases b <;> rfl
theorem sV0_eq (v : Value) (k : Value → β) : sV0 v k = k v := sWith_eq (fun _ _ => rfl) v k
theorem sV1_eq (v : Value) (k : Value → β) : sV1 v k = k v := sWith_eq sV0_eq v k
theorem sV_eq (v : Value) (k : Value → β) : sV v k = k v := sWith_eq sV1_eq v k
theorem sA_eq (A : AW) (k : AW → β) : sA A k = k A := by cases A; simp only [sA, sNat_eq]
theorem sEs_eq (l : List MapEntry) : ∀ (k : List MapEntry → β), sEs l k = k l := by
  induction l with
  | nil => intro k; rfl
  | cons e l ih =>
    intro k
    cases e
    show sV1 _ (fun a => sV1 _ fun b => sNat _ fun n => sEs l fun l => k (⟨a, b, n⟩ :: l)) = _
    simp only [sV1_eq, sNat_eq, ih]
theorem sObj_eq (o : AObj) (k : AObj → β) : sObj o k = k o := by cases o <;> simp only [sObj, sL_eq sV0_eq]
noncomputable def put (tm : TM) (dst : Option Path) (v : Value) : TM := match dst with
  | some d => Tr.setK (some v) d tm id
  | none => tm
theorem putK_eq (tm : TM) (dst : Option Path) (v : Value) (k : TM → β) : putK tm dst v k = k (put tm dst v) := by
  cases dst with
  | none => rfl
  | some d => simp only [putK, put, sV_eq]; exact setK_eq _ _ _ _
end

/- The heap that is meant. -/
noncomputable def AW.den (A : AW) (b : Nat) : Option AObj := if b < most then A.get b else none
theorem den_get {A : AW} {b : Nat} (h : b < most) : A.get b = A.den b := by simp [AW.den, h]
theorem upd_get (A : AW) (b c : Nat) (o : Option AObj) (hb : b < most) (hc : c < most) : (A.upd b o).get c = if c = b then o else A.get c := by
  unfold AW.upd
  rw [setK_eq]
  unfold AW.get
  rw [get_set]
  by_cases h : c = b
  · simp [h]
  · rw [if_neg h, if_neg (fun e => h (path_inj hc hb e))]
theorem upd_den (A : AW) {b : Nat} (o : Option AObj) (hb : b < most) (c : Nat) : (A.upd b o).den c = if c = b then o else A.den c := by
  unfold AW.den
  by_cases hc : c < most
  · simp only [hc, if_true]; exact upd_get A b c o hb hc
  · have : c ≠ b := by omega
    simp [hc, this]
theorem upd_next (A : AW) (b : Nat) (o : Option AObj) : (A.upd b o).next = A.next := by
  unfold AW.upd
  rw [setK_eq]
theorem new_spec {A A' : AW} {o : AObj} {b : Nat} (h : A.new o = some (b, A')) : b = A.next ∧ A.next + 2 ≤ most ∧ A'.next = A.next + 1 ∧ ∀ c, A'.den c = if c = b then some o else A.den c := by
  unfold AW.new at h
  by_cases hn : A.next + 2 ≤ most
  · have h2 : Nat.ble (A.next + 2) most = true := Nat.ble_eq_true_of_le hn
    rw [h2] at h
    simp only [cond_true] at h
    rw [setK_eq] at h
    simp only [sNat_eq, Option.some.injEq, Prod.mk.injEq] at h
    obtain ⟨rfl, rfl⟩ := h
    refine ⟨rfl, hn, rfl, fun c => ?_⟩
    have := upd_den A (b := A.next) (some o) (by omega) c
    unfold AW.upd at this
    rw [setK_eq] at this
    exact this
  · have h2 : Nat.ble (A.next + 2) most = false := by
      cases hx : Nat.ble (A.next + 2) most
      · rfl
      · exact absurd (Nat.le_of_ble_eq_true hx) hn
    rw [h2] at h
    simp at h

/- Slots. -/
theorem val_put (tm : TM) (p q : Path) (v : Value) : (put tm (some p) v).val q = if q = p then v else tm.val q := by
  unfold put TM.val
  simp only
  rw [get_set]
  by_cases h : q = p <;> simp [h]
theorem val_put_none (tm : TM) (v : Value) : put tm none v = tm := rfl

/- Values that stand for one another: σ tells where a name's block lies, and from which cell on. -/
/-- Where a name's row lies: the block, its first cell, how many cells the block has, how many an element has. -/
structure Loc where
  r : Nat
  s : Nat
  n : Nat
  z : Nat
abbrev Sig := Nat → Option Loc
mutual
inductive VR (σ : Sig) : Value → Value → Prop
  | clo {v : Value} (h : clo0 v = true) : VR σ v v
  | glob (g : Nat) : VR σ (.chan (some g)) (.pointer (some ⟨g, 0, none⟩))
  | ptr {b r s nn zz : Nat} (o : Nat) (h : σ b = some ⟨r, s, nn, zz⟩) : VR σ (.pointer (some ⟨b, o, none⟩)) (.pointer (some ⟨r, s + o, none⟩))
  | slc {b r s nn zz : Nat} (o n k c : Nat) (h : σ b = some ⟨r, s, nn, zz⟩) (h1 : k % 2 = 1 → c = k / 2) (h2 : k / 2 ≤ c) (h3 : k % 2 = 0 → s + o + c * zz ≤ nn) : VR σ (.slice (some ⟨b, o, none⟩) n k) (.slice (some ⟨r, s + o, none⟩) n c)
  | slc0 {b r s nn zz : Nat} (o o' k c : Nat) (h : σ b = some ⟨r, s, nn, zz⟩) (h1 : k ≤ 1) (h2 : k = 1 → c = 0) (h3 : k = 0 → o' + c * zz ≤ nn) : VR σ (.slice (some ⟨b, o, none⟩) 0 k) (.slice (some ⟨r, o', none⟩) 0 c)
  | map {b r nn zz : Nat} (h : σ b = some ⟨r, 0, nn, zz⟩) : VR σ (.map (some b)) (.map (some r))
  | func {fn : Fn} {a a' c c' : Array Value} (h1 : VRs σ a.toList a'.toList) (h2 : VRs σ c.toList c'.toList) : VR σ (.func fn a c) (.func fn a' c')
  | iface {t : TypeId} {v v' : Value} (h : VR σ v v') : VR σ (.iface t v) (.iface t v')
  | agg {a a' : Array Value} (h : VRs σ a.toList a'.toList) : VR σ (.agg a) (.agg a')
  | tuple {a a' : Array Value} (h : VRs σ a.toList a'.toList) : VR σ (.tuple a) (.tuple a')
inductive VRs (σ : Sig) : List Value → List Value → Prop
  | nil : VRs σ [] []
  | cons {v v' : Value} {l l' : List Value} (h : VR σ v v') (t : VRs σ l l') : VRs σ (v :: l) (v' :: l')
end
def Sig.le (σ σ' : Sig) : Prop := ∀ b x, σ b = some x → σ' b = some x
theorem Sig.le_refl (σ : Sig) : σ.le σ := fun _ _ h => h
theorem Sig.le_trans {a b c : Sig} (h : a.le b) (k : b.le c) : a.le c := fun _ _ hx => k _ _ (h _ _ hx)
mutual
theorem VR.mono {σ σ' : Sig} (hs : σ.le σ') : ∀ {v v' : Value}, VR σ v v' → VR σ' v v'
  | _, _, .clo h => .clo h
  | _, _, .glob g => .glob g
  | _, _, .ptr o h => .ptr o (hs _ _ h)
  | _, _, .slc o n k c h h1 h2 h3 => .slc o n k c (hs _ _ h) h1 h2 h3
  | _, _, .slc0 o o' k c h h1 h2 h3 => .slc0 o o' k c (hs _ _ h) h1 h2 h3
  | _, _, .map h => .map (hs _ _ h)
  | _, _, .func h1 h2 => .func (VRs.mono hs h1) (VRs.mono hs h2)
  | _, _, .iface h => .iface (VR.mono hs h)
  | _, _, .agg h => .agg (VRs.mono hs h)
  | _, _, .tuple h => .tuple (VRs.mono hs h)
theorem VRs.mono {σ σ' : Sig} (hs : σ.le σ') : ∀ {l l' : List Value}, VRs σ l l' → VRs σ' l l'
  | _, _, .nil => .nil
  | _, _, .cons h t => .cons (VR.mono hs h) (VRs.mono hs t)
end
section
variable {σ : Sig} {l l' m m' : List Value} {v v' : Value}
theorem VRs.len (h : VRs σ l l') : l.length = l'.length := by
  induction l generalizing l' with
  | nil => cases h; rfl
  | cons v l ih => cases h with | cons h t => simp [ih t]
theorem VRs.append (h : VRs σ l l') (k : VRs σ m m') : VRs σ (l ++ m) (l' ++ m') := by
  induction l generalizing l' with
  | nil => cases h; exact k
  | cons v l ih => cases h with | cons h t => exact .cons h (ih t)
theorem VRs.drop (h : VRs σ l l') (n : Nat) : VRs σ (l.drop n) (l'.drop n) := by
  induction n generalizing l l' with
  | zero => exact h
  | succ n ih => cases h with
    | nil => exact .nil
    | cons h t => exact ih t
theorem VRs.take (h : VRs σ l l') (n : Nat) : VRs σ (l.take n) (l'.take n) := by
  induction n generalizing l l' with
  | zero => exact .nil
  | succ n ih => cases h with
    | nil => exact .nil
    | cons h t => exact .cons h (ih t)
theorem VRs.get (h : VRs σ l l') {n : Nat} (hv : l[n]? = some v) : ∃ v', l'[n]? = some v' ∧ VR σ v v' := by
  induction n generalizing l l' with
  | zero => cases h with
    | nil => simp at hv
    | cons h t => simp at hv; subst hv; exact ⟨_, rfl, h⟩
  | succ n ih => cases h with
    | nil => simp at hv
    | cons h t => simpa using ih t (by simpa using hv)
theorem VRs.all {P : Value → Bool} (hP : ∀ v v', VR σ v v' → P v = P v') (h : VRs σ l l') : l.all P = l'.all P := by
  induction l generalizing l' with
  | nil => cases h; rfl
  | cons v l ih => cases h with | cons h t => simp [hP _ _ h, ih t]
theorem VRs.map {f g : CO → Value} {xs : List CO} (h : ∀ x ∈ xs, VR σ (f x) (g x)) : VRs σ (xs.map f) (xs.map g) := by
  induction xs with
  | nil => exact .nil
  | cons x xs ih => exact .cons (h x (by simp)) (ih fun y hy => h y (by simp [hy]))
theorem VRs.flatten {n : Nat} (h : VRs σ l l') : VRs σ (List.replicate n l).flatten (List.replicate n l').flatten := by
  induction n with
  | zero => exact .nil
  | succ n ih => simpa [List.replicate_succ] using h.append ih
theorem VRs.set (h : VRs σ l l') (n : Nat) (hv : VR σ v v') : VRs σ (l.set n v) (l'.set n v') := by
  induction n generalizing l l' with
  | zero => cases h with
    | nil => exact .nil
    | cons h t => exact .cons hv t
  | succ n ih => cases h with
    | nil => exact .nil
    | cons h t => exact .cons h (ih t)
end
/-- A closed value stands for itself, and for nothing else. -/
theorem clo0_eq {σ : Sig} {v v' : Value} (hc : clo0 v = true) (h : VR σ v v') : v' = v := by
  cases h <;> first | rfl | simp [clo0] at hc
theorem clo0_all {σ : Sig} : ∀ {l l' : List Value}, l.all clo0 = true → VRs σ l l' → l' = l
  | [], _, _, h => by cases h; rfl
  | v :: l, _, hc, h => by
    cases h with
    | cons h t =>
      simp only [List.all_cons, Bool.and_eq_true] at hc
      rw [clo0_eq hc.1 h, clo0_all hc.2 t]
theorem clo1_eq {σ : Sig} {v v' : Value} (hc : clo1 v = true) (h : VR σ v v') : v' = v := by
  cases h with
  | clo h => rfl
  | glob g => simp [clo1, clo0] at hc
  | ptr o h => simp [clo1, clo0] at hc
  | slc o n k c h => simp [clo1, clo0] at hc
  | slc0 o o' k c h => simp [clo1, clo0] at hc
  | map h => simp [clo1, clo0] at hc
  | func h1 h2 => simp [clo1, clo0] at hc
  | iface h =>
    rename_i t u u'
    cases u with
    | agg cs =>
      simp only [clo1] at hc
      cases h with
      | clo h => rfl
      | agg h => rw [Value.iface.injEq]; refine ⟨rfl, ?_⟩; rw [Value.agg.injEq]; exact Array.ext' (clo0_all hc h)
    | _ => simp only [clo1] at hc; rw [clo0_eq hc h]
  | agg h => simp only [clo1] at hc; rw [Value.agg.injEq]; exact Array.ext' (clo0_all hc h)
  | tuple h => simp [clo1, clo0] at hc
theorem clo1_all {σ : Sig} : ∀ {l l' : List Value}, l.all clo1 = true → VRs σ l l' → l' = l
  | [], _, _, h => by cases h; rfl
  | v :: l, _, hc, h => by
    cases h with
    | cons h t =>
      simp only [List.all_cons, Bool.and_eq_true] at hc
      rw [clo1_eq hc.1 h, clo1_all hc.2 t]
theorem clo_eq {σ : Sig} {v v' : Value} (hc : clo v = true) (h : VR σ v v') : v' = v := by
  cases v with
  | tuple vs =>
    simp only [clo] at hc
    cases h with
    | clo h => rfl
    | tuple h => rw [Value.tuple.injEq]; exact Array.ext' (clo1_all hc h)
  | _ => exact clo1_eq hc h
theorem clo0_rs (σ : Sig) : ∀ {l : List Value}, l.all clo0 = true → VRs σ l l
  | [], _ => .nil
  | v :: l, hc => by
    simp only [List.all_cons, Bool.and_eq_true] at hc
    exact .cons (.clo hc.1) (clo0_rs σ hc.2)
theorem clo1_r (σ : Sig) {v : Value} (hc : clo1 v = true) : VR σ v v := by
  cases v with
  | agg cs => exact .agg (clo0_rs σ hc)
  | iface t v =>
    cases v with
    | agg cs => exact .iface (.agg (clo0_rs σ hc))
    | _ => exact .iface (.clo hc)
  | _ => exact .clo hc
theorem clo1_rs (σ : Sig) : ∀ {l : List Value}, l.all clo1 = true → VRs σ l l
  | [], _ => .nil
  | v :: l, hc => by
    simp only [List.all_cons, Bool.and_eq_true] at hc
    exact .cons (clo1_r σ hc.1) (clo1_rs σ hc.2)
theorem clo_r (σ : Sig) {v : Value} (hc : clo v = true) : VR σ v v := by
  cases v with
  | tuple vs => exact .tuple (clo1_rs σ hc)
  | _ => exact clo1_r σ hc
theorem VR.cells {σ : Sig} {v v' : Value} (h : VR σ v v') : VRs σ (cellsL v) (v'.cells.toList) := by
  cases h with
  | clo h => cases v <;> first | exact .cons (.clo h) .nil | simp [clo0] at h
  | agg h => exact h
  | glob g => exact .cons (.glob g) .nil
  | ptr o h => exact .cons (.ptr o h) .nil
  | slc o n k c h h1 h2 h3 => exact .cons (.slc o n k c h h1 h2 h3) .nil
  | slc0 o o' k c h h1 h2 h3 => exact .cons (.slc0 o o' k c h h1 h2 h3) .nil
  | map h => exact .cons (.map h) .nil
  | func h1 h2 => exact .cons (.func h1 h2) .nil
  | iface h => exact .cons (.iface h) .nil
  | tuple h => exact .cons (.tuple h) .nil
theorem cellsL_eq (v : Value) : cellsL v = v.cells.toList := by cases v <;> rfl
theorem VR.atom {σ : Sig} {v v' : Value} (h : VR σ v v') : atomB v = atomB v' := by cases h <;> rfl
theorem undef_r (σ : Sig) : VR σ undef undef := .tuple .nil
end Ev
end Go.Proofs.YtmohidgdmmkikaaGreatDoor
