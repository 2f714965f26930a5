/- The quick evaluator is the evaluator: ints, what acts. -/
import Derived.Test.YtmohidgdmmkikaaGreatDoorEvF2
import Derived.Test.YtmohidgdmmkikaaGreatDoorEv13
namespace Go.Proofs.YtmohidgdmmkikaaGreatDoor
namespace Ev

theorem boolrec_any {α : Type} {b : Bool} {x y : α} : @Bool.rec (fun _ => α) x y b = bif b then y else x := by cases b <;> rfl
theorem ble63 (s : Nat) : Nat.ble s 9223372036854775807 = Nat.blt s 9223372036854775808 := by
  rw [Bool.eq_iff_iff]
  unfold Nat.blt
  rw [Nat.ble_eq, Nat.ble_eq]
  omega
theorem ble_not (m n : Nat) : Nat.ble m n = !Nat.blt n m := by
  unfold Nat.blt
  rw [Bool.eq_iff_iff, Bool.not_eq_true', ← Bool.not_eq_true]
  rw [Nat.ble_eq, Nat.ble_eq]
  omega
theorem ovB_eq (b : Bool) : ovB b = some (.bool b) := by cases b <;> rfl
theorem wrN_eq (k : IntKind) (s : Nat) : wrN k s (some (.int k (wrapI k (.ofNat s)))) = some (.int k (wrapI k (.ofNat s))) := by
  cases k with
  | i64 =>
    show i64F s _ = _
    unfold i64F
    rw [boolrec_any, sNO_eq, ble63]
    cases h : Nat.blt s 9223372036854775808
    · rfl
    · simp only [wrapI, h, cond_true]
  | u8 => exact sNO_eq _ _
  | u32 => exact sNO_eq _ _
  | u64 => exact sNO_eq _ _
  | _ => rfl
/-- A quick way of two ints. -/
def IOk (g : IF) (f : IntKind → Int → Int → Option Value) : Prop := ∀ k m n, g k m n (f k (.ofNat m) (.ofNat n)) = f k (.ofNat m) (.ofNat n)
theorem add_ok : IOk addF fun k a b => some (.int k (wrapI k (a + b))) := fun k m n => wrN_eq k (m + n)
theorem mul_ok : IOk mulF fun k a b => some (.int k (wrapI k (a * b))) := fun k m n => wrN_eq k (m * n)
theorem sub_ok : IOk subF fun k a b => some (.int k (wrapI k (a - b))) := by
  intro k m n
  unfold subF
  rw [boolrec_any]
  cases h : Nat.ble n m
  · rfl
  · have := Nat.le_of_ble_eq_true h
    have e : (Int.ofNat m - Int.ofNat n) = Int.ofNat (m - n) := (Int.ofNat_sub this).symm
    show wrN k (m - n) (some (.int k (wrapI k (Int.ofNat m - Int.ofNat n)))) = some (.int k (wrapI k (Int.ofNat m - Int.ofNat n)))
    rw [e]
    exact wrN_eq k (m - n)
theorem eql_ok : IOk eqlF fun _ a b => some (.bool (eqI a b)) := fun _ _ _ => ovB_eq _
theorem neq_ok : IOk neqF fun _ a b => some (.bool (!eqI a b)) := by
  intro k m n
  unfold neqF
  show _ = some (Value.bool (!Nat.beq m n))
  cases Nat.beq m n <;> rfl
theorem lss_ok : IOk lssF fun _ a b => some (.bool (ltI a b)) := fun _ _ _ => ovB_eq _
theorem leq_ok : IOk leqF fun _ a b => some (.bool (!ltI b a)) := fun _ m n => (ovB_eq _).trans (by rw [ble_not]; rfl)
theorem gtr_ok : IOk gtrF fun _ a b => some (.bool (ltI b a)) := fun _ _ _ => ovB_eq _
theorem geq_ok : IOk geqF fun _ a b => some (.bool (!ltI a b)) := fun _ m n => (ovB_eq _).trans (by rw [ble_not]; rfl)
theorem kNo_inj {k l : IntKind} (h : Nat.beq (kNo k) (kNo l) = true) : k = l := by
  have := Nat.eq_of_beq_eq_true h
  cases k <;> cases l <;> first | rfl | exact absurd this (by decide)
theorem rdIntsF_eq {g : IF} {f : IntKind → Int → Int → Option Value} (h : IOk g f) : rdIntsF g f = rdInts f := by
  funext x y tm A
  unfold rdIntsF
  rw [vN_eq, evF_eq, evF_eq]
  split
  · rename_i k m hx
    rw [vN_eq]
    split
    · rename_i l n hy
      rw [boolrec_any]
      cases hk : Nat.beq (kNo k) (kNo l)
      · rfl
      · obtain rfl := kNo_inj hk
        have : rdInts f x y tm A = f k (.ofNat m) (.ofNat n) := by
          unfold rdInts
          rw [hx, hy]
          simp
        rw [this]
        exact h k m n
    · rfl
  · rfl
theorem rdConvF_eq : rdConvF = rdConv := by
  funext k x tm A
  unfold rdConvF
  rw [vN_eq, evF_eq]
  split
  · rename_i l n hx
    have : rdConv k x tm A = some (.int k (wrapI k (.ofNat n))) := by unfold rdConv; rw [hx]
    rw [this]
    exact wrN_eq k n
  · rfl
theorem kBits_eq (k : IntKind) : kBits k = k.bits := by cases k <;> rfl
theorem rdShrF_eq : rdShrF = rdShr := by
  funext x y tm A
  unfold rdShrF
  rw [vN_eq, evF_eq, evF_eq]
  split
  · rename_i k m hx
    rw [vN_eq]
    split
    · rename_i l n hy
      rw [boolrec_any, kBits_eq, sNO_eq]
      cases hk : Nat.ble n k.bits
      · rfl
      · unfold rdShr
        rw [hx, hy]
        simp only [hk, cond_true]
        rfl
    · rfl
  · rfl
theorem rdLenSF_eq (t : TypeId) : rdLenSF = rdLen (.slice t) := by
  funext x tm A
  unfold rdLenSF rdLen
  rw [evF_eq]
  cases x.ev tm <;> rfl
/- What acts. -/
theorem vPo_eq {v : Value} {f : Nat → Nat → Out} : vPo v f .no = match v with
  | .pointer (some ⟨b, o, none⟩) => f b o
  | _ => .no := by
  cases v with
  | pointer a =>
    cases a with
    | none => rfl
    | some a =>
      obtain ⟨b, o, s⟩ := a
      cases s <;> rfl
  | _ => rfl
theorem lenF_eq : ∀ l : List Value, lenF l = l.length
  | [] => rfl
  | _ :: l => congrArg Nat.succ (lenF_eq l)
theorem atomF_eq (v : Value) : atomF v () = atomB v := by cases v <;> rfl
theorem allAt_eq : ∀ l : List Value, allAt l = l.all atomB
  | [] => rfl
  | v :: l => by
    show @Bool.rec (fun _ => Bool) false (allAt l) (atomF v ()) = _
    rw [allAt_eq l, atomF_eq, List.all_cons]
    cases atomB v <;> rfl
theorem stV_eq (v : Value) (n : Nat) (k : List Value → Out) : stV v n k = bif Nat.beq (cellsL v).length n then k (cellsL v) else .no := by
  cases v with
  | agg cs =>
    show @Bool.rec (fun _ => Out) .no (k cs.toList) (Nat.beq (lenF cs.toList) n) = bif Nat.beq cs.toList.length n then k cs.toList else .no
    rw [lenF_eq, boolrec_any]
  | _ => exact boolrec_any
theorem ovF_eq : ∀ (cs c : List Value) (k : List Value → Out), ovF cs c k = overK .no cs c k
  | [], _, _ => rfl
  | v :: cs, c, k => by
    cases c with
    | nil => rfl
    | cons x c =>
      show ovF cs c (consO k v) = sV0 v fun v => overK .no cs c (consK k v)
      rw [sV0_eq, ovF_eq cs c]
      rfl
theorem splF_eq (cs : List Value) : ∀ (o : Nat) (c : List Value) (k : List Value → Out), splF cs o c k = splK .no cs o c k
  | 0, c, k => ovF_eq cs c k
  | _ + 1, [], _ => rfl
  | o + 1, v :: c, k => splF_eq cs o c (consO k v)
theorem wrA_eq (v : Value) (A : AW) (b o : Nat) (cs : List Value) : wrA v A b o cs = valA v (wr A b o cs) := by
  unfold wrA
  rw [boolrec_any, allAt_eq]
  obtain ⟨t, nx⟩ := A
  have e : (AW.mk t nx).get b = gO (pathN b) t := by rw [gO_eq, pathN_eq]; rfl
  show (bif cs.all atomB then @Option.rec AObj (fun _ => Tr AObj → Nat → Value → Nat → Nat → List Value → Out) (fun _ _ _ _ _ _ => .no) (fun ob t nx v b o cs => @AObj.rec (fun _ => Tr AObj → Nat → Value → Nat → Nat → List Value → Out) (fun c e t nx v b o cs => splF cs o c fun c' => sO (pathN b) t (some (.row c' e)) fun t' => .val v ⟨t', nx⟩) (fun _ _ _ _ _ _ _ _ => .no) ob t nx v b o cs) (gO (pathN b) t) t nx v b o cs else .no) = _
  unfold wr
  rw [e]
  cases gO (pathN b) t with
  | none => cases cs.all atomB <;> rfl
  | some ob =>
    cases ob with
    | map es c => cases cs.all atomB <;> rfl
    | row c e =>
      cases cs.all atomB with
      | false => rfl
      | true =>
        show (splF cs o c fun c' => sO (pathN b) t (some (.row c' e)) fun t' => .val v ⟨t', nx⟩) = valA v (splK none cs o c fun c' => some ((AW.mk t nx).upd b (some (.row c' e))))
        rw [splF_eq, spl_eq, spl_eq]
        by_cases h : o + cs.length ≤ c.length
        · rw [if_pos h, if_pos h, valA_some, sO_eq, pathN_eq, setK_eq]
          unfold AW.upd
          rw [setK_eq _ _ _ (fun t' => (⟨t', _⟩ : AW))]
        · rw [if_neg h, if_neg h]
          rfl
theorem acStoreF_eq : acStoreF = acStore := by
  funext n a x tm A
  unfold acStoreF acStore
  rw [vPo_eq, evF_eq, evF_eq]
  generalize a.ev tm = v
  split
  · rw [stV_eq, wrA_eq]
  · rename_i h
    split
    · exact absurd rfl (h _ _)
    · rfl
theorem evsO_eq (tm : TM) : ∀ (l : List CO) (k : List Value → Out), evsO l tm k = k (l.map (·.ev tm))
  | [], _ => rfl
  | x :: l, k => by
    show @Option.rec Value (fun _ => (TM → (List Value → Out) → Out) → TM → (List Value → Out) → Out) (fun _ _ _ => .no) (fun v ih tm k => ih tm (consO k v)) (evO x tm) (evsO l) tm k = _
    rw [evO_eq]
    show evsO l tm (consO k (x.ev tm)) = _
    rw [evsO_eq tm l]
    rfl
theorem acCallF_eq : acCallF = acCall := by
  funext f args tm A
  unfold acCallF acCall
  rw [evsO_eq]
theorem newF_eq (e : TypeId) (f : Nat → Value) (A : AW) (cs : List Value) : newF e f A cs = newRow e f cs A := by
  obtain ⟨t, nx⟩ := A
  unfold newRow
  rw [sL_eq sV0_eq]
  unfold AW.new
  show @Bool.rec (fun _ => Out) .no (sO (pathN nx) t (some (.row cs e)) fun t' => sNo (Nat.succ nx) fun m => .val (f nx) ⟨t', m⟩) (Nat.ble (Nat.add nx 2) most) = _
  rw [boolrec_any]
  show (bif Nat.ble (nx + 2) most then _ else _) = _
  cases Nat.ble (nx + 2) most with
  | false => rfl
  | true =>
    simp only [cond_true, sO_eq, pathN_eq, sNo_eq, sNat_eq]
    rw [setK_eq, setK_eq _ _ _ (fun t => some (nx, (⟨t, nx + 1⟩ : AW)))]
theorem olO_eq (l : OL) (f : List Value → Out) : olO l f = match l with
  | some l => f l
  | none => .no := by cases l <;> rfl
theorem killF_eq (A : AW) (k b : Nat) (g : AW → Out) : killF A k b g = g (bif Nat.beq (k % 2) 1 then A else A.upd b none) := by
  unfold killF
  rw [boolrec_any]
  show (bif Nat.beq (k % 2) 1 then _ else _) = _
  cases Nat.beq (k % 2) 1 with
  | true => rfl
  | false =>
    obtain ⟨t, nx⟩ := A
    show (sO (pathN b) t none fun t' => g ⟨t', nx⟩) = g ((AW.mk t nx).upd b none)
    rw [sO_eq, pathN_eq, setK_eq]
    unfold AW.upd
    rw [setK_eq _ _ _ (fun t' => (⟨t', _⟩ : AW))]
theorem appS_eq (elem size m : Nat) (new : List Value) (A : AW) (b o n k : Nat) : appS elem size m new A b o n k = appendTo elem size (.slice (some ⟨b, o, none⟩) n k) m new A := by
  unfold appS appendTo
  simp only [boolrec_any, sNo_eq, wrA_eq, newF_eq, killF_eq, olO_eq, cellsF_base]
  show (bif Nat.ble (n + m) (k / 2) then valA (aslc b o (n + m) k) (wr A b (o + n * size) new) else _) = _
  cases Nat.ble (n + m) (k / 2) with
  | true => rfl
  | false =>
    show (bif (bif Nat.ble n bigN then bif Nat.ble k bigN then elemOk A b elem k else false else false) then _ else _) = bif (Nat.ble n bigN && Nat.ble k bigN && elemOk A b elem k) then _ else _
    have e : (bif Nat.ble n bigN then bif Nat.ble k bigN then elemOk A b elem k else false else false) = (Nat.ble n bigN && Nat.ble k bigN && elemOk A b elem k) := by
      cases Nat.ble n bigN <;> cases Nat.ble k bigN <;> rfl
    rw [e]
    cases (Nat.ble n bigN && Nat.ble k bigN && elemOk A b elem k) with
    | false => rfl
    | true =>
      show (match Option.map (· ++ new) (cellsAt A b o (n * size)) with | some l => _ | none => _) = match cellsAt A b o (n * size) with | some old => _ | none => _
      cases cellsAt A b o (n * size) with
      | none => rfl
      | some old => rfl
theorem apV_eq (elem size m : Nat) (new : List Value) (A : AW) (v : Value) : apV v elem size m new A = appendTo elem size v m new A := by
  cases v with
  | slice a n c =>
    cases a with
    | none =>
      show @Bool.rec (fun _ => Out) .no (@Bool.rec (fun _ => Out) .no (sNo (Nat.mul 2 m) fun c => newF elem (fun b => aslc b 0 m c) A new) (Nat.beq c 0)) (Nat.beq n 0) = _
      simp only [boolrec_any, sNo_eq, newF_eq]
      cases n with
      | succ n => rfl
      | zero =>
        cases c with
        | succ c => rfl
        | zero => rfl
    | some ad =>
      obtain ⟨b, o, s⟩ := ad
      cases s with
      | none => exact appS_eq elem size m new A b o n c
      | some s => rfl
  | _ => rfl
theorem vSo_eq {v : Value} {f : Nat → Nat → Nat → Nat → Out} {d : Out} : vSo v f d = match v with
  | .slice (some ⟨b, o, none⟩) n k => f b o n k
  | _ => d := by
  cases v with
  | slice a n c =>
    cases a with
    | none => rfl
    | some a =>
      obtain ⟨b, o, s⟩ := a
      cases s <;> rfl
  | _ => rfl
theorem cellsAt_len {A : AW} {b o n : Nat} {l : List Value} (h : cellsAt A b o n = some l) : l.length = n := by
  unfold cellsAt at h
  split at h
  · rename_i c e _
    cases hb : Nat.ble (o + n) c.length
    · rw [hb] at h; cases h
    · rw [hb] at h
      injection h with h
      have := Nat.le_of_ble_eq_true hb
      subst h
      rw [List.length_take, List.length_drop]
      omega
  · cases h
theorem acAppendF_eq : acAppendF = acAppend := by
  funext elem size s x tm A
  unfold acAppendF
  rw [vSo_eq, evF_eq]
  split
  · rename_i xb xo xn xk hx
    cases xn with
    | zero => rfl
    | succ m =>
      show olO (cellsF [] A xb xo (Nat.mul (Nat.succ m) size)) (fun new => apC elem size s tm A (Nat.succ m) new) = _
      unfold acAppend
      rw [hx, olO_eq, cellsF_eq]
      show _ = match cellsAt A xb xo ((m + 1) * size) with | none => _ | some new => _
      show (match cellsAt A xb xo ((m + 1) * size) with | some l => _ | none => _) = _
      cases h : cellsAt A xb xo ((m + 1) * size) with
      | none => rfl
      | some new =>
        show apC elem size s tm A (m + 1) new = bif new.all atomB && Nat.ble m bigN && Nat.beq new.length ((m + 1) * size) then appendTo elem size (s.ev tm) (m + 1) new A else .no
        unfold apC
        rw [cellsAt_len h, Nat.beq_refl, Bool.and_true, boolrec_any, boolrec_any, allAt_eq, evF_eq, apV_eq]
        show (bif (bif Nat.ble m bigN then new.all atomB else false) then _ else _) = _
        cases Nat.ble m bigN <;> cases new.all atomB <;> rfl
  · rfl
end Ev
end Go.Proofs.YtmohidgdmmkikaaGreatDoor
