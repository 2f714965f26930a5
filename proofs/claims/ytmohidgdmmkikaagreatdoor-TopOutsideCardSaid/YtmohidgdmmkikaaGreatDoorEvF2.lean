/- The quick evaluator is the evaluator: tries, what is worked out first, reads. -/
import Derived.Test.YtmohidgdmmkikaaGreatDoorEvF
import Derived.Test.YtmohidgdmmkikaaGreatDoorEv2
namespace Go.Proofs.YtmohidgdmmkikaaGreatDoor
namespace Ev

theorem gV_eq : ∀ (p : Path) (t : TM), gV p t = Tr.get t p
  | [], t => by cases t <;> rfl
  | b :: p, t => by
    cases t with
    | nil => rfl
    | node l v r => cases b <;> first | exact gV_eq p r | exact gV_eq p l
theorem gO_eq : ∀ (p : Path) (t : Tr AObj), gO p t = Tr.get t p
  | [], t => by cases t <;> rfl
  | b :: p, t => by
    cases t with
    | nil => rfl
    | node l v r => cases b <;> first | exact gO_eq p r | exact gO_eq p l
theorem pathR_eq : ∀ (f n : Nat), pathR f n = pathF f n
  | 0, _ => rfl
  | f + 1, 0 => rfl
  | f + 1, n + 1 => by
    show Nat.beq (n % 2) 0 :: pathR f (n / 2) = _
    rw [pathR_eq f]
    rfl
theorem pathN_eq (n : Nat) : pathN n = path n := pathR_eq 48 n
theorem sT_eq (v : OV) : ∀ (p : Path) (t : TM) (k : TM → R2), sT p t v k = Tr.setK v p t k
  | [], t, k => by cases t <;> rfl
  | b :: p, t, k => by
    cases t with
    | nil => cases b <;> first | exact sT_eq v p .nil _ | exact sT_eq v p .nil _
    | node l x r => cases b <;> first | exact sT_eq v p r _ | exact sT_eq v p l _
theorem sTr_eq (v : OV) : ∀ (p : Path) (t : TM) (k : TM → ORV), sTr p t v k = Tr.setK v p t k
  | [], t, k => by cases t <;> rfl
  | b :: p, t, k => by
    cases t with
    | nil => cases b <;> first | exact sTr_eq v p .nil _ | exact sTr_eq v p .nil _
    | node l x r => cases b <;> first | exact sTr_eq v p r _ | exact sTr_eq v p l _
theorem sO_eq (v : Option AObj) : ∀ (p : Path) (t : Tr AObj) (k : Tr AObj → Out), sO p t v k = Tr.setK v p t k
  | [], t, k => by cases t <;> rfl
  | b :: p, t, k => by
    cases t with
    | nil => cases b <;> first | exact sO_eq v p .nil _ | exact sO_eq v p .nil _
    | node l x r => cases b <;> first | exact sO_eq v p r _ | exact sO_eq v p l _
theorem sOr_eq (v : Option AObj) : ∀ (p : Path) (t : Tr AObj) (k : Tr AObj → R2), sOr p t v k = Tr.setK v p t k
  | [], t, k => by cases t <;> rfl
  | b :: p, t, k => by
    cases t with
    | nil => cases b <;> first | exact sOr_eq v p .nil _ | exact sOr_eq v p .nil _
    | node l x r => cases b <;> first | exact sOr_eq v p r _ | exact sOr_eq v p l _
theorem valF_eq (p : Path) (tm : TM) : valF p tm = tm.val p := by unfold valF TM.val; rw [gV_eq]
theorem evF_eq (x : CO) (tm : TM) : evF x tm = x.ev tm := by cases x <;> first | exact valF_eq _ _ | exact rfl
theorem orU_eq (o : OV) : orU o = some (Option.rec (motive := fun _ => Value) undef (fun v => v) o) := by cases o <;> rfl
theorem evO_eq (x : CO) (tm : TM) : evO x tm = some (x.ev tm) := by
  cases x
  · rename_i p
    show orU (gV p tm) = some (tm.val p)
    rw [orU_eq, gV_eq]
    rfl
  · rfl
theorem getF_eq (A : AW) (b : Nat) : getF A b = A.get b := by
  cases A
  show gO (pathN b) _ = Tr.get _ (path b)
  rw [gO_eq, pathN_eq]
theorem sN_eq (n : Nat) (k : Nat → R2) : sN n k = k n := by cases n <;> rfl
theorem sNO_eq (n : Nat) (k : Nat → OV) : sNO n k = k n := by cases n <;> rfl
theorem sNo_eq (n : Nat) (k : Nat → Out) : sNo n k = k n := by cases n <;> rfl
theorem sI_eq (n : Int) (k : Int → R2) : sI n k = k n := by cases n <;> first | exact sN_eq _ _ | exact sN_eq _ _
theorem sAd_eq (a : Addr) (k : Addr → R2) : sAd a k = k a := by
  cases a
  show sN _ (fun b => sN _ fun o => _) = _
  rw [sN_eq, sN_eq]
theorem sPt_eq (a : Option Addr) (k : Option Addr → R2) : sPt a k = k a := by
  cases a with
  | none => rfl
  | some a => exact sAd_eq a fun a => k (some a)
theorem sMp_eq (a : Option Nat) (k : Option Nat → R2) : sMp a k = k a := by
  cases a with
  | none => rfl
  | some a => exact sN_eq a fun a => k (some a)
theorem sF0_eq (v : Value) (k : Value → R2) : sF0 v k = k v := by
  cases v with
  | bool b => cases b <;> rfl
  | int d n => exact sI_eq _ _
  | string s => exact sBytes_eq _ _
  | pointer a => exact sPt_eq _ _
  | slice a n c =>
    show sPt a (fun a => sN n fun n => sN c fun c => k (.slice a n c)) = _
    rw [sPt_eq, sN_eq, sN_eq]
  | map r => exact sMp_eq _ _
  | _ => rfl
theorem sL0_eq : ∀ (l : List Value) (k : List Value → R2), sL0 l k = k l
  | [], _ => rfl
  | v :: l, k => by
    show sF0 v (fun v => sL0 l (consF k v)) = _
    rw [sF0_eq, sL0_eq l]
    rfl
theorem sF1_eq (v : Value) (k : Value → R2) : sF1 v k = k v := by
  cases v with
  | bool b => cases b <;> rfl
  | int d n => exact sI_eq _ _
  | string s => exact sBytes_eq _ _
  | pointer a => exact sPt_eq _ _
  | slice a n c =>
    show sPt a (fun a => sN n fun n => sN c fun c => k (.slice a n c)) = _
    rw [sPt_eq, sN_eq, sN_eq]
  | map r => exact sMp_eq _ _
  | func fn a b =>
    show sL0 a.toList (fun a => sL0 b.toList fun b => k (.func fn ⟨a⟩ ⟨b⟩)) = _
    rw [sL0_eq, sL0_eq]
  | iface t v => exact sF0_eq _ _
  | agg cs => exact sL0_eq _ _
  | tuple cs => exact sL0_eq _ _
  | _ => rfl
theorem sL1_eq : ∀ (l : List Value) (k : List Value → R2), sL1 l k = k l
  | [], _ => rfl
  | v :: l, k => by
    show sF1 v (fun v => sL1 l (consF k v)) = _
    rw [sF1_eq, sL1_eq l]
    rfl
theorem sF2_eq (v : Value) (k : Value → R2) : sF2 v k = k v := by
  cases v with
  | bool b => cases b <;> rfl
  | int d n => exact sI_eq _ _
  | string s => exact sBytes_eq _ _
  | pointer a => exact sPt_eq _ _
  | slice a n c =>
    show sPt a (fun a => sN n fun n => sN c fun c => k (.slice a n c)) = _
    rw [sPt_eq, sN_eq, sN_eq]
  | map r => exact sMp_eq _ _
  | func fn a b =>
    show sL1 a.toList (fun a => sL1 b.toList fun b => k (.func fn ⟨a⟩ ⟨b⟩)) = _
    rw [sL1_eq, sL1_eq]
  | iface t v => exact sF1_eq _ _
  | agg cs => exact sL1_eq _ _
  | tuple cs => exact sL1_eq _ _
  | _ => rfl
/- Rows. -/
theorem nth_eq : ∀ (l : List Value) (o : Nat), nth l o = l[o]?
  | [], o => by cases o <;> rfl
  | v :: l, 0 => rfl
  | v :: l, o + 1 => nth_eq l o
theorem takeT_eq (base : List Value) : ∀ (n : Nat) (c : List Value) (k : List Value → OL), takeT base n c k = bif Nat.ble n c.length then k (c.take n ++ base) else none
  | 0, c, k => by
    show k base = _
    cases c <;> rfl
  | n + 1, [], k => rfl
  | n + 1, v :: c, k => by
    show takeT base n c (consL k v) = _
    rw [takeT_eq base n c]
    rfl
theorem dropT_eq (base : List Value) (n : Nat) : ∀ (o : Nat) (c : List Value), dropT base n o c = bif Nat.ble (o + n) c.length then some ((c.drop o).take n ++ base) else none
  | 0, c => by
    show takeT base n c some = _
    rw [takeT_eq, Nat.zero_add]
    rfl
  | o + 1, [] => by
    have : Nat.ble (o + 1 + n) ([] : List Value).length = false := by rw [Nat.add_right_comm]; rfl
    rw [this]
    rfl
  | o + 1, v :: c => by
    show dropT base n o c = _
    rw [dropT_eq base n o c, Nat.add_right_comm]
    rfl
theorem cellAtF_eq (A : AW) (b o : Nat) : cellAtF A b o = cellAt A b o := by
  unfold cellAtF cellAt
  rw [getF_eq]
  cases A.get b with
  | none => rfl
  | some ob => cases ob <;> first | exact nth_eq _ _ | exact rfl
theorem cellsF_eq (A : AW) (b o n : Nat) : cellsF [] A b o n = cellsAt A b o n := by
  unfold cellsF cellsAt
  rw [getF_eq]
  cases A.get b with
  | none => rfl
  | some ob =>
    cases ob
    · refine (dropT_eq _ _ _ _).trans ?_
      rw [List.append_nil]
    · rfl
theorem cellsF_base (base : List Value) (A : AW) (b o n : Nat) : cellsF base A b o n = (cellsAt A b o n).map (· ++ base) := by
  unfold cellsF cellsAt
  rw [getF_eq]
  cases A.get b with
  | none => rfl
  | some ob =>
    cases ob
    · rename_i c e
      refine (dropT_eq _ _ _ _).trans ?_
      show _ = Option.map _ (bif Nat.ble (o + n) c.length then some ((c.drop o).take n) else none)
      cases Nat.ble (o + n) c.length <;> rfl
    · rfl
theorem aggF_eq (o : OL) : aggF o = aggOf o := by cases o <;> rfl
/- Reads. -/
theorem rdMoveF_eq : rdMoveF = rdMove := by funext x tm A; exact evO_eq x tm
theorem rdPickF_eq : rdPickF = rdPick := by
  funext c a b tm A
  unfold rdPickF rdPick
  rw [evF_eq, evO_eq, evO_eq]
  cases c.ev tm with
  | bool x => cases x <;> rfl
  | _ => rfl
theorem vP_eq {v : Value} {f : Nat → Nat → OV} : vP v f none = match v with
  | .pointer (some ⟨b, o, none⟩) => f b o
  | _ => none := by
  cases v with
  | pointer a =>
    cases a with
    | none => rfl
    | some a =>
      obtain ⟨b, o, s⟩ := a
      cases s <;> rfl
  | _ => rfl
theorem rdLoadF_eq : rdLoadF = rdLoad := by
  funext a tm A
  unfold rdLoadF rdLoad
  rw [vP_eq, evF_eq]
  generalize a.ev tm = v
  split
  · exact cellAtF_eq _ _ _
  · rename_i h
    split
    · exact absurd rfl (h _ _)
    · rfl
theorem rdLoadNF_eq : rdLoadNF = rdLoadN := by
  funext n a tm A
  unfold rdLoadNF rdLoadN
  rw [vP_eq, evF_eq]
  generalize a.ev tm = v
  split
  · rw [aggF_eq, cellsF_eq]
  · rename_i h
    split
    · exact absurd rfl (h _ _)
    · rfl
theorem rdFieldF_eq : rdFieldF = rdField := by
  funext off a tm A
  unfold rdFieldF rdField
  rw [vP_eq, evF_eq]
  generalize a.ev tm = v
  split
  · exact sNO_eq _ _
  · rename_i h
    split
    · exact absurd rfl (h _ _)
    · rfl
theorem vN_eq {v : Value} {f : IntKind → Nat → OV} {d : OV} : vN v f d = match v with
  | .int k (.ofNat n) => f k n
  | _ => d := by
  cases v with
  | int k n => cases n <;> rfl
  | _ => rfl
theorem vS_eq {v : Value} {f : Nat → Nat → Nat → Nat → OV} : vS v f none = match v with
  | .slice (some ⟨b, o, none⟩) n k => f b o n k
  | _ => none := by
  cases v with
  | slice a n c =>
    cases a with
    | none => rfl
    | some a =>
      obtain ⟨b, o, s⟩ := a
      cases s <;> rfl
  | _ => rfl
theorem boolrec_eq {b : Bool} {x y : OV} : @Bool.rec (fun _ => OV) x y b = bif b then y else x := by cases b <;> rfl
theorem rdIndexArrF_eq : rdIndexArrF = rdIndexArr := by
  funext len size x i tm A
  unfold rdIndexArrF rdIndexArr
  simp only [vN_eq, vP_eq, evF_eq, sNO_eq, boolrec_eq]
  cases i.ev tm with
  | int k n =>
    cases n with
    | ofNat n =>
      show (match x.ev tm with
        | .pointer (some ⟨b, o, none⟩) => bif Nat.ble n.succ len then some (aptr b (Nat.add o (Nat.mul n size))) else none
        | _ => none) = _
      split
      · rename_i h; rw [h]; rfl
      · rename_i h
        split
        · rename_i h1 h2; exact absurd h2 (h _ _)
        · rfl
    | negSucc n => rfl
  | _ => rfl
theorem rdIndexSlcF_eq : rdIndexSlcF = rdIndexSlc := by
  funext size x i tm A
  unfold rdIndexSlcF rdIndexSlc
  simp only [vN_eq, vS_eq, evF_eq, sNO_eq, boolrec_eq]
  cases i.ev tm with
  | int k n =>
    cases n with
    | ofNat n =>
      show (match x.ev tm with
        | .slice (some ⟨b, o, none⟩) len _ => bif Nat.ble n.succ len then some (aptr b (Nat.add o (Nat.mul n size))) else none
        | _ => none) = _
      split
      · rename_i h; rw [h]; rfl
      · rename_i h
        split
        · rename_i h1 h2; exact absurd h2 (h _ _ _ _)
        · rfl
    | negSucc n => rfl
  | _ => rfl
theorem rdNilCheckF_eq : rdNilCheckF = rdNilCheck := by
  funext x tm A
  unfold rdNilCheckF rdNilCheck
  rw [evF_eq]
  cases x.ev tm with
  | pointer a => cases a <;> rfl
  | func f a b => cases f <;> rfl
  | _ => rfl
theorem rdNotF_eq : rdNotF = rdNot := by
  funext x tm A
  unfold rdNotF rdNot
  rw [evF_eq]
  cases x.ev tm with
  | bool b => cases b <;> rfl
  | _ => rfl
theorem part1F_eq : part1F = part1 := by funext off cs; exact nth_eq cs off
theorem partNF_eq : partNF = partN := by
  funext n off cs
  unfold partNF partN
  rw [aggF_eq, dropT_eq]
  cases Nat.ble (off + n) cs.length
  · rfl
  · simp [aggOf]
theorem rdPartF_eq : rdPartF = rdPart := by
  funext f x tm A
  unfold rdPartF rdPart
  rw [evF_eq]
  cases x.ev tm <;> rfl
theorem rdExtractF_eq : rdExtractF = rdExtract := by
  funext i x tm A
  unfold rdExtractF rdExtract
  rw [evF_eq]
  cases x.ev tm with
  | tuple vs => exact nth_eq _ _
  | _ => rfl
theorem orElseF_eq : orElseF = orElse := by
  funext f g tm A
  unfold orElseF orElse
  cases f tm A <;> rfl
end Ev
end Go.Proofs.YtmohidgdmmkikaaGreatDoor
