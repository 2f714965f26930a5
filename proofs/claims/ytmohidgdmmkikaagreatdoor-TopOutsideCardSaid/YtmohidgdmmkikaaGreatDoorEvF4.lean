/- The quick evaluator is the evaluator: operations, regions, the code, calls. -/
import Derived.Test.YtmohidgdmmkikaaGreatDoorEvF3
namespace Go.Proofs.YtmohidgdmmkikaaGreatDoor
namespace Ev

section
variable (P : Program) (ns : Nat)
theorem cf_ci (c : CI) : c.cf.ci = c := by cases c <;> rfl
theorem map_cf (c : Option CI) : (c.map CI.cf).map CF.ci = c := by
  cases c with
  | none => rfl
  | some c => exact congrArg some (cf_ci c)
theorem rd_map (f g : TM → AW → OV) (h : f = g) : Option.map CF.ci (some (.rc f)) = some (.rd g) := by rw [h]; rfl
theorem act_map (f g : TM → AW → Out) (h : f = g) : Option.map CF.ci (some (.act f)) = some (.act g) := by rw [h]; rfl
theorem ciBinF_eq (o : Oper) (op : BinOp) (t : TypeId) (x y : CO) : (ciBinF P ns o op t x y).map CF.ci = ciBin P ns o op t x y := by
  have slow := map_cf (ciBin P ns o op t x y)
  have fast : ∀ (f : IntKind → Int → Int → Option Value) (g : IF) (k : IntKind), intOp op = some f → fastOp op = some g → under P t = some (.int k) → IOk g f → (ciBinF P ns o op t x y).map CF.ci = ciBin P ns o op t x y := by
    intro f g k h1 h2 h3 h4
    unfold ciBinF ciBin
    rw [h1, h2, h3]
    show Option.map CF.ci (some (.rc (orElseF (rdIntsF g f x y) (rdClosed P ns o)))) = some (.rd (orElse (rdInts f x y) (rdClosed P ns o)))
    exact rd_map _ _ (by rw [orElseF_eq, rdIntsF_eq h4])
  cases hu : under P t with
  | none => rw [← slow]; unfold ciBinF; rw [hu]; cases intOp op <;> cases fastOp op <;> rfl
  | some d =>
    cases d with
    | int k =>
      cases op with
      | add => exact fast _ _ k rfl rfl hu add_ok
      | sub => exact fast _ _ k rfl rfl hu sub_ok
      | mul => exact fast _ _ k rfl rfl hu mul_ok
      | eql => exact fast _ _ k rfl rfl hu eql_ok
      | neq => exact fast _ _ k rfl rfl hu neq_ok
      | lss => exact fast _ _ k rfl rfl hu lss_ok
      | leq => exact fast _ _ k rfl rfl hu leq_ok
      | gtr => exact fast _ _ k rfl rfl hu gtr_ok
      | geq => exact fast _ _ k rfl rfl hu geq_ok
      | shr =>
        unfold ciBinF ciBin
        rw [hu]
        show Option.map CF.ci (some (.rc (orElseF (rdShrF x y) (rdClosed P ns o)))) = some (.rd (orElse (rdShr x y) (rdClosed P ns o)))
        exact rd_map _ _ (by rw [orElseF_eq, rdShrF_eq])
      | _ => rw [← slow]; unfold ciBinF; rw [hu]; rfl
    | _ => rw [← slow]; unfold ciBinF; rw [hu]; cases intOp op <;> cases fastOp op <;> rfl
theorem partOfF_eq (t : TypeId) (off : Nat) : partOfF P t off = partOf P t off := by
  unfold partOfF partOf
  rw [partNF_eq, part1F_eq]
  cases isAggT P t with
  | none => rfl
  | some b => cases b <;> cases sizeT P t <;> rfl
theorem cfOf_eq (o : Oper) : (cfOf P ns o).map CF.ci = ci P ns o := by
  have slow := map_cf (ci P ns o)
  cases ho : o.op with
  | move x => unfold cfOf ci; rw [ho]; exact rd_map _ _ (by rw [rdMoveF_eq])
  | assign x => unfold cfOf ci; rw [ho]; exact rd_map _ _ (by rw [rdMoveF_eq])
  | pick c a b => unfold cfOf ci; rw [ho]; exact rd_map _ _ (by rw [rdPickF_eq])
  | alloc t =>
    unfold cfOf ci
    simp only [ho]
    cases zeroT P t <;> rfl
  | load t a =>
    unfold cfOf ci
    simp only [ho, rdLoadF_eq, rdLoadNF_eq]
    cases isAggT P t with
    | none => rfl
    | some b => cases b <;> cases sizeT P t <;> rfl
  | store t a x =>
    unfold cfOf ci
    simp only [ho, acStoreF_eq]
    cases sizeT P t <;> rfl
  | nilCheck x => unfold cfOf ci; rw [ho]; exact rd_map _ _ (by rw [rdNilCheckF_eq])
  | binOp op t x y z =>
    unfold cfOf ci
    simp only [ho]
    exact ciBinF_eq P ns o op t _ _
  | unOp op t x =>
    unfold cfOf
    simp only [ho]
    cases op with
    | not => simp only [ci, ho, rdNotF_eq]; rfl
    | _ => exact slow
  | convert src dst x =>
    unfold cfOf
    simp only [ho]
    split
    · rename_i j k h1 h2
      simp only [ci, ho, h1, h2, rdConvF_eq, orElseF_eq]
      rfl
    · exact slow
  | fieldAddr s x f =>
    unfold cfOf ci
    simp only [ho, rdFieldF_eq]
    cases under P s with
    | none => rfl
    | some d =>
      cases d with
      | struct fields =>
        dsimp only
        cases fields.toList[f]? with
        | none => rfl
        | some fd =>
          dsimp only
          cases sizeT P fd.type with
          | none => rfl
          | some n => cases n <;> rfl
      | _ => rfl
  | field t x f =>
    unfold cfOf ci
    simp only [ho, rdPartF_eq, partOfF_eq]
    cases under P t with
    | none => rfl
    | some d =>
      cases d with
      | struct fields =>
        dsimp only
        cases fields.toList[f]? with
        | none => rfl
        | some fd =>
          dsimp only
          cases partOf P fd.type fd.offset <;> rfl
      | _ => rfl
  | indexAddr t x i =>
    unfold cfOf ci
    simp only [ho, rdIndexArrF_eq, rdIndexSlcF_eq]
    cases under P t with
    | none => rfl
    | some d =>
      cases d with
      | array len elem =>
        dsimp only
        cases sizeT P elem <;> rfl
      | slice elem =>
        dsimp only
        cases sizeT P elem <;> rfl
      | _ => rfl
  | extract t i => unfold cfOf ci; rw [ho]; exact rd_map _ _ (by rw [rdExtractF_eq])
  | call c =>
    unfold cfOf
    simp only [ho]
    split
    · rename_i f hf
      cases hb : hasBody P f with
      | false => exact slow
      | true =>
        simp only [ci, ho, ciCall, hf, hb, cond_true, acCallF_eq]
        rfl
    · rename_i b hb
      split
      · rename_i s x st xt h2 h3
        split
        · rename_i elem e2 h4 h5
          simp only [ci, ho, ciCall, hb, h2, h3, h4, h5, acAppendF_eq]
          cases sizeT P elem with
          | none => rfl
          | some size =>
            cases size with
            | zero => rfl
            | succ size =>
              cases zeroT P elem with
              | none => rfl
              | some z =>
                cases bytesT P elem with
                | none => rfl
                | some b =>
                  cases b with
                  | zero => rfl
                  | succ b =>
                    show Option.map CF.ci (bif Nat.ble b 1000000 && Nat.beq (cellsL z).length (size + 1) then some (CF.act (acAppend elem (size + 1) s x)) else none) = (bif Nat.ble b 1000000 && Nat.beq (cellsL z).length (size + 1) then some (CI.act (acAppend elem (size + 1) s x)) else none)
                    cases (Nat.ble b 1000000 && Nat.beq (cellsL z).length (size + 1)) <;> rfl
        · exact slow
      · rename_i x t h2 h3
        split
        · rename_i e h4
          simp only [ci, ho, ciCall, hb, h2, h3, h4, rdLenSF_eq e]
          rfl
        · exact slow
      · exact slow
    · exact slow
  | _ => unfold cfOf; rw [ho]; exact slow
noncomputable def QR.cr (c : QR) : CR := ⟨c.cf.ci, c.dst, c.guard⟩
theorem qr_eq (ops : List Oper) (o : Oper) : (qr P ns ops o).map QR.cr = cr P ns ops o := by
  unfold qr cr
  rw [← cfOf_eq]
  cases cfOf P ns o with
  | none => rfl
  | some c =>
    cases guardOf ns ops o with
    | none => rfl
    | some g =>
      cases pathO ns o.dst with
      | none => rfl
      | some d =>
        show Option.map QR.cr (bif o.op.operands.toList.all okO then some ⟨c, d, g⟩ else none) = bif o.op.operands.toList.all okO then some ⟨c.ci, d, g⟩ else none
        cases o.op.operands.toList.all okO <;> rfl
theorem qrs_eq (ops : List Oper) : ∀ l : List Oper, (qrs P ns ops l).map (List.map QR.cr) = crs P ns ops l
  | [] => rfl
  | o :: l => by
    unfold qrs crs
    rw [← qr_eq, ← qrs_eq ops l]
    cases qr P ns ops o with
    | none => rfl
    | some c => cases qrs P ns ops l <;> rfl
end
/- Regions. -/
theorem putD_eq (dst : Option Path) (v : Value) (tm : TM) (k : TM → R2) : putD dst v tm k = putK tm dst v k := by
  cases dst with
  | none => rfl
  | some p =>
    show sT p tm (some v) k = sV v fun v => Tr.setK (some v) p tm k
    rw [sV_eq, sT_eq]
theorem putS_eq (dst : Option Path) (v : Value) (tm : TM) (k : TM → R2) : putS dst v tm k = putK tm dst v k := by
  cases dst with
  | none => rfl
  | some p =>
    show (sF2 v fun v => sT p tm (some v) k) = sV v fun v => Tr.setK (some v) p tm k
    rw [sV_eq, sF2_eq, sT_eq]
theorem finF_eq (dst : Option Path) (tm : TM) (ih : Nx) (r : ORV) : finF r dst tm ih = finish dst tm ih r := by
  cases r with
  | none => rfl
  | some p =>
    obtain ⟨v, A⟩ := p
    exact putD_eq _ _ _ _
theorem newR_eq (A : AW) (o : AObj) (k : Nat → AW → R2) : newR A o k = match A.new o with
  | some (b, A') => k b A'
  | none => .no := by
  obtain ⟨t, nx⟩ := A
  unfold AW.new
  show @Bool.rec (fun _ => R2) .no (sOr (pathN nx) t (some o) fun t' => sN (Nat.succ nx) fun m => k nx ⟨t', m⟩) (Nat.ble (Nat.add nx 2) most) = _
  rw [boolrec_any]
  show (bif Nat.ble (nx + 2) most then _ else _) = _
  cases Nat.ble (nx + 2) most with
  | false => rfl
  | true =>
    simp only [cond_true, sOr_eq, pathN_eq, sN_eq, sNat_eq]
    rw [setK_eq, setK_eq _ _ _ (fun t => some (nx, (⟨t, nx + 1⟩ : AW)))]
theorem exF_eq (c : CF) (dst : Option Path) (call : CallF) (ih : Nx) (tm : TM) (A : AW) : exF c dst call ih tm A = exec1 call c.ci dst tm A ih := by
  cases c with
  | rc f =>
    show ovR putD (f tm A) dst tm A ih = match f tm A with | some v => putK tm dst v fun tm => ih tm A | none => .no
    cases f tm A with
    | none => rfl
    | some v => exact putD_eq _ _ _ _
  | rd f =>
    show ovR putS (f tm A) dst tm A ih = match f tm A with | some v => putK tm dst v fun tm => ih tm A | none => .no
    cases f tm A with
    | none => rfl
    | some v => exact putS_eq _ _ _ _
  | mkc f =>
    show @Option.rec (AObj × (Nat → Value)) (fun _ => Option Path → Nx → TM → AW → R2) _ _ (f tm) dst ih tm A = match f tm with | some (o, g) => (sObj o fun o => match A.new o with | some (b, A') => putK tm dst (g b) fun tm => ih tm A' | none => .no) | none => .no
    cases f tm with
    | none => rfl
    | some p =>
      obtain ⟨o, g⟩ := p
      show newR A o (fun b A' => putS dst (g b) tm fun tm => ih tm A') = sObj o fun o => match A.new o with | some (b, A') => putK tm dst (g b) fun tm => ih tm A' | none => .no
      rw [sObj_eq, newR_eq]
      simp only [putS_eq]
  | mk f => rfl
  | act f =>
    show outF (f tm A) call dst tm ih = match f tm A with | .val v A' => putK tm dst v fun tm => ih tm A' | .ent g args A' => finish dst tm ih (call g args A') | .no => .no
    cases f tm A with
    | val v A' => exact putS_eq _ _ _ _
    | ent g args A' => exact finF_eq _ _ _ _
    | no => rfl
theorem wB_eq (p : Path) (want : Bool) (tm : TM) : wB (p, want) tm = match tm.val p with
  | .bool b => b == want
  | _ => false := by
  show wBV (valF p tm) want = _
  rw [valF_eq]
  cases tm.val p with
  | bool b => cases b <;> cases want <;> rfl
  | _ => rfl
theorem stepF_eq (c : QR) (call : CallF) (ih : Nx) (tm : TM) (A : AW) : stepF c call ih tm A = stepCR call c.cr ih tm A := by
  obtain ⟨cf, dst, g⟩ := c
  cases g with
  | none => exact exF_eq _ _ _ _ _ _
  | some p =>
    obtain ⟨p, want⟩ := p
    show @Bool.rec (fun _ => CF → Option Path → CallF → Nx → TM → AW → R2) (fun _ dst _ ih tm A => putD dst undef tm fun tm => ih tm A) exF (wB (p, want) tm) cf dst call ih tm A = bif (match tm.val p with | .bool b => b == want | _ => false) then exec1 call cf.ci dst tm A ih else putK tm dst undef fun tm => ih tm A
    rw [wB_eq]
    cases (match tm.val p with | .bool b => b == want | _ => false) with
    | true => exact exF_eq _ _ _ _ _ _
    | false => exact putD_eq _ _ _ _
theorem seqF_eq (call : CallF) : ∀ l : List QR, seqF call l = seqOps call (l.map QR.cr)
  | [] => rfl
  | c :: l => by
    funext tm A
    show stepF c call (seqF call l) tm A = stepCR call c.cr (seqOps call (l.map QR.cr)) tm A
    rw [stepF_eq, seqF_eq call l]
/- The code. -/
theorem seqR_eq (r : R) (rec : Rec1) (b : Code) : seqR r rec b = match r with
  | .norm tm' A' => rec (.c b) tm' A'
  | .exit i tm' A' => .exit i tm' A'
  | .goto l tm' A' => .goto l tm' A'
  | .ret tm' A' => .ret tm' A'
  | .no => .no := by cases r <;> rfl
theorem blockR_eq (r : R) (i : Nat) : blockR r i = match r with
  | .norm tm' A' => .norm tm' A'
  | .exit j tm' A' => bif Nat.beq j i then .norm tm' A' else .exit j tm' A'
  | .goto l tm' A' => .goto l tm' A'
  | .ret tm' A' => .ret tm' A'
  | .no => .no := by
  cases r with
  | exit j tm A =>
    show @Bool.rec (fun _ => Nat → TM → AW → R) .exit (fun _ tm A => .norm tm A) (Nat.beq j i) j tm A = bif Nat.beq j i then .norm tm A else .exit j tm A
    cases Nat.beq j i <;> rfl
  | _ => rfl
theorem scopeR_eq (r : R) (rec : Rec1) (whole : Code) : scopeR r rec whole = match r with
  | .norm tm' A' => .norm tm' A'
  | .exit j tm' A' => .exit j tm' A'
  | .goto l tm' A' => match findLabel whole l with
    | some rest => rec (.s whole rest) tm' A'
    | none => .goto l tm' A'
  | .ret tm' A' => .ret tm' A'
  | .no => .no := by
  cases r with
  | goto l tm A =>
    show @Option.rec Code (fun _ => Nat → TM → AW → Rec1 → Code → R) (fun l tm A _ _ => .goto l tm A) (fun rest _ tm A rec whole => rec (.s whole rest) tm A) (findLabel whole l) l tm A rec whole = match findLabel whole l with | some rest => rec (.s whole rest) tm A | none => .goto l tm A
    cases findLabel whole l <;> rfl
  | _ => rfl
theorem condR_eq (P : Program) (x : Operand) (ns : Nat) (tm : TM) (rec : Rec1) (a b : Code) (A : AW) (call : CallF) : condR x ns tm rec a b A = jobStep P ns call rec (.c (.cond x a b)) tm A := by
  unfold condR
  rw [boolrec_any]
  show _ = bif okO x then doCond rec ((co ns x).ev tm) a b tm A else .no
  rw [evF_eq]
  cases okO x with
  | false => rfl
  | true =>
    show condV ((co ns x).ev tm) rec a b tm A = doCond rec ((co ns x).ev tm) a b tm A
    cases (co ns x).ev tm with
    | bool c => cases c <;> rfl
    | _ => rfl
theorem normF_eq (r : R2) : normF r = normal r := by cases r <;> rfl
theorem jobF_eq (P : Program) (ns : Nat) (call : CallF) (rec : Rec1) (j : Job) (tm : TM) (A : AW) : jobF j P ns call rec tm A = jobStep P ns call rec j tm A := by
  cases j with
  | s whole b => exact scopeR_eq _ _ _
  | c c =>
    cases c with
    | region id ops d =>
      cases d with
      | true => rfl
      | false =>
        show regionF call tm A (qrs P ns ops.toList ops.toList) = doRegion call tm A (crs P ns ops.toList ops.toList)
        rw [← qrs_eq]
        cases qrs P ns ops.toList ops.toList with
        | none => rfl
        | some l =>
          show normF (seqF call l tm A) = normal (seqOps call (l.map QR.cr) tm A)
          rw [seqF_eq, normF_eq]
    | seq a b => exact seqR_eq _ _ _
    | cond x a b => exact condR_eq P x ns tm rec a b A call
    | block i b => exact blockR_eq _ _
    | loop b => exact seqR_eq _ _ _
    | scope b => exact scopeR_eq _ _ _
    | _ => rfl
theorem runF_eq (P : Program) (ns : Nat) (call : CallF) : ∀ n, runF P ns call n = run P ns call n
  | 0 => rfl
  | n + 1 => by
    funext j tm A
    show jobF j P ns call (runF P ns call n) tm A = jobStep P ns call (run P ns call n) j tm A
    rw [jobF_eq, runF_eq P ns call n]
/- Calls. -/
theorem entF_eq (k : TM → ORV) : ∀ (l : List Value) (i : Nat) (tm : TM), entF l i tm k = enterTM k l i tm
  | [], _, _ => rfl
  | v :: l, i, tm => by
    show (sTr (pathN i) tm (some v) fun tm => entF l (i + 1) tm k) = sV v fun v => Tr.setK (some v) (path i) tm (enterTM k l (i + 1))
    rw [sV_eq, sTr_eq, pathN_eq]
    congr 1
    funext tm
    exact entF_eq k l (i + 1) tm
theorem cellV_eq (P : Program) (ns a t : Nat) (tm : TM) (A : AW) : cellV P ns a t tm A = match isAggT P t, sizeT P t with
  | some true, some n => rdLoadN n (co ns (.tmp a)) tm A
  | some false, _ => rdLoad (co ns (.tmp a)) tm A
  | _, _ => none := by
  unfold cellV
  rw [rdLoadNF_eq, rdLoadF_eq]
  cases isAggT P t with
  | none => rfl
  | some b => cases b <;> cases sizeT P t <;> rfl
theorem resF_eq (P : Program) (ns : Nat) (tm : TM) (A : AW) : ∀ (l : List ResultVar) (k : List Value → ORV), resF P ns l tm A k = (match resL P ns l tm A with
    | some vs => k vs
    | none => none)
  | [], _ => rfl
  | .tmp t :: l, k => by
    show ovK (evO (co ns (.tmp t)) tm) k (resF P ns l tm A) = _
    rw [evO_eq]
    show resF P ns l tm A (consR k _) = _
    rw [resF_eq P ns tm A l]
    show _ = match (match resL P ns l tm A with | some vs => some (((co ns (.tmp t)).ev tm) :: vs) | none => none) with | some vs => k vs | none => none
    cases resL P ns l tm A <;> rfl
  | .cell a t :: l, k => by
    show ovK (cellV P ns a t tm A) k (resF P ns l tm A) = _
    rw [cellV_eq]
    unfold resL
    have e : ∀ o : OV, ovK o k (resF P ns l tm A) = match (match o, resL P ns l tm A with | some v, some vs => some (v :: vs) | _, _ => none) with | some vs => k vs | none => none := by
      intro o
      cases o with
      | none => rfl
      | some v =>
        show resF P ns l tm A (consR k v) = _
        rw [resF_eq P ns tm A l]
        cases resL P ns l tm A <;> rfl
    cases isAggT P t with
    | none => rfl
    | some b =>
      cases b with
      | true =>
        cases sizeT P t with
        | none => rfl
        | some n => exact e _
      | false => cases sizeT P t <;> exact e _
theorem doneF_eq (P : Program) (fn : Func) (tm : TM) (A : AW) : doneF P fn tm A = done P fn tm A := by
  unfold doneF done
  rw [resF_eq]
  cases resL P fn.ntmps fn.results.toList tm A <;> rfl
theorem endsF_eq (P : Program) (fn : Func) (r : R) : endsF P fn r = ends P fn r := by
  cases r with
  | norm tm A => exact doneF_eq P fn tm A
  | ret tm A => exact doneF_eq P fn tm A
  | _ => rfl
theorem enterFF_eq (P : Program) (o : Option Func) (call : CallF) (args : List Value) (A : AW) : enterFF P o call args A = enterF P call args A o := by
  cases o with
  | none => rfl
  | some fn =>
    show bodyF P fn fn.body call args A = _
    unfold enterF
    show bodyF P fn fn.body call args A = match fn.body with | some b => bif Nat.ble fn.ntmps 281474976710600 && Nat.ble args.length fn.ntmps then enterTM (fun tm => ends P fn (run P fn.ntmps call 1000000 (.c b) tm A)) args 0 .nil else none | none => none
    cases fn.body with
    | none => rfl
    | some b =>
      show @Bool.rec (fun _ => ORV) none (entF args 0 .nil fun tm => endsF P fn (runF P fn.ntmps call 1000000 (.c b) tm A)) (@Bool.rec (fun _ => Bool) false (Nat.ble (lenF args) fn.ntmps) (Nat.ble fn.ntmps 281474976710600)) = _
      rw [boolrec_any, boolrec_any, lenF_eq, entF_eq, runF_eq]
      have e : (fun tm => endsF P fn (run P fn.ntmps call 1000000 (.c b) tm A)) = fun tm => ends P fn (run P fn.ntmps call 1000000 (.c b) tm A) := by
        funext tm
        exact endsF_eq P fn _
      rw [e]
      cases Nat.ble fn.ntmps 281474976710600 <;> rfl
theorem callF_eq (P : Program) (orc : Orc) : ∀ n, callF P orc n = callN P orc n
  | 0 => by funext f args A; rfl
  | n + 1 => by
    funext f args A
    show @Option.rec CallF (fun _ => CallF → FuncId → List Value → AW → ORV) (fun ih f args A => enterFF P P.funcs[f]? ih args A) (fun g _ f args A => g f args A) (orc f) (callF P orc n) f args A = match orc f with | some g => g f args A | none => enterF P (callN P orc n) args A P.funcs[f]?
    cases orc f with
    | some g => rfl
    | none =>
      show enterFF P P.funcs[f]? (callF P orc n) args A = _
      rw [enterFF_eq, callF_eq P orc n]
end Ev
end Go.Proofs.YtmohidgdmmkikaaGreatDoor
