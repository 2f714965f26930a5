/- The evaluator: maps that are read, values that are built; all that reads. -/
import Derived.Test.YtmohidgdmmkikaaGreatDoorEv7
namespace Go.Proofs.YtmohidgdmmkikaaGreatDoor
open Go.RowKit
namespace Ev

section
variable {P : Program} {w w0 : World} {σ : Sig} {A : AW} {X : Nat → Option AObj} {tm : TM} {v u u2 k : Value} {x y : CO} {t kt : TypeId} {d : TypeDesc}
def FR (σ : Sig) : Option (Nat × Value) → Option (Nat × Value) → Prop
  | none, none => True
  | some (i, v), some (j, v') => i = j ∧ VR σ v v'
  | _, _ => False
theorem findNow_r : ∀ {es es' : List MapEntry}, ERs σ es es' → ∀ i, (∀ r, Instr.findNow d k es i = some r → ∃ r', Instr.findNow d k es' i = some r' ∧ FR σ r r') ∧ (Instr.findNow d k es i = none → Instr.findNow d k es' i = none)
  | _, _, .nil, i => ⟨fun r h => ⟨none, rfl, by simp [Instr.findNow] at h; subst h; trivial⟩, fun h => by simp [Instr.findNow] at h⟩
  | e :: l, e' :: l', .cons hk hc hb hv t, i => by
    have ih := findNow_r t (i + 1)
    constructor
    · intro r h
      simp only [Instr.findNow, hk] at h ⊢
      split at h
      · injection h with h
        subst h
        exact ⟨_, rfl, rfl, hv⟩
      · exact ih.1 r h
      · simp at h
    · intro h
      simp only [Instr.findNow, hk] at h ⊢
      split at h
      · simp at h
      · exact ih.2 h
      · rfl
theorem findAsk_r : ∀ {es es' : List MapEntry}, ERs σ es es' → ∀ i r, findAsk P kt k es i = some r → ∃ r', (Instr.findAsking kt k es' i).run P w = .ok r' w ∧ FR σ r r'
  | _, _, .nil, i, r, h => ⟨none, rfl, by simp [findAsk] at h; subst h; trivial⟩
  | e :: l, e' :: l', .cons hk hc hb hv t, i, r, h => by
    simp only [findAsk] at h
    simp only [Instr.findAsking, Sem.run_bind, hk]
    split at h
    · rename_i hr
      injection h with h
      subst h
      refine ⟨some (i, e'.val), ?_, rfl, hv⟩
      simp only [run_pure_of hr w, Result.andThen_ok, if_true, Sem.run_pure]
    · rename_i hr
      obtain ⟨r', h1, h2⟩ := findAsk_r t (i + 1) r h
      refine ⟨r', ?_, h2⟩
      simp only [run_pure_of hr w, Result.andThen_ok, Bool.false_eq_true, if_false, h1]
    · simp at h
theorem find_r {es es' : List MapEntry} (hd : P.underlying kt = some d) (h : ERs σ es es') {r : Option (Nat × Value)} (hf : find P kt d k es = some r) : ∃ r', (Instr.findKey kt k es').run P w = .ok r' w ∧ FR σ r r' := by
  unfold find at hf
  split at hf
  · rename_i r2 hr
    injection hf with hf
    subst hf
    obtain ⟨r', h1, h2⟩ := (findNow_r h 0).1 _ hr
    exact ⟨r', by simp only [Instr.findKey, Sem.run_bind, run_underlying hd, Result.andThen_ok, h1, Sem.run_pure], h2⟩
  · rename_i hr
    obtain ⟨r', h1, h2⟩ := findAsk_r (w := w) h 0 r hf
    exact ⟨r', by simp only [Instr.findKey, Sem.run_bind, run_underlying hd, Result.andThen_ok, (findNow_r h 0).2 hr, h1], h2⟩
theorem keyOk_run {empty : Bool} (hd : P.underlying kt = some d) (h : keyOk P empty kt d k = true) : clo k = true ∧ (Instr.checkKey empty 10000 kt k).run P w = .ok () w := by
  unfold keyOk at h
  rw [Bool.and_eq_true] at h
  refine ⟨h.1, ?_⟩
  have h2 := h.2
  split at h2
  · have : ∀ n, (Instr.checkKey empty (n + 1) kt (.int (by assumption) (by assumption))).run P w = .ok () w := fun n => by
      simp only [Instr.checkKey, Sem.run_bind, run_underlying hd, Result.andThen_ok, Sem.run_pure]
    exact this 9999
  · obtain ⟨a, ha⟩ := Option.isSome_iff_exists.1 h2
    exact run_pure_of ha w
theorem entriesOf_r (h : St P w0 σ A X w) {q : Value} {es : List MapEntry} (hu : VR σ q u) (hg : entriesOf A q = some es) : (u = .map none ∧ es = []) ∨ ∃ r es' clock, u = .map (some r) ∧ ERs σ es es'.toList ∧ (getObj r).run P w = .ok (.map es' clock) w := by
  unfold entriesOf at hg
  split at hg
  · injection hg with hg
    exact .inl ⟨clo0_eq rfl hu, hg.symm⟩
  · split at hg
    · rename_i b es2 clock hb
      injection hg with hg
      subst hg
      obtain ⟨r, nn, zz, h1, rfl⟩ := hu.map_inv
      obtain ⟨es', h2, h3⟩ := h.entries h1 hb
      exact .inr ⟨r, es', clock, rfl, h3, by simp [getObj, Sem.run, h2]⟩
    · simp at hg
  · simp at hg
theorem ERs.empty {l : List MapEntry} {l' : Array MapEntry} (h : ERs σ l l'.toList) : l'.isEmpty = l.isEmpty := by
  obtain ⟨l'⟩ := l'
  cases h <;> rfl
theorem yield_r {ok b : Bool} {v v' : Value} (h : VR σ v v') : VR σ (yield2 ok v b) (if ok then .tuple #[v', .bool b] else v') := by
  cases ok
  · exact h
  · exact .tuple (.cons h (.cons (.clo rfl) .nil))
theorem sim_lookup {et : TypeId} {z : Value} {ok : Bool} (h : St P w0 σ A X w) (ht : P.underlying t = some (.map kt et)) (hd : P.underlying kt = some d) (hz : zeroT P et = some z) (hu : VR σ (x.ev tm) u) (hu2 : VR σ (y.ev tm) u2) (hv : rdLookup P kt d z x y ok tm A = some v) :
    ∃ v', (Instr.lookup t u u2 ok).run P w = .ok v' w ∧ VR σ v v' := by
  unfold rdLookup at hv
  split at hv
  · simp at hv
  · rename_i es hes
    obtain ⟨hk, hv⟩ := cond_ok hv
    obtain ⟨hc, hck⟩ := keyOk_run (w := w) hd hk
    obtain rfl := clo_eq hc hu2
    have key : ∀ es' : Array MapEntry, ERs σ es es'.toList → ∃ r', (Instr.findKey kt (y.ev tm) es'.toList).run P w = .ok r' w ∧ ∃ v' b, (match r' with | some (_, q) => q = v' ∧ b = true | none => z = v' ∧ b = false) ∧ VR σ v (if ok then .tuple #[v', .bool b] else v') := fun es' h1 => by
      split at hv
      · simp at hv
      · rename_i i q hf
        injection hv with hv
        subst hv
        obtain ⟨r', h3, h4⟩ := find_r (w := w) hd h1 hf
        cases r' with
        | none => exact h4.elim
        | some r' => exact ⟨_, h3, r'.2, true, ⟨rfl, rfl⟩, yield_r h4.2⟩
      · rename_i hf
        injection hv with hv
        subst hv
        obtain ⟨r', h3, h4⟩ := find_r (w := w) hd h1 hf
        cases r' with
        | some r' => exact h4.elim
        | none =>
          obtain ⟨_, _, _, hzc⟩ := zeroT_info hz
          exact ⟨_, h3, z, false, ⟨rfl, rfl⟩, yield_r (clo1_r σ hzc)⟩
    rcases entriesOf_r (P := P) h hu hes with ⟨rfl, rfl⟩ | ⟨r, es', clock, rfl, h1, h2⟩
    · obtain ⟨r', h3, v', b, h4, h5⟩ := key #[] .nil
      refine ⟨_, ?_, h5⟩
      have hck' : (Instr.checkKey (#[] : Array MapEntry).isEmpty 10000 kt (y.ev tm)).run P w = .ok () w := hck
      simp only [Instr.lookup, Sem.run_bind, run_underlying ht, Result.andThen_ok, hck', h3, Sem.run_pure]
      cases r' with
      | none =>
        obtain ⟨rfl, rfl⟩ := h4
        simp only [Sem.run_bind, zero_run hz, Result.andThen_ok, Sem.run_pure]
      | some r' =>
        obtain ⟨rfl, rfl⟩ := h4
        simp only [Sem.run_bind, Result.andThen_ok, Sem.run_pure]
    · obtain ⟨r', h3, v', b, h4, h5⟩ := key es' h1
      refine ⟨_, ?_, h5⟩
      rw [← h1.empty] at hck
      simp only [Instr.lookup, Sem.run_bind, run_underlying ht, Result.andThen_ok, h2, hck, h3, Sem.run_pure]
      cases r' with
      | none =>
        obtain ⟨rfl, rfl⟩ := h4
        simp only [Sem.run_bind, zero_run hz, Result.andThen_ok, Sem.run_pure]
      | some r' =>
        obtain ⟨rfl, rfl⟩ := h4
        simp only [Sem.run_bind, Result.andThen_ok, Sem.run_pure]

/- Values that are built. -/
theorem foldl_set (off : Nat) : ∀ (l : List Value) (k : Nat) (c : Array Value), off + k + l.length ≤ c.size →
    ((l.zipIdx k).foldl (fun cs (p : Value × Nat) => cs.setIfInBounds (off + p.2) p.1) c).toList = c.toList.take (off + k) ++ (l ++ c.toList.drop (off + k + l.length))
  | [], k, c, _ => by simp
  | v :: l, k, c, h => by
    simp only [List.zipIdx_cons, List.foldl_cons]
    simp only [List.length_cons] at h
    rw [foldl_set off l (k + 1) _ (by simp; omega)]
    have hk : off + k < c.toList.length := by simp; omega
    simp only [Array.toList_setIfInBounds]
    rw [List.take_set, show off + (k + 1) = (off + k) + 1 by omega, List.take_succ_eq_append_getElem hk, List.set_append_right _ _ (by simp; omega)]
    rw [List.drop_set_of_lt (by omega)]
    have : off + k - (c.toList.take (off + k)).length = 0 := by simp; omega
    rw [this]
    simp
    congr 1
    omega
theorem splice_r {c cs cr : List Value} {off : Nat} {l' : List Value} (hc : VRs σ c cr) (hl : VRs σ cs l') : VRs σ (c.take off ++ (cs ++ c.drop (off + cs.length))) (cr.take off ++ (l' ++ cr.drop (off + l'.length))) := by
  rw [← hl.len]
  exact (hc.take off).append (hl.append (hc.drop _))
theorem fill_r {ns : Nat} {ρ : Operand → Value} {place : Nat → Option (Nat × Nat)} : ∀ (ps : List (Nat × Operand)) (c : List Value) (cr : Array Value) (e : List Value), (∀ p ∈ ps, VR σ ((co ns p.2).ev tm) (ρ p.2)) → VRs σ c cr.toList → fillL place tm (ps.map fun p => (p.1, co ns p.2)) c = some e →
    ∃ er, Instr.fill place cr (ps.map fun p => (p.1, ρ p.2)) = some er ∧ VRs σ e er.toList
  | [], c, cr, e, _, hc, h => by simp [fillL] at h; subst h; exact ⟨cr, rfl, hc⟩
  | (i, z) :: ps, c, cr, e, hE, hc, h => by
    simp only [List.map_cons, fillL] at h
    simp only [List.map_cons, Instr.fill]
    split at h
    · simp at h
    · rename_i off size hp
      obtain ⟨hs, h⟩ := cond_ok h
      have hs := Nat.eq_of_beq_eq_true hs
      split at h
      · rename_i c' hsp
        unfold splice0 at hsp
        obtain ⟨hle, hsp⟩ := cond_ok hsp
        have hle := Nat.le_of_ble_eq_true hle
        injection hsp with hsp
        subst hsp
        have hz := (hE (i, z) (by simp)).cells
        have hlen := hz.len
        have hcl := hc.len
        have h1 : (ρ z).cells.size = size := by rw [← hs, hlen]; simp
        have h2 : off + (ρ z).cells.size ≤ cr.size := by
          have : cr.size = cr.toList.length := by simp
          rw [this, ← hcl, h1, ← hs]
          exact hle
        have hfold : ((ρ z).cells.zipIdx.foldl (fun cs (p : Value × Nat) => cs.setIfInBounds (off + p.2) p.1) cr).toList = cr.toList.take off ++ ((ρ z).cells.toList ++ cr.toList.drop (off + (ρ z).cells.toList.length)) := by
          rw [← Array.foldl_toList, Array.toList_zipIdx]
          have := foldl_set off (ρ z).cells.toList 0 cr (by simpa using h2)
          simpa using this
        obtain ⟨er, h3, h4⟩ := fill_r ps _ ((ρ z).cells.zipIdx.foldl (fun cs (p : Value × Nat) => cs.setIfInBounds (off + p.2) p.1) cr) e (fun p hp => hE p (by simp [hp])) (by rw [hfold]; exact splice_r hc hz) h
        refine ⟨er, ?_, h4⟩
        rw [hp]
        simp only
        rw [if_neg (by simp [h1]; omega)]
        exact h3
      · simp at h
theorem places_eq (fields : Array Field) : places P fields = fields.toList.mapM fun f => (P.info? f.type).map fun i => (f.offset, i.size) := by
  unfold places
  congr 1
  funext f
  unfold sizeT
  cases P.info? f.type <;> rfl
theorem sim_build {ns : Nat} {ρ : Operand → Value} {f : TM → AW → Option Value} {ps : Array (Nat × Operand)} (hci : ciBuild P ns t ps = some (.rd f)) (hE : ∀ p ∈ ps, VR σ ((co ns p.2).ev tm) (ρ p.2)) (hv : f tm A = some v) :
    ∃ v', (Instr.build t (ps.map fun p => (p.1, ρ p.2))).run P w = .ok v' w ∧ VR σ v v' := by
  unfold ciBuild at hci
  have key : ∀ (place : Nat → Option (Nat × Nat)) (z : Value), clo1 z = true → rdBuild place (cellsL z) (coParts ns ps) tm A = some v → ∃ er : Array Value, Instr.fill place z.cells (ps.map fun p => (p.1, ρ p.2)).toList = some er ∧ VR σ v (.agg er) := fun place z hz h => by
    unfold rdBuild aggOf at h
    split at h
    · rename_i cs hcs
      injection h with h
      subst h
      obtain ⟨er, h1, h2⟩ := fill_r (ρ := ρ) ps.toList (cellsL z) z.cells cs (fun p hp => hE p (by simpa using hp)) ((clo1_r σ hz).cells) hcs
      exact ⟨er, by simpa using h1, .agg h2⟩
    · simp at h
  split at hci
  · rename_i z fields hz hd
    split at hci
    · rename_i pl hpl
      injection hci with hci
      injection hci with hci
      subst hci
      obtain ⟨i, hi, hzi, hzc⟩ := zeroT_info hz
      obtain ⟨er, h1, h2⟩ := key _ z hzc hv
      refine ⟨_, run_build w t _ er ?_, h2⟩
      rw [places_eq] at hpl
      unfold Program.built
      have hd' : P.underlying t = some (.struct fields) := hd
      simp only [hi, hd', hzi, hpl]
      rw [← h1]
      congr 1
      funext j
      simp
    · simp at hci
  · rename_i z n elem hz hd
    split at hci
    · rename_i size hs
      injection hci with hci
      injection hci with hci
      subst hci
      obtain ⟨i, hi, hzi, hzc⟩ := zeroT_info hz
      obtain ⟨ie, hie, rfl⟩ := sizeT_info hs
      obtain ⟨er, h1, h2⟩ := key _ z hzc hv
      refine ⟨_, run_build w t _ er ?_, h2⟩
      unfold Program.built
      have hd' : P.underlying t = some (.array n elem) := hd
      simp only [hi, hd', hzi, hie]
      exact h1
    · simp at hci
  · simp at hci
end
end Ev
end Go.Proofs.YtmohidgdmmkikaaGreatDoor
