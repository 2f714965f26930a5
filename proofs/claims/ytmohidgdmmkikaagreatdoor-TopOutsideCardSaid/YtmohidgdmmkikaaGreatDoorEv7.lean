/- The evaluator: slices, parts, lengths, maps that are read, values that are built. -/
import Derived.Test.YtmohidgdmmkikaaGreatDoorEv6
namespace Go.Proofs.YtmohidgdmmkikaaGreatDoor
open Go.RowKit
namespace Ev

theorem bytesOf_spec : ∀ {l : List Value} {bs : List UInt8}, bytesOf l = some bs → ∃ ns : List Int, l = ns.map (Value.int .u8) ∧ bs = ns.map fun n => UInt8.ofNat n.toNat
  | [], bs, h => by simp [bytesOf] at h; subst h; exact ⟨[], rfl, rfl⟩
  | v :: l, bs, h => by
    unfold bytesOf at h
    split at h
    · rename_i h0; cases h0
    · rename_i n l' h0
      injection h0 with h1 h2
      subst h1
      subst h2
      split at h
      · rename_i bs' h3
        injection h with h
        subst h
        obtain ⟨ns, h4, h5⟩ := bytesOf_spec h3
        exact ⟨n :: ns, by rw [h4]; rfl, by rw [h5]; rfl⟩
      · simp at h
    · simp at h
theorem ints_clo (ns : List Int) : (ns.map (Value.int .u8)).all clo0 = true := by
  rw [List.all_eq_true]
  intro v hv
  obtain ⟨n, _, rfl⟩ := List.mem_map.1 hv
  rfl
theorem push_all (ns : List Int) : ∀ r : ByteArray, ns.foldl (fun r n => r.push (UInt8.ofNat n.toNat)) r = ⟨⟨r.data.toList ++ ns.map fun n => UInt8.ofNat n.toNat⟩⟩ := by
  induction ns with
  | nil => intro r; simp
  | cons n ns ih => intro r; simp only [List.foldl_cons, ih]; simp [ByteArray.push]

section
variable {P : Program} {w w0 : World} {σ : Sig} {A : AW} {X : Nat → Option AObj} {tm : TM} {v u u2 : Value} {x y : CO} {t : TypeId}
theorem sim_str {src dst e : TypeId} (h : St P w0 σ A X w) (hs : P.underlying src = some (.slice e)) (he : P.underlying e = some (.int .u8)) (hd : P.underlying dst = some .string) (hu : VR σ (x.ev tm) u) (hv : rdStr x tm A = some v) :
    ∃ v', (convert src dst u).run P w = .ok v' w ∧ VR σ v v' := by
  unfold rdStr at hv
  split at hv
  · rename_i a n k hx
    rw [hx] at hu
    unfold strOf at hv
    split at hv
    · rename_i cs hcs
      split at hv
      · rename_i bs hbs
        injection hv with hv
        subst hv
        obtain ⟨ns, rfl, rfl⟩ := bytesOf_spec hbs
        refine ⟨_, ?_, .clo rfl⟩
        unfold rowCells at hcs
        split at hcs
        · rename_i k' h0
          injection h0 with h1 h2 h3
          subst h1
          subst h2
          obtain rfl := clo0_eq rfl hu
          injection hcs with hcs
          obtain rfl : ns = [] := by cases ns <;> simp at hcs ⊢
          simp only [convert, Sem.run_bind, run_underlying hs, run_underlying hd, run_underlying he, Result.andThen_ok, Conv.bytesToString, Sem.run_pure]
          rfl
        · rename_i b o n' k' h0
          injection h0 with h1 h2 h3
          subst h1
          subst h2
          obtain ⟨r, s, nn, zz, o', c, hb, rfl, _, _, ho, _⟩ := hu.slc_inv
          obtain ⟨cs', h4, h5, h6⟩ := h.cells hb hcs
          have h7 := clo0_all (ints_clo ns) h5
          subst h7
          have h8 : (loadCells ⟨r, o', none⟩ n).run P w = .ok (ns.map (Value.int .u8)).toArray w := by
            rw [Nat.mul_one] at h4
            rcases ho with ⟨h9, _⟩ | rfl
            · subst h9
              obtain rfl : ns = [] := by cases ns <;> simp at h4 ⊢
              rfl
            · have := run_loadCells_list (P := P) w ⟨r, s + o, none⟩ (ns.map (Value.int .u8)) (fun j v hj => by rw [addr_add]; exact h6 j v hj)
              rw [h4] at this
              exact this
          simp only [convert, Sem.run_bind, run_underlying hs, run_underlying hd, run_underlying he, Result.andThen_ok, run_bytesToString w _ _ c ns h8]
          rw [push_all]
          simp
        · rename_i s h0; cases h0
        · simp at hcs
      · simp at hv
    · simp at hv
  · simp at hv

/- Slices. -/
def OVR (σ : Sig) : Option Value → Option Value → Prop
  | none, none => True
  | some a, some b => VR σ a b
  | _, _ => False
theorem bnd_run {p q : Option Value} {lim dflt m : Nat} (hr : OVR σ p q) (h : bnd p lim dflt = some m) : (p = none ∧ q = none ∧ m = dflt) ∨ (∃ k, q = some (.int k (Int.ofNat m)) ∧ m ≤ lim ∧ p ≠ none) := by
  unfold bnd at h
  split at h
  · injection h with h
    cases q with
    | none => exact .inl ⟨rfl, rfl, h.symm⟩
    | some q => exact hr.elim
  · rename_i k i
    obtain ⟨h1, h2⟩ := cond_ok h
    injection h2 with h2
    subst h2
    cases q with
    | none => exact hr.elim
    | some q => exact .inr ⟨k, by rw [VR.int_inv hr], Nat.le_of_ble_eq_true h1, by simp⟩
  · simp at h
theorem bound_run {k : IntKind} {m lim : Nat} (h : m ≤ lim) (code : BoundsCode) : (Instr.sliceBound (.int k (Int.ofNat m)) lim code).run P w = .ok m w := by
  simp only [Instr.sliceBound, asIntOf, Sem.run_bind, Sem.run_pure, Result.andThen_ok]
  rw [if_pos (by simp; omega)]
  rfl
theorem bounds2 {lo hi lo' hi' : Option Value} {isS : Bool} {len c c' h l : Nat} (hlo : OVR σ lo lo') (hhi : OVR σ hi hi') (hh : bnd hi c len = some h) (hl : bnd lo c 0 = some l) (hlh : l ≤ h) (hc : c ≤ c') :
    (Instr.sliceBounds isS len c' lo' hi' none).run P w = .ok (l, h, c') w := by
  unfold Instr.sliceBounds
  simp only [Sem.run_bind, Sem.run_pure, Result.andThen_ok]
  rcases bnd_run hhi hh with ⟨_, rfl, rfl⟩ | ⟨k, rfl, h1, _⟩
  · rcases bnd_run hlo hl with ⟨_, rfl, rfl⟩ | ⟨k2, rfl, h2, _⟩
    · simp only [Sem.run_bind, Sem.run_pure, Result.andThen_ok]
    · simp only [Sem.run_bind, Sem.run_pure, Result.andThen_ok, bound_run hlh]
  · rcases bnd_run hlo hl with ⟨_, rfl, rfl⟩ | ⟨k2, rfl, h2, _⟩
    · simp only [Sem.run_bind, Sem.run_pure, Result.andThen_ok, bound_run (Nat.le_trans h1 hc)]
    · simp only [Sem.run_bind, Sem.run_pure, Result.andThen_ok, bound_run (Nat.le_trans h1 hc), bound_run hlh]
theorem bounds3 {lo hi mx lo' hi' mx' : Option Value} {isS : Bool} {len c c' m h l : Nat} (hlo : OVR σ lo lo') (hhi : OVR σ hi hi') (hmx : OVR σ mx mx') (hm0 : mx ≠ none) (hh0 : hi ≠ none) (hm : bnd mx c 0 = some m) (hh : bnd hi m 0 = some h) (hl : bnd lo m 0 = some l) (hlh : l ≤ h) (hc : c ≤ c') :
    (Instr.sliceBounds isS len c' lo' hi' mx').run P w = .ok (l, h, m) w := by
  unfold Instr.sliceBounds
  rcases bnd_run hmx hm with ⟨h0, _, _⟩ | ⟨k, rfl, h1, _⟩
  · exact absurd h0 hm0
  rcases bnd_run hhi hh with ⟨h0, _, _⟩ | ⟨k1, rfl, h2, _⟩
  · exact absurd h0 hh0
  simp only [Sem.run_bind, Result.andThen_ok, bound_run (Nat.le_trans h1 hc), bound_run h2]
  rcases bnd_run hlo hl with ⟨_, rfl, rfl⟩ | ⟨k2, rfl, h3, _⟩
  · simp only [Sem.run_bind, Sem.run_pure, Result.andThen_ok]
  · simp only [Sem.run_bind, Sem.run_pure, Result.andThen_ok, bound_run hlh]
/-- What a slice expression over a row gives, where its bounds are known. -/
theorem slice_row {isS : Bool} {size b o len c ex r s nn zz o' c' : Nat} {lo hi mx lo' hi' mx' : Option Value} (hb : σ b = some ⟨r, s, nn, zz⟩) (hex : ex ≤ 1) (h1 : ex = 1 → c' = c) (h2 : c ≤ c') (ho : (len = 0 ∧ c = 0) ∨ o' = s + o) (hroom : ex = 0 → zz = size ∧ o' + c' * zz ≤ nn)
    (hlo : OVR σ lo lo') (hhi : OVR σ hi hi') (hmx : OVR σ mx mx') (hv : sliceRow size b o len c ex lo hi mx = some v) :
    ∃ l h m, (Instr.sliceBounds isS len c' lo' hi' mx').run P w = .ok (l, h, m) w ∧ VR σ v (.slice (some (if m = l then ⟨r, o', none⟩ else ⟨r, o' + l * size, none⟩)) (h - l) (m - l)) := by
  unfold sliceRow at hv
  split at hv
  · rename_i mv
    split at hv
    · rename_i hv0 m hm
      unfold slc3 at hv
      split at hv
      · rename_i h l hh hl
        obtain ⟨hlh, hv⟩ := cond_ok hv
        have hlh := Nat.le_of_ble_eq_true hlh
        injection hv with hv
        subst hv
        have hb3 := bounds3 (P := P) (w := w) (isS := isS) (len := len) hlo hhi hmx (by simp) (by simp) hm hh hl hlh h2
        refine ⟨l, h, m, hb3, ?_⟩
        have hmc : m ≤ c := by
          rcases bnd_run hmx hm with ⟨h0, _, _⟩ | ⟨_, _, h3, _⟩
          · simp at h0
          · exact h3
        have hhm : h ≤ m := by
          rcases bnd_run hhi hh with ⟨h0, _, _⟩ | ⟨_, _, h3, _⟩
          · simp at h0
          · exact h3
        rw [beq_eq]
        rcases ho with ⟨_, hc0⟩ | rfl
        · have : m = l := by omega
          have h3 : h - l = 0 := by omega
          have h4 : m - l = 0 := by omega
          rw [if_pos this, decide_eq_true this, cond_true, h3, h4]
          exact .slc0 o o' 1 0 hb (Nat.le_refl _) (fun _ => rfl) (fun h => by omega)
        · by_cases e : m = l
          · rw [if_pos e, decide_eq_true e, cond_true]
            exact .slc o _ _ _ hb (by omega) (by omega) (by omega)
          · rw [if_neg e, decide_eq_false e, cond_false, Nat.add_assoc]
            exact .slc _ _ _ _ hb (by omega) (by omega) (by omega)
      · simp at hv
    · simp at hv
  · unfold slc2 at hv
    split at hv
    · rename_i h l hh hl
      obtain ⟨hlh, hv⟩ := cond_ok hv
      rw [Bool.and_eq_true] at hlh
      have hhc := Nat.le_of_ble_eq_true hlh.2
      have hlh := Nat.le_of_ble_eq_true hlh.1
      injection hv with hv
      subst hv
      cases mx' with
      | some q => exact hmx.elim
      | none =>
        refine ⟨l, h, c', bounds2 hlo hhi hh hl hlh h2, ?_⟩
        rw [beq_eq]
        by_cases e : c = l
        · -- an empty slice
          have h3 : h - l = 0 := by omega
          rw [decide_eq_true e, cond_true, h3, show c - l = 0 by omega]
          have hk : 2 * 0 + ex ≤ 1 := by omega
          have hx : 2 * 0 + ex = 1 → c' - l = 0 := fun h4 => by have := h1 (by omega); omega
          have hl2 : l ≤ c' := by omega
          have hmul : l * size + (c' - l) * size = c' * size := by rw [← Nat.add_mul]; congr 1; omega
          split
          · refine .slc0 o o' _ _ hb hk hx fun h4 => ?_
            obtain ⟨rfl, h5⟩ := hroom (by omega)
            omega
          · refine .slc0 o _ _ _ hb hk hx fun h4 => ?_
            obtain ⟨rfl, h5⟩ := hroom (by omega)
            omega
        · rw [decide_eq_false e, cond_false, if_neg (by omega)]
          rcases ho with ⟨_, hc0⟩ | rfl
          · omega
          · rw [Nat.add_assoc]
            refine .slc _ _ _ _ hb (by omega) (by omega) fun h4 => ?_
            obtain ⟨rfl, h5⟩ := hroom (by omega)
            have hmul : l * zz + (c' - l) * zz = c' * zz := by rw [← Nat.add_mul]; congr 1; omega
            omega
    · simp at hv
theorem evM_r {ns : Nat} {ρ : Operand → Value} {z : Option Operand} (hE : ∀ q, z = some q → VR σ ((co ns q).ev tm) (ρ q)) : OVR σ (evM (z.map (co ns)) tm) (z.map ρ) := by
  cases z with
  | none => trivial
  | some q => exact hE q rfl
theorem sim_sliceArr {n size : Nat} {elem : TypeId} {lo hi mx : Option CO} {lo' hi' mx' : Option Value} (hd : P.underlying t = some (.array n elem)) (hs : sizeT P elem = some size) (hu : VR σ (x.ev tm) u) (hlo : OVR σ (evM lo tm) lo') (hhi : OVR σ (evM hi tm) hi') (hmx : OVR σ (evM mx tm) mx')
    (hv : rdSliceArr n size x lo hi mx tm A = some v) : ∃ v', (Instr.sliceAt t u lo' hi' mx').run P w = .ok v' w ∧ VR σ v v' := by
  unfold rdSliceArr at hv
  split at hv
  · rename_i b o he
    rw [he] at hu
    obtain ⟨r, s, nn, zz, hb, rfl⟩ := hu.ptr_inv
    obtain ⟨l, h, m, h1, h2⟩ := slice_row (P := P) (w := w) (isS := false) hb (Nat.le_refl 1) (fun _ => rfl) (Nat.le_refl n) (.inr rfl) (fun h => by omega) hlo hhi hmx hv
    refine ⟨_, ?_, h2⟩
    simp only [Instr.sliceAt, Instr.sureAddr, Sem.run_bind, Sem.run_pure, Result.andThen_ok, run_underlying hd, h1, sizeOf_run hs, addr_add]
  · simp at hv
theorem St.elem (h : St P w0 σ A X w) {b r s nn zz elem size k : Nat} (hb : σ b = some ⟨r, s, nn, zz⟩) (hs : sizeT P elem = some size) (he : elemOk A b elem k = true) (hk : k % 2 = 0) : zz = size ∧ ∃ c, A.get b = some (.row c elem) := by
  unfold elemOk at he
  rw [beq_eq, decide_eq_false (by omega), cond_false] at he
  split at he
  · rename_i c e hg
    obtain rfl := Nat.eq_of_beq_eq_true he
    obtain ⟨c', e', fr, hr⟩ := h.row hb hg
    exact ⟨hr.elem _ hs, c, hg⟩
  · cases he
theorem sim_sliceSlc {size : Nat} {elem : TypeId} {lo hi mx : Option CO} {lo' hi' mx' : Option Value} (hst : St P w0 σ A X w) (hd : P.underlying t = some (.slice elem)) (hs : sizeT P elem = some size) (hu : VR σ (x.ev tm) u) (hlo : OVR σ (evM lo tm) lo') (hhi : OVR σ (evM hi tm) hi') (hmx : OVR σ (evM mx tm) mx')
    (hv : rdSliceSlc elem size x lo hi mx tm A = some v) : ∃ v', (Instr.sliceAt t u lo' hi' mx').run P w = .ok v' w ∧ VR σ v v' := by
  unfold rdSliceSlc at hv
  split at hv
  · rename_i b o n k he
    rw [he] at hu
    obtain ⟨hok, hv⟩ := cond_ok hv
    obtain ⟨r, s, nn, zz, o', c', hb, rfl, h3, h4, h5, h6⟩ := hu.slc_inv
    obtain ⟨l, h, m, h1, h2⟩ := slice_row (P := P) (w := w) (isS := true) (c' := c') (o' := o') hb (by omega) (fun e => h3 e) h4 (by omega) (fun e => ⟨(hst.elem hb hs hok e).1, h6 e⟩) hlo hhi hmx hv
    refine ⟨_, ?_, h2⟩
    simp only [Instr.sliceAt, Instr.slice, Sem.run_bind, Sem.run_pure, Result.andThen_ok, run_underlying hd, h1, sizeOf_run hs, Option.map_some, addr_add]
    split <;> rfl
  · simp at hv
theorem sim_sliceStr {lo hi : Option CO} {lo' hi' : Option Value} (hd : P.underlying t = some .string) (hu : VR σ (x.ev tm) u) (hlo : OVR σ (evM lo tm) lo') (hhi : OVR σ (evM hi tm) hi') (hv : rdSliceStr x lo hi tm A = some v) :
    ∃ v', (Instr.sliceAt t u lo' hi' none).run P w = .ok v' w ∧ VR σ v v' := by
  unfold rdSliceStr at hv
  split at hv
  · rename_i s he
    rw [he] at hu
    unfold subStr at hv
    split at hv
    · rename_i h l hh hl
      obtain ⟨hlh, hv⟩ := cond_ok hv
      have hlh := Nat.le_of_ble_eq_true hlh
      injection hv with hv
      subst hv
      rw [← ba_len] at hh hl
      have hb := bounds2 (P := P) (w := w) (isS := false) hlo hhi hh hl hlh (Nat.le_refl _)
      refine ⟨_, ?_, .clo rfl⟩
      rw [hu.str_inv]
      simp only [Instr.sliceAt, Instr.slice, Sem.run_bind, Sem.run_pure, Result.andThen_ok, run_underlying hd, Option.isSome_none, Bool.false_eq_true, if_false, hb, ba_ext]
    · simp at hv
  · simp at hv

/- Parts. -/
theorem part_r {off : Nat} {f : List Value → Option Value} {cs cs' : Array Value} (hf : partOf P t off = some f) (hr : VRs σ cs.toList cs'.toList) (hv : f cs.toList = some v) : ∃ v', (part t cs' off).run P w = .ok v' w ∧ VR σ v v' := by
  unfold partOf at hf
  split at hf
  · rename_i n ha hs
    injection hf with hf
    subst hf
    obtain ⟨hle, hv⟩ := cond_ok hv
    injection hv with hv
    subst hv
    refine ⟨.agg (cs'.extract off (off + n)), ?_, .agg ?_⟩
    · simp only [part, Sem.run_bind, isAgg_run ha, Result.andThen_ok, if_true, sizeOf_run hs, Sem.run_pure]
    · simpa using (hr.drop off).take n
  · rename_i n ha hs
    injection hf with hf
    subst hf
    obtain ⟨v', h1, h2⟩ := hr.get hv
    refine ⟨v', ?_, h2⟩
    have h3 : cs'[off]? = some v' := by simpa using h1
    simp only [part, Sem.run_bind, isAgg_run ha, Result.andThen_ok, Bool.false_eq_true, if_false, h3, Sem.run_pure]
  · simp at hf
theorem sim_fieldOf {fields : Array Field} {f : Nat} {fd : Field} {g : List Value → Option Value} (hd : P.underlying t = some (.struct fields)) (hf : fields.toList[f]? = some fd) (hg : partOf P fd.type fd.offset = some g) (hu : VR σ (x.ev tm) u) (hv : rdPart g x tm A = some v) :
    ∃ v', (Instr.field t u f).run P w = .ok v' w ∧ VR σ v v' := by
  unfold rdPart at hv
  split at hv
  · rename_i cs he
    rw [he] at hu
    obtain ⟨cs', rfl, hr⟩ := hu.agg_inv
    obtain ⟨v', h1, h2⟩ := part_r (w := w) hg hr hv
    have hf' : fields[f]? = some fd := by simpa using hf
    refine ⟨v', ?_, h2⟩
    simp only [Instr.field, Sem.run_bind, run_underlying hd, Result.andThen_ok, hf', asAgg, Sem.run_pure, h1]
  · simp at hv
theorem sim_indexOf {len size : Nat} {elem : TypeId} {g : Nat → List Value → Option Value} (hd : P.underlying t = some (.array len elem)) (hs : sizeT P elem = some size) (hg : ∀ off, partOf P elem off = some (g off)) (hu : VR σ (x.ev tm) u) (hu2 : VR σ (y.ev tm) u2) (hv : rdIndexAgg len size g x y tm A = some v) :
    ∃ v', (Instr.index t u u2).run P w = .ok v' w ∧ VR σ v v' := by
  unfold rdIndexAgg at hv
  split at hv
  · rename_i cs k n he he2
    rw [he] at hu
    rw [he2] at hu2
    obtain ⟨hlt, hv⟩ := cond_ok hv
    have hlt := blt_lt hlt
    obtain ⟨cs', rfl, hr⟩ := hu.agg_inv
    obtain ⟨v', h1, h2⟩ := part_r (w := w) (hg _) hr hv
    refine ⟨v', ?_, h2⟩
    rw [hu2.int_inv]
    simp only [Instr.index, asIntOf, Sem.run_bind, Sem.run_pure, Result.andThen_ok, run_underlying hd]
    rw [if_pos (by simp; omega)]
    simp only [Sem.run_bind, sizeOf_run hs, Result.andThen_ok]
    exact h1
  · simp at hv
theorem sim_extract {i : Nat} (hu : VR σ (x.ev tm) u) (hv : rdExtract i x tm A = some v) : ∃ v', (Instr.extract u i).run P w = .ok v' w ∧ VR σ v v' := by
  unfold rdExtract at hv
  split at hv
  · rename_i vs he
    rw [he] at hu
    obtain ⟨vs', rfl, hr⟩ := hu.tuple_inv
    obtain ⟨v', h1, h2⟩ := hr.get hv
    refine ⟨v', ?_, h2⟩
    have h3 : vs'[i]? = some v' := by simpa using h1
    simp only [Instr.extract, h3, Sem.run_pure]
  · simp at hv
theorem ERs.len {l l' : List MapEntry} (h : ERs σ l l') : l.length = l'.length := by
  induction h with
  | nil => rfl
  | cons hk hc hb hv t ih => simp [ih]
theorem sim_len {d : TypeDesc} {ty : TypeId} (h : St P w0 σ A X w) (hd : P.underlying t = some d) (hu : VR σ (x.ev tm) u) (hv : rdLen d x tm A = some v) : ∃ v', (Builtin.len_ #[t] ty #[u]).run P w = .ok v' w ∧ VR σ v v' := by
  unfold rdLen at hv
  split at hv
  · rename_i b n k he
    rw [he] at hu
    injection hv with hv
    subst hv
    obtain ⟨b', c, rfl, _⟩ := hu.slc_none
    exact ⟨_, by simp [Builtin.len_, run_underlying hd, goInt], .clo rfl⟩
  · rename_i s he
    rw [he] at hu
    injection hv with hv
    subst hv
    rw [hu.str_inv]
    exact ⟨_, by rw [← ba_len]; simp [Builtin.len_, run_underlying hd, goInt], .clo rfl⟩
  · rename_i he
    rw [he] at hu
    injection hv with hv
    subst hv
    rw [clo0_eq rfl hu]
    exact ⟨_, by simp [Builtin.len_, run_underlying hd, goInt], .clo rfl⟩
  · rename_i r he
    rw [he] at hu
    split at hv
    · rename_i es clock hg
      injection hv with hv
      subst hv
      obtain ⟨q, nn, zz, hb, rfl⟩ := hu.map_inv
      obtain ⟨es', h1, h2⟩ := h.entries hb hg
      refine ⟨_, ?_, .clo rfl⟩
      have hg : (getObj q).run P w = .ok (.map es' clock) w := by simp [getObj, Sem.run, h1]
      have hl : es'.size = es.length := by rw [h2.len]; rfl
      simp [Builtin.len_, run_underlying hd, hg, goInt, hl]
    · simp at hv
  · simp at hv
theorem sim_cap {e ty : TypeId} (hd : P.underlying t = some (.slice e)) (hu : VR σ (x.ev tm) u) (hv : rdCap x tm A = some v) : ∃ v', (Builtin.cap_ #[t] ty #[u]).run P w = .ok v' w ∧ VR σ v v' := by
  unfold rdCap at hv
  split at hv
  · rename_i a n k he
    rw [he] at hu
    obtain ⟨h1, hv⟩ := cond_ok hv
    have h1 := Nat.eq_of_beq_eq_true h1
    injection hv with hv
    subst hv
    refine ⟨_, ?_, .clo rfl⟩
    cases hu with
    | clo h => simp [clo0] at h
    | slc o n k c h h2 h3 h4 =>
      obtain rfl := h2 h1
      simp only [Builtin.cap_, List.getElem?_toArray, List.getElem?_cons_zero, Sem.run_bind, Sem.run_pure, Result.andThen_ok, run_underlying hd, goInt]
    | slc0 o o' k c h h2 h3 h4 =>
      obtain rfl : k = 1 := by omega
      obtain rfl := h3 rfl
      simp only [Builtin.cap_, List.getElem?_toArray, List.getElem?_cons_zero, Sem.run_bind, Sem.run_pure, Result.andThen_ok, run_underlying hd, goInt]
  · simp at hv
end
end Ev
end Go.Proofs.YtmohidgdmmkikaaGreatDoor
