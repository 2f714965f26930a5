/- Maps with integers as keys, as lists of pairs. -/
import Derived.Test.YtiglblfjmmdeeaaGreatScan
import Derived.Maps.Own
import Derived.WideMake
namespace Go.Proofs.YtiglblfjmmdeeaaGreat
open Go.RowKit Go.Maps Go.ChangeMaps

/-- The map in block b holds these pairs, in the order in which they came. -/
def IM (w : World) (b : Nat) (l : List (Int × Value)) : Prop := ∃ es ck, w.heap[b]? = some (.map es ck) ∧ es.toList.map (fun e => (e.key, e.val)) = l.map (fun p => (Value.int .i64 p.1, p.2))
def lookL : List (Int × Value) → Int → Option Value
  | [], _ => none
  | p :: l, k => if k = p.1 then some p.2 else lookL l k
def putL : List (Int × Value) → Int → Value → List (Int × Value)
  | [], k, v => [(k, v)]
  | p :: l, k, v => if k = p.1 then (k, v) :: l else p :: putL l k v
/-- An int that a key may be. -/
def isKey (k : Int) : Prop := (Lit.int .i64 k).wf = true

section
variable {P : Program} {w w' : World} {b : Nat} {l : List (Int × Value)} {q : IntKind}
theorem IM.lt (h : IM w b l) : b < w.heap.size := by
  obtain ⟨es, ck, hb, _⟩ := h
  exact (Array.getElem?_eq_some_iff.1 hb).1
theorem IM.keep (h : IM w b l) (hk : w'.heap[b]? = w.heap[b]?) : IM w' b l := by
  obtain ⟨es, ck, hb, h⟩ := h
  exact ⟨es, ck, hk.trans hb, h⟩
theorem IM.ext (h : IM w b l) (e : Ext w w') : IM w' b l := h.keep (e.block b h.lt)
theorem im_new (w : World) : IM (w.alloc (.map #[] 0)) w.heap.size [] := ⟨#[], 0, heap_alloc_new w _, rfl⟩

theorem find_none (q : IntKind) (k : Int) : ∀ (es : List MapEntry) (l : List (Int × Value)) (i : Nat), es.map (fun e => (e.key, e.val)) = l.map (fun p => (Value.int .i64 p.1, p.2)) → lookL l k = none → Instr.findNow (.int q) (.int .i64 k) es i = some none
  | [], _, _, _, _ => rfl
  | e :: es, [], _, h, _ => by simp at h
  | e :: es, p :: l, i, h, hl => by
    simp only [List.map_cons, List.cons.injEq, Prod.mk.injEq] at h
    unfold lookL at hl
    by_cases hk : k = p.1
    · rw [if_pos hk] at hl; cases hl
    · rw [if_neg hk] at hl
      have h1 : Instr.sameNow (.int q) (.int .i64 k) e.key = some false := by rw [h.1.1]; simp [Instr.sameNow, hk]
      unfold Instr.findNow
      rw [h1]
      exact find_none q k es l (i + 1) h.2 hl
theorem find_some (q : IntKind) (k : Int) (v : Value) : ∀ (es : List MapEntry) (l : List (Int × Value)) (i : Nat), es.map (fun e => (e.key, e.val)) = l.map (fun p => (Value.int .i64 p.1, p.2)) → lookL l k = some v →
    ∃ j e, Instr.findNow (.int q) (.int .i64 k) es i = some (some (i + j, v)) ∧ es[j]? = some e ∧ e.key = .int .i64 k ∧ ∀ u, (es.modify j fun e => { e with key := .int .i64 k, val := u }).map (fun e => (e.key, e.val)) = (putL l k u).map (fun p => (Value.int .i64 p.1, p.2))
  | [], [], _, _, hl => by simp [lookL] at hl
  | [], p :: l, _, h, _ => by simp at h
  | e :: es, [], _, h, _ => by simp at h
  | e :: es, p :: l, i, h, hl => by
    simp only [List.map_cons, List.cons.injEq, Prod.mk.injEq] at h
    unfold lookL at hl
    by_cases hk : k = p.1
    · rw [if_pos hk] at hl
      injection hl with hl
      refine ⟨0, e, ?_, rfl, by rw [h.1.1, hk], fun u => ?_⟩
      · have h1 : Instr.sameNow (.int q) (.int .i64 k) e.key = some true := by rw [h.1.1]; simp [Instr.sameNow, hk]
        unfold Instr.findNow
        rw [h1, h.1.2, hl]
        rfl
      · unfold putL
        rw [if_pos hk]
        simp [h.2]
    · rw [if_neg hk] at hl
      obtain ⟨j, e', h1, h2, h3, h4⟩ := find_some q k v es l (i + 1) h.2 hl
      refine ⟨j + 1, e', ?_, by simpa using h2, h3, fun u => ?_⟩
      · have h5 : Instr.sameNow (.int q) (.int .i64 k) e.key = some false := by rw [h.1.1]; simp [Instr.sameNow, hk]
        unfold Instr.findNow
        rw [h5, h1]
        simp only [Option.some.injEq, Prod.mk.injEq, and_true]
        omega
      · unfold putL
        rw [if_neg hk]
        simp only [List.modify_succ_cons, List.map_cons, h.1.1, h.1.2, h4 u]

theorem im_lookup {t kt et : TypeId} (h : IM w b l) (ht : P.underlying t = some (.map kt et)) (hk : P.underlying kt = some (.int .i64)) {z : Value} (hz : (zeroValue et).run P w = .ok z w) {k : Int} (hw : isKey k) (c : Bool) :
    (Instr.lookup t (.map (some b)) (.int .i64 k) c).run P w = .ok (if c then .tuple #[(lookL l k).getD z, .bool (lookL l k).isSome] else (lookL l k).getD z) w := by
  obtain ⟨es, ck, hb, he⟩ := h
  have hck := (int_keyed (q := .i64) hk).check w es.isEmpty (keyOf_int_mk hk hw)
  rcases hl : lookL l k with _ | v
  · have h1 := find_none .i64 k es.toList l 0 he hl
    simp [Instr.lookup, run_underlying ht, MapKept.run_getObj_map hb, hck, Instr.findKey, run_underlying hk, h1, hz, Result.andThen]
  · obtain ⟨j, e, h1, _, _, _⟩ := find_some .i64 k v es.toList l 0 he hl
    simp [Instr.lookup, run_underlying ht, MapKept.run_getObj_map hb, hck, Instr.findKey, run_underlying hk, h1, Result.andThen]

theorem im_update {t kt et : TypeId} (h : IM w b l) (ht : P.underlying t = some (.map kt et)) (hk : P.underlying kt = some (.int .i64)) {k : Int} (hw : isKey k) (v : Value) :
    ∃ w', (Instr.mapUpdate t (.map (some b)) (.int .i64 k) v).run P w = .ok () w' ∧ IM w' b (putL l k v) ∧ Mod [b] w w' ∧ w'.heap.size = w.heap.size := by
  obtain ⟨es, ck, hb, he⟩ := h
  have hck := (int_keyed (q := .i64) hk).check w false (keyOf_int_mk hk hw)
  have hmod : ∀ o, Mod [b] w (setBlock w b o) := fun o => ⟨rfl, rfl, rfl, by simp [setBlock], fun i _ hi => heap_setBlock_other hb _ (by simpa using hi)⟩
  rcases hl : lookL l k with _ | u
  · have h1 := find_none .i64 k es.toList l 0 he hl
    refine ⟨setBlock w b (.map (es.push ⟨.int .i64 k, v, ck⟩) (ck + 1)), ?_, ⟨_, _, heap_setBlock_same hb _, ?_⟩, hmod _, by simp [setBlock]⟩
    · simp [Instr.mapUpdate, run_underlying ht, MapKept.run_getObj_map hb, hck, Instr.findKey, run_underlying hk, h1, MapKept.run_setObj_map _ hb, Result.andThen, setBlock]
    · have hp : ∀ l : List (Int × Value), lookL l k = none → putL l k v = l ++ [(k, v)] := fun l => by
        induction l with
        | nil => intro _; rfl
        | cons p l ih =>
          intro h
          unfold lookL at h
          by_cases hkp : k = p.1
          · rw [if_pos hkp] at h; cases h
          · rw [if_neg hkp] at h
            unfold putL
            rw [if_neg hkp, ih h]
            rfl
      rw [hp l hl, Array.toList_push, List.map_append, List.map_append, he]
      rfl
  · obtain ⟨j, e, h1, h2, h3, h4⟩ := find_some .i64 k u es.toList l 0 he hl
    simp only [Nat.zero_add] at h1
    have h5 : es[j]? = some e := by rw [← Array.getElem?_toList]; exact h2
    refine ⟨setBlock w b (.map (es.modify j fun e => { e with key := .int .i64 k, val := v }) ck), ?_, ⟨_, _, heap_setBlock_same hb _, ?_⟩, hmod _, by simp [setBlock]⟩
    · have hs : (Instr.keyThatStays (.int .i64 k) (.int .i64 k)).run P w = .ok (.int .i64 k) w := by simp [Instr.keyThatStays, Instr.sameBits]
      simp [Instr.mapUpdate, run_underlying ht, MapKept.run_getObj_map hb, hck, Instr.findKey, run_underlying hk, h1, h5, h3, hs, MapKept.run_setObj_map _ hb, Result.andThen, setBlock]
    · rw [Array.toList_modify]
      exact h4 v
end

end Go.Proofs.YtiglblfjmmdeeaaGreat
