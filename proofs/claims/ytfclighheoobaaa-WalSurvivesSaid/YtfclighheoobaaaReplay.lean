/- A log's records on a disk: what they say one behind the other; bytes cut off anywhere. -/
import Derived.Test.YtfclighheoobaaaBase
namespace Go.Proofs.Ytfclighheoobaaa
open Go.RowKit

/-- A record: put 1, meta 2, base 3. -/
structure Ent where
  kind : Nat
  n : Nat
  s : List UInt8
def Ent.pay (e : Ent) : List UInt8 := Proofs.Ytfclighheoobaaa.pay e.kind e.n e.s
/-- A record fits a state, and what the state is behind it. -/
def Ent.fits (e : Ent) (s : St) : Prop := e.s.length ≤ 65536 ∧ ((e.kind = 1 ∧ s.first ≤ e.n ∧ e.n ≤ s.next) ∨ (e.kind = 2 ∧ e.n = 0) ∨ (e.kind = 3 ∧ s.first ≤ e.n ∧ e.n ≤ 1073741824))
def Ent.act (e : Ent) (s : St) : St := if e.kind = 1 then s.putAt e.n e.s else if e.kind = 2 then { s with note := e.s } else ⟨e.n, [], e.s, s.note⟩
/-- Records that fit one behind the other, from one state to another one. -/
inductive Runs : St → List Ent → St → Prop
  | nil {s} : Runs s [] s
  | cons {s e l s'} : e.fits s → Runs (e.act s) l s' → Runs s (e :: l) s'
theorem Runs.append {l l' : List Ent} : ∀ {s s' s''}, Runs s l s' → Runs s' l' s'' → Runs s (l ++ l') s''
  | _, _, _, .nil, h => h
  | _, _, _, .cons hf h, h' => .cons hf (Runs.append h h')
theorem Runs.snoc {s s' : St} {l : List Ent} (h : Runs s l s') {e : Ent} (he : e.fits s') : Runs s (l ++ [e]) (e.act s') := h.append (.cons he .nil)
theorem Runs.split : ∀ {l l' : List Ent} {s s''}, Runs s (l ++ l') s'' → ∃ s', Runs s l s' ∧ Runs s' l' s''
  | [], _, _, _, h => ⟨_, .nil, h⟩
  | e :: l, l', s, s'', h => by
    cases h with
    | cons hf h =>
      obtain ⟨s', h1, h2⟩ := Runs.split h
      exact ⟨s', .cons hf h1, h2⟩
/-- Records as bytes. -/
def bytesOf (l : List Ent) : List UInt8 := encs (l.map Ent.pay)
theorem bytesOf_append (a b : List Ent) : bytesOf (a ++ b) = bytesOf a ++ bytesOf b := by unfold bytesOf; rw [List.map_append, encs_append]
theorem bytesOf_one (e : Ent) : bytesOf [e] = enc e.kind e.n e.s := by simp [bytesOf, encs, enc, Ent.pay]

/-- Of a frame that was cut off nothing is read. -/
theorem torn_cut (x : List UInt8) (hx : x.length ≤ 1048572) (k : Nat) (hk : k < (frm x).length) : Torn ((frm x).take k) := by
  rw [frm_len] at hk
  by_cases h8 : k < 8
  · exact .inl (by rw [List.length_take]; omega)
  · refine .inr ⟨x.length + 4, ?_, by omega, ?_⟩
    · unfold frm
      rw [List.take_take, Nat.min_eq_left (by omega), List.take_append_of_le_length (by rw [leBytes_len]; omega), List.take_of_length_le (by rw [leBytes_len]; omega), sealed_len]
      exact leNum_leBytes 8 _ (by omega)
    · rw [List.length_take, frm_len]; omega
/-- The beginning of records' bytes: whole records, and one that is torn. -/
theorem take_encs : ∀ (l : List (List UInt8)) (k : Nat), (∀ x ∈ l, x.length ≤ 1048572) → ∃ j t, j ≤ l.length ∧ (encs l).take k = encs (l.take j) ++ t ∧ Torn t ∧ (k < (encs l).length → j < l.length) ∧ (∀ i, i ≤ l.length → (encs (l.take i)).length ≤ k → i ≤ j)
  | [], k, _ => ⟨0, [], by simp, by simp [encs], torn_nil, by simp [encs], by simp⟩
  | x :: l, k, h => by
    by_cases hk : k < (frm x).length
    · refine ⟨0, (frm x).take k, by simp, ?_, torn_cut x (h x (by simp)) k hk, by simp, ?_⟩
      · simp only [List.take_zero, encs, List.nil_append]
        rw [List.take_append_of_le_length (by omega)]
      · intro i hi hle
        rcases i with _ | i
        · exact Nat.le_refl _
        · simp only [List.take_succ_cons, encs, List.length_append] at hle
          omega
    · obtain ⟨j, t, h1, h2, h3, h4, h5⟩ := take_encs l (k - (frm x).length) (fun y hy => h y (by simp [hy]))
      refine ⟨j + 1, t, by simp; omega, ?_, h3, ?_, ?_⟩
      · simp only [List.take_succ_cons, encs]
        rw [List.take_append, List.take_of_length_le (by omega), h2, List.append_assoc]
      · intro hlt
        simp only [encs, List.length_append] at hlt
        have := h4 (by omega)
        simp; omega
      · intro i hi hle
        rcases i with _ | i
        · omega
        · simp only [List.take_succ_cons, encs, List.length_append] at hle
          have := h5 i (by simp at hi; omega) (by omega)
          omega

end Go.Proofs.Ytfclighheoobaaa
