/- WalSurvives: behind a crash a log is what it was at some time. -/
import Derived.Test.YtfclighheoobaaaMany
import Derived.Test.YtfclighheoobaaaOpenAsk23
import Derived.Deep.DeepCutAuto
import Derived.Deep.CutBlock
namespace Go.Proofs.Ytfclighheoobaaa
open Go.RowKit

attribute [local go_sem] ba_append ba_extract ba_size Oper.pureUpon Oper.relUpon
attribute [local go_sem ↓] Go.wp_at_zero Go.wp_at_succ

theorem ptr_info : (Try.prog.info? 68).map (fun i => (i.zero, i.size, i.bytes)) = some (some (.pointer none), 1, 8) := by kernel_rfl
def ptrOf (e : Nat × St) : Value := .pointer (some ⟨e.1, 0, none⟩)
/-- Few short texts. -/
def Few (s : St) (m : Nat) : Prop := s.first ≤ 1 + 6 * m ∧ s.recs.length ≤ m ∧ s.snap.length ≤ 100 ∧ s.note.length ≤ 100 ∧ ∀ x ∈ s.recs, x.length ≤ 100
theorem Few.more {s : St} {m m' : Nat} (h : Few s m) (hm : m ≤ m') : Few s m' := ⟨by have := h.1; omega, by have := h.2.1; omega, h.2.2⟩

theorem few_init : Few St.init 0 := ⟨by decide, by decide, by decide, by decide, by simp [St.init]⟩

/-- The log and its states since what is safe: d = 1: with the last one. -/
def Sv (W w : World) (Gs : List (List Nat)) (dp d m p q : Nat) (s : St) (T : List (Nat × St)) (A : Option Addr) (c : Nat) : Prop :=
  ∃ es es0 es1 sf, PE W w ((Value.slice A T.length c).ownBlock.toList :: Gs) es p dp q sf m s s T ∧ w.ownsRow W.heap.size 68 1 (.slice A T.length c) T.length (T.map ptrOf) ∧ es = es0 ++ es1 ∧ (bytesOf es0).length ≤ sf ∧
    T.length = es1.length + d ∧ (∀ i e, T[i]? = some e → Runs St.init (es0 ++ es1.take i) e.2 ∧ Few e.2 m) ∧ Few s m

section
variable {W w w' w2 : World} {Fs Gs : List (List Nat)} {G : List Nat} {es es0 es1 : List Ent} {dp d m p q sf : Nat} {s t : St} {T : List (Nat × St)} {A A1 : Option Addr} {c c1 : Nat}
theorem PE.nilrow (h : PE W w (G :: Gs) es p dp q sf m s t T) : PE W w ([] :: Gs) es p dp q sf m s t T := (h.side (G' := []) ⟨Mod.refl _ _, by simp⟩).1
/-- With no states, at once behind what is safe. -/
theorem sv_clear (h : PE W w (G :: Gs) es p dp q (bytesOf es).length m s s T) (hf : Few s m) : Sv W w Gs dp 0 m p q s [] none 0 :=
  ⟨es, es, [], _, h.nilrow.none_, World.ownsRow_nil _ _ _ _, by simp, Nat.le_refl _, rfl, by simp, hf⟩
/-- One more record. -/
theorem sv_snoc {e : Ent} (h : PE W w' ((Value.slice A T.length c).ownBlock.toList :: Gs) (es ++ [e]) p dp q sf (m + 1) s s T) (ho : w'.ownsRow W.heap.size 68 1 (.slice A T.length c) T.length (T.map ptrOf))
    (hes : es = es0 ++ es1) (hb : (bytesOf es0).length ≤ sf) (hT : T.length = es1.length + 1) (hr : ∀ i e, T[i]? = some e → Runs St.init (es0 ++ es1.take i) e.2 ∧ Few e.2 m) (hf : Few s (m + 1)) : Sv W w' Gs dp 0 (m + 1) p q s T A c := by
  refine ⟨_, es0, es1 ++ [e], sf, h, ho, by rw [hes, List.append_assoc], hb, by simp [hT], fun i x hx => ?_, hf⟩
  obtain ⟨h1, h2⟩ := hr i x hx
  have hi := (List.getElem?_eq_some_iff.1 hx).1
  rw [List.take_append_of_le_length (by omega)]
  exact ⟨h1, h2.more (by omega)⟩
theorem few_put {n : Nat} {x : List UInt8} (h : Few s m) (hx : x.length ≤ 100) : Few (s.putAt n x) (m + 1) := by
  obtain ⟨h1, h2, h3, h4, h5⟩ := h
  refine ⟨by show s.first ≤ _; omega, ?_, h3, h4, ?_⟩
  · simp only [St.putAt, List.length_append, List.length_take, List.length_cons, List.length_nil]; omega
  · intro y hy
    simp only [St.putAt, List.mem_append, List.mem_singleton] at hy
    rcases hy with hy | rfl
    · exact h5 y (List.mem_of_mem_take hy)
    · exact hx
theorem few_base {n : Nat} {x : List UInt8} (h : Few s m) (hn : n ≤ s.first + 6) (hx : x.length ≤ 100) : Few (s.baseAt n x) (m + 1) := by
  obtain ⟨h1, h2, h3, h4, h5⟩ := h
  refine ⟨by show n ≤ _; omega, ?_, hx, h4, fun y hy => h5 y (List.mem_of_mem_drop hy)⟩
  show (s.recs.drop (n - s.first)).length ≤ _
  rw [List.length_drop]; omega
theorem few_meta {x : List UInt8} (h : Few s m) (hx : x.length ≤ 100) : Few { s with note := x } (m + 1) := ⟨by have := h.1; show s.first ≤ _; omega, by have := h.2.1; show s.recs.length ≤ _; omega, h.2.2.1, hx, h.2.2.2.2⟩
theorem small_take {j : Nat} {s6 : St} (h : Small es s m) (hf : Few s6 m) : Small (es.take j) s6 m := by
  obtain ⟨h1, h2, _⟩ := h
  refine ⟨?_, by rw [List.length_take]; omega, hf.2.1, hf.2.2.1, hf.2.2.2.1, hf.2.2.2.2⟩
  have e1 : (bytesOf es).length = (bytesOf (es.take j)).length + (bytesOf (es.drop j)).length := by rw [← List.length_append, ← bytesOf_append, List.take_append_drop]
  omega
/-- The state behind a crash is one of those. -/
theorem crash_state {j : Nat} (hr : Runs St.init es s) (hes : es = es0 ++ es1) (hT : T.length = es1.length + 1) (hR : ∀ i e, T[i]? = some e → Runs St.init (es0 ++ es1.take i) e.2 ∧ Few e.2 m) (hj : j ≤ es.length) (hj0 : es0.length ≤ j) :
    ∃ (s6 : St) (i : Nat) (e : Nat × St), Runs St.init (es.take j) s6 ∧ T[i]? = some e ∧ e.2 = s6 ∧ Few s6 m := by
  have hl : es.length = es0.length + es1.length := by rw [hes, List.length_append]
  obtain ⟨i, hi⟩ : ∃ i, j - es0.length = i := ⟨_, rfl⟩
  have hiT : i < T.length := by omega
  have hx : T[i]? = some T[i] := List.getElem?_eq_getElem hiT
  obtain ⟨h1, h2⟩ := hR i _ hx
  have e1 : es.take j = es0 ++ es1.take i := by
    rw [hes, List.take_append, List.take_of_length_le hj0, hi]
  rw [← e1] at h1
  exact ⟨_, i, _, h1, hx, rfl, h2⟩
theorem row_cell (ho : w.ownsRow W.heap.size 68 1 (.slice A T.length c) T.length (T.map ptrOf)) {z : Nat} (hz : z < T.length) : ∃ ad, A = some ad ∧ w.cell? (ad.add z) = some (ptrOf T[z]) := by
  obtain ⟨ad, u, e1, _, e2, e3⟩ := (Reads.of_own ho).at_ hz
  rw [List.getElem?_map, List.getElem?_eq_getElem hz] at e2
  injection e2 with e2
  subst e2
  exact ⟨ad, e1, e3⟩
/-- What the search has found among the first z states. -/
def Found (T : List (Nat × St)) (s : St) (f : Value) (z : Nat) : Prop := (f = .int .i64 (-1) ∧ ∀ (g : Nat) (e : Nat × St), g < z → T[g]? = some e → e.2 ≠ s) ∨ ∃ (g : Nat) (e : Nat × St), f = .int .i64 (g : Int) ∧ g < z ∧ T[g]? = some e ∧ e.2 = s
theorem found_yes {z : Nat} (hz : z < T.length) (h : s = T[z].2) : Found T s (.int .i64 (z : Int)) (z + 1) := .inr ⟨z, T[z], rfl, by omega, List.getElem?_eq_getElem hz, h.symm⟩
theorem found_no {f : Value} {z : Nat} (hz : z < T.length) (h : ¬ s = T[z].2) (hf : Found T s f z) : Found T s f (z + 1) := by
  rcases hf with ⟨h1, h2⟩ | ⟨g, e, h1, h2, h3⟩
  · refine .inl ⟨h1, fun g e hg he => ?_⟩
    by_cases hgz : g = z
    · subst hgz
      rw [List.getElem?_eq_getElem hz] at he
      injection he with he
      subst he
      exact fun e => h e.symm
    · exact h2 g e (by omega) he
  · exact .inr ⟨g, e, h1, by omega, h3⟩
/-- The state behind one more copy. -/
theorem sv_push {q' : Nat} (h : PE W w' ((Value.slice A (T.length + 1) c).ownBlock.toList :: Gs) es p dp q sf m s s (T ++ [(q', s)])) (ho : w'.ownsRow W.heap.size 68 1 (.slice A (T.length + 1) c) (T.length + 1) (T.map ptrOf ++ [.pointer (some ⟨q', 0, none⟩)]))
    (hes : es = es0 ++ es1) (hb : (bytesOf es0).length ≤ sf) (hT : T.length = es1.length + 0) (hr : ∀ i e, T[i]? = some e → Runs St.init (es0 ++ es1.take i) e.2 ∧ Few e.2 m) (hf : Few s m) : Sv W w' Gs dp 1 m p q s (T ++ [(q', s)]) A c := by
  have hl : (T ++ [(q', s)]).length = T.length + 1 := by simp
  refine ⟨es, es0, es1, sf, by rw [hl]; exact h, by rw [hl, List.map_append]; exact ho, hes, hb, by omega, fun i e he => ?_, hf⟩
  by_cases hi : i < T.length
  · rw [List.getElem?_append_left hi] at he
    exact hr i e he
  · have hi' : i = T.length := by have := (List.getElem?_eq_some_iff.1 he).1; omega
    rw [hi', List.getElem?_append_right (Nat.le_refl _), Nat.sub_self] at he
    simp at he
    subst he
    have hrn := h.runs
    rw [hes] at hrn
    rw [hi', hT, Nat.add_zero, List.take_length]
    exact ⟨hrn, hf⟩
theorem Sv.ext (h : Sv W w Gs dp d m p q s T A c) (e : Ext w w') : Sv W w' Gs dp d m p q s T A c := by
  obtain ⟨es, es0, es1, sf, h1, h2, h3⟩ := h
  exact ⟨es, es0, es1, sf, h1.ext e, own_mod h2 (Mod.of_below e []) (by simp), h3⟩
theorem PE.app {o : Obj} {n n' : Nat} (h : PE W w ((Value.slice A n c).ownBlock.toList :: Gs) es p dp q sf m s t T) {e : TypeId} {xs : List Value} (hown : w2.ownsRow W.heap.size e 1 (.slice A1 n' c1) n' xs) (hg : (w.alloc o).grownBy w2 (Value.slice A n c).ownBlock)
    (hat : (Value.slice A1 n' c1).ownBlock = (Value.slice A n c).ownBlock ∨ (Value.slice A1 n' c1).ownBlock = some (w.alloc o).heap.size) : PE W w2 ((Value.slice A1 n' c1).ownBlock.toList :: Gs) es p dp q sf m s t T := by
  have hm : Mod (Value.slice A n c).ownBlock.toList w w2 := ((Mod.refl _ _).alloc o).grown hg (fun j hj _ => by rw [hj]; simp)
  refine (h.side ⟨hm, fun j hj => ?_⟩).1
  rw [Option.mem_toList] at hj
  refine ⟨?_, own_lt hown hj⟩
  rcases hat with e | e
  · exact .inl (by rw [Option.mem_toList, ← e]; exact hj)
  · rw [e] at hj
    injection hj with hj
    right
    rw [← hj]
    simp
end

end Go.Proofs.Ytfclighheoobaaa
