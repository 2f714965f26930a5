/- The document's log: Put and Base. -/
import Derived.Test.YtfclighheoobaaaRef23
namespace Go.Proofs.Ytfclighheoobaaa
open Go.RowKit

/-- What operations of Put's region may do: old blocks stay; in a new one the first k places stay, and the one behind them stays or becomes u. -/
structure XS (b k : Nat) (u : Value) (w w' : World) : Prop where
  os : w'.os = w.os
  tape : w'.tape = w.tape
  output : w'.output = w.output
  size : w.heap.size ≤ w'.heap.size
  old : ∀ g : Nat, g < w.heap.size → g < b → w'.heap[g]? = w.heap[g]?
  new : ∀ (g : Nat) (cs : Array Value) (t : TypeId) (m : Nat × Nat), w.heap[g]? = some (Obj.cells cs t m) → ∃ cs' : Array Value, w'.heap[g]? = some (Obj.cells cs' t m) ∧ cs'.size = cs.size ∧ (∀ j, j < k → cs'[j]? = cs[j]?) ∧ (k < cs.size → cs'[k]? = cs[k]? ∨ cs'[k]? = some u)

section
variable {b k : Nat} {u : Value} {w w' w1 : World}
theorem XS.below (h : XS b k u w w') (hb : b ≤ w.heap.size) : Below b w w' := ⟨h.os, h.tape, h.output, h.size, fun g hg => h.old g (by omega) hg⟩
theorem xs_ext (h : Ext w w') : XS b k u w w' :=
  ⟨h.os, h.tape, h.output, h.size, fun g hg _ => h.block g hg, fun g cs t m hg => by
    have hl : g < w.heap.size := (Array.getElem?_eq_some_iff.1 hg).1
    exact ⟨cs, (h.block g hl).trans hg, rfl, fun _ _ => rfl, fun _ => .inl rfl⟩⟩
theorem xs_trans {a b' c : World} (h : XS b k u a b') (h' : XS b k u b' c) : XS b k u a c :=
  ⟨h'.os.trans h.os, h'.tape.trans h.tape, h'.output.trans h.output, Nat.le_trans h.size h'.size, fun g hg hb => (h'.old g (Nat.lt_of_lt_of_le hg h.size) hb).trans (h.old g hg hb), fun g cs t m hg => by
    obtain ⟨c1, e1, e2, e3, e4⟩ := h.new g cs t m hg
    obtain ⟨c2, f1, f2, f3, f4⟩ := h'.new g c1 t m e1
    refine ⟨c2, f1, f2.trans e2, fun j hj => (f3 j hj).trans (e3 j hj), fun hk => ?_⟩
    rcases f4 (by omega) with f | f
    · rcases e4 hk with e | e
      · exact .inl (f.trans e)
      · exact .inr (f.trans e)
    · exact .inr f⟩
instance xs_step (b k : Nat) (u : Value) : RX.Step (XS b k u) := ⟨fun _ _ _ => xs_trans, fun _ _ => xs_ext⟩

/-- A row of the region's own, without places. -/
def Own0T (b : Nat) (v : Value) (w : World) : Prop := ∃ g, v = .slice (some ⟨g, 0, none⟩) 0 0 ∧ b ≤ g ∧ Blk w g 9 #[]
/-- A row of one text. -/
def OneT (b : Nat) (u : Value) (v : Value) (w : World) : Prop := ∃ g, v = .slice (some ⟨g, 0, none⟩) 1 1 ∧ b ≤ g ∧ Blk w g 9 #[u]

theorem Own0T.staysX : RX.Stays (XS b k u) (Own0T b) := by
  rintro v w w' ⟨g, rfl, hb, hg⟩ hx
  obtain ⟨cs, e1, e2, _, _⟩ := hx.new g _ _ _ hg
  have : cs = #[] := Array.eq_empty_of_size_eq_zero (by simpa using e2)
  subst this
  exact ⟨g, rfl, hb, e1⟩
theorem Own0T.stays (b : Nat) : Stays (Own0T b) := by
  rintro v w w' ⟨g, rfl, hb, hg⟩ hx
  exact ⟨g, rfl, hb, hg.below hx hg.lt⟩
theorem OneT.staysX : RX.Stays (XS b k u) (OneT b u) := by
  rintro v w w' ⟨g, rfl, hb, hg⟩ hx
  obtain ⟨cs, e1, e2, e3, e4⟩ := hx.new g _ _ _ hg
  have h0 : cs[0]? = some u := by
    rcases Nat.eq_zero_or_pos k with h | h
    · subst h
      rcases e4 (by simp) with e | e
      · simpa using e
      · exact e
    · simpa using e3 0 h
  have : cs = #[u] := by
    apply Array.ext_getElem?
    intro i
    rcases i with _ | i
    · simpa using h0
    · have h1 : cs.size = 1 := by simpa using e2
      rw [Array.getElem?_eq_none (by omega)]
      simp
  subst this
  exact ⟨g, rfl, hb, e1⟩
theorem OwnT.staysX {n : Nat} {xs : List Value} (hn : n ≤ k ∨ (n = k + 1 ∧ xs[k]? = some u)) : RX.Stays (XS b k u) (OwnT b n xs) := by
  rintro v w w' ⟨A, c, rfl, hl, ho⟩ hx
  refine ⟨A, c, rfl, hl, ?_⟩
  rcases ho with ho | ⟨g, cap, cur, e1, e2, e3, e4, e5, e6, e7⟩
  · exact .inl ho
  · obtain ⟨cs, f1, f2, f3, f4⟩ := hx.new g _ _ _ e3
    refine .inr ⟨g, cap, cs, e1, e2, f1, e4, e5, f2.trans e6, ?_⟩
    rw [← e7]
    apply List.ext_getElem?
    intro i
    rw [List.getElem?_take, List.getElem?_take]
    by_cases hi : i < n * 1
    · rw [if_pos hi, if_pos hi, Array.getElem?_toList, Array.getElem?_toList]
      by_cases hik : i < k
      · exact f3 i hik
      · rcases hn with hn | ⟨hn, hu⟩
        · omega
        · obtain rfl : i = k := by omega
          have h1 : cur[i]? = some u := by
            rw [← e7, List.getElem?_take, if_pos hi, Array.getElem?_toList] at hu
            exact hu
          rcases f4 (by omega) with f | f
          · exact f
          · rw [f, h1]
    · rw [if_neg hi, if_neg hi]

theorem own0T_new (w : World) {b : Nat} (hb : b ≤ w.heap.size) : Own0T b (.slice (some ⟨w.heap.size, 0, none⟩) 0 0) (w.alloc (.cells #[] 9)) := ⟨_, rfl, hb, Blk.new _ _ _⟩
theorem oneT_new (w : World) {b : Nat} (hb : b ≤ w.heap.size) (u : Value) : OneT b u (.slice (some ⟨w.heap.size, 0, none⟩) 1 1) (w.alloc (.cells #[u] 9)) := ⟨_, rfl, hb, Blk.new _ _ _⟩
theorem appendT_new {v : Value} (h : Own0T b v w) (hb : b ≤ w.heap.size) {B : Nat} {A : Option Addr} {m c : Nat} {xs : List Value} (hr : Reads w B 1 A m xs) (h1 : ∀ u ∈ xs, u.oneCell' = true) (h63 : m ≤ 1000000) (ty : TypeId) :
    ∃ v' w', (Builtin.append_ #[49, 49] ty #[v, .slice A m c]).run Try.prog w = .ok v' w' ∧ OwnT b m xs v' w' ∧ Ext w w' := by
  obtain ⟨i0, hi0, hz0, hz1, hz2⟩ := info_parts text_info
  obtain ⟨g, rfl, hg, hbl⟩ := h
  have ho : w.ownsRow b 9 1 (.slice (some ⟨g, 0, none⟩) 0 0) 0 [] := ⟨rfl, .inr ⟨g, 0, #[], rfl, hg, hbl, Nat.le_refl _, Nat.zero_le _, rfl, rfl⟩⟩
  obtain ⟨v', w', e1, e2, e3⟩ := run_append_fresh (P := Try.prog) w b 49 ty 9 i0 _ 1 16 Try.underlying49 hi0 hz0 hz1 hz2 rfl (by omega) g ho B A m c xs hr h1 (by omega) (by omega) hb
  obtain ⟨A', c', rfl, _⟩ := own_slice e2
  exact ⟨_, w', e1, ⟨A', c', rfl, e2⟩, e3⟩
theorem appendT_two {v v2 : Value} {xs : List Value} (h : OwnT b k xs v w) (ho : OneT b u v2 w) (hu : u.oneCell' = true) (hb : b ≤ w.heap.size) (hk : k ≤ 1000000) (ty : TypeId) :
    ∃ v' w', (Builtin.append_ #[49, 49] ty #[v, v2]).run Try.prog w = .ok v' w' ∧ OwnT b (k + 1) (xs ++ [u]) v' w' ∧ XS b k u w w' := by
  obtain ⟨i0, hi0, hz0, hz1, hz2⟩ := info_parts text_info
  obtain ⟨A, c, rfl, hown⟩ := h
  obtain ⟨g2, rfl, hb2, hg2⟩ := ho
  have hone : One u (.slice (some ⟨g2, 0, none⟩) 1 1) w := ⟨_, _, rfl, rfl, fun _ => ⟨_, rfl, hg2.lt, fun j y hy => by
    have h0 : j = 0 := by have := (List.getElem?_eq_some_iff.1 hy).1; simp at this; omega
    subst h0
    have := hg2.cell 0
    simp at hy
    subst hy
    simpa [Addr.add] using this⟩⟩
  have hcell : ∀ j y, [u][j]? = some y → w.cell? ((⟨g2, 0, none⟩ : Addr).add j) = some y := fun j y hy => by
    have h0 : j = 0 := by have := (List.getElem?_eq_some_iff.1 hy).1; simp at this; omega
    subst h0
    have := hg2.cell 0
    simp at hy
    subst hy
    simpa [Addr.add] using this
  have hrd := Reads.of_own hown
  obtain ⟨hl, hcase⟩ := hown
  rcases hcase with ⟨e1, rfl⟩ | ⟨g, cap, cur, e1, e2, e3, e4, e5, e6, e7⟩
  · injection e1 with e1 e2 e3
    subst e1 e3
    obtain ⟨v', w', a1, a2, a3⟩ := append_tight hb hrd hone hk ty
    exact ⟨v', w', a1, a2, xs_ext a3⟩
  · injection e1 with e1 _ e1'
    subst e1 e1'
    by_cases hroom : k < c
    · have hrun := run_append_room (P := Try.prog) w 49 ty 9 i0 Try.underlying49 hi0 g k c cur e3 ⟨g2, 0, none⟩ 1 1 [u] (by rw [hz1]; rfl) hcell (by simpa using hu) (by omega) (by rw [hz1]; simp; omega)
      rw [hz1] at hrun
      simp only [Nat.mul_one, List.length_singleton] at hrun
      obtain ⟨row, hrow⟩ : ∃ row, (cur.toList.take k ++ [u] ++ cur.toList.drop (k + 1)).toArray = row := ⟨_, rfl⟩
      have hcl : cur.toList.length = c := by simpa using e6
      have hrs : row.size = c := by rw [← hrow]; simp; omega
      have hrk : row[k]? = some u := by
        rw [← hrow]
        have ht : (cur.toList.take k).length = k := by rw [List.length_take]; omega
        simp only [List.getElem?_toArray, List.append_assoc]
        rw [List.getElem?_append_right (by omega), ht, Nat.sub_self]
        rfl
      have hrj : ∀ j, j < k → row[j]? = cur[j]? := fun j hj => by
        rw [← hrow]
        simp only [List.getElem?_toArray, List.append_assoc]
        rw [List.getElem?_append_left (by rw [List.length_take]; omega), List.getElem?_take, if_pos hj, Array.getElem?_toList]
      have htk : row.toList.take (k + 1) = xs ++ [u] := by
        rw [← hrow, ← e7]
        simp only [Nat.mul_one]
        rw [List.take_left' (by simp; omega)]
      rw [hrow] at hrun
      have hlt : g < w.heap.size := (Array.getElem?_eq_some_iff.1 e3).1
      have hgr := setRow_heap w g cur row 9 (0, 0) e3
      refine ⟨_, _, hrun, ⟨_, _, rfl, by simp [hl], .inr ⟨g, c, row, rfl, e2, hgr, by omega, e5, by omega, by simpa using htk⟩⟩, ⟨rfl, rfl, rfl, by simp, fun g' hg' hb' => setRow_other w g g' row (by omega), fun g' cs t m hg' => ?_⟩⟩
      by_cases hgg : g' = g
      · subst hgg
        rw [e3] at hg'
        injection hg' with hg'
        injection hg' with h1 h2 h3
        subst h1 h2 h3
        exact ⟨row, hgr, by omega, hrj, fun _ => .inr hrk⟩
      · exact ⟨cs, (setRow_other w g g' row hgg).trans hg', rfl, fun _ _ => rfl, fun _ => .inl rfl⟩
    · obtain rfl : c = k := by omega
      obtain ⟨v', w', a1, a2, a3⟩ := append_tight hb hrd hone hk ty
      exact ⟨v', w', a1, a2, xs_ext a3⟩
end

section
variable {w w4 w5 : World} {R : List Nat} {q : Nat} {s s' : St}
/-- The object behind a new row in its field. -/
theorem rf_end (h : IsRf w R q s) (hR : ∀ k ∈ R, k < w.heap.size) (he : Ext w w4) (hm : Mod [q] w4 w5) {A : Option Addr} {c : Nat}
    (hb5 : Blk w5 q 89 #[.int .i64 (s'.first : Int), .slice A s'.recs.length c, tx s'.snap, tx s'.note]) (ho : w4.ownsRow w.heap.size 9 1 (.slice A s'.recs.length c) s'.recs.length (txs s'.recs)) (hok : s'.ok) :
    ∃ R', IsRf w5 R' q s' ∧ (∀ k ∈ R, k ∈ R') ∧ Mod [q] w w5 ∧ ∀ k ∈ R', (k ∈ R ∨ w.heap.size ≤ k) ∧ k < w5.heap.size := by
  have hq := h.mem
  have hql := h.lt
  have hm' : Mod [q] w w5 := (Mod.of_below he _).trans' hm
  have ho5 : w5.ownsRow w.heap.size 9 1 (.slice A s'.recs.length c) s'.recs.length (txs s'.recs) := own_mod ho hm (fun j hj e => by
    have := (ho.lt j hj).1
    simp at e
    omega)
  refine ⟨(Value.slice A s'.recs.length c).ownBlock.toList ++ R, ⟨A, c, by simp [hq], hb5, Reads.of_own ho5, fun ad e => ?_, ?_, ?_, hok⟩, fun k hk => by simp [hk], hm', fun k hk => ?_⟩
  · subst e
    refine ⟨by simp [Value.ownBlock], ?_⟩
    obtain ⟨_, hc | ⟨g, cap, cur, e1, _, e3, _⟩⟩ := ho5
    · have := hc.1
      cases this
    · injection e1 with e1
      injection e1 with e1
      subst e1
      exact ⟨cur, e3⟩
  · obtain ⟨A', c', e, h1, h2⟩ := own_slice ho5
    injection e with _ _ e
    omega
  · obtain ⟨A', c', e, h1, h2, _⟩ := own_slice ho5
    injection e with _ _ e
    unfold maxLen at h2
    omega
  · rcases List.mem_append.1 hk with hk | hk
    · exact ⟨.inr (ho5.lt k (by simpa using hk)).1, own_lt ho5 (by simpa using hk)⟩
    · exact ⟨.inl hk, Nat.lt_of_lt_of_le (hR k hk) hm'.size⟩
end

end Go.Proofs.Ytfclighheoobaaa
