/- core.Proposer: the object; New, Seen, Ballot, more, node, Led. -/
import Derived.Test.YtiglblfjmmdeeaaGreatCoreAcc3
namespace Go.Proofs.YtiglblfjmmdeeaaGreat
open Go.RowKit Go.Maps Go.ChangeMaps

attribute [local go_sem] Oper.pureUpon Oper.relUpon

/-- Each of these has 1. -/
def ones (l : List Int) : List (Int × Value) := l.map fun x => (x, .int .i64 1)
/-- The maps of a proposer: none before it began; who promised; the one value that is picked (at slot 0), and who accepted it. -/
def PMaps (w : World) (F : List Nat) (p : Nat) (m1 m2 m3 : Value) : Option (List Int) → Option (List UInt8 × List Int) → Prop
  | none, pk => pk = none ∧ m1 = .map none ∧ m2 = .map none ∧ m3 = .map none ∧ F = [p]
  | some l, none => ∃ b1 b2 b3, m1 = .map (some b1) ∧ m2 = .map (some b2) ∧ m3 = .map (some b3) ∧ IM w b1 (ones l) ∧ IM w b2 [] ∧ IM w b3 [] ∧ F = [p, b1, b2, b3]
  | some l, some (v, ns) => ∃ b1 b2 b3 q b4, m1 = .map (some b1) ∧ m2 = .map (some b2) ∧ m3 = .map (some b3) ∧ IM w b1 (ones l) ∧ IM w b2 [] ∧ IM w b3 [(0, .pointer (some ⟨q, 0, none⟩))] ∧ Blk w q 199 #[tx v, .map (some b4)] ∧ IM w b4 (ones ns) ∧ F = [p, b1, b2, b3, q, b4]
/-- The proposer behind p. -/
def IsProp (w : World) (F : List Nat) (p : Nat) (me nodes round br bn fr : Int) (pr : Option (List Int)) (pk : Option (List UInt8 × List Int)) : Prop :=
  ∃ m1 m2 m3, Blk w p 137 #[.int .i64 me, .int .i64 nodes, .int .i64 round, .int .i64 br, .int .i64 bn, .int .i64 fr, m1, m2, m3] ∧ PMaps w F p m1 m2 m3 pr pk ∧ F.Nodup

section
variable {W w w' : World} {F : List Nat} {p : Nat} {me nodes round br bn fr : Int} {pr : Option (List Int)} {pk : Option (List UInt8 × List Int)} {m1 m2 m3 : Value}
theorem PMaps.keep (h : PMaps w F p m1 m2 m3 pr pk) (hk : ∀ k ∈ F, k ≠ p → w'.heap[k]? = w.heap[k]?) (hn : F.Nodup) : PMaps w' F p m1 m2 m3 pr pk := by
  rcases pr with _ | l
  · exact h
  · rcases pk with _ | ⟨v, ns⟩
    · obtain ⟨b1, b2, b3, e1, e2, e3, h1, h2, h3, rfl⟩ := h
      simp at hn
      exact ⟨b1, b2, b3, e1, e2, e3, h1.keep (hk _ (by simp) (by omega)), h2.keep (hk _ (by simp) (by omega)), h3.keep (hk _ (by simp) (by omega)), rfl⟩
    · obtain ⟨b1, b2, b3, q, b4, e1, e2, e3, h1, h2, h3, h4, h5, rfl⟩ := h
      simp at hn
      exact ⟨b1, b2, b3, q, b4, e1, e2, e3, h1.keep (hk _ (by simp) (by omega)), h2.keep (hk _ (by simp) (by omega)), h3.keep (hk _ (by simp) (by omega)), h4.keep (hk _ (by simp) (by omega)), h5.keep (hk _ (by simp) (by omega)), rfl⟩
theorem PMaps.mem (h : PMaps w F p m1 m2 m3 pr pk) : p ∈ F := by
  rcases pr with _ | l
  · obtain ⟨_, _, _, _, rfl⟩ := h; simp
  · rcases pk with _ | ⟨v, ns⟩
    · obtain ⟨b1, b2, b3, _, _, _, _, _, _, rfl⟩ := h; simp
    · obtain ⟨b1, b2, b3, q, b4, _, _, _, _, _, _, _, _, rfl⟩ := h; simp
theorem PMaps.lt (h : PMaps w F p m1 m2 m3 pr pk) (hp : p < w.heap.size) : ∀ k ∈ F, k < w.heap.size := by
  rcases pr with _ | l
  · obtain ⟨_, _, _, _, rfl⟩ := h; simpa using hp
  · rcases pk with _ | ⟨v, ns⟩
    · obtain ⟨b1, b2, b3, _, _, _, h1, h2, h3, rfl⟩ := h
      simpa using ⟨hp, h1.lt, h2.lt, h3.lt⟩
    · obtain ⟨b1, b2, b3, q, b4, _, _, _, h1, h2, h3, h4, h5, rfl⟩ := h
      simpa using ⟨hp, h1.lt, h2.lt, h3.lt, h4.lt, h5.lt⟩
theorem IsProp.lt (h : IsProp w F p me nodes round br bn fr pr pk) : ∀ k ∈ F, k < w.heap.size := by
  obtain ⟨m1, m2, m3, hb, hm, _⟩ := h
  exact hm.lt hb.lt
theorem IsProp.keep (h : IsProp w F p me nodes round br bn fr pr pk) (hk : Keep F w w') : IsProp w' F p me nodes round br bn fr pr pk := by
  obtain ⟨m1, m2, m3, hb, hm, hn⟩ := h
  exact ⟨m1, m2, m3, hb.keep (hk p hm.mem), hm.keep (fun k hkF _ => hk k hkF) hn, hn⟩
theorem IsProp.ext (h : IsProp w F p me nodes round br bn fr pr pk) (e : Ext w w') : IsProp w' F p me nodes round br bn fr pr pk := h.keep fun k hk => e.block k (h.lt k hk)

theorem prop_new (w : World) (me nodes : Int) : Calls Tryz.prog 44 #[.int .i64 me, .int .i64 nodes] w fun e w' => ∃ p, e = .returned (.pointer (some ⟨p, 0, none⟩)) ∧ IsProp w' [p] p me nodes 0 0 0 0 none none ∧ w.heap.size = p ∧ Ext w w' := by
  go_enter Tryz.func44, Tryz.ntmps44
  go_wp2_with fail
  go_ret
  exact ⟨_, rfl, ⟨_, _, _, Blk.new _ _ _, ⟨rfl, rfl, rfl, rfl, rfl⟩, by simp⟩, rfl, (Below.refl _ _).alloc (Nat.le_refl _) _⟩

theorem prop_ballot (h : IsProp w F p me nodes round br bn fr pr pk) : Calls Tryz.prog 112 #[.pointer (some ⟨p, 0, none⟩)] w fun e w' => e = .returned (bal br bn) ∧ Ext w w' := by
  obtain ⟨m1, m2, m3, hb, _, _⟩ := h
  have hlt := hb.lt
  have c3 : ∀ w', Ext w w' → w'.cell? ⟨p, 3, none⟩ = some (.int .i64 br) := fun w' he => by have := (hb.below he hlt).cell 3; simpa using this
  have c4 : ∀ w', Ext w w' → w'.cell? ⟨p, 4, none⟩ = some (.int .i64 bn) := fun w' he => by have := (hb.below he hlt).cell 4; simpa using this
  have d3 := c3 _ ((Below.refl w.heap.size w).alloc (Nat.le_refl _) (.cells #[.int .i64 0, .int .i64 0] 108))
  have d4 := c4 _ ((Below.refl w.heap.size w).alloc (Nat.le_refl _) (.cells #[.int .i64 0, .int .i64 0] 108))
  clear c3 c4 hb
  go_enter Tryz.func112, Tryz.ntmps112
  go_wp2_with fail
  refine bodyPost_ret (v := bal br bn) (by simp [results, Tryz.results112, go_sem, bal]) rfl ⟨rfl, ?_⟩
  exact (Below.refl _ _).alloc (Nat.le_refl _) _

theorem prop_more (h : IsProp w F p me nodes round br bn fr pr pk) (k : Nat) (hk : k ≤ 1000000) : Calls Tryz.prog 154 #[.pointer (some ⟨p, 0, none⟩), .int .i64 k] w fun e w' => e = .returned (.bool (decide (2 * (k : Int) > nodes))) ∧ w = w' := by
  obtain ⟨m1, m2, m3, hb, _, _⟩ := h
  have c1 := hb.cell 1
  simp at c1
  clear hb
  go_enter Tryz.func154, Tryz.ntmps154
  go_wp2_with fail
  go_ret
  exact ⟨by congr 2, rfl⟩

theorem prop_node (h : IsProp w F p me nodes round br bn fr pr pk) (k : Int) (h0 : 0 ≤ k) (h1 : k < nodes) : Calls Tryz.prog 151 #[.pointer (some ⟨p, 0, none⟩), .int .i64 k] w fun e w' => e = .returned (.bool true) ∧ w = w' := by
  obtain ⟨m1, m2, m3, hb, _, _⟩ := h
  have c1 := hb.cell 1
  simp at c1
  clear hb
  go_enter Tryz.func151, Tryz.ntmps151
  go_wp2_with fail
  go_ret
  exact ⟨rfl, rfl⟩

theorem im_len {P : Program} {b : Nat} {l : List (Int × Value)} (h : IM w b l) {t kt et : TypeId} (ht : P.underlying t = some (.map kt et)) (ty : TypeId) : (Builtin.len_ #[t] ty #[.map (some b)]).run P w = .ok (.int .i64 l.length) w := by
  obtain ⟨es, ck, hb, he⟩ := h
  have hl := congrArg List.length he
  simp at hl
  simp [Builtin.len_, Builtin.lenOf, run_underlying ht, MapKept.run_getObj_map hb, hl]
  rfl

set_option maxRecDepth 100000 in
theorem prop_led (l : List Int) (h : IsProp w F p me nodes round br bn fr (some l) pk) (hl : l.length ≤ 1000) : Calls Tryz.prog 155 #[.pointer (some ⟨p, 0, none⟩)] w fun e w' => e = .returned (.bool (decide (2 * (l.length : Int) > nodes))) ∧ w = w' := by
  have hm := prop_more h l.length (by omega)
  obtain ⟨m1, m2, m3, hb, hmm, _⟩ := h
  have h1 : ∃ b1, m1 = .map (some b1) ∧ IM w b1 (ones l) := by
    rcases pk with _ | ⟨v, ns⟩
    · obtain ⟨b1, b2, b3, e1, e2, e3, h1, h2, h3, _⟩ := hmm
      exact ⟨b1, e1, h1⟩
    · obtain ⟨b1, b2, b3, q, b4, e1, e2, e3, h1, h2, h3, h4, h5, _⟩ := hmm
      exact ⟨b1, e1, h1⟩
  obtain ⟨b1, rfl, h1⟩ := h1
  have c6 := hb.cell 6
  simp at c6
  have hlen := im_len h1 Tryz.underlying79 3
  rw [show (ones l).length = l.length by simp [ones]] at hlen
  have HM := Lib.hid hm
  clear hb hmm h1 hm
  go_enter Tryz.func155, Tryz.ntmps155
  go_wp2_with fail
  refine HM.out.mono ?_
  rintro e w1 ⟨rfl, rfl⟩
  go_wp2_with fail
  go_ret
  exact ⟨rfl, rfl⟩
end

end Go.Proofs.YtiglblfjmmdeeaaGreat
