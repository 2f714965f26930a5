/- All objects of a group, apart from one another: what each is, by its key. -/
import Derived.Test.YtiglblfjmmdeeaaGreatCoreProp
import Derived.Test.YtiglblfjmmdeeaaGreatCoreTake
namespace Go.Proofs.YtiglblfjmmdeeaaGreat
open Go.RowKit Go.Maps Go.ChangeMaps

abbrev Key := Nat × Nat
/-- The cells of the messages under way: from, to, the body. -/
def mcells : List (Int × Int × List UInt8) → List Value → List Value
  | t :: ts, v :: vs => .int .i64 t.1 :: .int .i64 t.2.1 :: v :: mcells ts vs
  | _, _ => []
/-- What an object is. -/
inductive Ob where
  | none
  | st (p : Nat) (t : TypeId) (cs : List Value)
  | disk (p : Nat) (l : List UInt8) (s : Nat)
  | acc (p : Nat) (pr pn : Int) (vs : List (Int × Vt)) (top : Nat)
  | prop (p : Nat) (me nodes round br bn fr : Int) (pr : Option (List Int)) (pk : Option (List UInt8 × List Int))
  | log (p : Nat) (kn : List (Int × List UInt8)) (tk : Nat)
  | im (b : Nat) (l : List (Int × Value))
  | em (b : Nat) (es : List (Value × Value))
  | row (e : TypeId) (size : Nat) (v : Value) (n : Nat) (xs : List Value)
  | world (p : Nat) (nodesv app : Value) (ts : List (Int × Int × List UInt8))

/-- A map known by its entries, whatever its keys. -/
def EM (w : World) (b : Nat) (l : List (Value × Value)) : Prop := ∃ es ck, w.heap[b]? = some (.map es ck) ∧ es.toList.map (fun e => (e.key, e.val)) = l

def Holds (w : World) (F : List Nat) : Ob → Prop
  | .none => F = []
  | .st p t cs => Blk w p t cs.toArray ∧ F = [p]
  | .disk p l s => IsD w F p l s
  | .acc p pr pn vs top => IsAcc w F p pr pn vs top
  | .prop p me nodes round br bn fr pr pk => IsProp w F p me nodes round br bn fr pr pk
  | .log p kn tk => IsCL w F p kn tk
  | .im b l => IM w b l ∧ F = [b]
  | .em b es => EM w b es ∧ F = [b]
  | .row e size v n xs => w.ownsRow 0 e size v n xs ∧ F = v.ownBlock.toList
  | .world p nodesv app ts => ∃ netv vs, Blk w p 67 #[netv, nodesv, app] ∧ w.ownsRow 0 86 3 netv ts.length (mcells ts vs) ∧ F2 (OwnRec w) (ts.map (·.2.2)) vs ∧
      F = p :: (netv.ownBlock.toList ++ vs.flatMap fun v => v.ownBlock.toList)

def upd {α : Type} (S : Key → α) (i : Key) (o : α) : Key → α := fun j => if j = i then o else S j

theorem EM.lt {w : World} {b : Nat} {l : List (Value × Value)} (h : EM w b l) : b < w.heap.size := by
  obtain ⟨es, ck, hb, _⟩ := h
  exact (Array.getElem?_eq_some_iff.1 hb).1
theorem EM.keep {w w' : World} {b : Nat} {l : List (Value × Value)} (h : EM w b l) (hk : w'.heap[b]? = w.heap[b]?) : EM w' b l := by
  obtain ⟨es, ck, hb, h⟩ := h
  exact ⟨es, ck, hk.trans hb, h⟩
theorem OwnRec.keep {w w' : World} {x : List UInt8} {v : Value} (h : OwnRec w x v) (hk : Keep v.ownBlock.toList w w') : OwnRec w' x v := by
  obtain ⟨A, c, rfl, h⟩ := h
  exact ⟨A, c, rfl, own_keep h hk⟩
theorem OwnRec.lt {w : World} {x : List UInt8} {v : Value} (h : OwnRec w x v) : ∀ k ∈ v.ownBlock.toList, k < w.heap.size := by
  obtain ⟨A, c, rfl, h⟩ := h
  intro k hk
  exact own_lt h (by simpa using hk)

theorem f2_mem {α β : Type} {R S : α → β → Prop} : ∀ {l : List α} {m : List β}, F2 R l m → (∀ a b, b ∈ m → R a b → S a b) → F2 S l m
  | _, _, .nil, _ => .nil
  | _, _, .cons h t, k => .cons (k _ _ (by simp) h) (f2_mem t fun a b hb => k a b (by simp [hb]))
theorem f2_right {α β : Type} {R : α → β → Prop} : ∀ {l : List α} {m : List β}, F2 R l m → ∀ {b : β}, b ∈ m → ∃ a, R a b
  | _, _, .nil, b, hb => by simp at hb
  | x :: _, _, .cons h t, b, hb => by
    rcases List.mem_cons.1 hb with rfl | hb
    · exact ⟨x, h⟩
    · exact f2_right t hb

section
variable {w w' : World} {F : List Nat} {o : Ob}
theorem Holds.keep (h : Holds w F o) (hk : Keep F w w') : Holds w' F o := by
  cases o with
  | none => exact h
  | st p t cs => exact ⟨h.1.keep (hk p (by rw [h.2]; simp)), h.2⟩
  | disk p l s => exact IsD.keep h hk
  | acc p pr pn vs top => exact IsAcc.keep h hk
  | prop p me nodes round br bn fr pr pk => exact IsProp.keep h hk
  | log p kn tk => exact IsCL.keep h hk
  | im b l => exact ⟨h.1.keep (hk b (by rw [h.2]; simp)), h.2⟩
  | em b es => exact ⟨h.1.keep (hk b (by rw [h.2]; simp)), h.2⟩
  | row e size v n xs => exact ⟨own_keep h.1 (fun k hk' => hk k (by rw [h.2]; exact hk')), h.2⟩
  | world p nodesv app ts =>
    obtain ⟨netv, vs, h1, h2, h3, rfl⟩ := h
    refine ⟨netv, vs, h1.keep (hk p (by simp)), own_keep h2 (fun k hk' => hk k (List.mem_cons_of_mem _ (List.mem_append_left _ hk'))), f2_mem h3 (fun x v hv hr => hr.keep (fun k hk' => hk k (List.mem_cons_of_mem _ (List.mem_append_right _ (List.mem_flatMap.2 ⟨v, hv, hk'⟩))))), rfl⟩
theorem Holds.lt (h : Holds w F o) : ∀ k ∈ F, k < w.heap.size := by
  cases o with
  | none => intro k hk; rw [show F = [] from h] at hk; simp at hk
  | st p t cs => intro k hk; rw [h.2] at hk; simp at hk; subst hk; exact h.1.lt
  | disk p l s => exact IsD.lt h
  | acc p pr pn vs top => exact IsAcc.lt h
  | prop p me nodes round br bn fr pr pk => exact IsProp.lt h
  | log p kn tk => exact IsCL.lt h
  | im b l => intro k hk; rw [h.2] at hk; simp at hk; subst hk; exact h.1.lt
  | em b es => intro k hk; rw [h.2] at hk; simp at hk; subst hk; exact h.1.lt
  | row e size v n xs => intro k hk; rw [h.2] at hk; exact own_lt h.1 (by simpa using hk)
  | world p nodesv app ts =>
    obtain ⟨netv, vs, h1, h2, h3, rfl⟩ := h
    intro k hk
    rcases List.mem_cons.1 hk with rfl | hk
    · exact h1.lt
    rcases List.mem_append.1 hk with hk | hk
    · exact own_lt h2 (by simpa using hk)
    · obtain ⟨v, hv, hk⟩ := List.mem_flatMap.1 hk
      obtain ⟨x, hr⟩ := f2_right h3 hv
      exact hr.lt k hk
end

/-- The objects S, in the blocks F. -/
structure M (w : World) (F : Key → List Nat) (S : Key → Ob) : Prop where
  disj : ∀ i j, i ≠ j → ∀ k ∈ F i, k ∉ F j
  holds : ∀ i, Holds w (F i) (S i)
/-- What a step leaves as it was: all that is not of the objects. -/
structure Fr (F F' : Key → List Nat) (w w' : World) : Prop where
  os : w'.os = w.os
  tape : w'.tape = w.tape
  output : w'.output = w.output
  size : w.heap.size ≤ w'.heap.size
  block : ∀ k, k < w.heap.size → (∀ i, k ∉ F i) → w'.heap[k]? = w.heap[k]?
  foot : ∀ i, ∀ k ∈ F' i, (∃ j, k ∈ F j) ∨ w.heap.size ≤ k
/-- A step of the objects. -/
def Go2 (F : Key → List Nat) (w w' : World) (S' : Key → Ob) : Prop := ∃ F', M w' F' S' ∧ Fr F F' w w'

section
variable {w w' w2 w3 : World} {F F' F2 F3 : Key → List Nat} {S S' : Key → Ob} {i j : Key} {o o' : Ob} {p : Nat} {t : TypeId} {cs : List Value}
theorem upd_same {α : Type} (S : Key → α) (i : Key) (o : α) : upd S i o i = o := by simp [upd]
theorem upd_ne' {α : Type} (S : Key → α) {i j : Key} (h : j ≠ i) (o : α) : upd S i o j = S j := by simp [upd, h]
theorem upd_self {α : Type} (S : Key → α) {i : Key} {o : α} (h : S i = o) : upd S i o = S := by
  funext j
  unfold upd
  split
  · subst_vars; rfl
  · rfl
theorem upd_upd {α : Type} (S : Key → α) (i : Key) (o o' : α) : upd (upd S i o) i o' = upd S i o' := by
  funext j
  unfold upd
  split <;> rfl
theorem M.at (h : M w F S) (hs : S i = o) : Holds w (F i) o := hs ▸ h.holds i
theorem M.lt (h : M w F S) : ∀ k ∈ F i, k < w.heap.size := (h.holds i).lt
theorem Fr.refl (F : Key → List Nat) (w : World) : Fr F F w w := ⟨rfl, rfl, rfl, Nat.le_refl _, fun _ _ _ => rfl, fun i _ hk => .inl ⟨i, hk⟩⟩
theorem Fr.trans (h : Fr F F2 w w2) (k : Fr F2 F3 w2 w3) : Fr F F3 w w3 := by
  refine ⟨k.os.trans h.os, k.tape.trans h.tape, k.output.trans h.output, Nat.le_trans h.size k.size, fun b hb hn => ?_, fun i b hb => ?_⟩
  · refine (k.block b (Nat.lt_of_lt_of_le hb h.size) (fun i hi => ?_)).trans (h.block b hb hn)
    rcases h.foot i b hi with ⟨j, hj⟩ | h2
    · exact hn j hj
    · omega
  · rcases k.foot i b hb with ⟨j, hj⟩ | h2
    · exact h.foot j b hj
    · exact .inr (Nat.le_trans h.size h2)
theorem Fr.ext (F : Key → List Nat) (e : Ext w w') : Fr F F w w' := ⟨e.os, e.tape, e.output, e.size, fun k hk _ => e.block k hk, fun i _ hk => .inl ⟨i, hk⟩⟩
theorem M.ext (h : M w F S) (e : Ext w w') : M w' F S := ⟨h.disj, fun i => (h.holds i).keep fun k hk => e.block k (h.lt k hk)⟩
theorem M.go_ext (h : M w F S) (e : Ext w w') : Go2 F w w' S := ⟨F, h.ext e, Fr.ext F e⟩
/-- An object's step. -/
theorem M.step (h : M w F S) (i : Key) {F1 : List Nat} (n : Next (F i) F1 w w') (hh : Holds w' F1 o') : M w' (upd F i F1) (upd S i o') ∧ Fr F (upd F i F1) w w' := by
  have hk : ∀ j, j ≠ i → Keep (F j) w w' := fun j hj k hk => n.1.block k (h.lt k hk) (fun hi => h.disj j i hj k hk hi)
  refine ⟨⟨fun a b hab k hka hkb => ?_, fun j => ?_⟩, ⟨n.1.os, n.1.tape, n.1.output, n.1.size, fun k hk hn => n.1.block k hk (hn i), fun j k hk => ?_⟩⟩
  · unfold upd at hka hkb
    split at hka <;> split at hkb
    · subst_vars; exact hab rfl
    · subst_vars
      rcases (n.2 k hka).1 with h1 | h1
      · exact h.disj _ b hab k h1 hkb
      · have := h.lt k hkb; omega
    · subst_vars
      rcases (n.2 k hkb).1 with h1 | h1
      · exact h.disj a _ (by assumption) k hka h1
      · have := h.lt k hka; omega
    · exact h.disj a b hab k hka hkb
  · unfold upd
    split
    · exact hh
    · exact (h.holds j).keep (hk j (by assumption))
  · unfold upd at hk
    split at hk
    · rcases (n.2 k hk).1 with h1 | h1
      · exact .inl ⟨i, h1⟩
      · exact .inr h1
    · exact .inl ⟨j, hk⟩
/-- Two objects' step: the second one is gone into the first. -/
theorem M.merge (h : M w F S) (hij : i ≠ j) {F1 : List Nat} (m : Mod (F i ++ F j) w w') (hF : ∀ k ∈ F1, ((k ∈ F i ∨ k ∈ F j) ∨ w.heap.size ≤ k) ∧ k < w'.heap.size) (hh : Holds w' F1 o') :
    M w' (upd (upd F j []) i F1) (upd (upd S j .none) i o') ∧ Fr F (upd (upd F j []) i F1) w w' := by
  have hk : ∀ a, a ≠ i → a ≠ j → Keep (F a) w w' := fun a ha hb k hk => m.block k (h.lt k hk) (fun hi => by
    rcases List.mem_append.1 hi with hi | hi
    · exact h.disj a i ha k hk hi
    · exact h.disj a j hb k hk hi)
  have hn : ∀ a, a ≠ i → a ≠ j → ∀ k, k ∈ F1 → k ∉ F a := fun a ha hb k h1 h2 => by
    rcases (hF k h1).1 with (h3 | h3) | h3
    · exact h.disj a i ha k h2 h3
    · exact h.disj a j hb k h2 h3
    · have := h.lt k h2; omega
  refine ⟨⟨fun a b hab k hka hkb => ?_, fun a => ?_⟩, ⟨m.os, m.tape, m.output, m.size, fun k hk hn => m.block k hk (fun hi => by
    rcases List.mem_append.1 hi with hi | hi
    · exact hn i hi
    · exact hn j hi), fun a k hk => ?_⟩⟩
  · unfold upd at hka hkb
    split at hka <;> split at hkb
    · subst_vars; exact hab rfl
    · split at hkb
      · simp at hkb
      · exact hn b (by assumption) (by assumption) k hka hkb
    · split at hka
      · simp at hka
      · exact hn a (by assumption) (by assumption) k hkb hka
    · split at hka
      · simp at hka
      · split at hkb
        · simp at hkb
        · exact h.disj a b hab k hka hkb
  · unfold upd
    split
    · exact hh
    · split
      · rfl
      · exact (h.holds a).keep (hk a (by assumption) (by assumption))
  · unfold upd at hk
    split at hk
    · rcases (hF k hk).1 with (h1 | h1) | h1
      · exact .inl ⟨i, h1⟩
      · exact .inl ⟨j, h1⟩
      · exact .inr h1
    · split at hk
      · simp at hk
      · exact .inl ⟨a, hk⟩
theorem M.go (h : M w F S) (i : Key) {F1 : List Nat} (n : Next (F i) F1 w w') (hh : Holds w' F1 o') : Go2 F w w' (upd S i o') := ⟨_, h.step i n hh⟩
theorem Go2.trans {S2 S3 : Key → Ob} (h : Go2 F w w2 S2) (k : ∀ F2, M w2 F2 S2 → Go2 F2 w2 w3 S3) : Go2 F w w3 S3 := by
  obtain ⟨F2, h1, h2⟩ := h
  obtain ⟨F3, h3, h4⟩ := k F2 h1
  exact ⟨F3, h3, h2.trans h4⟩
theorem M.blk (h : M w F S) (hs : S i = .st p t cs) : Blk w p t cs.toArray := (h.at hs).1
theorem M.foot_st (h : M w F S) (hs : S i = .st p t cs) : F i = [p] := (h.at hs).2
/-- A field is set. -/
theorem M.set (h : M w F S) (hs : S i = .st p t cs) (k : Nat) (v : Value) (hk : k < cs.length) : M (w.setCell ⟨p, k, none⟩ v) F (upd S i (.st p t (cs.set k v))) ∧ Fr F F w (w.setCell ⟨p, k, none⟩ v) := by
  have hb := h.blk hs
  have hf := h.foot_st hs
  have hm : Mod (F i) w (w.setCell ⟨p, k, none⟩ v) := (Mod.refl _ _).setCell (by rw [hf]; simp) _
  have hn : Next (F i) (F i) w (w.setCell ⟨p, k, none⟩ v) := ⟨hm, fun x hx => ⟨.inl hx, Nat.lt_of_lt_of_le (h.lt x hx) hm.size⟩⟩
  have := h.step i (o' := .st p t (cs.set k v)) hn ⟨by have := hb.set_ k v; simpa using this, hf⟩
  rw [upd_self F rfl] at this
  exact this
theorem M.cell (h : M w F S) (hs : S i = .st p t cs) (k : Nat) : w.cell? ⟨p, k, none⟩ = cs[k]? := by
  have := (h.blk hs).cell k
  simpa using this
/-- A block of the call's own beside the objects. -/
structure Lo (w : World) (F : Key → List Nat) (g : Nat) (t : TypeId) (cs : List Value) : Prop where
  blk : Blk w g t cs.toArray
  apart : ∀ i, g ∉ F i
theorem Lo.lt {g : Nat} (h : Lo w F g t cs) : g < w.heap.size := h.blk.lt
theorem Lo.step {g : Nat} (h : Lo w F g t cs) (f : Fr F F2 w w2) : Lo w2 F2 g t cs := by
  refine ⟨h.blk.keep (f.block g h.lt h.apart), fun i hi => ?_⟩
  rcases f.foot i g hi with ⟨j, hj⟩ | h2
  · exact h.apart j hj
  · have := h.lt; omega
theorem Lo.new (h : M w F S) (t : TypeId) (cs : List Value) : Lo (w.alloc (.cells cs.toArray t)) F w.heap.size t cs := ⟨Blk.new _ _ _, fun i hi => by have := h.lt _ hi; omega⟩
theorem Lo.ext {g : Nat} (h : Lo w F g t cs) (e : Ext w w') : Lo w' F g t cs := h.step (Fr.ext F e)
theorem Lo.cell {g : Nat} (h : Lo w F g t cs) (k : Nat) : w.cell? ⟨g, k, none⟩ = cs[k]? := by
  have := h.blk.cell k
  simpa using this
end

end Go.Proofs.YtiglblfjmmdeeaaGreat
