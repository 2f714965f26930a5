/- agree: a node's fields; send and all. -/
import Derived.Test.YtiglblfjmmdeeaaGreatAgSend
namespace Go.Proofs.YtiglblfjmmdeeaaGreat
open Go.RowKit Go.Maps Go.ChangeMaps

attribute [local go_sem] Oper.pureUpon Oper.relUpon

/-- A node's fields; its base is none. -/
structure NS where
  wp : Nat
  me : Nat
  dp : Nat
  clock : Nat
  up : Bool
  size : Nat
  life : Nat
  acc : Value
  prop : Value
  log : Value
  top : Nat
  met : Value
  number : Nat
  mine : Value
  seq : Nat
  phase : Nat
  others : Value
  next : Nat
  tries : Nat
  last : Nat
  behind : Bool
def ptr (p : Nat) : Value := .pointer (some ⟨p, 0, none⟩)
def ncells (N : NS) : List Value := [.pointer (some ⟨N.wp, 0, none⟩), .int .i64 N.me, .pointer (some ⟨N.dp, 0, none⟩), .int .i64 N.clock, .bool N.up, .int .i64 N.size, .int .i64 N.life, N.acc, N.prop, N.log, .int .i64 N.top, N.met, .int .i64 N.number,
  .int .i64 0, .int .i64 0, .map none, .string ⟨#[]⟩, N.mine, .int .i64 N.seq, .int .i64 N.phase, N.others, .int .i64 N.next, .int .i64 N.tries, .int .i64 N.last, .bool N.behind]
def nodeOb (p : Nat) (N : NS) : Ob := .st p 81 (ncells N)

/-- A new object in an empty place. -/
theorem M.new {w w' : World} {F : Key → List Nat} {S : Key → Ob} {i : Key} {o' : Ob} (h : M w F S) (hi : S i = .none) (e : Ext w w') {F1 : List Nat} (hh : Holds w' F1 o') (hF : ∀ k ∈ F1, w.heap.size ≤ k) :
    M w' (upd F i F1) (upd S i o') ∧ Fr F (upd F i F1) w w' := by
  have hFi : F i = [] := h.at hi
  exact h.step i ⟨by rw [hFi]; exact Mod.of_below e [], fun k hk => ⟨.inr (hF k hk), hh.lt k hk⟩⟩ hh

/-- A fresh row of bytes. -/
def OwnAt (B : Nat) (l : List UInt8) (v : Value) (w : World) : Prop := ∃ A c, v = .slice A l.length c ∧ w.ownsRow B 5 1 (.slice A l.length c) l.length (bys l)
theorem OwnAt.stays (B : Nat) (l : List UInt8) : Stays (OwnAt B l) := by rintro v w w' ⟨A, c, rfl, hr⟩ he; exact ⟨A, c, rfl, own_mod hr (Mod.of_below he []) (by simp)⟩

section
variable {w : World} {F : Key → List Nat} {S : Key → Ob} {wp np : Nat} {k : Key} {N : NS} {nodesv app : Value} {ts : List (Int × Int × List UInt8)}

set_option maxRecDepth 100000 in
set_option maxHeartbeats 1000000 in
theorem nsend_calls (h : M w F S) (hw : S (10, 0) = .world N.wp nodesv app ts) (hn : S k = nodeOb np N) (h13 : S (13, 0) = .none) (ht : ts.length < 4000) (to_ kind fb : Nat) (caps : Array Value) (bs : List UInt8) (hk : kind < 256) (hb : bs.length ≤ 80000)
    (hwr : Writes w fb caps [UInt8.ofNat kind] bs) :
    Calls Tryz.prog 108 #[.pointer (some ⟨np, 0, none⟩), .int .i64 to_, .int .i64 kind, .func (.func fb) #[] caps] w fun e w' => e = .returned (.tuple #[]) ∧
      Go2 F w w' (upd S (10, 0) (.world N.wp nodesv app (ts ++ [((N.me : Int), (to_ : Int), [UInt8.ofNat kind] ++ bs)]))) := by
  have hen := hwr.1
  have HW := Lib.hid hwr.2
  clear hwr
  obtain ⟨l9, hl9⟩ : ∃ l9, [UInt8.ofNat kind] ++ bs = l9 := ⟨_, rfl⟩
  have hll : l9.length ≤ 80001 := by rw [← hl9]; simp; omega
  rw [hl9]
  have HL9 := Lib.hid hl9
  clear hl9
  go_enter Tryz.func108, Tryz.ntmps108
  go_wp2_with fail
  refine (writer_new w).mono ?_
  rintro e w1 ⟨p, rfl, hp, h1, he1⟩
  go_wp2_with fail
  refine (writer_byte h1 kind (by omega) (by simp)).mono ?_
  rintro e w2 ⟨rfl, F2, h2, n2⟩
  simp only [List.nil_append] at h2
  obtain ⟨he2, hF2⟩ := n2.ext_of he1 (by simp; omega)
  go_wp2_with fail
  refine (HW.out w2 F2 p he2 h2 hF2).mono ?_
  rintro e w3 ⟨rfl, F3, h3, n3⟩
  obtain ⟨he3, hF3⟩ := n3.ext_of he2 hF2
  rw [HL9.out] at h3
  have hm3 := h.ext he3
  have hblk := hm3.blk hn
  have C0 : ∀ w', Ext w3 w' → w'.cell? ⟨np, 0, none⟩ = some (.pointer (some ⟨N.wp, 0, none⟩)) := fun w' he => by have := (hblk.below he hblk.lt).cell 0; simpa [ncells] using this
  have C1 : ∀ w', Ext w3 w' → w'.cell? ⟨np, 1, none⟩ = some (.int .i64 N.me) := fun w' he => by have := (hblk.below he hblk.lt).cell 1; simpa [ncells] using this
  have hdone : ∀ w', Ext w3 w' → Calls Tryz.prog 140 #[.pointer (some ⟨p, 0, none⟩)] w' fun e w'' => ∃ v, e = .returned v ∧ OwnAt w3.heap.size l9 v w'' ∧ Ext w' w'' := fun w' he => by
    refine (writer_done (h3.ext he) (by omega)).mono ?_
    rintro e w'' ⟨A, c, rfl, ho, hx⟩
    exact ⟨_, rfl, ⟨A, c, rfl, own_more ho he.size⟩, hx⟩
  have HM3 := Lib.hid hm3
  have HE3 := Lib.hid he3
  have HD := Lib.hid hdone
  clear hm3 he3 hdone hblk h1 he1 h2 n2 he2 h3 n3
  go_wp2_with fail
  refine wp_region_rely_tail 11 [none, none, none, none, none, none, none, none, none, none, some (OwnAt w3.heap.size l9)] (by kernel_rfl) (by kernel_rfl) ?_
  simp only [Wit, List.take_succ_cons, List.take_zero, List.drop_succ_cons, List.drop_zero]
  iterate 10 apply Exists.intro
  repeat (first | (refine rely_skip rfl ?_; simp only [Act.put, List.setIfInBounds_toArray, List.set_cons_zero, List.set_cons_succ]) | (apply rely_pure; (· rfl); (· intro w hw hd; go_simp; done); simp only [Act.put, List.setIfInBounds_toArray, List.set_cons_zero, List.set_cons_succ]) | (apply rely_pure; (· rfl); (· intro w hw hd; go_simp; exact rfl); simp only [Act.put, List.setIfInBounds_toArray, List.set_cons_zero, List.set_cons_succ]))
  refine rely_rel rfl (OwnAt.stays _ _) (fun w hw hd => ?_) ?_
  · go_simp
    exact HD.out w hw
  intro v1
  simp only [Act.put, List.setIfInBounds_toArray, List.set_cons_zero, List.set_cons_succ]
  refine rely_nil ?_
  intro w4 hw4
  have he4 := hw4.1
  obtain ⟨A4, c4, rfl, ho4⟩ : OwnAt w3.heap.size l9 v1 w4 := (hw4.2 10).1
  clear hw4 C0 C1
  obtain ⟨hm4, hf4⟩ := HM3.out.new h13 he4 (o' := .row 5 1 (.slice A4 l9.length c4) l9.length (bys l9)) (F1 := (Value.slice A4 l9.length c4).ownBlock.toList) ⟨own_more ho4 (Nat.zero_le _), rfl⟩ (fun k hk => (ho4.lt k (by simpa using hk)).1)
  have HM4 := Lib.hid (And.intro hm4 hf4)
  clear hm4 hf4 ho4
  go_wp2_with fail
  refine (wsend_calls HM4.out.1 (by rw [upd_ne' _ (by decide)]; exact hw) (upd_same _ _ _) (N.me : Int) (to_ : Int) ht).mono ?_
  rintro e w5 ⟨rfl, g5⟩
  go_wp2_with fail
  go_end0
  obtain ⟨F5, hm5, hf5⟩ := g5
  rw [upd_upd, upd_self S h13] at hm5
  exact ⟨rfl, F5, hm5, (Fr.ext F (HE3.out)).trans (HM4.out.2.trans hf5)⟩
end

end Go.Proofs.YtiglblfjmmdeeaaGreat
