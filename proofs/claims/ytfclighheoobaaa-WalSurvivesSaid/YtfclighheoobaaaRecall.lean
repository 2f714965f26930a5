/- wal.Log.recall of a record that fits. -/
import Derived.Test.YtfclighheoobaaaLog
import Derived.Deep.DeepCutAuto
import Derived.Deep.RegionHeld3
import Derived.IntWalk
import Derived.Deep.RegionLaw
namespace Go.Proofs.Ytfclighheoobaaa
open Go.RowKit

attribute [local go_sem] Oper.pureUpon Oper.relUpon

theorem own_takeV {w : World} {base : Nat} {e : TypeId} {A : Option Addr} {n c : Nat} {xs : List Value} (h : w.ownsRow base e 1 (.slice A n c) n xs) (m : Nat) (hm : m ≤ n) : w.ownsRow base e 1 (.slice A m c) m (xs.take m) := by
  have hl : xs.length = n := by have := h.1; omega
  refine ⟨by rw [List.length_take]; omega, ?_⟩
  rcases h.2 with ⟨h1, h2⟩ | ⟨g, cap, cur, h1, h2, h3, h4, h5, h6, h7⟩
  · injection h1 with h1 h3 h4
    subst h1 h4
    exact .inl ⟨by rw [show m = 0 by omega], by omega⟩
  · injection h1 with h1 h8 h9
    subst h1 h9
    refine .inr ⟨g, c, cur, rfl, h2, h3, by omega, h5, h6, ?_⟩
    rw [← h7, List.take_take]
    congr 1
    omega
theorem blk_grow {w w2 : World} {p n : Nat} {t e : TypeId} {cs : Array Value} {v : Value} {xs : List Value} (hb : Blk w p t cs) (ho : w.ownsRow 0 e 1 v n xs) (hg : w.grownBy w2 v.ownBlock) (ht : e ≠ t) : Blk w2 p t cs := by
  have hne := own_blk_ne ho hb ht
  exact hb.mod (Mod.of_grown hg) (fun h => hne (by simpa using h))
theorem run_takeT (w : World) {A : Option Addr} {n c k : Nat} (hn : k ≤ c) : (Instr.slice 49 (.slice A n c) none (some (.int .i64 (k : Int))) none).run Try.prog w = .ok (.slice A k c) w := by
  obtain ⟨i0, hi0, hz0, hz1, hz2⟩ := info_parts text_info
  have he : Try.prog.elem 49 = 9 := by kernel_rfl
  rw [run_slice_h w 49 A n c (by rw [he]; exact Try.underlying49) .i64 (k : Int) (by omega) (by omega), he]
  have e1 : Option.map (fun x : Addr => x.add 0) A = A := by cases A <;> simp [Addr.add]
  simp [sizeOf, typeInfo, hi0, hz1, sliced, e1]
theorem run_takeT' (w : World) (A : Option Addr) (n c : Nat) (kh : IntKind) (h : Int) (h0 : 0 ≤ h) (h2 : h ≤ (c : Int)) : (Instr.slice 49 (.slice A n c) none (some (.int kh h)) none).run Try.prog w = .ok (.slice A h.toNat c) w := by
  obtain ⟨i0, hi0, hz0, hz1, hz2⟩ := info_parts text_info
  have he : Try.prog.elem 49 = 9 := by kernel_rfl
  rw [run_slice_h w 49 A n c (by rw [he]; exact Try.underlying49) kh h h0 h2, he]
  have e1 : Option.map (fun x : Addr => x.add 0) A = A := by cases A <;> simp [Addr.add]
  simp [sizeOf, typeInfo, hi0, hz1, sliced, e1]
attribute [local go_sem high] run_takeT'
theorem txs_take (l : List (List UInt8)) (k : Nat) : (txs l).take k = txs (l.take k) := by simp [txs, List.map_take]
theorem txs_snoc (l : List (List UInt8)) (x : List UInt8) : txs l ++ [tx x] = txs (l ++ [x]) := by simp [txs]

/-- The log with another row of records. -/
def St.putAt (s : St) (n : Nat) (x : List UInt8) : St := { s with recs := s.recs.take (n - s.first) ++ [x] }
theorem St.putAt_ok {s : St} (h : s.ok) (n : Nat) (x : List UInt8) (hx : x.length ≤ 65536) (hl : s.recs.length ≤ 900000) : (s.putAt n x).ok := by
  obtain ⟨h1, h2, h3, h4, h5⟩ := h
  refine ⟨h1, ?_, h3, h4, fun y hy => ?_⟩
  · simp only [St.putAt, List.length_append, List.length_take, List.length_cons, List.length_nil]; omega
  · simp only [St.putAt, List.mem_append, List.mem_singleton] at hy
    rcases hy with hy | rfl
    · exact h5 y (List.mem_of_mem_take hy)
    · exact hx

/-- The five fields of a log, one turned. -/
theorem IsLog.put {w w1 : World} {p dp : Nat} {v v' : Value} {s s' : St} (h : IsLg w p dp v s) (hm : Mod (foot p v) w w1) (hb : Blk w1 p 83 #[.pointer (some ⟨dp, 0, none⟩), .int .i64 (s'.first : Int), v', tx s'.snap, tx s'.note])
    (ho : w1.ownsRow 0 9 1 v' s'.recs.length (txs s'.recs)) (hok : s'.ok) (hnew : ∀ k, v'.ownBlock = some k → v.ownBlock = some k ∨ w.heap.size ≤ k) : IsLog w1 (foot p v') p dp s' ∧ Next (foot p v) (foot p v') w w1 := by
  have hw : IsLog w1 (foot p v') p dp s' := ⟨v', ⟨hb, ho, hok⟩, rfl⟩
  refine ⟨hw, hm, fun k hk => ⟨?_, hw.lt k hk⟩⟩
  simp only [foot, List.mem_cons, Option.mem_toList] at hk ⊢
  rcases hk with rfl | hk
  · exact .inl (.inl rfl)
  · rcases hnew k hk with h1 | h1
    · exact .inl (.inr h1)
    · exact .inr h1

section
variable {W w w' : World} {F : List Nat} {p dp : Nat} {s : St}

theorem next_ext {w w1 w2 : World} {F F' : List Nat} (he : Ext w w1) (h : Next F F' w1 w2) : Next F F' w w2 :=
  ⟨(Mod.of_below he F).trans' h.1, fun k hk => ⟨(h.2 k hk).1.imp id (fun h1 => Nat.le_trans he.size h1), (h.2 k hk).2⟩⟩

theorem recall_put_end {w w6 w7 : World} {A6 A7 : Option Addr} {c6 c7 k n : Nat} {x : List UInt8} {o : Obj} (he6 : Ext w w6)
    (hh : Blk w6 p 83 #[.pointer (some ⟨dp, 0, none⟩), .int .i64 (s.first : Int), .slice A6 s.recs.length c6, tx s.snap, tx s.note] ∧ w6.ownsRow 0 9 1 (.slice A6 s.recs.length c6) s.recs.length (txs s.recs) ∧ s.ok)
    (hF : F = foot p (.slice A6 s.recs.length c6)) (hot : (w6.drew.alloc o).ownsRow 0 9 1 (.slice A6 k c6) k ((txs s.recs).take k))
    (hbt : Blk (w6.drew.alloc o) p 83 #[.pointer (some ⟨dp, 0, none⟩), .int .i64 (s.first : Int), .slice A6 s.recs.length c6, tx s.snap, tx s.note])
    (hg7 : (w6.drew.alloc o).grownBy w7 (Value.slice A6 k c6).ownBlock) (hown7 : w7.ownsRow 0 9 1 (.slice A7 (k + 1) c7) (k + 1) ((txs s.recs).take k ++ [.string ⟨x.toArray⟩]))
    (hat7 : (Value.slice A7 (k + 1) c7).ownBlock = (Value.slice A6 k c6).ownBlock ∨ (Value.slice A7 (k + 1) c7).ownBlock = some (w6.drew.alloc o).heap.size)
    (hkl : k ≤ s.recs.length) (hk : n - s.first = k) (hx : x.length ≤ 65536) (hl : s.recs.length ≤ 900000) :
    ∃ F', IsLog (w7.setCell ⟨p, 2, none⟩ (.slice A7 (k + 1) c7)) F' p dp (s.putAt n x) ∧ Next F F' w (w7.setCell ⟨p, 2, none⟩ (.slice A7 (k + 1) c7)) := by
  obtain ⟨hb6, ho6, hok6⟩ := hh
  have hb7 := blk_grow hbt hot hg7 (by decide)
  have hbe : (Value.slice A6 k c6).ownBlock = (Value.slice A6 s.recs.length c6).ownBlock := by cases A6 <;> rfl
  have hm2 : Mod [p] w7 (w7.setCell ⟨p, 2, none⟩ (.slice A7 (k + 1) c7)) := (Mod.refl _ _).setCell (by simp) _
  have hne7 := own_blk_ne hown7 hb7 (by decide)
  have hrl : (s.putAt n x).recs.length = k + 1 := by simp only [St.putAt, List.length_append, List.length_take, List.length_cons, List.length_nil]; omega
  have hrx : txs (s.putAt n x).recs = (txs s.recs).take k ++ [.string ⟨x.toArray⟩] := by
    show txs (s.recs.take (n - s.first) ++ [x]) = _
    rw [hk, ← txs_snoc, txs_take]
    rfl
  have hmod : Mod (foot p (.slice A6 s.recs.length c6)) w6 (w7.setCell ⟨p, 2, none⟩ (.slice A7 (k + 1) c7)) := by
    refine (Mod.trans' ?_ (hm2.sub (T := foot p (.slice A6 s.recs.length c6)) fun j hj _ => by simp at hj; subst hj; simp [foot]))
    refine ((Mod.refl _ w6).drew.alloc o).grown hg7 fun j hj _ => ?_
    simp only [foot, List.mem_cons, Option.mem_toList]
    exact .inr (hbe.symm.trans hj)
  have ho' : (w7.setCell ⟨p, 2, none⟩ (.slice A7 (k + 1) c7)).ownsRow 0 9 1 (.slice A7 (k + 1) c7) (k + 1) ((txs s.recs).take k ++ [.string ⟨x.toArray⟩]) :=
    own_mod hown7 hm2 (fun j hj e => hne7 (by simp at e; subst e; exact hj))
  obtain ⟨r1, r2⟩ := IsLog.put (s' := s.putAt n x) ⟨hb6, ho6, hok6⟩ hmod (v' := .slice A7 (k + 1) c7) (by have := hb7.set_ 2 (.slice A7 (k + 1) c7); simpa [St.putAt] using this) (by rw [hrl, hrx]; exact ho') (St.putAt_ok hok6 n x hx hl) (fun j hj => by
    rcases hat7 with e | e
    · rw [e] at hj; exact .inl (hbe.symm.trans hj)
    · rw [e] at hj; injection hj with hj; exact .inr (by rw [← hj]; simp))
  rw [hF]
  exact ⟨_, r1, next_ext he6 r2⟩

set_option maxRecDepth 100000 in
set_option maxHeartbeats 2000000 in
theorem recall_put (h : IsLog w F p dp s) (n : Nat) (x : List UInt8) (hn1 : s.first ≤ n) (hn2 : n ≤ s.next) (hx : x.length ≤ 65536) (hl : s.recs.length ≤ 900000) {v : Value} (hv : OwnRec w (pay 1 n x) v) :
    Calls Try.prog 55 #[.pointer (some ⟨p, 0, none⟩), v] w fun e w' => e = .returned (.bool true) ∧ ∃ F', IsLog w' F' p dp (s.putAt n x) ∧ Next F F' w w' := by
  obtain ⟨A, c, rfl, ho⟩ := hv
  obtain ⟨i0, hi0, hz0, hz1, hz2⟩ := info_parts text_info
  have hpl := pay_len 1 n x
  have hp0 : (pay 1 n x)[0]? = some 1 := rfl
  have hp1 : leNum (((pay 1 n x).drop 1).take 8) = n := by
    have e1 : (pay 1 n x).drop 1 = leBytes 8 n ++ x := rfl
    rw [e1, List.take_append_of_le_length (by rw [leBytes_len]; omega), List.take_of_length_le (by rw [leBytes_len]; omega)]
    exact leNum_leBytes 8 _ (by have := h.ok.1; have := h.ok.2.1; unfold St.next at hn2; omega)
  have hp9 : (pay 1 n x).drop 9 = x := by
    have e1 : pay 1 n x = [UInt8.ofNat 1] ++ leBytes 8 n ++ x := rfl
    rw [e1, List.drop_append_of_le_length (by simp [leBytes_len]), List.drop_of_length_le (by simp [leBytes_len]), List.nil_append]
  generalize pay 1 n x = py at *
  have hlen : py.length ≤ c := by obtain ⟨_, _, hv, h1, _⟩ := own_slice ho; injection hv with _ _ h3; omega
  obtain ⟨m, hm⟩ : ∃ m, py.length = m := ⟨_, rfl⟩
  have hA := own_none ho
  obtain ⟨A2, hsl, hrd, hA2⟩ := slice_from (A := A) (l := py) (k := 9) hlen (by omega)
  rw [hp9] at hrd
  have hok := h.ok
  obtain ⟨hk1, hk2, _⟩ := hok
  have hcv : ∀ w', Ext w w' → (convert 26 9 (.slice A2 (m - 9) (c - 9))).run Try.prog w' = .ok (.string ⟨x.toArray⟩) w' := fun w' he =>
    run_str w' 26 9 5 Try.underlying26 Try.underlying5 Try.underlying9 (by rw [← hm]; exact hrd _ _ ((reads_own ho).below he)) (c - 9)
  have hsl' : ∀ w, (Instr.slice 26 (.slice A m c) (some (.int .i64 9)) none none).run Try.prog w = .ok (.slice A2 (m - 9) (c - 9)) w := by rw [← hm]; exact hsl
  have hr := reads_own ho
  rw [hm] at hr hpl hlen hA
  have hm9 : m ≤ 70000 := by omega
  have hrn := reader_new w w.heap.size A m c py hr (Nat.le_refl _) (by omega) hA
  have HM := Lib.hid hm
  have HPL := Lib.hid hpl
  rw [hm]
  clear hm hpl ho hsl hrd hA2 hp9 hA hr
  go_enter Try.func55, Try.ntmps55
  go_wp2_with fail
  refine hrn.mono ?_
  rintro e w1 ⟨q, G, rfl, r1, he1, hG⟩
  go_wp2_with fail
  refine (reader_byte r1 hp0).mono ?_
  rintro e w2 ⟨rfl, r2, nx2⟩
  have he2 : Ext w w2 := Below.trans he1 (nx2.1.below he1.size hG)
  go_wp2_with fail
  refine (reader_long r2 n (by have := HM.out; have := HPL.out; omega) hp1 (by unfold St.next at hn2; omega)).mono ?_
  rintro e w3 ⟨rfl, r3, nx3⟩
  have he3 : Ext w w3 := Below.trans he2 (nx3.1.below he2.size hG)
  clear nx2 nx3 he1 he2 r1 r2
  go_wp2_with fail
  refine (reader_refused r3).mono ?_
  rintro e w4 ⟨rfl, rfl⟩
  go_wp2_with fail
  refine (reader_left r3).mono ?_
  rintro e w5 ⟨rfl, he5⟩
  have he5 := he3.trans he5
  have hcv5 := hcv w5 he5
  have h5 := h.ext he5
  have e9 : (m : Int) - ((m : Int) - 9) = 9 := by omega
  rw [HM.out]
  clear r3 he3 hcv hG
  have c15 : w5.cell? ⟨p, 1, none⟩ = some (.int .i64 (s.first : Int)) := by obtain ⟨v, hh, _⟩ := h5; have := hh.1.cell 1; simpa using this
  have hnx5 := log_next h5
  have i1 : (n : Int) ≥ (s.first : Int) := by omega
  have i2 : (n : Int) ≤ (s.next : Int) := by omega
  have hnk : n - s.first ≤ s.recs.length := by unfold St.next at hn2; omega
  generalize s.next = snx at *
  go_wp2_with fail
  refine hnx5.mono ?_
  rintro e w6 ⟨rfl, he6⟩
  have h6 := h5.ext he6
  have he6 := he5.trans he6
  clear hnx5 c15 hcv5 he5 h5 h
  go_wp2_with fail
  obtain ⟨vv, ⟨hb6, ho6, hok6⟩, hF⟩ := id h6
  obtain ⟨A6, c6, rfl, hc6⟩ := own_slice ho6
  obtain ⟨k, hk⟩ : ∃ k, n - s.first = k := ⟨_, rfl⟩
  have hkl : k ≤ s.recs.length := by omega
  have hkc : (k : Int) ≤ (c6 : Int) := by omega
  have hk0 : (0 : Int) ≤ (k : Int) := by omega
  have hki : (n : Int) - (s.first : Int) = (k : Int) := by omega
  have c1 : w6.cell? ⟨p, 1, none⟩ = some (.int .i64 (s.first : Int)) := by have := hb6.cell 1; simpa using this
  have c2 : w6.cell? ⟨p, 2, none⟩ = some (.slice A6 s.recs.length c6) := by have := hb6.cell 2; simpa using this
  have ho6d : w6.drew.ownsRow 0 9 1 (.slice A6 s.recs.length c6) s.recs.length (txs s.recs) := ho6
  have hb6d : Blk w6.drew p 83 _ := hb6
  have hot := (own_takeV ho6d k hkl).alloc (.cells #[.string ⟨x.toArray⟩] 9)
  have hbt := hb6d.alloc (.cells #[.string ⟨x.toArray⟩] 9)
  have hlt6 := hb6.lt
  have hwk : IntKind.i64.wrap (k : Int) = (k : Int) := IntWalk.i64_in _ (by omega)
  have hwn : IntKind.i64.wrap ((n : Int) - (s.first : Int)) = (k : Int) := by rw [hki]; exact hwk
  have n1 := World.new_ne w6 ⟨p, 1, none⟩ c1
  have n2 := World.new_ne w6 ⟨p, 2, none⟩ c2
  have hl1 := lit_reads w6.drew (.string ⟨x.toArray⟩) 9
  have hk9 : k ≤ 900000 := by omega
  have hne := own_blk_ne ho6 hb6 (by decide)
  have HH := Lib.hid (And.intro hb6 (And.intro ho6 hok6))
  have HOT := Lib.hid hot
  have HBT := Lib.hid hbt
  have HL1 := Lib.hid hl1
  have HC6 := Lib.hid hc6
  have HFF := Lib.hid hF
  clear hF
  clear hb6 ho6 hok6 hot hbt hl1 hc6 ho6d hb6d
  go_region_law (refine step_app _ rfl (.tmp 53) (.tmp 55) _ rfl 9 i0 _ 1 16 Try.underlying49 hi0 hz0 hz1 hz2 rfl (by omega) (.slice A6 k c6) k ((txs s.recs).take k) 0 rfl HOT.out (w6.drew.heap.size + 1) (some ⟨w6.drew.heap.size, 0, none⟩) 1 1 [.string ⟨x.toArray⟩] rfl HL1.out (by simp [Value.oneCell']) (by omega) (Nat.zero_le _) ?_; intro A7 c7 w7 hown7 hg7 hat7; have hb7 := blk_grow HBT.out HOT.out hg7 (by decide); have c1' := hb7.cell 1; have c2' := hb7.cell 2; have f2' := hb7.frozen 2; simp at c1' c2')
  all_goals go_wp2_with fail
  all_goals go_ret
  all_goals (refine ⟨rfl, ?_⟩; exact recall_put_end he6 HH.out HFF.out HOT.out HBT.out hg7 hown7 hat7 hkl hk hx hl)

set_option maxRecDepth 100000 in
set_option maxHeartbeats 2000000 in
theorem recall_meta (h : IsLog w F p dp s) (x : List UInt8) (hx : x.length ≤ 65536) {v : Value} (hv : OwnRec w (pay 2 0 x) v) :
    Calls Try.prog 55 #[.pointer (some ⟨p, 0, none⟩), v] w fun e w' => e = .returned (.bool true) ∧ ∃ F', IsLog w' F' p dp ({ s with note := x }) ∧ Next F F' w w' := by
  obtain ⟨A, c, rfl, ho⟩ := hv
  obtain ⟨i0, hi0, hz0, hz1, hz2⟩ := info_parts text_info
  have hpl := pay_len 2 0 x
  have hp0 : (pay 2 0 x)[0]? = some 2 := rfl
  have hp1 : leNum (((pay 2 0 x).drop 1).take 8) = 0 := by
    have e1 : (pay 2 0 x).drop 1 = leBytes 8 0 ++ x := rfl
    rw [e1, List.take_append_of_le_length (by rw [leBytes_len]; omega), List.take_of_length_le (by rw [leBytes_len]; omega)]
    exact leNum_leBytes 8 _ (by omega)
  have hp9 : (pay 2 0 x).drop 9 = x := by
    have e1 : pay 2 0 x = [UInt8.ofNat 2] ++ leBytes 8 0 ++ x := rfl
    rw [e1, List.drop_append_of_le_length (by simp [leBytes_len]), List.drop_of_length_le (by simp [leBytes_len]), List.nil_append]
  generalize pay 2 0 x = py at *
  have hlen : py.length ≤ c := by obtain ⟨_, _, hv, h1, _⟩ := own_slice ho; injection hv with _ _ h3; omega
  obtain ⟨m, hm⟩ : ∃ m, py.length = m := ⟨_, rfl⟩
  have hA := own_none ho
  obtain ⟨A2, hsl, hrd, hA2⟩ := slice_from (A := A) (l := py) (k := 9) hlen (by omega)
  rw [hp9] at hrd
  have hok := h.ok
  obtain ⟨hk1, hk2, _⟩ := hok
  have hcv : ∀ w', Ext w w' → (convert 26 9 (.slice A2 (m - 9) (c - 9))).run Try.prog w' = .ok (.string ⟨x.toArray⟩) w' := fun w' he =>
    run_str w' 26 9 5 Try.underlying26 Try.underlying5 Try.underlying9 (by rw [← hm]; exact hrd _ _ ((reads_own ho).below he)) (c - 9)
  have hsl' : ∀ w, (Instr.slice 26 (.slice A m c) (some (.int .i64 9)) none none).run Try.prog w = .ok (.slice A2 (m - 9) (c - 9)) w := by rw [← hm]; exact hsl
  have hr := reads_own ho
  rw [hm] at hr hpl hlen hA
  have hm9 : m ≤ 70000 := by omega
  have hrn := reader_new w w.heap.size A m c py hr (Nat.le_refl _) (by omega) hA
  have HM := Lib.hid hm
  have HPL := Lib.hid hpl
  rw [hm]
  clear hm hpl ho hsl hrd hA2 hp9 hA hr
  go_enter Try.func55, Try.ntmps55
  go_wp2_with fail
  refine hrn.mono ?_
  rintro e w1 ⟨q, G, rfl, r1, he1, hG⟩
  go_wp2_with fail
  refine (reader_byte r1 hp0).mono ?_
  rintro e w2 ⟨rfl, r2, nx2⟩
  have he2 : Ext w w2 := Below.trans he1 (nx2.1.below he1.size hG)
  go_wp2_with fail
  refine (reader_long r2 0 (by have := HM.out; have := HPL.out; omega) hp1 (by omega)).mono ?_
  rintro e w3 ⟨rfl, r3, nx3⟩
  have he3 : Ext w w3 := Below.trans he2 (nx3.1.below he2.size hG)
  clear nx2 nx3 he1 he2 r1 r2
  go_wp2_with fail
  refine (reader_refused r3).mono ?_
  rintro e w4 ⟨rfl, rfl⟩
  go_wp2_with fail
  refine (reader_left r3).mono ?_
  rintro e w5 ⟨rfl, he5⟩
  have he5 := he3.trans he5
  have hcv5 := hcv w5 he5
  have h5 := h.ext he5
  have e9 : (m : Int) - ((m : Int) - 9) = 9 := by omega
  rw [HM.out]
  clear r3 he3 hcv hG
  obtain ⟨vv, ⟨hb5, ho5, hok5⟩, hF⟩ := id h5
  have hlt5 := hb5.lt
  have c4 : w5.cell? ⟨p, 4, none⟩ = some (tx s.note) := by have := hb5.cell 4; simpa using this
  have f4 := hb5.frozen 4
  have HH := Lib.hid (And.intro hb5 (And.intro ho5 hok5))
  have HFF := Lib.hid hF
  clear h5 h hb5 ho5 hok5 hF
  go_wp2_with fail
  go_ret
  refine ⟨rfl, ?_⟩
  obtain ⟨hb5, ho5, hok5⟩ := HH.out
  have hm2 : Mod [p] w5 (w5.setCell ⟨p, 4, none⟩ (tx x)) := (Mod.refl _ _).setCell (by simp) _
  have hne5 := own_blk_ne ho5 hb5 (by decide)
  obtain ⟨r1, r2⟩ := IsLog.put (s' := { s with note := x }) ⟨hb5, ho5, hok5⟩ (hm2.sub (T := foot p vv) fun j hj _ => by simp at hj; subst hj; simp [foot]) (v' := vv) (by have := hb5.set_ 4 (tx x); simpa using this)
    (own_mod ho5 hm2 (fun j hj e => hne5 (by simp at e; subst e; exact hj))) ⟨hok5.1, hok5.2.1, hok5.2.2.1, hx, hok5.2.2.2.2⟩ (fun j hj => .inl hj)
  rw [HFF.out]
  exact ⟨_, r1, next_ext he5 r2⟩

set_option maxRecDepth 100000 in
set_option maxHeartbeats 2000000 in
theorem recall_base (h : IsLog w F p dp s) (n : Nat) (x : List UInt8) (hn1 : s.first ≤ n) (hn2 : n ≤ 1073741824) (hx : x.length ≤ 65536) {v : Value} (hv : OwnRec w (pay 3 n x) v) :
    Calls Try.prog 55 #[.pointer (some ⟨p, 0, none⟩), v] w fun e w' => e = .returned (.bool true) ∧ ∃ F', IsLog w' F' p dp (⟨n, [], x, s.note⟩) ∧ Next F F' w w' := by
  obtain ⟨A, c, rfl, ho⟩ := hv
  obtain ⟨i0, hi0, hz0, hz1, hz2⟩ := info_parts text_info
  have hpl := pay_len 3 n x
  have hp0 : (pay 3 n x)[0]? = some 3 := rfl
  have hp1 : leNum (((pay 3 n x).drop 1).take 8) = n := by
    have e1 : (pay 3 n x).drop 1 = leBytes 8 n ++ x := rfl
    rw [e1, List.take_append_of_le_length (by rw [leBytes_len]; omega), List.take_of_length_le (by rw [leBytes_len]; omega)]
    exact leNum_leBytes 8 _ (by omega)
  have hp9 : (pay 3 n x).drop 9 = x := by
    have e1 : pay 3 n x = [UInt8.ofNat 3] ++ leBytes 8 n ++ x := rfl
    rw [e1, List.drop_append_of_le_length (by simp [leBytes_len]), List.drop_of_length_le (by simp [leBytes_len]), List.nil_append]
  generalize pay 3 n x = py at *
  have hlen : py.length ≤ c := by obtain ⟨_, _, hv, h1, _⟩ := own_slice ho; injection hv with _ _ h3; omega
  obtain ⟨m, hm⟩ : ∃ m, py.length = m := ⟨_, rfl⟩
  have hA := own_none ho
  obtain ⟨A2, hsl, hrd, hA2⟩ := slice_from (A := A) (l := py) (k := 9) hlen (by omega)
  rw [hp9] at hrd
  have hok := h.ok
  obtain ⟨hk1, hk2, _⟩ := hok
  have hcv : ∀ w', Ext w w' → (convert 26 9 (.slice A2 (m - 9) (c - 9))).run Try.prog w' = .ok (.string ⟨x.toArray⟩) w' := fun w' he =>
    run_str w' 26 9 5 Try.underlying26 Try.underlying5 Try.underlying9 (by rw [← hm]; exact hrd _ _ ((reads_own ho).below he)) (c - 9)
  have hsl' : ∀ w, (Instr.slice 26 (.slice A m c) (some (.int .i64 9)) none none).run Try.prog w = .ok (.slice A2 (m - 9) (c - 9)) w := by rw [← hm]; exact hsl
  have hr := reads_own ho
  rw [hm] at hr hpl hlen hA
  have hm9 : m ≤ 70000 := by omega
  have hrn := reader_new w w.heap.size A m c py hr (Nat.le_refl _) (by omega) hA
  have HM := Lib.hid hm
  have HPL := Lib.hid hpl
  rw [hm]
  clear hm hpl ho hsl hrd hA2 hp9 hA hr
  go_enter Try.func55, Try.ntmps55
  go_wp2_with fail
  refine hrn.mono ?_
  rintro e w1 ⟨q, G, rfl, r1, he1, hG⟩
  go_wp2_with fail
  refine (reader_byte r1 hp0).mono ?_
  rintro e w2 ⟨rfl, r2, nx2⟩
  have he2 : Ext w w2 := Below.trans he1 (nx2.1.below he1.size hG)
  go_wp2_with fail
  refine (reader_long r2 n (by have := HM.out; have := HPL.out; omega) hp1 (by omega)).mono ?_
  rintro e w3 ⟨rfl, r3, nx3⟩
  have he3 : Ext w w3 := Below.trans he2 (nx3.1.below he2.size hG)
  clear nx2 nx3 he1 he2 r1 r2
  go_wp2_with fail
  refine (reader_refused r3).mono ?_
  rintro e w4 ⟨rfl, rfl⟩
  go_wp2_with fail
  refine (reader_left r3).mono ?_
  rintro e w5 ⟨rfl, he5⟩
  have he5 := he3.trans he5
  have hcv5 := hcv w5 he5
  have h5 := h.ext he5
  have e9 : (m : Int) - ((m : Int) - 9) = 9 := by omega
  rw [HM.out]
  clear r3 he3 hcv hG
  obtain ⟨vv, ⟨hb5, ho5, hok5⟩, hF⟩ := id h5
  have hlt5 := hb5.lt
  have c15 : w5.cell? ⟨p, 1, none⟩ = some (.int .i64 (s.first : Int)) := by have := hb5.cell 1; simpa using this
  have c25 : w5.cell? ⟨p, 2, none⟩ = some vv := by have := hb5.cell 2; simpa using this
  have c35 : w5.cell? ⟨p, 3, none⟩ = some (tx s.snap) := by have := hb5.cell 3; simpa using this
  have f1 := hb5.frozen 1
  have f2 := hb5.frozen 2
  have f3 := hb5.frozen 3
  have i1 : (n : Int) ≥ (s.first : Int) := by omega
  have i2 : (n : Int) ≤ 1073741824 := by omega
  have HH := Lib.hid (And.intro hb5 (And.intro ho5 hok5))
  have HFF := Lib.hid hF
  clear h5 h hb5 ho5 hok5 hF
  go_wp2_with fail
  go_ret
  refine ⟨rfl, ?_⟩
  obtain ⟨hb5, ho5, hok5⟩ := HH.out
  have hm2 : Mod [p] w5 (((w5.setCell ⟨p, 1, none⟩ (.int .i64 (n : Int))).setCell ⟨p, 3, none⟩ (tx x)).setCell ⟨p, 2, none⟩ (.slice none 0 0)) := (((Mod.refl _ _).setCell (by simp) _).setCell (by simp) _).setCell (by simp) _
  obtain ⟨r1, r2⟩ := IsLog.put (s' := ⟨n, [], x, s.note⟩) ⟨hb5, ho5, hok5⟩ (hm2.sub (T := foot p vv) fun j hj _ => by simp at hj; subst hj; simp [foot]) (v' := .slice none 0 0)
    (by have := ((hb5.set_ 1 (.int .i64 (n : Int))).set_ 3 (tx x)).set_ 2 (.slice none 0 0); simpa using this)
    (World.ownsRow_nil _ _ _ _) ⟨hn2, Nat.zero_le _, hx, hok5.2.2.2.1, by simp⟩ (fun j hj => by simp [Value.ownBlock] at hj)
  rw [HFF.out]
  exact ⟨_, r1, next_ext he5 r2⟩
end

end Go.Proofs.Ytfclighheoobaaa
