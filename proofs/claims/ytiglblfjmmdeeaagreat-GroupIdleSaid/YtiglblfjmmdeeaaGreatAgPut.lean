/- agree: what is written into messages and records: ballots, ids, texts. -/
import Derived.Test.YtiglblfjmmdeeaaGreatWld
namespace Go.Proofs.YtiglblfjmmdeeaaGreat
open Go.RowKit Go.Maps Go.ChangeMaps

attribute [local go_sem] Oper.pureUpon Oper.relUpon

theorem Next.of_ext {F : List Nat} {w w' : World} (e : Ext w w') (h : ∀ k ∈ F, k < w.heap.size) : Next F F w w' := ⟨Mod.of_below e _, fun k hk => ⟨.inl hk, Nat.lt_of_lt_of_le (h k hk) e.size⟩⟩

section
variable {P : Program} (w : World)
open Lib in
/-- append of a text: where the new row lies. -/
theorem run_append_str_at (base : Nat) (t u ty e : TypeId) (i : TypeInfo) (ht : P.underlying t = some (.slice e)) (hu : P.underlying u = some .string) (hi : P.info? e = some i) (hz : i.zero = some (.int .u8 0))
    (hsize : i.size = 1) (hby : i.bytes = 1) (v : Value) (n : Nat) (xs : List Value) (hown : w.ownsRow base e 1 v n xs) (s : ByteArray)
    (h63 : n + s.size ≤ maxLen) (hbytes : n + s.size ≤ 140737488355328) (hbase : base ≤ w.heap.size) :
    ∃ v' w', (Builtin.append_ #[t, u] ty #[v, .string s]).run P w = .ok v' w' ∧ w'.ownsRow base e 1 v' (n + s.size) (xs ++ strCells s) ∧ w.grownBy w' v.ownBlock ∧
      (v'.ownBlock = v.ownBlock ∨ v'.ownBlock = some w.heap.size) := by
  have hsmall : n + s.size ≤ 9223372036854775807 := by simp only [maxLen] at h63; omega
  have hxl : xs.length = n := by simpa using hown.1
  obtain ⟨v', w', hrun, h2, h3, h4⟩ := run_append_own_string (P := P) w base t u ty e i ht hu hi hz hsize hby v n xs hown s h63 hbytes hbase
  refine ⟨v', w', hrun, h2, h3, ?_⟩
  rcases hown.2 with ⟨rfl, rfl⟩ | ⟨g, cap, cur, rfl, hbg, hg, hnc, hcm, hcs, htake⟩
  · by_cases hm : s.size = 0
    · rw [h4.2 ⟨rfl, hm⟩]
      exact .inl rfl
    · have hr := run_append_nil_string (P := P) w t u ty e i (.int .u8 0) ht hu hi hz s (by omega) (by omega) (by rw [hby]; omega)
      rw [hrun] at hr
      injection hr with e1 _
      rw [e1]
      exact .inr rfl
  · by_cases hroom : n + s.size ≤ cap
    · have hr := run_append_room_string (P := P) w t u ty e i ht hu hi hsize g n cap cur hg s hroom (by omega)
      rw [hrun] at hr
      injection hr with e1 _
      rw [e1]
      exact .inl rfl
    · have holds : ∀ j u, xs[j]? = some u → w.cell? ((⟨g, 0, none⟩ : Addr).add j) = some u := hown.cells (g := g) rfl
      have hr := run_append_grow_string (P := P) w t u ty e i (.int .u8 0) ht hu hi hz ⟨g, 0, none⟩ n cap xs (by rw [hsize]; simpa using hxl) holds s (by omega) (by omega) (by rw [hby]; exact growslice_fits (by omega) (by omega))
      rw [hrun] at hr
      injection hr with e1 _
      rw [e1]
      exact .inr rfl

theorem wpList_append_str {ops : Array Oper} {rest : List Oper} {o : Oper} {a : Act} {Q : Exit → Act → World → Prop} (hgd : o.guard = none) (sl x : Operand) (t u : TypeId)
    (ho : o.op = .call { callee := .builtin .append, args := #[sl, x], argTypes := #[t, u] })
    (base : Nat) (e : TypeId) (i : TypeInfo) (ht : P.underlying t = some (.slice e)) (hu : P.underlying u = some .string) (hi : P.info? e = some i) (hz : i.zero = some (.int .u8 0))
    (hsize : i.size = 1) (hby : i.bytes = 1) (v : Value) (n : Nat) (xs : List Value) (hs : a.eval sl = v) (hown : w.ownsRow base e 1 v n xs) (s : ByteArray) (hx : a.eval x = .string s)
    (h63 : n + s.size ≤ maxLen) (hbytes : n + s.size ≤ 140737488355328) (hbase : base ≤ w.heap.size)
    (h : ∀ A' c' w', w'.ownsRow base e 1 (.slice A' (n + s.size) c') (n + s.size) (xs ++ Lib.strCells s) → w.grownBy w' v.ownBlock → ((Value.slice A' (n + s.size) c').ownBlock = v.ownBlock ∨ (Value.slice A' (n + s.size) c').ownBlock = some w.heap.size) → wpList P ops Q rest (a.put o.dst (.slice A' (n + s.size) c')) w') : wpList P ops Q (o :: rest) a w := by
  refine wpList_plain hgd fun K hK => ?_
  obtain ⟨v', w', hrun, h2, h3, h4⟩ := run_append_str_at (P := P) w base t u o.type e i ht hu hi hz hsize hby v n xs hown s h63 hbytes hbase
  obtain ⟨A', c', rfl, _⟩ := own_slice h2
  unfold Oper.wp execOp
  simp only [ho, resolve, invoke, builtin, Sem.run_bind, Sem.run_pure, Result.andThen_ok, List.map_toArray, List.map_cons, List.map_nil, hs, hx, hrun]
  exact hK _ _ (h A' c' w' h2 h3 h4)
end

section
variable {w : World} {F : List Nat} {p : Nat} {l : List UInt8}
theorem writer_short (h : IsWr w F p l) (n : Nat) (hn : n < 65536) (hl : l.length ≤ 100000) :
    Calls Tryz.prog 179 #[.pointer (some ⟨p, 0, none⟩), .int .i64 n] w fun e w' => e = .returned (.tuple #[]) ∧ ∃ F', IsWr w' F' p (l ++ leBytes 2 n) ∧ Next F F' w w' := by
  go_enter Tryz.func179, Tryz.ntmps179
  go_wp2_with fail
  refine (writer_put h n 2 (by omega) (by omega) hl).mono ?_
  rintro e w1 ⟨rfl, F', h1, h2⟩
  go_wp2_with fail
  go_end0
  exact ⟨rfl, F', h1, h2⟩

set_option maxRecDepth 100000 in
theorem writer_text (h : IsWr w F p l) (s : List UInt8) (hs : s.length < 65536) (hl : l.length ≤ 50000) :
    Calls Tryz.prog 145 #[.pointer (some ⟨p, 0, none⟩), tx s] w fun e w' => e = .returned (.tuple #[]) ∧ ∃ F', IsWr w' F' p (l ++ (leBytes 2 s.length ++ s)) ∧ Next F F' w w' := by
  obtain ⟨i0, hi0, hz0, hz1, hz2⟩ := info_parts byte_info
  have hsz : (⟨s.toArray⟩ : ByteArray).size = s.length := ba_size s
  have hsc : Lib.strCells ⟨s.toArray⟩ = bys s := rfl
  unfold tx
  go_enter Tryz.func145, Tryz.ntmps145
  go_wp2_with fail
  refine (writer_short h s.length hs (by omega)).mono ?_
  rintro e w1 ⟨rfl, F1, h1, n1⟩
  obtain ⟨v, ⟨hb, ho⟩, rfl⟩ := h1
  obtain ⟨A', c', rfl, _⟩ := own_slice ho
  obtain ⟨l9, hl9⟩ : ∃ l9, l ++ leBytes 2 s.length = l9 := ⟨_, rfl⟩
  have hl9l : l9.length = l.length + 2 := by rw [← hl9]; simp [leBytes_len]
  rw [hl9] at ho hb n1
  have c0 := hb.cell 0
  simp at c0
  have HN := Lib.hid n1
  have HL := Lib.hid hl9
  have h10 : l9.length ≤ 50002 := by omega
  clear n1 hl9 hl9l
  go_wp2_with (at_builtin; refine wpList_append_str _ rfl (.tmp 12) (.tmp 13) _ _ rfl 0 5 i0 Tryz.underlying34 Tryz.underlying9 hi0 hz0 hz1 hz2 (.slice A' l9.length c') l9.length (bys l9) rfl ho ⟨s.toArray⟩ rfl (by rw [hsz]; simp only [maxLen]; omega) (by rw [hsz]; omega) (Nat.zero_le _) ?_; intro A5 c5 w5 hown5 hg5 hat5; obtain ⟨hb5, hm5⟩ := wr_grow hb ho hg5; have f5 := hb5.frozen 0; have c5' := hb5.cell 0; simp at c5')
  rw [hsz] at hat5
  rw [hsz, hsc, ← bys_append] at hown5
  obtain ⟨hw, hx⟩ := IsWr.put hb ho hm5 hb5 hown5 (by simp) (fun k hk => by
    rcases hat5 with e | e
    · exact .inl (e.symm.trans hk)
    · rw [e] at hk
      injection hk with hk
      exact .inr (by omega))
  go_end0
  refine ⟨rfl, _, ?_, HN.out.trans hx⟩
  rw [← List.append_assoc, HL.out]
  exact hw

set_option maxRecDepth 100000 in
theorem putText_calls (h : IsWr w F p l) (s : List UInt8) (h0 : 0 < s.length) (hs : s.length < 65536) (hl : l.length ≤ 40000) :
    Calls Tryz.prog 91 #[.pointer (some ⟨p, 0, none⟩), tx s] w fun e w' => e = .returned (.tuple #[]) ∧ ∃ F', IsWr w' F' p (l ++ (leBytes 8 s.length ++ (leBytes 2 s.length ++ s))) ∧ Next F F' w w' := by
  have hsz : (⟨s.toArray⟩ : ByteArray).size = s.length := ba_size s
  have hw1 := fun (w : World) (F : List Nat) (h : IsWr w F p (l ++ leBytes 8 s.length)) => writer_text h s hs (by simp [leBytes_len]; omega)
  have hx0 : (⟨s.toArray⟩ : ByteArray).extract 0 s.length = ⟨s.toArray⟩ := by rw [ba_extract, List.take_length]
  have hx1 : (⟨s.toArray⟩ : ByteArray).extract s.length s.length = ⟨#[]⟩ := by apply ByteArray.ext; simp
  have hmin : min (s.length : Int) 65535 = (s.length : Int) := by omega
  unfold tx at *
  go_enter Tryz.func91, Tryz.ntmps91
  go_wp2_with fail
  refine (writer_long h s.length (by omega) (by omega)).mono ?_
  rintro e w1 ⟨rfl, F1, h1, n1⟩
  have H1 := Lib.hid (And.intro h1 n1)
  clear h1 n1
  go_wp2_with fail
  refine wp_loop_rounds 2 ?_
  rw [rounds_succ]
  go_wp2_with fail
  refine (hw1 w1 F1 H1.out.1).mono ?_
  rintro e w2 ⟨rfl, F2, h2, n2⟩
  have H2 := Lib.hid (And.intro h2 n2)
  clear h2 n2
  go_wp2_with fail
  rw [rounds_succ]
  go_wp2_with fail
  go_end0
  exact ⟨rfl, F2, by simpa using H2.out.1, H1.out.2.trans H2.out.2⟩

/-- A box of one's own beside a writer. -/
theorem box_keep {w1 w2 : World} {g : Nat} {t : TypeId} {cs : Array Value} {F' : List Nat} (hb : Blk w1 g t cs) (hF : ∀ k ∈ F, k < g) (n : Next F F' w1 w2) : Blk w2 g t cs ∧ ∀ k ∈ F', k ≠ g :=
  ⟨hb.keep (n.1.block g hb.lt (fun h => by have := hF g h; omega)), fun k hk e => by
    subst e
    rcases (n.2 k hk).1 with h1 | h1
    · have := hF k h1; omega
    · have := hb.lt; omega⟩
theorem blk_next {w1 w2 : World} {g : Nat} {t : TypeId} {cs : Array Value} {F' : List Nat} (hb : Blk w1 g t cs) (hF : ∀ k ∈ F, k ≠ g) (n : Next F F' w1 w2) : Blk w2 g t cs ∧ ∀ k ∈ F', k ≠ g :=
  ⟨hb.keep (n.1.block g hb.lt (fun h => hF g h rfl)), fun k hk e => by
    subst e
    rcases (n.2 k hk).1 with h1 | h1
    · exact hF k h1 rfl
    · have := hb.lt; omega⟩

set_option maxRecDepth 100000 in
theorem putBallot_calls (h : IsWr w F p l) (r n : Nat) (hr : r < 9223372036854775808) (hn : n < 9223372036854775808) (hl : l.length ≤ 90000) :
    Calls Tryz.prog 90 #[.pointer (some ⟨p, 0, none⟩), bal r n] w fun e w' => e = .returned (.tuple #[]) ∧ ∃ F', IsWr w' F' p (l ++ (leBytes 8 r ++ leBytes 8 n)) ∧ Next F F' w w' := by
  have hlt := h.lt
  have e1 : Ext w (w.alloc (.cells #[.int .i64 (r : Int), .int .i64 (n : Int)] 108)) := (Below.refl _ _).alloc (Nat.le_refl _) _
  have hb := Blk.new w 108 #[.int .i64 (r : Int), .int .i64 (n : Int)]
  have h1 := h.ext e1
  have n1 := Next.of_ext e1 hlt
  have H := Lib.hid (And.intro h1 n1)
  have HB := Lib.hid hb
  clear h h1 n1 hb e1
  unfold bal
  go_enter Tryz.func90, Tryz.ntmps90
  go_wp2_with fail
  refine (writer_long H.out.1 r hr (by omega)).mono ?_
  rintro e w2 ⟨rfl, F2, h2, n2⟩
  obtain ⟨b2, hF2⟩ := blk_next HB.out (fun k hk => by have := hlt k hk; omega) n2
  have c1 := b2.cell 1
  simp at c1
  have H2 := Lib.hid (And.intro h2 n2)
  clear h2 n2 b2
  go_wp2_with fail
  refine (writer_long H2.out.1 n hn (by simp [leBytes_len]; omega)).mono ?_
  rintro e w3 ⟨rfl, F3, h3, n3⟩
  go_wp2_with fail
  go_end0
  exact ⟨rfl, F3, by simpa using h3, H.out.2.trans (H2.out.2.trans n3)⟩

def idv (a b c : Int) : Value := .agg #[.int .i64 a, .int .i64 b, .int .i64 c]
def idb (a b c : Nat) : List UInt8 := leBytes 8 a ++ (leBytes 8 b ++ leBytes 8 c)
set_option maxRecDepth 100000 in
theorem putId_calls (h : IsWr w F p l) (a b c : Nat) (ha : a < 9223372036854775808) (hb : b < 9223372036854775808) (hc : c < 9223372036854775808) (hl : l.length ≤ 90000) :
    Calls Tryz.prog 144 #[.pointer (some ⟨p, 0, none⟩), idv a b c] w fun e w' => e = .returned (.tuple #[]) ∧ ∃ F', IsWr w' F' p (l ++ idb a b c) ∧ Next F F' w w' := by
  have hlt := h.lt
  have e1 : Ext w (w.alloc (.cells #[.int .i64 (a : Int), .int .i64 (b : Int), .int .i64 (c : Int)] 104)) := (Below.refl _ _).alloc (Nat.le_refl _) _
  have hb := Blk.new w 104 #[.int .i64 (a : Int), .int .i64 (b : Int), .int .i64 (c : Int)]
  have h1 := h.ext e1
  have n1 := Next.of_ext e1 hlt
  have H := Lib.hid (And.intro h1 n1)
  have HB := Lib.hid hb
  clear h h1 n1 hb e1
  unfold idv idb
  go_enter Tryz.func144, Tryz.ntmps144
  go_wp2_with fail
  refine (writer_long H.out.1 a ha (by omega)).mono ?_
  rintro e w2 ⟨rfl, F2, h2, n2⟩
  obtain ⟨b2, hF2⟩ := blk_next HB.out (fun k hk => by have := hlt k hk; omega) n2
  have c1 := b2.cell 1
  simp at c1
  have H2 := Lib.hid (And.intro h2 n2)
  have HB2 := Lib.hid b2
  clear h2 n2 b2
  go_wp2_with fail
  refine (writer_long H2.out.1 b hb (by simp [leBytes_len]; omega)).mono ?_
  rintro e w3 ⟨rfl, F3, h3, n3⟩
  obtain ⟨b3, hF3⟩ := blk_next HB2.out hF2 n3
  have c2 := b3.cell 2
  simp at c2
  have H3 := Lib.hid (And.intro h3 n3)
  clear h3 n3 b3
  go_wp2_with fail
  refine (writer_long H3.out.1 c hc (by simp [leBytes_len]; omega)).mono ?_
  rintro e w4 ⟨rfl, F4, h4, n4⟩
  go_wp2_with fail
  go_end0
  exact ⟨rfl, F4, by simpa using h4, H.out.2.trans (H2.out.2.trans (H3.out.2.trans n4))⟩

end

end Go.Proofs.YtiglblfjmmdeeaaGreat
