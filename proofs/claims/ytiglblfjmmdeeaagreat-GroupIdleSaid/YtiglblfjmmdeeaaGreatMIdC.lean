/- Texts merged: IdleK, IdleL, IdleM, IdleN, IdleO. -/
import Derived.Test.YtiglblfjmmdeeaaGreatIdleJ
import Derived.ScopeJumps

/- agree: Crash, Cut, Start in a world of which nothing was asked. -/
namespace Go.Proofs.YtiglblfjmmdeeaaGreat
open Go.RowKit Go.Maps Go.ChangeMaps

attribute [local go_sem] Oper.pureUpon Oper.relUpon

section
variable {w : World} {F : Key → List Nat} {S : Key → Ob} {wp tp g c n b k np : Nat} {app : Value} {D : Nat → Nd} {ts : List (Int × Int × List UInt8)} {N : NS}
set_option maxRecDepth 100000 in
theorem cutAt0 (h : M w F S) (hn : S (0, k) = nodeOb np N) (h0 : N.number = 0) (x : Int) (s : List UInt8) :
    Calls Tryz.prog 38 #[.pointer (some ⟨np, 0, none⟩), .int .i64 x, .string ⟨s.toArray⟩] w fun e w' => e = .returned (.tuple #[]) ∧ w = w' := by
  have hb := h.blk hn
  have c14 := hb.cell 14
  have c12 := hb.cell 12
  simp [ncells, h0] at c14 c12
  clear hb h
  by_cases i1 : x ≤ 0
  · go_enter Tryz.func38, Tryz.ntmps38
    go_wp2_with fail
    refine bodyPost_ret (results_none rfl _ _ _) rfl ?_
    exact ⟨rfl, rfl⟩
  · have i2 : x > 0 := by omega
    go_enter Tryz.func38, Tryz.ntmps38
    go_wp2_with fail
    refine bodyPost_ret (results_none rfl _ _ _) rfl ?_
    exact ⟨rfl, rfl⟩

theorem wup_calls (h : M w F S) (I : Idle S wp tp g c n b app D ts) (x : Int) : ∃ u : Bool, Calls Tryz.prog 24 #[.pointer (some ⟨wp, 0, none⟩), .int .i64 x] w (fun e w' => e = .returned (.bool u) ∧ w = w') ∧
    (u = true → ∃ k : Nat, x = k ∧ k < n ∧ (D k).N.up = true) ∧ (u = false → ∀ k : Nat, x = k → k < n → (D k).N.up = false) := by
  by_cases hx : 0 ≤ x ∧ x < (n : Int)
  · obtain ⟨k, rfl⟩ : ∃ k : Nat, x = k := ⟨x.toNat, by omega⟩
    have hk : k < n := by omega
    refine ⟨(D k).N.up, up_calls h I.world hk (I.cell h hk) (I.nodes k hk).node, fun hu => ⟨k, rfl, hk, hu⟩, fun hu j hj _ => ?_⟩
    obtain rfl : k = j := by omega
    exact hu
  · exact ⟨false, up_none h I.world hx, (fun hu => by cases hu), fun _ j hj hjn => by omega⟩

set_option maxRecDepth 100000 in
theorem wcut_calls (h : M w F S) (I : Idle S wp tp g c n b app D ts) (x y : Int) (s : List UInt8) :
    Calls Tryz.prog 20 #[.pointer (some ⟨wp, 0, none⟩), .int .i64 x, .int .i64 y, .string ⟨s.toArray⟩] w fun e w' => e = .returned (.tuple #[]) ∧ w = w' := by
  obtain ⟨u, hu, h1, _⟩ := wup_calls h I x
  cases u with
  | false =>
    clear h1 h
    go_enter Tryz.func20, Tryz.ntmps20
    go_wp2_with fail
    refine hu.mono ?_
    rintro e w1 ⟨rfl, rfl⟩
    go_wp2_with fail
    go_end0
    exact ⟨rfl, rfl⟩
  | true =>
    obtain ⟨k, rfl, hk, hup⟩ := h1 rfl
    have cg := I.cell h hk
    unfold ptr at cg
    have hkn : (k : Int) < (n : Int) := by omega
    obtain ⟨netv, vs, hb, _⟩ := h.at I.world
    have c1 := hb.cell 1
    simp at c1
    have hc := cutAt0 h (I.nodes k hk).node (I.nodes k hk).num y s
    clear h1 hb h
    go_enter Tryz.func20, Tryz.ntmps20
    go_wp2_with fail
    refine hu.mono ?_
    rintro e w1 ⟨rfl, rfl⟩
    go_wp2_with fail
    refine hc.mono ?_
    rintro e w1 ⟨rfl, rfl⟩
    go_wp2_with fail
    go_end0
    exact ⟨rfl, rfl⟩

theorem img_len (life : Nat) : (img life).length = 50 := by
  unfold img
  rw [List.length_append, rec_len, rec_len, List.length_append, leBytes_len, leBytes_len]

set_option maxRecDepth 100000 in
theorem wcrash_calls (h : M w F S) (I : Idle S wp tp g c n b app D ts) (x y : Int) :
    Calls Tryz.prog 18 #[.pointer (some ⟨wp, 0, none⟩), .int .i64 x, .int .i64 y] w fun e w' => e = .returned (.tuple #[]) ∧ Idles F w S wp tp g c n (b + 1) app (fun _ _ => True) w' := by
  obtain ⟨u, hu, h1, _⟩ := wup_calls h I x
  have hno : Idles F w S wp tp g c n (b + 1) app (fun _ _ => True) w := ⟨S, D, ts, ⟨F, h, Fr.refl _ _⟩, I.mono (Nat.le_succ _), rfl, trivial⟩
  cases u with
  | false =>
    have HN := Lib.hid hno
    clear h1 h hno
    go_enter Tryz.func18, Tryz.ntmps18
    go_wp2_with fail
    refine hu.mono ?_
    rintro e w1 ⟨rfl, rfl⟩
    go_wp2_with fail
    go_end0
    exact ⟨rfl, HN.out⟩
  | true =>
    obtain ⟨k, rfl, hk, hup⟩ := h1 rfl
    have cg := I.cell h hk
    unfold ptr at cg
    have hkn : (k : Int) < (n : Int) := by omega
    obtain ⟨netv, vs, hb, _⟩ := h.at I.world
    have c1 := hb.cell 1
    simp at c1
    have i := I.nodes k hk
    have hbn := h.blk i.node
    have d2 := hbn.cell 2
    have d4 := hbn.cell 4
    have d17 := hbn.cell 17
    have f4 := hbn.frozen 4
    have f17 := hbn.frozen 17
    simp [ncells] at d2 d4 d17
    have hs := set2 (set2 (set1 h i.node) 4 (.bool false) (by simp [ncells])) 17 (.slice none 0 0) (by simp [ncells])
    obtain ⟨N2, hN2⟩ : ∃ N2 : NS, N2 = { (D k).N with up := false, mine := .slice none 0 0 } := ⟨_, rfl⟩
    have hO : (Ob.st (D k).np 81 (((ncells (D k).N).set 4 (.bool false)).set 17 (.slice none 0 0))) = nodeOb (D k).np N2 := by rw [hN2]; simp [nodeOb, ncells]
    rw [hO] at hs
    have hcr := sd_crash (hs.1.at (i := (1, k)) (o := .disk (D k).N.dp (img (D k).N.life) 50) (by rw [upd_ne' _ (by simp)]; exact i.disk)) y
    have hil := img_len (D k).N.life
    have htk : (img (D k).N.life).take (50 + y.toNat) = img (D k).N.life := List.take_of_length_le (by omega)
    rw [htk, hil] at hcr
    have HS := Lib.hid (And.intro hs (And.intro i hN2))
    have HCR := Lib.hid hcr
    clear h1 hb h hno hbn hs hN2 hO i hcr hil htk
    go_enter Tryz.func18, Tryz.ntmps18
    go_wp2_with fail
    refine hu.mono ?_
    rintro e w1 ⟨rfl, rfl⟩
    go_wp2_with fail
    refine HCR.out.mono ?_
    rintro e w2 ⟨rfl, hd2, n2⟩
    have hm2 := HS.out.1.1.step (1, k) (o' := .disk (D k).N.dp (img (D k).N.life) 50) n2 hd2
    have H2 := Lib.hid (And.intro hm2.1 (HS.out.1.2.trans hm2.2))
    clear hm2 hd2 n2
    go_wp2_with fail
    go_end0
    obtain ⟨_, i, hN2⟩ := HS.out
    refine ⟨rfl, _, setD D k { D k with N := N2 }, ts, ⟨_, H2.out.1, H2.out.2⟩, I.put (Nat.le_succ _) rfl ⟨?_, ?_, ?_, ?_, ?_, ?_, ?_, ?_, ?_, ?_, ?_, ?_, ?_, ?_, ?_⟩ ?_ (by have := I.len; omega) I.good ?_, ?_, trivial⟩
    · rw [upd_ne' _ (by simp), upd_same]
    · rw [upd_same, hN2]
    · rw [upd_ne' _ (by simp), upd_ne' _ (by simp)]; exact i.acc
    · rw [upd_ne' _ (by simp), upd_ne' _ (by simp)]; exact i.log
    · rw [hN2]; exact i.ewp
    · rw [hN2]; exact i.me
    · rw [hN2]; exact i.eacc
    · rw [hN2]; exact i.elog
    · rw [hN2]; exact i.top
    · rw [hN2]; exact i.num
    · rw [hN2]
    · rw [hN2]; have := i.life; show _ ≤ _; simp only; omega
    · rw [hN2]; have := i.clock; show _ ≤ _; simp only; omega
    · rw [hN2]; exact i.last
    · rw [hN2]; have := i.tries; show _ ≤ _; simp only; omega
    · rw [upd_ne' _ (by simp), upd_ne' _ (by simp)]; exact I.world
    · intro j h0 h1 _ _ _
      rw [upd_ne' _ h1, upd_ne' _ h0]
    · rw [upd_ne' _ (by simp), upd_ne' _ (by simp)]
end

end Go.Proofs.YtiglblfjmmdeeaaGreat

/- agree: Start and Lacks in a world of which nothing was asked. -/
namespace Go.Proofs.YtiglblfjmmdeeaaGreat
open Go.RowKit Go.Maps Go.ChangeMaps

attribute [local go_sem] Oper.pureUpon Oper.relUpon

section
variable {w : World} {F : Key → List Nat} {S : Key → Ob} {wp tp g c n b : Nat} {D : Nat → Nd} {ts : List (Int × Int × List UInt8)} {app : Value}
def appv (tp : Nat) : Value := .iface 42 (.pointer (some ⟨tp, 0, none⟩))

set_option maxRecDepth 100000 in
/-- The nodes that were up are up; and node x, if there is one. -/
theorem wstart_calls (h : M w F S) (I : Idle S wp tp g c n b (appv tp) D ts) (hb9 : b ≤ 100) (x : Int) :
    Calls Tryz.prog 19 #[.pointer (some ⟨wp, 0, none⟩), .int .i64 x] w fun e w' => (∃ u : Bool, e = .returned (.bool u)) ∧ Idles F w S wp tp g c n (b + 1) (appv tp) (fun D' _ => (∀ j, (D j).N.up = true → (D' j).N.up = true) ∧ ∀ j : Nat, x = j → j < n → (D' j).N.up = true) w' := by
  have hh := has_calls h I.world x
  have hno : ((∀ j : Nat, x = j → j < n → (D j).N.up = true)) → Idles F w S wp tp g c n (b + 1) (appv tp) (fun D' _ => (∀ j, (D j).N.up = true → (D' j).N.up = true) ∧ ∀ j : Nat, x = j → j < n → (D' j).N.up = true) w := fun hu => ⟨S, D, ts, ⟨F, h, Fr.refl _ _⟩, I.mono (Nat.le_succ _), rfl, fun _ h => h, hu⟩
  by_cases hx : 0 ≤ x ∧ x < (n : Int)
  · rw [decide_eq_true hx] at hh
    obtain ⟨k, rfl⟩ : ∃ k : Nat, x = k := ⟨x.toNat, by omega⟩
    have hk : k < n := by omega
    have hkn : (k : Int) < (n : Int) := by omega
    have cg := I.cell h hk
    unfold ptr at cg
    obtain ⟨netv, vs, hb, _⟩ := h.at I.world
    have c1 := hb.cell 1
    simp at c1
    have i := I.nodes k hk
    have d4 := (h.blk i.node).cell 4
    simp [ncells] at d4
    cases hup : (D k).N.up with
    | true =>
      rw [hup] at d4
      have HN := Lib.hid (hno (fun j hj _ => by obtain rfl : k = j := (by omega); exact hup))
      clear hb h hno i
      go_enter Tryz.func19, Tryz.ntmps19
      go_wp2_with fail
      refine hh.mono ?_
      rintro e w1 ⟨rfl, rfl⟩
      go_wp2_with fail
      go_ret
      exact ⟨⟨_, rfl⟩, HN.out⟩
    | false =>
      rw [hup] at d4
      have hn5 := I.n5
      have hw := I.world
      have hs := start_calls (tp := tp) (A := some ⟨g, 0, none⟩) (n := n) (c := c) (ts := ts) h (by rw [i.ewp]; exact I.world) I.told i.node i.me (by omega) i.disk (.inr rfl) (by have := i.life; omega) true
      have HS := Lib.hid hs
      have HI := Lib.hid i
      clear hb h hno hs i hw
      go_enter Tryz.func19, Tryz.ntmps19
      go_wp2_with fail
      refine hh.mono ?_
      rintro e w1 ⟨rfl, rfl⟩
      go_wp2_with fail
      refine HS.out.mono ?_
      rintro e w2 ⟨rfl, S', d, g2, st⟩
      have H2 := Lib.hid (And.intro g2 st)
      clear g2 st
      go_wp2_with fail
      go_ret
      obtain ⟨g2, st⟩ := H2.out
      have i := HI.out
      refine ⟨⟨_, rfl⟩, S', setD D k d, ts, g2, I.put (Nat.le_succ _) st.enp ⟨st.node.trans (by rw [st.enp]), ?_, st.acc, st.log, st.same.1.trans i.ewp, st.same.2.1.trans i.me, st.eacc, st.elog, st.zero.1, st.zero.2.1, st.zero.2.2.1, ?_, ?_, ?_, ?_⟩ ?_ (by have := I.len; omega) I.good ?_, ?_, ?_, ?_⟩
      · rw [st.disk, st.same.2.2.1, st.life]
      · rw [st.life]; have := i.life; omega
      · rw [st.same.2.2.2]; have := i.clock; omega
      · rw [st.last, st.same.2.2.2]; exact Nat.le_refl _
      · rw [st.zero.2.2.2]; omega
      · rw [st.rest _ (by simp) (by simp) (by simp) (by simp)]; exact I.world
      · intro j h0 h1 h2 h4 _
        exact st.rest j h0 h1 h2 h4
      · exact st.rest _ (by simp) (by simp) (by simp) (by simp)
      · intro j hj
        by_cases e : j = k
        · subst e; rw [setD_same]; exact st.up
        · rw [setD_ne D e]; exact hj
      · intro j hj _
        obtain rfl : k = j := (by omega)
        rw [setD_same]; exact st.up
  · rw [decide_eq_false hx] at hh
    have HN := Lib.hid (hno (fun j hj hjn => by omega))
    clear h hno
    go_enter Tryz.func19, Tryz.ntmps19
    go_wp2_with fail
    refine hh.mono ?_
    rintro e w1 ⟨rfl, rfl⟩
    go_wp2_with fail
    go_ret
    exact ⟨⟨_, rfl⟩, HN.out⟩

set_option maxRecDepth 100000 in
set_option maxHeartbeats 1000000 in
theorem wlacks_calls (h : M w F S) (I : Idle S wp tp g c n b app D ts) :
    Calls Tryz.prog 22 #[.pointer (some ⟨wp, 0, none⟩)] w fun e w' => e = .returned (.bool false) ∧ Ext w w' := by
  have hmax : ∀ w, (Builtin.max_ #[3, 3] 3 #[.int .i64 0, .int .i64 0]).run Tryz.prog w = .ok (.int .i64 0) w := by
    intro w
    simp [Builtin.max_, Builtin.max2]
  obtain ⟨netv, vs, hb, _⟩ := h.at I.world
  have c1 := hb.cell 1
  simp at c1
  have hcell : ∀ w', Ext w w' → ∀ k, k < n → w'.cell? ⟨g, k, none⟩ = some (.pointer (some ⟨(D k).np, 0, none⟩)) ∧ w'.cell? ⟨(D k).np, 4, none⟩ = some (.bool (D k).N.up) ∧ w'.cell? ⟨(D k).np, 10, none⟩ = some (.int .i64 0) ∧ w'.cell? ⟨(D k).np, 9, none⟩ = some (.pointer (some ⟨(D k).lp, 0, none⟩)) ∧ w'.cell? ⟨(D k).np, 17, none⟩ = some (.slice none 0 0) := fun w' he k hk => by
    have i := I.nodes k hk
    have hbn := (h.ext he).blk i.node
    have d4 := hbn.cell 4
    have d10 := hbn.cell 10
    have d9 := hbn.cell 9
    have d17 := hbn.cell 17
    simp [ncells, i.top, i.elog, i.mine, ptr] at d4 d10 d9 d17
    exact ⟨I.cell (h.ext he) hk, d4, d10, d9, d17⟩
  have hnx : ∀ w', Ext w w' → ∀ k, k < n → Calls Tryz.prog 39 #[.pointer (some ⟨(D k).lp, 0, none⟩)] w' fun e w'' => e = .returned (.int .i64 0) ∧ w' = w'' := fun w' he k hk => by
    have := cl_next (show IsCL w' _ (D k).lp [] 0 from (h.ext he).at (I.nodes k hk).log) (n := 0) ⟨Nat.le_refl _, by intro i h1 h2; omega, rfl⟩ (by omega)
    simpa using this
  have hlk : ∀ w', Ext w w' → ∀ k, k < n → Calls Tryz.prog 40 #[.pointer (some ⟨(D k).np, 0, none⟩)] w' fun e w'' => e = .returned (.bool false) ∧ Ext w' w'' := fun w' he k hk => by
    have i := I.nodes k hk
    exact lacks0 (h.ext he) i.node i.acc (by simpa [ptr] using i.eacc) i.log (by simpa [ptr] using i.elog) (nx := 0) ⟨Nat.le_refl _, by intro i h1 h2; omega, rfl⟩ (by omega) (by omega) (Nat.le_of_eq i.top)
  have hwc : ∀ w', Ext w w' → w'.cell? ⟨wp, 1, none⟩ = some (.slice (some ⟨g, 0, none⟩) n c) := fun w' he => by
    have := (blk_ext hb he).cell 1
    simpa using this
  have HC := Lib.hid (And.intro hcell (And.intro hnx (And.intro hlk hwc)))
  have hn5 := I.n5
  clear hcell hnx hlk hwc hb h
  go_enter Tryz.func22, Tryz.ntmps22
  go_wp2_with fail
  go_loopw [3, 14] (fun v3 v14 wr => ∃ j : Nat, v14 = .int .i64 j ∧ v3 = .int .i64 0 ∧ j ≤ n ∧ w = wr) (fun _ v14 _ => n - (intOf v14).toNat)
  case atStart => exact ⟨0, rfl, rfl, Nat.zero_le _, rfl⟩
  case round =>
    obtain ⟨j, rfl, rfl, hj, rfl⟩ := hrel
    by_cases hjn : j < n
    · obtain ⟨e0, e4, e10, e9, e17⟩ := HC.out.1 _ (Ext.refl _) j hjn
      have hjn' : (j : Int) < (n : Int) := by omega
      cases hup : (D j).N.up with
      | false =>
        rw [hup] at e4
        go_wp2_with fail
        go_roundw
        case rel => refine ⟨j + 1, by go_num, ?_, by omega, ?_⟩ <;> first | trivial | rfl
        case measure => simp [intOf]; omega
      | true =>
        rw [hup] at e4
        go_wp2_with fail
        go_roundw
        case rel => refine ⟨j + 1, by go_num, ?_, by omega, ?_⟩ <;> first | trivial | rfl
        case measure => simp [intOf]; omega
    · obtain rfl : n = j := by omega
      go_wp2_with fail
      go_loopw [6, 34] (fun v6 v34 wr' => ∃ j : Nat, v34 = .int .i64 j ∧ v6 = .bool false ∧ j ≤ n ∧ Ext w wr') (fun _ v34 _ => n - (intOf v34).toNat)
      case atStart => exact ⟨0, rfl, rfl, Nat.zero_le _, Ext.refl _⟩
      case round =>
        obtain ⟨j, rfl, rfl, hj, he⟩ := hrel
        by_cases hjn : j < n
        · obtain ⟨e0, e4, e10, e9, e17⟩ := HC.out.1 _ he j hjn
          have hnx := HC.out.2.1 _ he j hjn
          have HLK := Lib.hid (HC.out.2.2.1 _ he j hjn)
          have HE := Lib.hid he
          have hjn' : (j : Int) < (n : Int) := by omega
          clear he
          cases hup : (D j).N.up with
          | false =>
            rw [hup] at e4
            go_wp2_with fail
            go_roundw
            case rel => refine ⟨j + 1, by go_num, ?_, by omega, HE.out⟩ <;> first | trivial | rfl
            case measure => simp [intOf]; omega
          | true =>
            rw [hup] at e4
            go_wp2_with fail
            refine hnx.mono ?_
            rintro e w2 ⟨rfl, rfl⟩
            go_wp2_with fail
            refine HLK.out.mono ?_
            rintro e w2 ⟨rfl, he2⟩
            obtain ⟨e0, e4, e10, e9, e17⟩ := HC.out.1 _ (HE.out.trans he2) j hjn
            have HE2 := Lib.hid (HE.out.trans he2)
            clear he2
            go_wp2_with fail
            go_roundw
            case rel => refine ⟨j + 1, by go_num, ?_, by omega, HE2.out⟩ <;> first | trivial | rfl
            case measure => simp [intOf]; omega
        · obtain rfl : n = j := by omega
          go_wp2_with fail
          go_ret
          exact ⟨rfl, he⟩
end

end Go.Proofs.YtiglblfjmmdeeaaGreat

/- group: a group of which nothing was asked: told, Do, Settle, Base, Log, Up. -/
namespace Go.Proofs.YtiglblfjmmdeeaaGreat
open Go.RowKit Go.Maps Go.ChangeMaps

attribute [local go_sem] Oper.pureUpon Oper.relUpon

/-- A group of which nothing was asked. -/
structure Grp (w : World) (F : Key → List Nat) (S : Key → Ob) (gp wp tp g c n b : Nat) (D : Nat → Nd) (ts : List (Int × Int × List UInt8)) : Prop where
  m : M w F S
  i : Idle S wp tp g c n b (appv tp) D ts
  gr : S (14, 0) = .st gp 50 [.pointer (some ⟨wp, 0, none⟩), .pointer (some ⟨tp, 0, none⟩)]

/-- What a step of a group leaves. -/
def Grps (F : Key → List Nat) (w : World) (gp wp tp g c n b : Nat) (Q : (Nat → Nd) → List (Int × Int × List UInt8) → Prop) (w' : World) : Prop :=
  ∃ F' S' D' ts', Grp w' F' S' gp wp tp g c n b D' ts' ∧ Fr F F' w w' ∧ Q D' ts'

section
variable {w w' : World} {F : Key → List Nat} {S : Key → Ob} {gp wp tp g c n b b' : Nat} {D : Nat → Nd} {ts : List (Int × Int × List UInt8)} {Q : (Nat → Nd) → List (Int × Int × List UInt8) → Prop}
theorem Grp.cell0 (G : Grp w F S gp wp tp g c n b D ts) : w.cell? ⟨gp, 0, none⟩ = some (.pointer (some ⟨wp, 0, none⟩)) := by
  have := G.m.cell G.gr 0
  simpa using this
theorem Grp.cell1 (G : Grp w F S gp wp tp g c n b D ts) : w.cell? ⟨gp, 1, none⟩ = some (.pointer (some ⟨tp, 0, none⟩)) := by
  have := G.m.cell G.gr 1
  simpa using this
theorem Grp.ext (G : Grp w F S gp wp tp g c n b D ts) (e : Ext w w') : Grp w' F S gp wp tp g c n b D ts := ⟨G.m.ext e, G.i, G.gr⟩
theorem Grp.of {w0 : World} {F0 : Key → List Nat} (G : Grp w0 F0 S gp wp tp g c n b D ts) (h : Idles F0 w0 S wp tp g c n b' (appv tp) Q w) : Grps F0 w0 gp wp tp g c n b' Q w := by
  obtain ⟨S', D', ts', ⟨F', hm, hf⟩, hi, h14, hq⟩ := h
  exact ⟨F', S', D', ts', ⟨hm, hi, h14.trans G.gr⟩, hf, hq⟩

set_option maxRecDepth 100000 in
theorem told_calls (G : Grp w F S gp wp tp g c n b D ts) : Calls Tryz.prog 21 #[.pointer (some ⟨gp, 0, none⟩)] w fun e w' => e = .returned (.slice none 0 0) ∧ Grps F w gp wp tp g c n b (fun D' ts' => D' = D ∧ ts' = ts) w' := by
  have c1 := G.cell1
  have hb := G.m.blk G.i.told
  have d15 := hb.cell 15
  have f15 := hb.frozen 15
  simp [told0] at d15
  have hs := set2 (set1 G.m G.i.told) 15 (.slice none 0 0) (by simp [told0])
  have ht : told0.set 15 (.slice none 0 0) = told0 := rfl
  rw [ht, upd_self S G.i.told] at hs
  have HS := Lib.hid (And.intro hs G)
  clear hs hb G ht
  go_enter Tryz.func21, Tryz.ntmps21
  go_wp2_with fail
  go_ret
  exact ⟨rfl, F, S, D, ts, ⟨HS.out.1.1, HS.out.2.i, HS.out.2.gr⟩, HS.out.1.2, rfl, rfl⟩

set_option maxRecDepth 100000 in
theorem gup_calls (G : Grp w F S gp wp tp g c n b D ts) (x : Int) : ∃ u : Bool, Calls Tryz.prog 10 #[.pointer (some ⟨gp, 0, none⟩), .int .i64 x] w (fun e w' => e = .returned (.bool u) ∧ w = w') ∧
    ((∀ k : Nat, k < n → (D k).N.up = true) → u = decide (0 ≤ x ∧ x < (n : Int))) := by
  obtain ⟨u, hu, h1, h2⟩ := wup_calls G.m G.i x
  refine ⟨u, ?_, fun hup => ?_⟩
  · have c0 := G.cell0
    clear h1 h2 G
    go_enter Tryz.func10, Tryz.ntmps10
    go_wp2_with fail
    refine hu.mono ?_
    rintro e w1 ⟨rfl, rfl⟩
    go_wp2_with fail
    go_ret
    exact ⟨rfl, rfl⟩
  · cases u with
    | true =>
      obtain ⟨k, rfl, hk, _⟩ := h1 rfl
      rw [decide_eq_true (by omega)]
    | false =>
      rw [decide_eq_false]
      intro hx
      have := h2 rfl x.toNat (by omega) (by omega)
      rw [hup _ (by omega)] at this
      cases this
end

end Go.Proofs.YtiglblfjmmdeeaaGreat

/- group: Base, Log. -/
namespace Go.Proofs.YtiglblfjmmdeeaaGreat
open Go.RowKit Go.Maps Go.ChangeMaps

attribute [local go_sem] Oper.pureUpon Oper.relUpon

section
variable {w w' : World} {F : Key → List Nat} {S : Key → Ob} {gp wp tp g c n b b' : Nat} {D : Nat → Nd} {ts : List (Int × Int × List UInt8)} {Q : (Nat → Nd) → List (Int × Int × List UInt8) → Prop}
theorem clone_nil (w : World) : Calls Tryz.prog 25 #[.slice none 0 0] w fun e w' => e = .returned (.slice none 0 0) ∧ w = w' := by
  have q := fun (w : World) (a : Option Addr) (n c n' c' : Nat) => Lib.run_eql_slice_nil (P := Tryz.prog) w 37 9 a n c n' c' Tryz.underlying37
  go_enter Tryz.func25, Tryz.ntmps25
  go_wp2
  go_ret
  exact ⟨rfl, rfl⟩

theorem told0_at : ∀ k : Nat, k < 5 → told0[k * 3]? = some (.int .i64 0) ∧ told0[k * 3 + 1]? = some (.string ⟨#[]⟩) ∧ told0[k * 3 + 2]? = some (.slice none 0 0) := by
  intro k hk
  rcases (by omega : k = 0 ∨ k = 1 ∨ k = 2 ∨ k = 3 ∨ k = 4) with rfl | rfl | rfl | rfl | rfl <;> exact ⟨rfl, rfl, rfl⟩

theorem Grp.up (G : Grp w F S gp wp tp g c n b D ts) {k : Nat} (hk : k < n) (hup : (D k).N.up = true) : Calls Tryz.prog 24 #[.pointer (some ⟨wp, 0, none⟩), .int .i64 (k : Int)] w fun e w' => e = .returned (.bool true) ∧ w = w' := by
  have := up_calls G.m G.i.world hk (G.i.cell G.m hk) (G.i.nodes k hk).node
  rw [hup] at this
  exact this

set_option maxRecDepth 100000 in
theorem log_calls (G : Grp w F S gp wp tp g c n b D ts) {k : Nat} (hk : k < n) (hup : (D k).N.up = true) : Calls Tryz.prog 9 #[.pointer (some ⟨gp, 0, none⟩), .int .i64 (k : Int)] w fun e w' => e = .returned (.slice none 0 0) ∧ w = w' := by
  have hu := G.up hk hup
  have c0 := G.cell0
  have c1 := G.cell1
  have hn5 := G.i.n5
  have d2 := (G.m.cell G.i.told (k * 3 + 2)).trans (told0_at k (by omega)).2.2
  have hk5 : (k : Int) < 5 := by omega
  have hcl := clone_nil w
  clear G
  go_enter Tryz.func9, Tryz.ntmps9
  go_wp2_with fail
  refine hu.mono ?_
  rintro e w1 ⟨rfl, rfl⟩
  go_wp2_with fail
  refine hcl.mono ?_
  rintro e w1 ⟨rfl, rfl⟩
  go_wp2_with fail
  go_ret
  exact ⟨rfl, rfl⟩

set_option maxRecDepth 100000 in
theorem log_none (G : Grp w F S gp wp tp g c n b D ts) : Calls Tryz.prog 9 #[.pointer (some ⟨gp, 0, none⟩), .int .i64 (n : Int)] w fun e w' => e = .returned (.slice none 0 0) ∧ w = w' := by
  have hu := up_none G.m G.i.world (x := n) (by omega)
  have c0 := G.cell0
  clear G
  go_enter Tryz.func9, Tryz.ntmps9
  go_wp2_with fail
  refine hu.mono ?_
  rintro e w1 ⟨rfl, rfl⟩
  go_wp2_with fail
  go_ret
  exact ⟨rfl, rfl⟩

set_option maxRecDepth 100000 in
theorem base_calls (G : Grp w F S gp wp tp g c n b D ts) {k : Nat} (hk : k < n) (hup : (D k).N.up = true) : Calls Tryz.prog 8 #[.pointer (some ⟨gp, 0, none⟩), .int .i64 (k : Int)] w fun e w' => e = .returned (.tuple #[.int .i64 0, .string ⟨#[]⟩]) ∧ Ext w w' := by
  have hu := G.up hk hup
  have c0 := G.cell0
  have hn5 := G.i.n5
  have C1 : ∀ w', Ext w w' → w'.cell? ⟨gp, 1, none⟩ = some (.pointer (some ⟨tp, 0, none⟩)) := fun w' he => (G.ext he).cell1
  have D0 : ∀ w', Ext w w' → w'.cell? ⟨tp, k * 3, none⟩ = some (.int .i64 0) := fun w' he => ((G.ext he).m.cell G.i.told (k * 3)).trans (told0_at k (by omega)).1
  have D1 : ∀ w', Ext w w' → w'.cell? ⟨tp, k * 3 + 1, none⟩ = some (.string ⟨#[]⟩) := fun w' he => ((G.ext he).m.cell G.i.told (k * 3 + 1)).trans (told0_at k (by omega)).2.1
  have hk5 : (k : Int) < 5 := by omega
  clear G
  go_enter Tryz.func8, Tryz.ntmps8
  go_wp2_with fail
  refine hu.mono ?_
  rintro e w1 ⟨rfl, rfl⟩
  go_wp2_with fail
  refine wp_region_rely [none, none, none, none, none, none, none, none, none, none, none, none, none, none, none, none, none, none, none, none, none, none] (by kernel_rfl) (by kernel_rfl) ?_
  simp only [Wit]
  iterate 22 apply Exists.intro
  repeat (first | (refine rely_skip rfl ?_; simp only [Act.put, List.setIfInBounds_toArray, List.set_cons_zero, List.set_cons_succ]) | (apply rely_pure; (· rfl); (· intro w hw hd; go_simp; done); simp only [Act.put, List.setIfInBounds_toArray, List.set_cons_zero, List.set_cons_succ]) | (apply rely_pure; (· rfl); (· intro w hw hd; go_simp; exact rfl); simp only [Act.put, List.setIfInBounds_toArray, List.set_cons_zero, List.set_cons_succ]))
  refine rely_nil ?_
  intro w2 hw2
  have he := hw2.1
  clear hw2 C1 D0 D1
  go_wp2_with fail
  go_ret2
  exact ⟨rfl, he⟩
end

end Go.Proofs.YtiglblfjmmdeeaaGreat

/- group: Settle. -/
namespace Go.Proofs.YtiglblfjmmdeeaaGreat
open Go.RowKit Go.Maps Go.ChangeMaps

attribute [local go_sem] Oper.pureUpon Oper.relUpon

section
variable {w w' : World} {F : Key → List Nat} {S : Key → Ob} {gp wp tp g c n b b' : Nat} {D : Nat → Nd} {ts : List (Int × Int × List UInt8)} {Q : (Nat → Nd) → List (Int × Int × List UInt8) → Prop}
theorem Grp.net {F' : Key → List Nat} {ts' : List (Int × Int × List UInt8)} (G : Grp w F S gp wp tp g c n b D ts) (hm : M w' F' (upd S (10, 0) (.world wp (.slice (some ⟨g, 0, none⟩) n c) (appv tp) ts'))) (hl : ts'.length ≤ 5 * b') (hb : b ≤ b') (hg : ∀ t ∈ ts', goodT n t) :
    Grp w' F' (upd S (10, 0) (.world wp (.slice (some ⟨g, 0, none⟩) n c) (appv tp) ts')) gp wp tp g c n b' D ts' :=
  ⟨hm, G.i.net hb hl hg, by rw [upd_ne' _ (by simp)]; exact G.gr⟩

/-- A message is delivered. -/
theorem Grp.deliver (G : Grp w F S gp wp tp g c n b D ts) (h0 : 0 < ts.length) (hb9 : b ≤ 100) (k : Int) (k0 : -9223372036854775808 ≤ k) (k9 : k ≤ 9223372036854775807) :
    Calls Tryz.prog 14 #[.pointer (some ⟨wp, 0, none⟩), .int .i64 k] w fun e w' => e = .returned (.bool true) ∧ ∃ F' S' ts', Grp w' F' S' gp wp tp g c n b D ts' ∧ Fr F F' w w' ∧ ts'.length + 1 = ts.length := by
  refine (deliver_some G.m G.i k h0 hb9 k0 k9).mono ?_
  rintro e w' ⟨rfl, i, hi, F', hm, hf⟩
  have hl : (ts.eraseIdx i).length + 1 = ts.length := by rw [List.length_eraseIdx_of_lt hi]; omega
  exact ⟨rfl, F', _, _, G.net hm (by have := G.i.len; omega) (Nat.le_refl _) (fun t ht => G.i.good t (List.mem_of_mem_eraseIdx ht)), hf, hl⟩
theorem Grp.deliver_no (G : Grp w F S gp wp tp g c n b D []) (k : Int) : Calls Tryz.prog 14 #[.pointer (some ⟨wp, 0, none⟩), .int .i64 k] w fun e w' => e = .returned (.bool false) ∧ w = w' := deliver_none G.m G.i k
theorem Grp.lacks (G : Grp w F S gp wp tp g c n b D ts) : Calls Tryz.prog 22 #[.pointer (some ⟨wp, 0, none⟩)] w fun e w' => e = .returned (.bool false) ∧ Ext w w' := wlacks_calls G.m G.i
theorem Grp.told (G : Grp w F S gp wp tp g c n b D ts) : Calls Tryz.prog 21 #[.pointer (some ⟨gp, 0, none⟩)] w fun e w' => e = .returned (.slice none 0 0) ∧ Grps F w gp wp tp g c n b (fun D' ts' => D' = D ∧ ts' = ts) w' := told_calls G

/-- The state of Settle ahead of a message more. -/
def SetAt (w0 : World) (F0 : Key → List Nat) (gp wp tp g c n b : Nat) (D : Nat → Nd) (m : Nat) (a : Act) (w : World) : Prop :=
  ∃ i : Nat, a = { tmps := (.pointer (some ⟨gp, 0, none⟩) :: .int .i64 20000 :: undef :: undef :: .slice none 0 0 :: .int .i64 0 :: .int .i64 ((i : Int) + 1) :: .int .i64 20000 :: .int .i64 20000 :: .int .i64 20000 :: .int .i64 i :: .int .i64 20000 :: .bool true :: .bool true :: .pointer (some ⟨gp, 0, none⟩) :: .pointer (some ⟨gp, 0, none⟩) :: .pointer (some ⟨gp, 0, none⟩) :: .pointer (some ⟨wp, 0, none⟩) :: .bool true :: .bool true :: .int .i64 i :: .int .i64 ((i : Int) + 1) :: undef :: undef :: undef :: undef :: undef :: undef :: undef :: undef :: undef :: undef :: undef :: undef :: undef :: undef :: undef :: undef :: undef :: undef :: undef :: undef :: []).toArray, defers := [] } ∧ Hid (∃ F S ts, Grp w F S gp wp tp g c n b D ts ∧ Fr F0 F w0 w ∧ i + 1 + ts.length = m)

set_option maxRecDepth 100000 in
set_option maxHeartbeats 1000000 in
theorem settle_calls (G : Grp w F S gp wp tp g c n b D ts) (hb9 : b ≤ 100) : Calls Tryz.prog 7 #[.pointer (some ⟨gp, 0, none⟩), .int .i64 20000] w fun e w' => (∃ k : Nat, k ≤ 20000 ∧ e = .returned (.tuple #[.slice none 0 0, .int .i64 k])) ∧ Grps F w gp wp tp g c n b (fun D' ts' => D' = D ∧ ts' = []) w' := by
  have hmax : ∀ w, (Builtin.max_ #[3, 3] 3 #[.int .i64 20000, .int .i64 0]).run Tryz.prog w = .ok (.int .i64 20000) w := by
    intro w
    simp [Builtin.max_, Builtin.max2]
  have hmin : ∀ w, (Builtin.min_ #[3, 3] 3 #[.int .i64 20000, .int .i64 20000]).run Tryz.prog w = .ok (.int .i64 20000) w := by
    intro w
    simp [Builtin.min_, Builtin.min2]
  have hlen : ts.length ≤ 500 := by have := G.i.len; omega
  go_enter Tryz.func7, Tryz.ntmps7
  go_wp2_with fail
  refine wp_scope_jumps 0 (SetAt w F gp wp tp g c n b D ts.length) (fun a _ => 1000 - (intOf ((a.tmps[6]?).getD undef)).toNat) rfl ?_ ?_
  · have c0 := G.cell0
    obtain ⟨m, hm⟩ : ∃ m, ts.length = m := ⟨_, rfl⟩
    rw [hm]
    by_cases h0 : 0 < ts.length
    · have HD := Lib.hid (G.deliver h0 hb9 0 (by omega) (by omega))
      have HM := Lib.hid hm
      clear hm G
      go_wp2_with fail
      refine wp_label ?_
      go_wp2_with fail
      refine HD.out.mono ?_
      rintro e w2 ⟨rfl, F2, S2, ts2, G2, f2, hl2⟩
      have H2 := Lib.hid (And.intro G2 (And.intro f2 hl2))
      clear G2 f2 hl2
      go_wp2_with fail
      refine wp_goto ?_
      simp only [Exit.inBlock, Exit.then, Exit.jump]
      exact ⟨trivial, 0, rfl, Lib.hid ⟨F2, S2, ts2, H2.out.1, H2.out.2.1, by have := H2.out.2.2; have := HM.out; omega⟩⟩
    · obtain rfl : ts = [] := List.eq_nil_of_length_eq_zero (by omega)
      have hdl := G.deliver_no 0
      have HLK := Lib.hid G.lacks
      have HG := Lib.hid G
      clear G hm
      go_wp2_with fail
      refine wp_label ?_
      go_wp2_with fail
      refine hdl.mono ?_
      rintro e w2 ⟨rfl, rfl⟩
      go_wp2_with fail
      refine HLK.out.mono ?_
      rintro e w2 ⟨rfl, he2⟩
      have HT := Lib.hid (HG.out.ext he2).told
      have HE2 := Lib.hid he2
      clear he2
      go_wp2_with fail
      refine HT.out.mono ?_
      rintro e w3 ⟨rfl, h3⟩
      have H3 := Lib.hid h3
      clear h3
      go_wp2_with fail
      simp +zetaDelta only [Exit.jump]
      go_ret2
      obtain ⟨F3, S3, D3, ts3, G3, f3, rfl, rfl⟩ := H3.out
      exact ⟨⟨0, by omega, rfl⟩, F3, S3, D3, [], G3, (Fr.ext F HE2.out).trans f3, rfl, rfl⟩
  · rintro a' wj ⟨i, rfl, HH⟩
    obtain ⟨F2, S2, ts2, G2, f2, hl2⟩ := HH.out
    have c0 := G2.cell0
    have i20 : (i : Int) + 1 < 20000 := by omega
    refine wp_seq (wp_skip ?_)
    by_cases h0 : 0 < ts2.length
    · have HD := Lib.hid (G2.deliver h0 hb9 0 (by omega) (by omega))
      have H2 := Lib.hid (And.intro f2 hl2)
      clear f2 hl2 G2 G
      go_wp2_with fail
      refine HD.out.mono ?_
      rintro e w3 ⟨rfl, F3, S3, ts3, G3, f3, hl3⟩
      have H3 := Lib.hid (And.intro G3 (And.intro f3 hl3))
      clear G3 f3 hl3
      go_wp2_with fail
      refine wp_goto ?_
      simp only [Exit.inBlock, Exit.then, Exit.jump]
      simp +zetaDelta only [Exit.jump]
      refine ⟨trivial, ⟨i + 1, by simp, Lib.hid ⟨F3, S3, ts3, H3.out.1, H2.out.1.trans H3.out.2.1, by have := H2.out.2; have := H3.out.2.2; omega⟩⟩, ?_⟩
      have := H2.out.2
      simp [intOf]
      omega
    · obtain rfl : ts2 = [] := List.eq_nil_of_length_eq_zero (by omega)
      have hdl := G2.deliver_no 0
      have HLK := Lib.hid G2.lacks
      have HG := Lib.hid (And.intro G2 (And.intro f2 hl2))
      clear G G2 f2 hl2
      go_wp2_with fail
      refine hdl.mono ?_
      rintro e w2 ⟨rfl, rfl⟩
      go_wp2_with fail
      refine HLK.out.mono ?_
      rintro e w2 ⟨rfl, he2⟩
      have HT := Lib.hid (HG.out.1.ext he2).told
      have HE2 := Lib.hid he2
      clear he2
      go_wp2_with fail
      refine HT.out.mono ?_
      rintro e w3 ⟨rfl, h3⟩
      have H3 := Lib.hid h3
      clear h3
      go_wp2_with fail
      simp +zetaDelta only [Exit.jump]
      go_ret2
      obtain ⟨F3, S3, D3, ts3, G3, f3, rfl, rfl⟩ := H3.out
      exact ⟨⟨i + 1, by omega, rfl⟩, F3, S3, D3, [], G3, HG.out.2.1.trans ((Fr.ext F2 HE2.out).trans f3), rfl, rfl⟩
end

end Go.Proofs.YtiglblfjmmdeeaaGreat
