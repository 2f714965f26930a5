/- frames.Scan: the records of bytes. -/
import Derived.Test.YtiglblfjmmdeeaaGreatFrames
import Derived.Deep.DeepCutAuto
namespace Go.Proofs.YtiglblfjmmdeeaaGreat
open Go.RowKit

attribute [local go_sem] Oper.pureUpon Oper.relUpon

/-- Records as bytes, one behind the other. -/
def encs : List (List UInt8) → List UInt8
  | [] => []
  | x :: l => frm x ++ encs l
theorem encs_append : ∀ (a b : List (List UInt8)), encs (a ++ b) = encs a ++ encs b
  | [], b => rfl
  | x :: a, b => by simp [encs, encs_append a b]
theorem encs_ge : ∀ (l : List (List UInt8)), l.length ≤ (encs l).length
  | [] => Nat.le_refl _
  | x :: l => by simp only [encs, List.length_append, frm_len, List.length_cons]; have := encs_ge l; omega
/-- Bytes that no record begins with. -/
def Torn (t : List UInt8) : Prop := t.length < 8 ∨ ∃ m, leNum (t.take 8) = m ∧ m < 9223372036854775808 ∧ t.length - 8 < m
theorem torn_nil : Torn [] := .inl (by simp)

/-- A value that is a row of these bytes by itself. -/
def OwnRec (w : World) (x : List UInt8) (v : Value) : Prop := ∃ A c, v = .slice A x.length c ∧ w.ownsRow 0 5 1 (.slice A x.length c) x.length (bys x)

theorem own_own_ne {w : World} {b b' : Nat} {e e' : TypeId} {size size' n n' : Nat} {v v' : Value} {xs xs' : List Value} (h : w.ownsRow b e size v n xs) (h' : w.ownsRow b' e' size' v' n' xs') (hne : e ≠ e') : v.ownBlock = none ∨ v.ownBlock ≠ v'.ownBlock := by
  rcases h.2 with ⟨hv, _⟩ | ⟨g, cap, cur, hv, _, hh, _⟩
  · exact .inl (by rw [hv]; rfl)
  · rcases h'.2 with ⟨hv', _⟩ | ⟨g', cap', cur', hv', _, hh', _⟩
    · exact .inr (by rw [hv, hv']; simp [Value.ownBlock])
    · refine .inr fun e0 => ?_
      rw [hv, hv'] at e0
      simp only [Value.ownBlock, Option.some.injEq] at e0
      rw [e0, hh'] at hh
      simp only [Option.some.injEq, Obj.cells.injEq] at hh
      exact hne hh.2.1.symm

theorem OwnRec.ext {w w' : World} {x : List UInt8} {v : Value} (h : OwnRec w x v) (he : Ext w w') : OwnRec w' x v := by
  obtain ⟨A, c, rfl, ho⟩ := h
  exact ⟨A, c, rfl, own_mod ho (Mod.of_below he []) (by simp)⟩
theorem OwnRec.grown {w w' : World} {x : List UInt8} {v v' : Value} {b n size : Nat} {e : TypeId} {xs : List Value} (h : OwnRec w x v) (ho : w.ownsRow b e size v' n xs) (hg : w.grownBy w' v'.ownBlock) (hne : 5 ≠ e) : OwnRec w' x v := by
  obtain ⟨A, c, rfl, ho'⟩ := h
  exact ⟨A, c, rfl, ho'.kept hg (own_own_ne ho' ho hne)⟩

/-- Two lists alike, place by place. -/
inductive F2 {α β : Type} (R : α → β → Prop) : List α → List β → Prop
  | nil : F2 R [] []
  | cons {a b l m} : R a b → F2 R l m → F2 R (a :: l) (b :: m)
theorem F2.len {α β : Type} {R : α → β → Prop} : ∀ {l : List α} {m : List β}, F2 R l m → l.length = m.length
  | _, _, .nil => rfl
  | _, _, .cons _ t => by simp [F2.len t]
theorem F2.at_ {α β : Type} {R : α → β → Prop} : ∀ {l : List α} {m : List β}, F2 R l m → ∀ {i : Nat} {a : α}, l[i]? = some a → ∃ b, m[i]? = some b ∧ R a b
  | _, _, .nil, i, a, h => by simp at h
  | _, _, .cons hab t, 0, a, h => by simp at h; subst h; exact ⟨_, rfl, hab⟩
  | _, _, .cons hab t, i + 1, a, h => by simp at h; simpa using F2.at_ t h
theorem f2_mono {α β : Type} {R S : α → β → Prop} (hRS : ∀ a b, R a b → S a b) : ∀ {l : List α} {m : List β}, F2 R l m → F2 S l m
  | _, _, .nil => .nil
  | _, _, .cons h t => .cons (hRS _ _ h) (f2_mono hRS t)
theorem f2_snoc {α β : Type} {R : α → β → Prop} {a : α} {b : β} (hab : R a b) : ∀ {l : List α} {m : List β}, F2 R l m → F2 R (l ++ [a]) (m ++ [b])
  | _, _, .nil => .cons hab .nil
  | _, _, .cons h t => .cons h (f2_snoc hab t)

theorem encs_at (rs : List (List UInt8)) (t : List UInt8) (j : Nat) (x : List UInt8) (hx : rs[j]? = some x) :
    (encs rs ++ t).drop (encs (rs.take j)).length = leBytes 8 (x.length + 4) ++ (sealed x ++ (encs (rs.drop (j + 1)) ++ t)) := by
  have hj := (List.getElem?_eq_some_iff.1 hx).1
  have hxe : rs[j] = x := by rw [List.getElem?_eq_getElem hj] at hx; exact Option.some.inj hx
  have e1 : rs = rs.take j ++ (x :: rs.drop (j + 1)) := by
    conv => lhs; rw [← List.take_append_drop j rs, List.drop_eq_getElem_cons hj, hxe]
  have e2 : encs rs = encs (rs.take j) ++ (frm x ++ encs (rs.drop (j + 1))) := by
    conv => lhs; rw [e1, encs_append]
    rfl
  rw [e2, List.append_assoc, List.drop_left]
  unfold frm
  rw [sealed_len]
  simp

theorem slice_info : (Tryz.prog.info? 34).map (fun i => (i.zero, i.size, i.bytes)) = some (some (.slice none 0 0), 1, 24) := by kernel_rfl

/-- What Scan answers: the records, each a row by itself, and their bytes' length. -/
def ScanRes (w : World) (rs : List (List UInt8)) (e : Ending) (w' : World) : Prop := ∃ A' c' vs, e = .returned (.tuple #[.slice A' rs.length c', .int .i64 ((encs rs).length : Int)]) ∧
      w'.ownsRow w.heap.size 34 1 (.slice A' rs.length c') rs.length vs ∧ F2 (OwnRec w') rs vs ∧ Ext w w'
theorem lit_reads (w : World) (v : Value) (t : TypeId) : Reads (w.alloc (.cells #[v] t)) (w.heap.size + 1) 1 (some ⟨w.heap.size, 0, none⟩) 1 [v] := by
  have hone : (w.alloc (.cells #[v] t)).heap[w.heap.size]? = some (.cells #[v] t (0, 0)) := heap_alloc_new w _
  exact ⟨rfl, fun _ => ⟨_, rfl, by simp, fun i u hu => by
    have : i = 0 := by have := (List.getElem?_eq_some_iff.1 hu).1; simp at this; omega
    subst this
    simp at hu
    subst hu
    exact (Blk.cell (w := w.alloc _) hone 0).trans (by simp)⟩⟩

set_option maxRecDepth 100000 in
set_option maxHeartbeats 4000000 in
theorem scan_calls (w : World) (B : Nat) (A : Option Addr) (n c : Nat) (rs : List (List UInt8)) (t : List UInt8) (hr : Reads w B 1 A n (bys (encs rs ++ t))) (hB : B ≤ w.heap.size) (hn : n ≤ 5000000) (hc : n ≤ c) (hm : c ≤ maxLen)
    (hrs : ∀ x ∈ rs, x.length ≤ 1048572) (ht : Torn t) :
    Calls Tryz.prog 46 #[.slice A n c] w (ScanRes w rs) := by
  obtain ⟨i0, hi0, hz0, hz1, hz2⟩ := info_parts slice_info
  have hlen := hr.len
  have hL : ∀ w', Ext w w' → Reads w' B 1 A n (bys (encs rs ++ t)) := fun w' he => hr.keep (w' := w') (fun p hp => he.cell (Nat.lt_of_lt_of_le hp hB))
  have hrl : rs.length ≤ n := by
    have h1 := encs_ge rs
    rw [hlen, List.length_append]
    omega
  have HL := Lib.hid hL
  have HRS := Lib.hid hrs
  have HLEN := Lib.hid hlen
  clear hr hL hrs hlen
  go_enter Tryz.func46, Tryz.ntmps46
  go_wp2_with fail
  go_loopw [4, 5] (fun o i wr => ∃ (j : Nat) (A' : Option Addr) (c' : Nat) (vs : List Value), j ≤ rs.length ∧ i = .int .i64 ((encs (rs.take j)).length : Int) ∧ o = .slice A' j c' ∧
    Hid (wr.ownsRow w.heap.size 34 1 (.slice A' j c') j vs) ∧ Hid (F2 (OwnRec wr) (rs.take j) vs) ∧ Hid (Ext w wr)) (fun _ i _ => n + 1 - (intOf i).toNat)
  case atStart => exact ⟨0, none, 0, [], by omega, by simp [encs], rfl, Lib.hid (World.ownsRow_nil _ _ _ _), Lib.hid (by simpa using F2.nil), Lib.hid (Ext.refl _)⟩
  case round =>
    obtain ⟨j, A', c', vs, hj, rfl, rfl, ho, hf, he⟩ := hrel
    obtain ⟨q, hq⟩ : ∃ q, (encs (rs.take j)).length = q := ⟨_, rfl⟩
    by_cases hjl : j < rs.length
    · have hx : rs[j]? = some rs[j] := List.getElem?_eq_getElem hjl
      generalize rs[j] = x at hx
      have hd := encs_at rs t j x hx
      have hxl : x.length ≤ 1048572 := HRS.out x (List.mem_of_getElem? hx)
      rw [hq] at hd ⊢
      have hql : q + 8 + (x.length + 4) ≤ n := by
        have h1 := congrArg List.length hd
        rw [List.length_drop, ← HLEN.out] at h1
        simp only [List.length_append, leBytes_len, sealed_len] at h1
        omega
      have t8 : leNum (((encs rs ++ t).drop q).take 8) = x.length + 4 := by
        rw [hd, List.take_append_of_le_length (by rw [leBytes_len]; omega), List.take_of_length_le (by rw [leBytes_len]; omega)]
        exact leNum_leBytes 8 _ (by omega)
      have tm : ((encs rs ++ t).drop (q + 8)).take (x.length + 4) = sealed x := by
        rw [← List.drop_drop, hd, List.drop_append_of_le_length (by rw [leBytes_len]; omega), List.drop_of_length_le (by rw [leBytes_len]; omega), List.nil_append,
          List.take_append_of_le_length (by rw [sealed_len]; omega), List.take_of_length_le (by rw [sealed_len]; omega)]
      have hqn : (encs (rs.take (j + 1))).length = q + (8 + (x.length + 4)) := by
        rw [List.take_add_one, hx, encs_append, List.length_append, hq]
        simp [encs, frm_len]
        omega
      obtain ⟨A2, hs2, hr2, hn2, e2⟩ := slice_mid (A := A) (l := encs rs ++ t) hc (i := q) (k := 8) (by omega)
      rw [if_neg (by omega)] at e2
      obtain ⟨q8, hq8⟩ : ∃ q8, q + 8 = q8 := ⟨_, rfl⟩
      rw [hq8] at tm
      obtain ⟨A3, hs3, hr3, hn3, e3⟩ := slice_mid (A := A) (l := encs rs ++ t) hc (i := q8) (k := x.length + 4) (by omega)
      rw [if_neg (by omega)] at e3
      subst e2 e3
      rw [tm] at hr3
      obtain ⟨m, hm4⟩ : ∃ m, x.length = m := ⟨_, rfl⟩
      obtain ⟨mm, hmm⟩ : ∃ mm, m + 4 = mm := ⟨_, rfl⟩
      rw [hm4] at hs3 hql hxl hqn hr3 t8
      rw [hmm] at hs3 hql hqn hr3 t8
      obtain ⟨h8, hh8⟩ : ∃ h8, ((encs rs ++ t).drop q).take 8 = h8 := ⟨_, rfl⟩
      have h8l : h8.length = 8 := by rw [← hh8, List.length_take, List.length_drop, ← HLEN.out]; omega
      rw [hh8] at hr2 t8
      have hq8i : (q : Int) + 8 = (q8 : Int) := by omega
      have kc : ¬ c = q8 := by omega
      have kc2 : ¬ c = q := by omega
      have k4 : (q : Int) ≤ (q8 : Int) := by omega
      have k5 : (q8 : Int) ≤ (c : Int) := by omega
      have k6 : (q8 : Int) ≤ (q8 : Int) + (mm : Int) := by omega
      have k7 : (q8 : Int) + (mm : Int) ≤ (c : Int) := by omega
      have k8 : q8 - q = 8 := by omega
      have k0 : (8 : Int) ≤ (n : Int) - (q : Int) := by omega
      have k1 : ¬ ((mm : Int) < 0) := by omega
      have k2 : ¬ ((mm : Int) > 1048576) := by omega
      have k3 : ¬ ((mm : Int) > (n : Int) - (q : Int) - 8) := by omega
      have HR2 := Lib.hid hr2
      have HR3 := Lib.hid hr3
      have HQN := Lib.hid hqn
      have HM4 := Lib.hid hm4
      have HMM := Lib.hid hmm
      have HX := Lib.hid hx
      have HT8 := Lib.hid t8
      have H8L := Lib.hid h8l
      have HQ := Lib.hid hq
      have hcap : mm ≤ c - q8 := by omega
      have HQ8 := Lib.hid hq8
      have HQ8I := Lib.hid hq8i
      have HCAP := Lib.hid hcap
      clear hr2 hr3 hqn hm4 hmm hx t8 hs2 hs3 hd tm hh8 hn2 hn3 h8l hq hcap hq8
      go_wp2_with fail
      refine (reader_new wr B _ 8 (c - q) h8 (HR2.out wr B (HL.out wr he.out)) (Nat.le_trans hB he.out.size) (by omega) (fun h => absurd ((HR2.out wr B (HL.out wr he.out)).none_len h) (by omega))).mono ?_
      rintro e w1 ⟨p, F, rfl, h1, he1, hF⟩
      go_wp2_with fail
      refine (reader_long h1 mm (by have := H8L.out; omega) (by rw [List.drop_zero, List.take_of_length_le (by have := H8L.out; omega)]; exact HT8.out) (by omega)).mono ?_
      rintro e w2 ⟨rfl, _, nx⟩
      have he2 : Ext wr w2 := Below.trans he1 (nx.1.below he1.size hF)
      clear he1 hF nx h1
      go_wp2_with fail
      have hoc := open_calls w2 B (A.map (·.add q8)) (c - q8) x (by rw [HM4.out, HMM.out]; exact HR3.out w2 B (HL.out w2 (he.out.trans he2))) (Nat.le_trans hB (he.out.trans he2).size) (by rw [HM4.out]; omega) (by rw [HM4.out, HMM.out]; exact HCAP.out) (by omega)
      rw [HM4.out, HMM.out] at hoc
      refine hoc.mono ?_
      rintro e w3 ⟨A5, c5, rfl, o5, he3⟩
      have hx3 : Ext wr w3 := he2.trans he3
      have ho3 := own_mod ho.out (Mod.of_below hx3 []) (by simp)
      have hf3 := f2_mono (fun a b (h : OwnRec wr a b) => h.ext hx3) hf.out
      have ho4 := ho3.alloc (.cells #[.slice A5 m c5] 34)
      have hrec : OwnRec (w3.alloc (.cells #[.slice A5 m c5] 34)) x (.slice A5 m c5) := ⟨A5, c5, by rw [HM4.out], by rw [HM4.out]; exact own_base (o5.alloc _)⟩
      have hf4 := f2_mono (fun a b (h : OwnRec w3 a b) => h.ext ((Below.refl _ _).alloc (Nat.le_refl _) (.cells #[.slice A5 m c5] 34))) hf3
      have hl1 := lit_reads w3 (.slice A5 m c5) 34
      have hb3 : w.heap.size ≤ w3.heap.size := Nat.le_trans he.out.size hx3.size
      have HO := Lib.hid ho4
      have HF4 := Lib.hid hf4
      have HRC := Lib.hid hrec
      have HL1 := Lib.hid hl1
      have HX3 := Lib.hid hx3
      clear ho3 hf3 ho4 hrec hf4 hl1 hoc o5 he3 he2 hx3
      go_wp2_with (at_builtin; refine wpList_app _ rfl (.tmp 50) (.tmp 52) _ rfl 34 i0 _ 1 24 Tryz.underlying96 hi0 hz0 hz1 hz2 rfl (by omega) (.slice A' j c') j vs w.heap.size rfl HO.out (w3.heap.size + 1) (some ⟨w3.heap.size, 0, none⟩) 1 1 [.slice A5 m c5] rfl HL1.out (by simp [Value.oneCell']) (by omega) (by simp; omega) ?_; intro A6 c6 w6 hown6 hg6 hat6)
      have hx6 : Ext w w6 := ((he.out.trans HX3.out).alloc hb3 _).grown hg6 (by simp; omega) (fun k hk => (HO.out.lt k hk).1)
      refine ⟨⟨j + 1, A6, c6, vs ++ [.slice A5 m c5], by omega, by rw [HQN.out]; congr 1, rfl, Lib.hid hown6, Lib.hid ?_, Lib.hid ?_⟩, by simp [intOf]; omega⟩
      · rw [List.take_add_one, HX.out]
        exact f2_snoc (HRC.out.grown HO.out hg6 (by decide)) (f2_mono (fun a b h => h.grown HO.out hg6 (by decide)) HF4.out)
      · exact hx6
    · obtain rfl : j = rs.length := by omega
      have hdt : (encs rs ++ t).drop q = t := by
        rw [← hq, List.take_length, List.drop_left]
      have hnq : n = q + t.length := by rw [HLEN.out, List.length_append, ← hq, List.take_length]
      rw [hq]
      have HQ := Lib.hid hq
      have HTK := Lib.hid (List.take_length (l := rs))
      clear hq
      by_cases ht8 : t.length < 8
      · have k0 : ¬ ((8 : Int) ≤ (n : Int) - (q : Int)) := by omega
        clear hdt
        go_wp2_with fail
        go_ret2
        refine ⟨A', c', vs, ?_, ho.out, ?_, he.out⟩
        · have e1 := HQ.out
          rw [List.take_length] at e1
          rw [e1]
          rfl
        · have e1 := hf.out
          rwa [List.take_length] at e1
      · obtain ⟨mm, hmm, hm63, hmt⟩ : ∃ m, leNum (t.take 8) = m ∧ m < 9223372036854775808 ∧ t.length - 8 < m := by
          rcases ht with h | h
          · exact absurd h ht8
          · exact h
        obtain ⟨q8, hq8⟩ : ∃ q8, q + 8 = q8 := ⟨_, rfl⟩
        obtain ⟨A2, hs2, hr2, hn2, e2⟩ := slice_mid (A := A) (l := encs rs ++ t) hc (i := q) (k := 8) (by omega)
        rw [if_neg (by omega)] at e2
        subst e2
        rw [hdt] at hr2
        have hq8i : (q : Int) + 8 = (q8 : Int) := by omega
        have kc2 : ¬ c = q := by omega
        have k4 : (q : Int) ≤ (q8 : Int) := by omega
        have k5 : (q8 : Int) ≤ (c : Int) := by omega
        have k8 : q8 - q = 8 := by omega
        have k0 : (8 : Int) ≤ (n : Int) - (q : Int) := by omega
        have k1 : ¬ ((mm : Int) < 0) := by omega
        have k3 : (mm : Int) > (n : Int) - (q : Int) - 8 := by omega
        have h8l : (t.take 8).length = 8 := by rw [List.length_take]; omega
        have HR2 := Lib.hid hr2
        have H8L := Lib.hid h8l
        have HMM := Lib.hid hmm
        have HM63 := Lib.hid hm63
        clear hs2 hr2 hn2 hdt hnq ht8 hmt ht h8l hq8 hmm
        by_cases k2 : (mm : Int) > 1048576
        · go_wp2_with fail
          refine (reader_new wr B _ 8 (c - q) (t.take 8) (HR2.out wr B (HL.out wr he.out)) (Nat.le_trans hB he.out.size) (by omega) (fun h => absurd ((HR2.out wr B (HL.out wr he.out)).none_len h) (by omega))).mono ?_
          rintro e w1 ⟨p, F, rfl, h1, he1, hF⟩
          go_wp2_with fail
          refine (reader_long h1 mm (by have := H8L.out; omega) (by rw [List.drop_zero, List.take_of_length_le (by have := H8L.out; omega)]; exact HMM.out) HM63.out).mono ?_
          rintro e w2 ⟨rfl, _, nx⟩
          have he2 : Ext wr w2 := Below.trans he1 (nx.1.below he1.size hF)
          go_wp2_with fail
          go_ret2
          refine ⟨A', c', vs, ?_, own_mod ho.out (Mod.of_below he2 []) (by simp), f2_mono (fun a b (h : OwnRec wr a b) => h.ext he2) ?_, he.out.trans he2⟩
          · have e1 := HQ.out
            rw [List.take_length] at e1
            rw [e1]
            rfl
          · have e1 := hf.out
            rwa [List.take_length] at e1
        · go_wp2_with fail
          refine (reader_new wr B _ 8 (c - q) (t.take 8) (HR2.out wr B (HL.out wr he.out)) (Nat.le_trans hB he.out.size) (by omega) (fun h => absurd ((HR2.out wr B (HL.out wr he.out)).none_len h) (by omega))).mono ?_
          rintro e w1 ⟨p, F, rfl, h1, he1, hF⟩
          go_wp2_with fail
          refine (reader_long h1 mm (by have := H8L.out; omega) (by rw [List.drop_zero, List.take_of_length_le (by have := H8L.out; omega)]; exact HMM.out) HM63.out).mono ?_
          rintro e w2 ⟨rfl, _, nx⟩
          have he2 : Ext wr w2 := Below.trans he1 (nx.1.below he1.size hF)
          go_wp2_with fail
          go_ret2
          refine ⟨A', c', vs, ?_, own_mod ho.out (Mod.of_below he2 []) (by simp), f2_mono (fun a b (h : OwnRec wr a b) => h.ext he2) ?_, he.out.trans he2⟩
          · have e1 := HQ.out
            rw [List.take_length] at e1
            rw [e1]
            rfl
          · have e1 := hf.out
            rwa [List.take_length] at e1

end Go.Proofs.YtiglblfjmmdeeaaGreat
