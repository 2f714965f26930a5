/- strongroomlaw23.alike: a log and the document's, told apart or not. -/
import Derived.Test.YtfclighheoobaaaRef23d
import Derived.Deep.DrawnRows
namespace Go.Proofs.Ytfclighheoobaaa
open Go.RowKit

attribute [local go_sem] ba_append ba_extract ba_size Oper.pureUpon Oper.relUpon

theorem ba_ne {a b : List UInt8} (h : a ≠ b) : ¬ (⟨a.toArray⟩ : ByteArray) = ⟨b.toArray⟩ := fun e => h (by
  have := congrArg (fun x : ByteArray => x.data.toList) e
  simpa using this)

set_option maxRecDepth 100000 in
set_option maxHeartbeats 4000000 in
theorem alike_core (w : World) (p q a a' nx nx' : Nat) (sn sn' nt nt' : List UInt8) (G G' : Int → Option (List UInt8)) (ha : a' ≤ 1073741824) (hnx : nx' ≤ 1080000000) (han : a' ≤ nx')
    (c0 : ∀ w', Ext w w' → w'.cell? ⟨q, 0, none⟩ = some (.int .i64 (a' : Int))) (c2 : ∀ w', Ext w w' → w'.cell? ⟨q, 2, none⟩ = some (.string ⟨sn'.toArray⟩)) (c3 : ∀ w', Ext w w' → w'.cell? ⟨q, 3, none⟩ = some (.string ⟨nt'.toArray⟩))
    (hsnap : ∀ w', Ext w w' → Calls Try.prog 44 #[.pointer (some ⟨p, 0, none⟩)] w' fun e w'' => e = .returned (.tuple #[.int .i64 (a : Int), .string ⟨sn.toArray⟩]) ∧ Ext w' w'')
    (hnote : ∀ w', Ext w w' → Calls Try.prog 36 #[.pointer (some ⟨p, 0, none⟩)] w' fun e w'' => e = .returned (.string ⟨nt.toArray⟩) ∧ Ext w' w'')
    (hfirst : ∀ w', Ext w w' → Calls Try.prog 43 #[.pointer (some ⟨p, 0, none⟩)] w' fun e w'' => e = .returned (.int .i64 (a : Int)) ∧ Ext w' w'')
    (hnext : ∀ w', Ext w w' → Calls Try.prog 40 #[.pointer (some ⟨p, 0, none⟩)] w' fun e w'' => e = .returned (.int .i64 (nx : Int)) ∧ Ext w' w'')
    (rnext : ∀ w', Ext w w' → Calls Try.prog 57 #[.pointer (some ⟨q, 0, none⟩)] w' fun e w'' => e = .returned (.int .i64 (nx' : Int)) ∧ Ext w' w'')
    (hget : ∀ n w', Ext w w' → Calls Try.prog 39 #[.pointer (some ⟨p, 0, none⟩), .int .i64 n] w' fun e w'' => e = .returned (.tuple #[.string ⟨((G n).getD []).toArray⟩, .bool (G n).isSome]) ∧ Ext w' w'')
    (rget : ∀ n w', Ext w w' → Calls Try.prog 58 #[.pointer (some ⟨q, 0, none⟩), .int .i64 n] w' fun e w'' => e = .returned (.tuple #[.string ⟨((G' n).getD []).toArray⟩, .bool (G' n).isSome]) ∧ Ext w' w'') :
    Calls Try.prog 50 #[.pointer (some ⟨p, 0, none⟩), .pointer (some ⟨q, 0, none⟩)] w fun e w' =>
      ∃ b : Bool, e = .returned (.bool b) ∧ (b = true ↔ (a = a' ∧ sn = sn' ∧ nt = nt' ∧ nx = nx' ∧ ∀ i : Int, (a' : Int) - 1 ≤ i → i ≤ nx' → G i = G' i)) ∧ Ext w w' := by
  have HN := Lib.hid hnote
  have HF := Lib.hid hfirst
  have HX := Lib.hid hnext
  have RX := Lib.hid rnext
  have HG := Lib.hid hget
  have RG := Lib.hid rget
  have K0 := Lib.hid c0
  have K2 := Lib.hid c2
  have K3 := Lib.hid c3
  have hs := hsnap w (Ext.refl _)
  clear hnote hfirst hnext rnext hget rget hsnap c0 c2 c3
  go_enter Try.func50, Try.ntmps50
  go_wp2_with fail
  refine hs.mono ?_
  rintro e w1 ⟨rfl, he1⟩
  clear hs
  have d0 := K0.out w1 he1
  go_upto_region 3 with fail
  go_cut [57] (fun v wx => Ext w wx ∧ ∃ b : Bool, v = .bool b ∧ (b = false ↔ (a = a' ∧ sn = sn' ∧ nt = nt' ∧ nx = nx')))
  case first =>
    clear d0
    have c0 : ∀ w', Ext w1 w' → w'.cell? ⟨q, 0, none⟩ = some (.int .i64 (a' : Int)) := fun w' h => K0.out w' (he1.trans h)
    have c2 : ∀ w', Ext w1 w' → w'.cell? ⟨q, 2, none⟩ = some (.string ⟨sn'.toArray⟩) := fun w' h => K2.out w' (he1.trans h)
    have c3 : ∀ w', Ext w1 w' → w'.cell? ⟨q, 3, none⟩ = some (.string ⟨nt'.toArray⟩) := fun w' h => K3.out w' (he1.trans h)
    by_cases h1 : a = a'
    · subst h1
      by_cases h2 : sn = sn'
      · subst h2
        by_cases h3 : nt = nt'
        · subst h3
          by_cases h4 : nx = nx'
          · subst h4
            refine wp_region_rely [none, none, none, none, none, none, none, none, none, none, none, none, none, none, none, none, none, none, none, none, none, none, none, none, none, none, none, none, none, none, none, none, none, none, none, none] (by kernel_rfl) (by kernel_rfl) ?_
            simp only [Wit]
            iterate 36 apply Exists.intro
            repeat (first | (refine rely_skip rfl ?_; simp only [Act.put, List.setIfInBounds_toArray, List.set_cons_zero, List.set_cons_succ]) | (apply rely_pure; (· rfl); (· intro w hw hd; go_simp; done); simp only [Act.put, List.setIfInBounds_toArray, List.set_cons_zero, List.set_cons_succ]) | (apply rely_pure; (· rfl); (· intro w hw hd; go_simp; exact rfl); simp only [Act.put, List.setIfInBounds_toArray, List.set_cons_zero, List.set_cons_succ]))
            apply rely_pure
            · rfl
            · intro w hw hd
              go_simp
              exact HN.out w (he1.trans hw)
            simp only [Act.put, List.setIfInBounds_toArray, List.set_cons_zero, List.set_cons_succ]
            repeat (first | (refine rely_skip rfl ?_; simp only [Act.put, List.setIfInBounds_toArray, List.set_cons_zero, List.set_cons_succ]) | (apply rely_pure; (· rfl); (· intro w hw hd; go_simp; done); simp only [Act.put, List.setIfInBounds_toArray, List.set_cons_zero, List.set_cons_succ]) | (apply rely_pure; (· rfl); (· intro w hw hd; go_simp; exact rfl); simp only [Act.put, List.setIfInBounds_toArray, List.set_cons_zero, List.set_cons_succ]))
            apply rely_pure
            · rfl
            · intro w hw hd
              go_simp
              exact HF.out w (he1.trans hw)
            simp only [Act.put, List.setIfInBounds_toArray, List.set_cons_zero, List.set_cons_succ]
            repeat (first | (refine rely_skip rfl ?_; simp only [Act.put, List.setIfInBounds_toArray, List.set_cons_zero, List.set_cons_succ]) | (apply rely_pure; (· rfl); (· intro w hw hd; go_simp; done); simp only [Act.put, List.setIfInBounds_toArray, List.set_cons_zero, List.set_cons_succ]) | (apply rely_pure; (· rfl); (· intro w hw hd; go_simp; exact rfl); simp only [Act.put, List.setIfInBounds_toArray, List.set_cons_zero, List.set_cons_succ]))
            apply rely_pure
            · rfl
            · intro w hw hd
              go_simp
              exact HX.out w (he1.trans hw)
            simp only [Act.put, List.setIfInBounds_toArray, List.set_cons_zero, List.set_cons_succ]
            repeat (first | (refine rely_skip rfl ?_; simp only [Act.put, List.setIfInBounds_toArray, List.set_cons_zero, List.set_cons_succ]) | (apply rely_pure; (· rfl); (· intro w hw hd; go_simp; done); simp only [Act.put, List.setIfInBounds_toArray, List.set_cons_zero, List.set_cons_succ]) | (apply rely_pure; (· rfl); (· intro w hw hd; go_simp; exact rfl); simp only [Act.put, List.setIfInBounds_toArray, List.set_cons_zero, List.set_cons_succ]))
            apply rely_pure
            · rfl
            · intro w hw hd
              go_simp
              exact RX.out w (he1.trans hw)
            simp only [Act.put, List.setIfInBounds_toArray, List.set_cons_zero, List.set_cons_succ]
            repeat (first | (refine rely_skip rfl ?_; simp only [Act.put, List.setIfInBounds_toArray, List.set_cons_zero, List.set_cons_succ]) | (apply rely_pure; (· rfl); (· intro w hw hd; go_simp; done); simp only [Act.put, List.setIfInBounds_toArray, List.set_cons_zero, List.set_cons_succ]) | (apply rely_pure; (· rfl); (· intro w hw hd; go_simp; exact rfl); simp only [Act.put, List.setIfInBounds_toArray, List.set_cons_zero, List.set_cons_succ]))
            refine rely_nil ?_
            intro w9 hw9
            have he9 := he1.trans hw9.1
            clear hw9 c0 c2 c3
            go_wp2_with fail
            go_meet
            exact ⟨he9, _, rfl, by simp⟩
          · have i4 : ((nx : Int) != (nx' : Int)) = true := by simp; omega
            refine wp_region_rely [none, none, none, none, none, none, none, none, none, none, none, none, none, none, none, none, none, none, none, none, none, none, none, none, none, none, none, none, none, none, none, none, none, none, none, none] (by kernel_rfl) (by kernel_rfl) ?_
            simp only [Wit]
            iterate 36 apply Exists.intro
            repeat (first | (refine rely_skip rfl ?_; simp only [Act.put, List.setIfInBounds_toArray, List.set_cons_zero, List.set_cons_succ]) | (apply rely_pure; (· rfl); (· intro w hw hd; go_simp; done); simp only [Act.put, List.setIfInBounds_toArray, List.set_cons_zero, List.set_cons_succ]) | (apply rely_pure; (· rfl); (· intro w hw hd; go_simp; exact rfl); simp only [Act.put, List.setIfInBounds_toArray, List.set_cons_zero, List.set_cons_succ]))
            apply rely_pure
            · rfl
            · intro w hw hd
              go_simp
              exact HN.out w (he1.trans hw)
            simp only [Act.put, List.setIfInBounds_toArray, List.set_cons_zero, List.set_cons_succ]
            repeat (first | (refine rely_skip rfl ?_; simp only [Act.put, List.setIfInBounds_toArray, List.set_cons_zero, List.set_cons_succ]) | (apply rely_pure; (· rfl); (· intro w hw hd; go_simp; done); simp only [Act.put, List.setIfInBounds_toArray, List.set_cons_zero, List.set_cons_succ]) | (apply rely_pure; (· rfl); (· intro w hw hd; go_simp; exact rfl); simp only [Act.put, List.setIfInBounds_toArray, List.set_cons_zero, List.set_cons_succ]))
            apply rely_pure
            · rfl
            · intro w hw hd
              go_simp
              exact HF.out w (he1.trans hw)
            simp only [Act.put, List.setIfInBounds_toArray, List.set_cons_zero, List.set_cons_succ]
            repeat (first | (refine rely_skip rfl ?_; simp only [Act.put, List.setIfInBounds_toArray, List.set_cons_zero, List.set_cons_succ]) | (apply rely_pure; (· rfl); (· intro w hw hd; go_simp; done); simp only [Act.put, List.setIfInBounds_toArray, List.set_cons_zero, List.set_cons_succ]) | (apply rely_pure; (· rfl); (· intro w hw hd; go_simp; exact rfl); simp only [Act.put, List.setIfInBounds_toArray, List.set_cons_zero, List.set_cons_succ]))
            apply rely_pure
            · rfl
            · intro w hw hd
              go_simp
              exact HX.out w (he1.trans hw)
            simp only [Act.put, List.setIfInBounds_toArray, List.set_cons_zero, List.set_cons_succ]
            repeat (first | (refine rely_skip rfl ?_; simp only [Act.put, List.setIfInBounds_toArray, List.set_cons_zero, List.set_cons_succ]) | (apply rely_pure; (· rfl); (· intro w hw hd; go_simp; done); simp only [Act.put, List.setIfInBounds_toArray, List.set_cons_zero, List.set_cons_succ]) | (apply rely_pure; (· rfl); (· intro w hw hd; go_simp; exact rfl); simp only [Act.put, List.setIfInBounds_toArray, List.set_cons_zero, List.set_cons_succ]))
            apply rely_pure
            · rfl
            · intro w hw hd
              go_simp
              exact RX.out w (he1.trans hw)
            simp only [Act.put, List.setIfInBounds_toArray, List.set_cons_zero, List.set_cons_succ]
            repeat (first | (refine rely_skip rfl ?_; simp only [Act.put, List.setIfInBounds_toArray, List.set_cons_zero, List.set_cons_succ]) | (apply rely_pure; (· rfl); (· intro w hw hd; go_simp; done); simp only [Act.put, List.setIfInBounds_toArray, List.set_cons_zero, List.set_cons_succ]) | (apply rely_pure; (· rfl); (· intro w hw hd; go_simp; exact rfl); simp only [Act.put, List.setIfInBounds_toArray, List.set_cons_zero, List.set_cons_succ]))
            refine rely_nil ?_
            intro w9 hw9
            have he9 := he1.trans hw9.1
            clear hw9 c0 c2 c3
            go_wp2_with fail
            go_meet
            exact ⟨he9, _, rfl, by simp [h4]⟩
        · have i3 : (nt == nt') = false := beq_eq_false_iff_ne.2 h3
          refine wp_region_rely [none, none, none, none, none, none, none, none, none, none, none, none, none, none, none, none, none, none, none, none, none, none, none, none, none, none, none, none, none, none, none, none, none, none, none, none] (by kernel_rfl) (by kernel_rfl) ?_
          simp only [Wit]
          iterate 36 apply Exists.intro
          repeat (first | (refine rely_skip rfl ?_; simp only [Act.put, List.setIfInBounds_toArray, List.set_cons_zero, List.set_cons_succ]) | (apply rely_pure; (· rfl); (· intro w hw hd; go_simp; done); simp only [Act.put, List.setIfInBounds_toArray, List.set_cons_zero, List.set_cons_succ]) | (apply rely_pure; (· rfl); (· intro w hw hd; go_simp; exact rfl); simp only [Act.put, List.setIfInBounds_toArray, List.set_cons_zero, List.set_cons_succ]))
          apply rely_pure
          · rfl
          · intro w hw hd
            go_simp
            exact HN.out w (he1.trans hw)
          simp only [Act.put, List.setIfInBounds_toArray, List.set_cons_zero, List.set_cons_succ]
          repeat (first | (refine rely_skip rfl ?_; simp only [Act.put, List.setIfInBounds_toArray, List.set_cons_zero, List.set_cons_succ]) | (apply rely_pure; (· rfl); (· intro w hw hd; go_simp; done); simp only [Act.put, List.setIfInBounds_toArray, List.set_cons_zero, List.set_cons_succ]) | (apply rely_pure; (· rfl); (· intro w hw hd; go_simp; exact rfl); simp only [Act.put, List.setIfInBounds_toArray, List.set_cons_zero, List.set_cons_succ]))
          refine rely_nil ?_
          intro w9 hw9
          have he9 := he1.trans hw9.1
          clear hw9 c0 c2 c3
          go_wp2_with fail
          go_meet
          exact ⟨he9, _, rfl, by simp [h3]⟩
      · have i2 : (sn == sn') = false := beq_eq_false_iff_ne.2 h2
        refine wp_region_rely [none, none, none, none, none, none, none, none, none, none, none, none, none, none, none, none, none, none, none, none, none, none, none, none, none, none, none, none, none, none, none, none, none, none, none, none] (by kernel_rfl) (by kernel_rfl) ?_
        simp only [Wit]
        iterate 36 apply Exists.intro
        repeat (first | (refine rely_skip rfl ?_; simp only [Act.put, List.setIfInBounds_toArray, List.set_cons_zero, List.set_cons_succ]) | (apply rely_pure; (· rfl); (· intro w hw hd; go_simp; done); simp only [Act.put, List.setIfInBounds_toArray, List.set_cons_zero, List.set_cons_succ]) | (apply rely_pure; (· rfl); (· intro w hw hd; go_simp; exact rfl); simp only [Act.put, List.setIfInBounds_toArray, List.set_cons_zero, List.set_cons_succ]))
        refine rely_nil ?_
        intro w9 hw9
        have he9 := he1.trans hw9.1
        clear hw9 c0 c2 c3
        go_wp2_with fail
        go_meet
        exact ⟨he9, _, rfl, by simp [h2]⟩
    · have i1 : ((a : Int) != (a' : Int)) = true := by simp; omega
      refine wp_region_rely [none, none, none, none, none, none, none, none, none, none, none, none, none, none, none, none, none, none, none, none, none, none, none, none, none, none, none, none, none, none, none, none, none, none, none, none] (by kernel_rfl) (by kernel_rfl) ?_
      simp only [Wit]
      iterate 36 apply Exists.intro
      repeat (first | (refine rely_skip rfl ?_; simp only [Act.put, List.setIfInBounds_toArray, List.set_cons_zero, List.set_cons_succ]) | (apply rely_pure; (· rfl); (· intro w hw hd; go_simp; done); simp only [Act.put, List.setIfInBounds_toArray, List.set_cons_zero, List.set_cons_succ]) | (apply rely_pure; (· rfl); (· intro w hw hd; go_simp; exact rfl); simp only [Act.put, List.setIfInBounds_toArray, List.set_cons_zero, List.set_cons_succ]))
      refine rely_nil ?_
      intro w9 hw9
      have he9 := he1.trans hw9.1
      clear hw9 c0 c2 c3
      go_wp2_with fail
      go_meet
      exact ⟨he9, _, rfl, by simp [h1]⟩
  case rest =>
  obtain ⟨he2, b, rfl, hb⟩ := hcut
  clear HN HF HX d0 K2 K3 he1
  cases b with
  | true =>
    have hb' : ¬ (a = a' ∧ sn = sn' ∧ nt = nt' ∧ nx = nx') := fun h => by have := hb.2 h; cases this
    go_wp2_with fail
    go_ret
    exact ⟨false, rfl, ⟨fun h => (by cases h), fun h => absurd ⟨h.1, h.2.1, h.2.2.1, h.2.2.2.1⟩ hb'⟩, he2⟩
  | false =>
    have HB := Lib.hid (hb.1 rfl)
    have d0 := K0.out wc he2
    clear hb K0
    go_wp2_with fail
    go_loopw [8] (fun v wr => ∃ z : Int, v = .int .i64 z ∧ (a' : Int) - 1 ≤ z ∧ z ≤ (nx' : Int) + 1 ∧ Ext w wr ∧ Hid (∀ i : Int, (a' : Int) - 1 ≤ i → i < z → G i = G' i)) (fun v _ => ((nx' : Int) + 1 - intOf v).toNat)
    case atStart => exact ⟨_, rfl, by omega, by omega, he2, Lib.hid (fun i h1 h2 => by omega)⟩
    case round =>
      obtain ⟨z, rfl, hz1, hz2, hew, HZ⟩ := hrel
      clear he2
      go_wp2_with fail
      refine (RX.out wr hew).mono ?_
      rintro e w3 ⟨rfl, he3⟩
      have he4 := hew.trans he3
      clear hew he3
      by_cases hlt : z ≤ (nx' : Int)
      · go_wp2_with fail
        refine (HG.out z w3 he4).mono ?_
        rintro e w5 ⟨rfl, he5⟩
        have he6 := he4.trans he5
        clear he4 he5
        go_wp2_with fail
        refine (RG.out z w5 he6).mono ?_
        rintro e w7 ⟨rfl, he7⟩
        have he8 := he6.trans he7
        clear he6 he7
        obtain ⟨o, ho⟩ : ∃ o, G z = o := ⟨_, rfl⟩
        obtain ⟨o', ho'⟩ : ∃ o', G' z = o' := ⟨_, rfl⟩
        rw [ho, ho']
        have HO := Lib.hid (And.intro ho ho')
        clear ho ho'
        by_cases hoo : o = o'
        · subst hoo
          go_wp2_with fail
          go_roundw
          case rel => exact ⟨z + 1, by go_num, by omega, by omega, he8, Lib.hid (fun i h1 h2 => by
            by_cases hi : i = z
            · rw [hi, HO.out.1, HO.out.2]
            · exact HZ.out i h1 (by omega))⟩
          case measure => simp [intOf]; omega
        · have hne : ¬ (G z = G' z) := by rw [HO.out.1, HO.out.2]; exact hoo
          have hex : false = true ↔ (a = a' ∧ sn = sn' ∧ nt = nt' ∧ nx = nx' ∧ ∀ i : Int, (a' : Int) - 1 ≤ i → i ≤ nx' → G i = G' i) := ⟨fun h => (by cases h), fun h => absurd (h.2.2.2.2 z hz1 hlt) hne⟩
          have HEX := Lib.hid hex
          clear hex hne
          have hcase : (o.getD [] == o'.getD []) = false ∨ ((o.getD [] == o'.getD []) = true ∧ (o.isSome == o'.isSome) = false) := by
            cases o with
            | none => cases o' with
              | none => exact absurd rfl hoo
              | some y => cases y with
                | nil => right; simp
                | cons _ _ => left; rfl
            | some x => cases o' with
              | none => cases x with
                | nil => right; simp
                | cons _ _ => left; rfl
              | some y => left; simp; exact fun e => hoo (by rw [e])
          generalize o.getD [] = xv at *
          generalize o'.getD [] = yv at *
          generalize o.isSome = xb at *
          generalize o'.isSome = yb at *
          clear hoo HO
          rcases hcase with hc | ⟨hc, hc2⟩
          · go_wp2_with fail
            go_ret
            exact ⟨false, rfl, HEX.out, he8⟩
          · go_wp2_with fail
            go_ret
            exact ⟨false, rfl, HEX.out, he8⟩
      · go_wp2_with fail
        go_ret
        have hB := HB.out
        exact ⟨true, rfl, ⟨fun _ => ⟨hB.1, hB.2.1, hB.2.2.1, hB.2.2.2, fun i h1 h2 => HZ.out i h1 (by omega)⟩, fun _ => rfl⟩, he4⟩

section
variable {W w : World} {Fs : List (List Nat)} {R : List Nat} {p q dp sf m : Nat} {s t : St}
theorem st_same (h1 : s.first = t.first) (h2 : s.snap = t.snap) (h3 : s.note = t.note) (h4 : s.next = t.next) (h5 : ∀ i : Int, (t.first : Int) - 1 ≤ i → i ≤ t.next → s.get i = t.get i) : s = t := by
  have hl : s.recs.length = t.recs.length := by unfold St.next at h4; omega
  have hr : s.recs = t.recs := by
    apply List.ext_getElem? 
    intro j
    by_cases hj : j < t.recs.length
    · have := h5 ((t.first : Int) + (j : Int)) (by omega) (by unfold St.next; omega)
      unfold St.get at this
      have e1 : ((t.first : Int) + (j : Int) - (s.first : Int)).toNat = j := by omega
      have e2 : ((t.first : Int) + (j : Int) - (t.first : Int)).toNat = j := by omega
      rw [if_pos (by unfold St.next; omega), if_pos (by unfold St.next; omega), e1, e2] at this
      exact this
    · rw [List.getElem?_eq_none (by omega), List.getElem?_eq_none (by omega)]
  cases s
  cases t
  simp_all

/-- alike tells whether the two are the same. -/
theorem alike_calls (hj : JS W w Fs p dp sf s m) (hr : IsRf w R q t) (hR : ∀ k ∈ R, k < w.heap.size) :
    Calls Try.prog 50 #[.pointer (some ⟨p, 0, none⟩), .pointer (some ⟨q, 0, none⟩)] w fun e w' => ∃ b : Bool, e = .returned (.bool b) ∧ (b = true ↔ s = t) ∧ Ext w w' := by
  have hok := hr.ok
  have hR' : ∀ w', Ext w w' → ∀ k ∈ R, k < w'.heap.size := fun w' he k hk => Nat.lt_of_lt_of_le (hR k hk) he.size
  refine (alike_core w p q s.first t.first s.next t.next s.snap t.snap s.note t.note s.get t.get hok.1 (by have := hok.1; have := hok.2.1; unfold St.next; omega) (by unfold St.next; omega)
    (fun w' he => by obtain ⟨_, _, _, hh, _⟩ := hr.ext hR he; have := hh.cell 0; simpa using this) (fun w' he => by obtain ⟨_, _, _, hh, _⟩ := hr.ext hR he; have := hh.cell 2; simpa [tx] using this) (fun w' he => by obtain ⟨_, _, _, hh, _⟩ := hr.ext hR he; have := hh.cell 3; simpa [tx] using this)
    (fun w' he => js_snap (hj.ext he)) (fun w' he => (js_note (hj.ext he) rfl).mono (by rintro e w'' ⟨rfl, rfl⟩; exact ⟨rfl, Ext.refl _⟩)) (fun w' he => (js_first (hj.ext he)).mono (by rintro e w'' ⟨rfl, rfl⟩; exact ⟨rfl, Ext.refl _⟩))
    (fun w' he => js_next (hj.ext he)) (fun w' he => rf_next (hr.ext hR he)) (fun n w' he => js_get (hj.ext he) n) (fun n w' he => rf_get (hr.ext hR he) n)).mono ?_
  rintro e w' ⟨b, rfl, hb, he⟩
  refine ⟨b, rfl, hb.trans ⟨fun h => st_same h.1 h.2.1 h.2.2.1 h.2.2.2.1 h.2.2.2.2, fun h => ?_⟩, he⟩
  subst h
  exact ⟨rfl, rfl, rfl, rfl, fun _ _ _ => rfl⟩
end

end Go.Proofs.Ytfclighheoobaaa
