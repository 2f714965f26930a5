/- wal.Open of a disk that a log wrote. -/
import Derived.Test.YtfclighheoobaaaReplay
import Derived.WalkMore
import Derived.ScopeJumps
import Derived.Deep.DeepCutAuto
namespace Go.Proofs.Ytfclighheoobaaa
open Go.RowKit

attribute [local go_sem] Oper.pureUpon Oper.relUpon

/-- A row of another kind than a log's is not a log's. -/
theorem own_next {w w' : World} {Fl F' : List Nat} {p dp b n size : Nat} {s : St} {e : TypeId} {v : Value} {xs : List Value} (ho : w.ownsRow b e size v n xs) (hl : IsLog w Fl p dp s) (nx : Next Fl F' w w') (h1 : e ≠ 83) (h2 : e ≠ 9) : w'.ownsRow b e size v n xs := by
  obtain ⟨vl, ⟨hb, hol, _⟩, rfl⟩ := hl
  refine own_mod ho nx.1 fun k hk hm => ?_
  simp only [foot, List.mem_cons, Option.mem_toList] at hm
  rcases hm with rfl | hm
  · exact own_blk_ne ho hb h1 hk
  · rcases own_own_ne ho hol h2 with h3 | h3
    · rw [hk] at h3; cases h3
    · exact h3 (hk.trans hm.symm)

/-- Recall of a record that fits. -/
theorem recall_any {w : World} {F : List Nat} {p dp : Nat} {s : St} (h : IsLog w F p dp s) (e : Ent) (he : e.fits s) (hl : s.recs.length ≤ 900000) {v : Value} (hv : OwnRec w e.pay v) :
    Calls Try.prog 55 #[.pointer (some ⟨p, 0, none⟩), v] w fun r w' => r = .returned (.bool true) ∧ ∃ F', IsLog w' F' p dp (e.act s) ∧ Next F F' w w' := by
  obtain ⟨hx, hk | hk | hk⟩ := he
  · have e1 : e.act s = s.putAt e.n e.s := by unfold Ent.act; rw [if_pos hk.1]
    rw [e1]
    exact recall_put h e.n e.s hk.2.1 hk.2.2 hx hl (by unfold Ent.pay at hv; rw [hk.1] at hv; exact hv)
  · have e1 : e.act s = { s with note := e.s } := by unfold Ent.act; rw [if_neg (by omega), if_pos hk.1]
    rw [e1]
    exact recall_meta h e.s hx (by unfold Ent.pay at hv; rw [hk.1, hk.2] at hv; exact hv)
  · have e1 : e.act s = ⟨e.n, [], e.s, s.note⟩ := by unfold Ent.act; rw [if_neg (by omega), if_neg (by omega)]
    rw [e1]
    exact recall_base h e.n e.s hk.2.1 hk.2.2 hx (by unfold Ent.pay at hv; rw [hk.1] at hv; exact hv)

theorem Ent.act_recs (e : Ent) (s : St) : (e.act s).recs.length ≤ s.recs.length + 1 := by
  unfold Ent.act
  split
  · simp only [St.putAt, List.length_append, List.length_take, List.length_cons, List.length_nil]; omega
  · split
    · exact Nat.le_succ _
    · exact Nat.zero_le _

/-- Along the opening: the disk, the new log, the bytes and the records that were read. -/
structure Opening (W w : World) (Fs : List (List Nat)) (dp p : Nat) (l : List UInt8) (sf : Nat) (s : St) (Ab : Option Addr) (cb : Nat) (Al : Option Addr) (cl : Nat) (es : List Ent) : Prop where
  on : LogOn W w Fs p dp l sf s
  b : w.ownsRow 0 5 1 (.slice Ab l.length cb) l.length (bys l)
  rows : ∃ vs, w.ownsRow 0 26 1 (.slice Al es.length cl) es.length vs ∧ F2 (OwnRec w) (es.map Ent.pay) vs

theorem Opening.at_ {W w : World} {Fs : List (List Nat)} {dp p sf cb cl : Nat} {l : List UInt8} {s : St} {Ab Al : Option Addr} {es : List Ent} (h : Opening W w Fs dp p l sf s Ab cb Al cl es) {k : Nat} {e : Ent} (he : es[k]? = some e) (hf : e.fits s) (hl : s.recs.length ≤ 900000) :
    ∃ ad v, Al = some ad ∧ w.cell? (ad.add k) = some v ∧ Calls Try.prog 55 #[.pointer (some ⟨p, 0, none⟩), v] w fun r w' => r = .returned (.bool true) ∧ Opening W w' Fs dp p l sf (e.act s) Ab cb Al cl es ∧ ∀ G ∈ Fs, Keep G w w' := by
  obtain ⟨⟨Fd, Fl, hd, hlg, hs⟩, hb, vs, hrow, hf2⟩ := h
  have hk : k < es.length := (List.getElem?_eq_some_iff.1 he).1
  obtain ⟨v, hv, hrec⟩ := hf2.at_ (i := k) (a := e.pay) (by rw [List.getElem?_map, he]; rfl)
  obtain ⟨ad, u, h1, _, h3, h4⟩ := (reads_own hrow).at_ hk
  rw [hv] at h3
  injection h3 with h3
  subst h3
  refine ⟨ad, v, h1, h4, (recall_any hlg e hf hl hrec).mono ?_⟩
  rintro r w' ⟨rfl, F', hlg', nx⟩
  obtain ⟨s5, ks⟩ := hs.swap.next nx
  refine ⟨rfl, ⟨⟨Fd, F', hd.keep (ks Fd (by simp)), hlg', s5.swap⟩, own_next hb hlg nx (by decide) (by decide), vs, own_next hrow hlg nx (by decide) (by decide), f2_mono (fun a c (hac : OwnRec w a c) => ?_) hf2⟩, fun G hG => ks G (by simp [hG])⟩
  obtain ⟨A, c, rfl, ho⟩ := hac
  exact ⟨A, c, rfl, own_next ho hlg nx (by decide) (by decide)⟩

theorem skip_seq {P : Program} {c : Code} {Q : Exit → Act → World → Prop} {a : Act} {w : World} (h : c.wp P Q a w) : (Code.skip.seq c).wp P Q a w := wp_seq (wp_skip h)
/-- A scope with jumps back to one label: what holds behind the label is proved once. -/
theorem wp_scope_once {P : Program} {c body : Code} {Q : Exit → Act → World → Prop} {a : Act} {w : World} (l : Nat) (J : Act → World → Prop) (μ : Act → World → Nat) (hf : findLabel c l = some (.seq .skip body))
    (first : (∀ a w, J a w → body.wp P (Exit.jump l (fun a' w' => J a' w' ∧ μ a' w' < μ a w) Q) a w) → c.wp P (Exit.jump l J Q) a w)
    (pass : ∀ a w, J a w → body.wp P (Exit.jump l (fun a' w' => J a' w' ∧ μ a' w' < μ a w) Q) a w) : (Code.scope c).wp P Q a w :=
  wp_scope_jumps l J μ hf (first pass) (fun a w h => skip_seq (pass a w h))

/-- What holds at each jump back of Open. -/
def OpenAt (W w : World) (Fs : List (List Nat)) (dp : Nat) (l : List UInt8) (sf : Nat) (es : List Ent) (q : Nat) (s : St) (a' : Act) (w' : World) : Prop :=
  ∃ (k p : Nat) (Ab : Option Addr) (cb : Nat) (Al : Option Addr) (cl : Nat) (s1 : St) (u1 u9 u10 u11 u12 u13 u14 u15 u16 u17 u18 u19 u20 u21 u22 u23 u24 u25 u26 u27 u28 u29 u30 u31 u32 u33 u34 u35 u36 u37 u38 u39 u40 u41 u42 u43 u44 u45 u46 u47 u48 u49 u50 u51 u52 u53 u54 u55 u56 u57 u58 u59 u60 u61 u62 u63 : Value),
    a' = { tmps := #[.pointer (some ⟨dp, 0, none⟩), u1, .pointer none, .int .i64 0, .slice Ab l.length cb, .slice Al es.length cl, .int .i64 q, .pointer (some ⟨p, 0, none⟩), .int .i64 k, u9, u10, u11, u12, u13, u14, u15, u16, u17, u18, u19, u20, u21, u22, u23, u24, u25, u26, u27, u28, u29, u30, u31, u32, u33, u34, u35, u36, u37, u38, u39, u40, u41, u42, u43, u44, u45, u46, u47, u48, u49, u50, u51, u52, u53, u54, u55, u56, u57, u58, u59, u60, u61, u62, u63], defers := [] } ∧
    k ≤ es.length ∧ Opening W w' Fs dp p l sf s1 Ab cb Al cl es ∧ Runs s1 (es.drop k) s ∧ s1.recs.length ≤ k ∧ (∀ G ∈ Fs, Keep G w w')

theorem Runs.bound : ∀ {l : List Ent} {s s' : St}, Runs s l s' → ∀ e ∈ l, e.s.length ≤ 65536
  | _, _, _, .nil, e, h => by simp at h
  | _, _, _, .cons hf h, e, he => by
    rcases List.mem_cons.1 he with rfl | he
    · exact hf.1
    · exact Runs.bound h e he

set_option maxRecDepth 100000 in
set_option maxHeartbeats 2000000 in
theorem wal_open {W w : World} {Fs : List (List Nat)} {dp sf : Nat} {s : St} {Fd : List Nat} (es : List Ent) (t : List UInt8) (hr : Runs St.init es s) (hes : es.length ≤ 900000) (ht : Torn t) (hd : IsD w Fd dp (bytesOf es ++ t) sf) (hs : Sep W w (Fd :: Fs)) :
    Calls Try.prog 38 #[.pointer (some ⟨dp, 0, none⟩)] w fun e w' => ∃ p sf', e = .returned (.tuple #[.pointer (some ⟨p, 0, none⟩), .int .i64 0]) ∧
      LogOn W w' Fs p dp (bytesOf es) sf' s ∧ (t = [] → sf' = sf) ∧ (t ≠ [] → sf' = (bytesOf es).length) ∧ ∀ G ∈ Fs, Keep G w w' := by
  have hlen := hd.len
  obtain ⟨L, hL⟩ : ∃ L, bytesOf es ++ t = L := ⟨_, rfl⟩
  rw [hL] at hd hlen
  obtain ⟨q, hq⟩ : ∃ q, (bytesOf es).length = q := ⟨_, rfl⟩
  go_enter Try.func38, Try.ntmps38
  go_wp2_with fail
  refine wp_scope_once 1 (OpenAt W w Fs dp L sf es q s) (fun a' _ => es.length - (intOf (a'.tmps.getD 8 undef)).toNat) rfl (fun hp => ?_) ?_
  · go_wp2_with fail
    refine (sd_bytes hd).mono ?_
    rintro e w1 ⟨Ab, cb, rfl, o1, he1⟩
    have hcb := own_slice o1
    have hd1 := hd.ext he1
    have s1 := hs.ext he1
    go_wp2_with fail
    refine (scan_calls w1 w1.heap.size Ab L.length cb (es.map Ent.pay) t (by have := Reads.of_own o1; rw [← hL] at this ⊢; exact this) (Nat.le_refl _) (by omega) (by obtain ⟨_, _, hv, h1, _⟩ := hcb; injection hv with _ _ h3; omega) (by obtain ⟨_, _, hv, _, h1, _⟩ := hcb; injection hv with _ _ h3; omega)
      (fun y hy => by obtain ⟨e, he, rfl⟩ := List.mem_map.1 hy; have := hr.bound e he; show (Proofs.Ytfclighheoobaaa.pay e.kind e.n e.s).length ≤ _; rw [pay_len]; omega) ht).mono ?_
    rintro e w2 ⟨Al, cl, vs, rfl, o2, f2, he2⟩
    have hql : (encs (es.map Ent.pay)).length = q := hq
    have hml : (es.map Ent.pay).length = es.length := List.length_map _
    rw [hql, hml]
    rw [hml] at o2
    clear hql hml
    go_wp2_with fail
    have hx3 : Ext w2 (w2.alloc (.cells #[.pointer (some ⟨dp, 0, none⟩), .int .i64 1, .slice none 0 0, .string ⟨#[]⟩, .string ⟨#[]⟩] 83)) := (Below.refl _ _).alloc (Nat.le_refl _) _
    have hlog : IsLog (w2.alloc (.cells #[.pointer (some ⟨dp, 0, none⟩), .int .i64 1, .slice none 0 0, .string ⟨#[]⟩, .string ⟨#[]⟩] 83)) [w2.heap.size] w2.heap.size dp St.init :=
      ⟨.slice none 0 0, ⟨Blk.new _ _ _, World.ownsRow_nil _ _ _ _, by unfold St.ok St.init; simp⟩, by simp [foot, Value.ownBlock]⟩
    have s3 := ((s1.ext he2).new hx3 (F := [w2.heap.size]) (by simp)).swap
    have hop : Opening W (w2.alloc (.cells #[.pointer (some ⟨dp, 0, none⟩), .int .i64 1, .slice none 0 0, .string ⟨#[]⟩, .string ⟨#[]⟩] 83)) Fs dp w2.heap.size L sf St.init Ab cb Al cl es :=
      ⟨⟨Fd, _, (hd1.ext he2).ext hx3, hlog, s3⟩, own_base (own_mod o1 (Mod.of_below (he2.trans hx3) []) (by simp)), vs, own_base (own_mod o2 (Mod.of_below hx3 []) (by simp)), f2_mono (fun a b (h : OwnRec w2 a b) => h.ext hx3) f2⟩
    have hkp : ∀ G ∈ Fs, Keep G w (w2.alloc (.cells #[.pointer (some ⟨dp, 0, none⟩), .int .i64 1, .slice none 0 0, .string ⟨#[]⟩, .string ⟨#[]⟩] 83)) := fun G hG => hs.keep ((he1.trans he2).trans hx3) G (by simp [hG])
    go_step3
    rename_i hK
    refine hK _ _ (Code.wp_mono ?_ (hp _ _ ⟨0, w2.heap.size, Ab, cb, Al, cl, St.init, _, _, _, _, _, _, _, _, _, _, _, _, _, _, _, _, _, _, _, _, _, _, _, _, _, _, _, _, _, _, _, _, _, _, _, _, _, _, _, _, _, _, _, _, _, _, _, _, _, _, _, _, _, _, _, _, rfl, Nat.zero_le _, hop, by simpa using hr, by simp [St.init], hkp⟩))
    intro e a w9 h9
    cases e <;> first | exact h9 | exact ⟨h9.1, h9.2.1⟩
  · rintro a' wj ⟨k, p, Ab, cb, Al, cl, s1, u1, u9, u10, u11, u12, u13, u14, u15, u16, u17, u18, u19, u20, u21, u22, u23, u24, u25, u26, u27, u28, u29, u30, u31, u32, u33, u34, u35, u36, u37, u38, u39, u40, u41, u42, u43, u44, u45, u46, u47, u48, u49, u50, u51, u52, u53, u54, u55, u56, u57, u58, u59, u60, u61, u62, u63, rfl, hk, hop, hrun, hrl, hkeep⟩
    have hqL : q + t.length = L.length := by rw [← hq, ← hL, List.length_append]
    by_cases hkl : k < es.length
    · have hx : es[k]? = some es[k] := List.getElem?_eq_getElem hkl
      generalize es[k] = e at hx
      have hdr : es.drop k = e :: es.drop (k + 1) := by
        rw [List.drop_eq_getElem_cons hkl]
        congr 1
        rw [List.getElem?_eq_getElem hkl] at hx
        exact Option.some.inj hx
      rw [hdr] at hrun
      obtain ⟨hf, hrun⟩ : e.fits s1 ∧ Runs (e.act s1) (es.drop (k + 1)) s := by
        cases hrun with
        | cons h1 h2 => exact ⟨h1, h2⟩
      obtain ⟨ad, v, rfl, hc, hcall⟩ := hop.at_ hx hf (by omega)
      have h0 : (0 : Int) ≤ (k : Int) := by omega
      have h1 : (k : Int) < (es.length : Int) := by omega
      have HR := Lib.hid hrun
      have HKP := Lib.hid hkeep
      clear hrun hdr hx hf hop hkeep hL hq hd hs
      go_wp2_with fail
      refine hcall.mono ?_
      rintro r w5 ⟨rfl, hop5, hk5⟩
      go_wp2_with fail
      go_step3
      refine ⟨rfl, ⟨k + 1, p, Ab, cb, some ad, cl, e.act s1, _, _, _, _, _, _, _, _, _, _, _, _, _, _, _, _, _, _, _, _, _, _, _, _, _, _, _, _, _, _, _, _, _, _, _, _, _, _, _, _, _, _, _, _, _, _, _, _, _, _, _, _, _, _, _, _, rfl, by omega, hop5, HR.out, by have := e.act_recs s1; omega, fun G hG => (HKP.out G hG).trans (hk5 G hG)⟩, by simp [intOf]; omega⟩
    · have hke : k = es.length := by omega
      subst hke
      rw [List.drop_length] at hrun
      obtain rfl : s1 = s := by cases hrun; rfl
      have h1 : ¬ ((es.length : Int) < (es.length : Int)) := by omega
      obtain ⟨hon, hob, _⟩ := hop
      obtain ⟨Fd5, Fl5, hd5, hl5, hs5⟩ := hon
      by_cases htn : t = []
      · subst htn
        have h2 : ¬ ((q : Int) < (L.length : Int)) := by simp at hqL; omega
        rw [List.append_nil] at hL
        have HF : Hid (LogOn W wj Fs p dp (bytesOf es) sf s1) := Lib.hid (by rw [hL]; exact ⟨Fd5, Fl5, hd5, hl5, hs5⟩)
        have HKP := Lib.hid hkeep
        clear hd5 hl5 hs5 hob hkeep hd hs hL hq hqL hrun
        go_wp2_with fail
        go_step3
        go_wp2_with fail
        simp only [Exit.jump]
        go_ret2
        exact ⟨p, sf, rfl, HF.out, fun _ => rfl, fun h => absurd rfl h, HKP.out⟩
      · have h2 : (q : Int) < (L.length : Int) := by
          have := List.length_pos_iff.2 htn
          omega
        have hrd : Reads wj wj.heap.size 1 Ab q (bys (bytesOf es)) := by
          have h3 := reads_take (Reads.of_own hob) (k := q) (by omega)
          rwa [show L.take q = bytesOf es by rw [← hL, ← hq, List.take_left]] at h3
        have HRD := Lib.hid hrd
        have HQ := Lib.hid hq
        have HKP := Lib.hid hkeep
        have HTN := Lib.hid htn
        have hcb : (q : Int) ≤ (cb : Int) := by obtain ⟨_, _, hv, h3, _⟩ := own_slice hob; injection hv with _ _ h4; omega
        have hab := own_none hob
        have hq0 : (0 : Int) ≤ (q : Int) := by omega
        have hql : q ≤ 4194304 := by omega
        clear hkeep hd hs hL hq hqL hrun hrd htn
        go_wp2_with fail
        go_step3
        go_wp2_with fail
        have hsw := sd_swap hd5 HRD.out (c := cb) (Nat.le_refl _) (fun h => ⟨by have := HRD.out.none_len h; exact this, (hab h).2⟩) hql
        refine hsw.mono ?_
        rintro e w6 ⟨rfl, F6, hd6, nx⟩
        obtain ⟨s6, ks⟩ := hs5.next nx
        have HF : Hid (LogOn W w6 Fs p dp (bytesOf es) q s1) := Lib.hid (by rw [HQ.out] at hd6; exact ⟨F6, Fl5, hd6, hl5.keep (ks Fl5 (by simp)), s6⟩)
        have HK6 : Hid (∀ G ∈ Fs, Keep G w w6) := Lib.hid (fun G hG => (HKP.out G hG).trans (ks G (by simp [hG])))
        clear hsw hd6 nx s6 ks hd5 hl5 hs5
        go_wp2_with fail
        simp only [Exit.jump]
        go_ret2
        exact ⟨p, q, rfl, HF.out, fun h => absurd h HTN.out, fun _ => HQ.out.symm, HK6.out⟩

end Go.Proofs.Ytfclighheoobaaa
