/- A log with the records on its disk, the document's log beside it, and older states of the document's that nobody writes. -/
import Derived.Test.YtfclighheoobaaaBoth
namespace Go.Proofs.Ytfclighheoobaaa
open Go.RowKit

theorem Ent.act_det {s s1 s2 : St} {l : List Ent} (h1 : Runs s l s1) (h2 : Runs s l s2) : s1 = s2 := by
  induction h1 with
  | nil => cases h2; rfl
  | cons _ _ ih => cases h2 with | cons _ h => exact ih h

def PE (W w : World) (Fs : List (List Nat)) (es : List Ent) (p dp q sf m : Nat) (s t : St) (T : List (Nat × St)) : Prop :=
  ∃ R, JOn W w (R :: Fs) p dp es sf s ∧ Small es s m ∧ IsRf w R q t ∧ ∀ e ∈ T, e.1 ≠ q ∧ IsRf w R e.1 e.2
/-- Behind a crash: the disk alone. -/
def PD (W w : World) (Fs : List (List Nat)) (L : List UInt8) (dp q sf : Nat) (t : St) (T : List (Nat × St)) : Prop :=
  ∃ R Fd, IsD w Fd dp L sf ∧ Sep W w (Fd :: R :: Fs) ∧ IsRf w R q t ∧ ∀ e ∈ T, e.1 ≠ q ∧ IsRf w R e.1 e.2

section
variable {W w w' : World} {Fs : List (List Nat)} {R R' : List Nat} {es : List Ent} {p dp q sf m : Nat} {s t : St} {T : List (Nat × St)}
theorem JOn.lt (h : JOn W w (R :: Fs) p dp es sf s) : ∀ k ∈ R, k < w.heap.size := by
  obtain ⟨⟨Fd, Fl, _, _, hs⟩, _⟩ := h
  exact fun k hk => hs.lt R (by simp) k hk
theorem JOn.keeps (h : JOn W w Fs p dp es sf s) (e : Ext w w') : ∀ G ∈ Fs, Keep G w w' := by
  obtain ⟨⟨Fd, Fl, _, _, hs⟩, _⟩ := h
  exact fun G hG => hs.keep e G (by simp [hG])
theorem JOn.perm {Gs : List (List Nat)} (h : JOn W w Fs p dp es sf s) (hp : Fs.Perm Gs) : JOn W w Gs p dp es sf s := by
  obtain ⟨⟨Fd, Fl, hd, hl, s0⟩, hr⟩ := h
  exact ⟨⟨Fd, Fl, hd, hl, s0.perm ((hp.cons Fl).cons Fd)⟩, hr⟩
theorem JOn.refs (h : JOn W w (R :: Fs) p dp es sf s) (nx : Next R R' w w') : JOn W w' (R' :: Fs) p dp es sf s ∧ ∀ G ∈ Fs, Keep G w w' := by
  obtain ⟨⟨Fd, Fl, hd, hl, s0⟩, hr⟩ := h
  have s1 : Sep W w (R :: Fd :: Fl :: Fs) := s0.perm (List.perm_middle (a := R) (l₁ := [Fd, Fl]) (l₂ := Fs))
  obtain ⟨s2, ks⟩ := s1.next nx
  exact ⟨⟨⟨Fd, Fl, hd.keep (ks Fd (by simp)), hl.keep (ks Fl (by simp)), s2.perm (List.perm_middle (a := R') (l₁ := [Fd, Fl]) (l₂ := Fs)).symm⟩, hr⟩, fun G hG => ks G (by simp [hG])⟩
theorem JOn.block (h : JOn W w (R :: Fs) p dp es sf s) (o : Obj) : JOn W (w.alloc o) (R :: [w.heap.size] :: Fs) p dp es sf s := by
  have he : Ext w (w.alloc o) := (Below.refl _ _).alloc (Nat.le_refl _) _
  obtain ⟨⟨Fd, Fl, hd, hl, s0⟩, hr⟩ := h
  have s1 : Sep W (w.alloc o) ([w.heap.size] :: Fd :: Fl :: R :: Fs) := s0.new he (by simp)
  exact ⟨⟨Fd, Fl, hd.ext he, hl.ext he, s1.perm (List.perm_middle (a := [w.heap.size]) (l₁ := [Fd, Fl, R]) (l₂ := Fs)).symm⟩, hr⟩
theorem JOn.drop (h : JOn W w (R :: Fs) p dp es sf s) : JOn W w Fs p dp es sf s := by
  obtain ⟨⟨Fd, Fl, hd, hl, s0⟩, hr⟩ := h
  exact ⟨⟨Fd, Fl, hd, hl, (s0.perm (List.perm_middle (a := R) (l₁ := [Fd, Fl]) (l₂ := Fs))).drop⟩, hr⟩

theorem PE.ext (h : PE W w Fs es p dp q sf m s t T) (e : Ext w w') : PE W w' Fs es p dp q sf m s t T := by
  obtain ⟨R, h1, h2, h3, h4⟩ := h
  exact ⟨R, h1.ext e, h2, h3.ext h1.lt e, fun x hx => ⟨(h4 x hx).1, (h4 x hx).2.ext h1.lt e⟩⟩
theorem PE.below (h : PE W w Fs es p dp q sf m s t T) : Below W.heap.size W w := by obtain ⟨R, h1, _⟩ := h; exact h1.below
theorem PE.keeps (h : PE W w Fs es p dp q sf m s t T) (e : Ext w w') : ∀ G ∈ Fs, Keep G w w' := by obtain ⟨R, h1, _⟩ := h; exact fun G hG => h1.keeps e G (by simp [hG])
theorem PE.small (h : PE W w Fs es p dp q sf m s t T) : Small es s m := by obtain ⟨R, _, h2, _⟩ := h; exact h2
theorem PE.runs (h : PE W w Fs es p dp q sf m s t T) : Runs St.init es s := by obtain ⟨R, h1, _⟩ := h; exact h1.2
theorem PE.ok (h : PE W w Fs es p dp q sf m s t T) : s.ok := by obtain ⟨R, h1, _⟩ := h; exact h1.ok
theorem PE.more (h : PE W w Fs es p dp q sf m s t T) {m' : Nat} (hm : m ≤ m') : PE W w Fs es p dp q sf m' s t T := by obtain ⟨R, h1, h2, h3⟩ := h; exact ⟨R, h1, h2.more hm, h3⟩
theorem PE.none_ (h : PE W w Fs es p dp q sf m s t T) : PE W w Fs es p dp q sf m s t [] := by obtain ⟨R, h1, h2, h3, _⟩ := h; exact ⟨R, h1, h2, h3, by simp⟩
theorem PE.block (h : PE W w Fs es p dp q sf m s t T) (o : Obj) : PE W (w.alloc o) ([w.heap.size] :: Fs) es p dp q sf m s t T := by
  have he : Ext w (w.alloc o) := (Below.refl _ _).alloc (Nat.le_refl _) _
  obtain ⟨R, h1, h2, h3, h4⟩ := h
  exact ⟨R, h1.block o, h2, h3.ext h1.lt he, fun x hx => ⟨(h4 x hx).1, (h4 x hx).2.ext h1.lt he⟩⟩
theorem PE.perm {Gs : List (List Nat)} (h : PE W w Fs es p dp q sf m s t T) (hp : Fs.Perm Gs) : PE W w Gs es p dp q sf m s t T := by
  obtain ⟨R, h1, h2⟩ := h
  exact ⟨R, h1.perm (hp.cons R), h2⟩
theorem PE.drop {G : List Nat} (h : PE W w (G :: Fs) es p dp q sf m s t T) : PE W w Fs es p dp q sf m s t T := by
  obtain ⟨R, h1, h2⟩ := h
  exact ⟨R, (h1.perm (List.Perm.swap G R Fs)).drop, h2⟩
/-- A step of another object. -/
theorem PE.side {G G' : List Nat} (h : PE W w (G :: Fs) es p dp q sf m s t T) (nx : Next G G' w w') : PE W w' (G' :: Fs) es p dp q sf m s t T ∧ ∀ F ∈ Fs, Keep F w w' := by
  obtain ⟨R, h1, h2, h3, h4⟩ := h
  obtain ⟨j1, j2⟩ := (h1.perm (List.Perm.swap G R Fs)).refs nx
  exact ⟨⟨R, j1.perm (List.Perm.swap R G' Fs), h2, h3.keep (j2 R (by simp)), fun x hx => ⟨(h4 x hx).1, (h4 x hx).2.keep (j2 R (by simp))⟩⟩, fun F hF => j2 F (by simp [hF])⟩
theorem PE.logs {es' : List Ent} {p' sf' m' : Nat} {s' : St} (h3 : IsRf w R q t) (h4 : ∀ e ∈ T, e.1 ≠ q ∧ IsRf w R e.1 e.2) (h1 : JOn W w' (R :: Fs) p' dp es' sf' s') (h2 : Small es' s' m') (hk : ∀ G ∈ R :: Fs, Keep G w w') : PE W w' Fs es' p' dp q sf' m' s' t T ∧ ∀ G ∈ Fs, Keep G w w' :=
  ⟨⟨R, h1, h2, h3.keep (hk R (by simp)), fun x hx => ⟨(h4 x hx).1, (h4 x hx).2.keep (hk R (by simp))⟩⟩, fun G hG => hk G (by simp [hG])⟩
theorem PE.refs {t' : St} (h1 : JOn W w (R :: Fs) p dp es sf s) (h2 : Small es s m) (h3 : IsRf w R q t) (h4 : ∀ e ∈ T, e.1 ≠ q ∧ IsRf w R e.1 e.2) (hr : IsRf w' R' q t') (hs : ∀ k ∈ R, k ∈ R') (hm : Mod [q] w w') (hR : ∀ k ∈ R', (k ∈ R ∨ w.heap.size ≤ k) ∧ k < w'.heap.size) :
    PE W w' Fs es p dp q sf m s t' T ∧ ∀ G ∈ Fs, Keep G w w' := by
  obtain ⟨j1, j2⟩ := h1.refs (R' := R') ⟨hm.sub (fun k hk _ => by simp at hk; subst hk; exact h3.mem), hR⟩
  exact ⟨⟨R', j1, h2, hr, fun x hx => ⟨(h4 x hx).1, ((h4 x hx).2.far h3 hm (h4 x hx).1).more hs⟩⟩, j2⟩

theorem pe_put (h : PE W w Fs es p dp q sf m s t T) (n : Nat) (x : List UInt8) (hn1 : s.first ≤ n) (hn2 : n ≤ s.next) (hn3 : n < 1073741824) (hx : x.length ≤ 100) (hm : m ≤ 1000) :
    Calls Try.prog 33 #[.pointer (some ⟨p, 0, none⟩), .int .i64 n, .string ⟨x.toArray⟩] w fun e w' => e = .returned (.int .i64 0) ∧ PE W w' Fs (es ++ [⟨1, n, x⟩]) p dp q sf (m + 1) (s.putAt n x) t T ∧ ∀ G ∈ Fs, Keep G w w' := by
  obtain ⟨R, h1, h2, h3, h4⟩ := h
  refine (j_put h1 n x hn1 hn2 hn3 (by omega) (by have := h2.1; omega) (by have := h2.2.2.1; omega)).mono ?_
  rintro e w' ⟨rfl, a, b⟩
  exact ⟨rfl, PE.logs h3 h4 a (h2.put n hx) b⟩
theorem pe_meta (h : PE W w Fs es p dp q sf m s t T) (x : List UInt8) (hx : x.length ≤ 100) (hm : m ≤ 1000) :
    Calls Try.prog 34 #[.pointer (some ⟨p, 0, none⟩), .string ⟨x.toArray⟩] w fun e w' => e = .returned (.int .i64 0) ∧ PE W w' Fs (es ++ [⟨2, 0, x⟩]) p dp q sf (m + 1) { s with note := x } t T ∧ ∀ G ∈ Fs, Keep G w w' := by
  obtain ⟨R, h1, h2, h3, h4⟩ := h
  refine (j_meta h1 x (by omega) (by have := h2.1; omega)).mono ?_
  rintro e w' ⟨rfl, a, b⟩
  exact ⟨rfl, PE.logs h3 h4 a (h2.meta_ hx) b⟩
theorem pe_base (h : PE W w Fs es p dp q sf m s t T) (n : Nat) (x : List UInt8) (hn1 : s.first ≤ n) (hn2 : n ≤ 1073741824) (hx : x.length ≤ 100) (hm : m ≤ 1000) :
    Calls Try.prog 42 #[.pointer (some ⟨p, 0, none⟩), .int .i64 n, .string ⟨x.toArray⟩] w fun e w' => e = .returned (.int .i64 0) ∧
      ∃ es', PE W w' Fs es' p dp q (bytesOf es').length m (s.baseAt n x) t T ∧ ∀ G ∈ Fs, Keep G w w' := by
  obtain ⟨R, h1, h2, h3, h4⟩ := h
  refine (j_base h1 n x hn1 hn2 (by omega) (by have := encAll_short h2 n hx (n - s.first); omega)).mono ?_
  rintro e w' ⟨rfl, a, b⟩
  exact ⟨rfl, _, PE.logs h3 h4 a (h2.base n hx) b⟩
theorem pe_sync (h : PE W w Fs es p dp q sf m s t T) : Calls Try.prog 37 #[.pointer (some ⟨p, 0, none⟩)] w fun e w' => e = .returned (.tuple #[]) ∧ PE W w' Fs es p dp q (bytesOf es).length m s t T ∧ ∀ G ∈ Fs, Keep G w w' := by
  obtain ⟨R, h1, h2, h3, h4⟩ := h
  refine (j_sync h1).mono ?_
  rintro e w' ⟨rfl, a, b⟩
  exact ⟨rfl, PE.logs h3 h4 a h2 b⟩
/-- The disk's own Sync. -/
theorem pe_dsync (h : PE W w Fs es p dp q sf m s t T) : Calls Try.prog 18 #[.pointer (some ⟨dp, 0, none⟩)] w fun e w' => e = .returned (.tuple #[]) ∧ PE W w' Fs es p dp q (bytesOf es).length m s t T ∧ ∀ G ∈ Fs, Keep G w w' := by
  obtain ⟨R, ⟨⟨Fd, Fl, hd, hl, s0⟩, hr⟩, h2, h3, h4⟩ := h
  refine (sd_sync hd).mono ?_
  rintro e w' ⟨rfl, hd', nx⟩
  obtain ⟨s1, ks⟩ := s0.next nx
  exact ⟨rfl, PE.logs h3 h4 ⟨⟨Fd, Fl, hd', hl.keep (ks Fl (by simp)), s1⟩, hr⟩ h2 (fun G hG => ks G (List.mem_cons_of_mem _ hG))⟩
theorem pe_crash (h : PE W w Fs es p dp q sf m s t T) (k : Int) :
    Calls Try.prog 20 #[.pointer (some ⟨dp, 0, none⟩), .int .i64 k] w fun e w' => e = .returned (.tuple #[]) ∧ ∃ j tn sf', j ≤ es.length ∧ Torn tn ∧ (∀ i, i ≤ es.length → (bytesOf (es.take i)).length ≤ sf → i ≤ j) ∧
      PD W w' Fs (bytesOf (es.take j) ++ tn) dp q sf' t T ∧ sf' = (bytesOf (es.take j)).length + tn.length ∧ ∀ G ∈ Fs, Keep G w w' := by
  obtain ⟨R, h1, h2, h3, h4⟩ := h
  refine (j_crash h1 k).mono ?_
  rintro e w' ⟨rfl, Fd, j, tn, sf', a1, a2, a3, _, a5, a6, a7, a8⟩
  exact ⟨rfl, j, tn, sf', a1, a2, a3, ⟨R, Fd, a5, a7, h3.keep (a8 R (by simp)), fun x hx => ⟨(h4 x hx).1, (h4 x hx).2.keep (a8 R (by simp))⟩⟩, a6, fun G hG => a8 G (by simp [hG])⟩
theorem PD.ext {L : List UInt8} (h : PD W w Fs L dp q sf t T) (e : Ext w w') : PD W w' Fs L dp q sf t T := by
  obtain ⟨R, Fd, hd, hs, h3, h4⟩ := h
  have hR : ∀ k ∈ R, k < w.heap.size := fun k hk => hs.lt R (by simp) k hk
  exact ⟨R, Fd, hd.ext e, hs.ext e, h3.ext hR e, fun x hx => ⟨(h4 x hx).1, (h4 x hx).2.ext hR e⟩⟩
theorem pd_open {tn : List UInt8} (h : PD W w Fs (bytesOf es ++ tn) dp q sf t T) (hr : Runs St.init es s) (ht : Torn tn) (hsf : sf = (bytesOf es).length + tn.length) (hm : m ≤ 1000) (hs : Small es s m) :
    Calls Try.prog 38 #[.pointer (some ⟨dp, 0, none⟩)] w fun e w' => ∃ p, e = .returned (.tuple #[.pointer (some ⟨p, 0, none⟩), .int .i64 0]) ∧ PE W w' Fs es p dp q (bytesOf es).length m s t T ∧ ∀ G ∈ Fs, Keep G w w' := by
  obtain ⟨R, Fd, hd, hsp, h3, h4⟩ := h
  refine (j_open hr (by have := hs.2.1; omega) ht hd hsp).mono ?_
  rintro e w' ⟨p, sf', rfl, a1, a2, a3, a4⟩
  have hsf' : sf' = (bytesOf es).length := by
    by_cases h0 : tn = []
    · rw [a2 h0, hsf, h0]; rfl
    · exact a3 h0
  rw [hsf'] at a1
  exact ⟨p, rfl, PE.logs h3 h4 a1 hs a4⟩
theorem pe_rput (h : PE W w Fs es p dp q sf m s t T) (n : Nat) (x : List UInt8) (hn1 : t.first ≤ n) (hn2 : n ≤ t.next) (hn3 : n < 1073741824) (hx : x.length ≤ 100) (hl : t.recs.length ≤ 900000) :
    Calls Try.prog 47 #[.pointer (some ⟨q, 0, none⟩), .int .i64 n, .string ⟨x.toArray⟩] w fun e w' => e = .returned (.int .i64 0) ∧ PE W w' Fs es p dp q sf m s (t.putAt n x) T ∧ ∀ G ∈ Fs, Keep G w w' := by
  obtain ⟨R, h1, h2, h3, h4⟩ := h
  refine (RX.rf_put h3 h1.lt n x hn1 hn2 hn3 (by omega) hl).mono ?_
  rintro e w' ⟨rfl, R', a, b, c, d⟩
  exact ⟨rfl, PE.refs h1 h2 h3 h4 a b c d⟩
theorem pe_rbase (h : PE W w Fs es p dp q sf m s t T) (n : Nat) (x : List UInt8) (hn1 : t.first ≤ n) (hn2 : n ≤ 1073741824) (hx : x.length ≤ 100) :
    Calls Try.prog 49 #[.pointer (some ⟨q, 0, none⟩), .int .i64 n, .string ⟨x.toArray⟩] w fun e w' => e = .returned (.int .i64 0) ∧ PE W w' Fs es p dp q sf m s (t.baseAt n x) T ∧ ∀ G ∈ Fs, Keep G w w' := by
  obtain ⟨R, h1, h2, h3, h4⟩ := h
  refine (rf_base h3 h1.lt n x hn1 hn2 (by omega)).mono ?_
  rintro e w' ⟨rfl, R', a, b, c, d⟩
  exact ⟨rfl, PE.refs h1 h2 h3 h4 a b c d⟩
theorem pe_rmeta (h : PE W w Fs es p dp q sf m s t T) (x : List UInt8) (hx : x.length ≤ 100) :
    Calls Try.prog 48 #[.pointer (some ⟨q, 0, none⟩), .string ⟨x.toArray⟩] w fun e w' => e = .returned (.int .i64 0) ∧ PE W w' Fs es p dp q sf m s { t with note := x } T ∧ ∀ G ∈ Fs, Keep G w w' := by
  obtain ⟨R, h1, h2, h3, h4⟩ := h
  refine (rf_meta h3 x hx).mono ?_
  rintro e w' ⟨rfl, a, c⟩
  exact ⟨rfl, PE.refs h1 h2 h3 h4 a (fun _ h => h) c (fun k hk => ⟨.inl hk, Nat.lt_of_lt_of_le (h1.lt k hk) c.size⟩)⟩
/-- A copy, of the log or of one of the older ones. -/
theorem pe_copy (h : PE W w Fs es p dp q sf m s t T) (qc : Nat) (tc : St) (hq : (qc, tc) = (q, t) ∨ (qc, tc) ∈ T) :
    Calls Try.prog 46 #[.pointer (some ⟨qc, 0, none⟩)] w fun e w' => ∃ q', e = .returned (.pointer (some ⟨q', 0, none⟩)) ∧
      PE W w' Fs es p dp q sf m s t (T ++ [(q', tc)]) ∧ PE W w' Fs es p dp q' sf m s tc [] ∧ Ext w w' := by
  obtain ⟨R, h1, h2, h3, h4⟩ := h
  have hc : IsRf w R qc tc := by
    rcases hq with hq | hq
    · injection hq with e1 e2
      subst e1 e2
      exact h3
    · exact (h4 _ hq).2
  refine (rf_copy hc).mono ?_
  rintro e w' ⟨q', rfl, hq', hn, he⟩
  have hlt := h1.lt
  have hR : ∀ k ∈ R, k ∈ q' :: R := fun k hk => by simp [hk]
  obtain ⟨j1, _⟩ := h1.refs (R' := q' :: R) ⟨Mod.of_below he R, fun k hk => by
    rcases List.mem_cons.1 hk with rfl | hk
    · exact ⟨.inr (by omega), hn.lt⟩
    · exact ⟨.inl hk, Nat.lt_of_lt_of_le (hlt k hk) he.size⟩⟩
  have h3' := (h3.ext hlt he).more hR
  refine ⟨q', rfl, ⟨_, j1, h2, h3', fun x hx => ?_⟩, ⟨_, j1, h2, hn, by simp⟩, he⟩
  rcases List.mem_append.1 hx with hx | hx
  · exact ⟨(h4 x hx).1, ((h4 x hx).2.ext hlt he).more hR⟩
  · simp at hx
    subst hx
    exact ⟨by have := h3.lt; show q' ≠ q; omega, hn⟩
theorem pe_alike (h : PE W w Fs es p dp q sf m s t T) (q' : Nat) (t' : St) (hq : (q', t') = (q, t) ∨ (q', t') ∈ T) :
    Calls Try.prog 50 #[.pointer (some ⟨p, 0, none⟩), .pointer (some ⟨q', 0, none⟩)] w fun e w' => ∃ b : Bool, e = .returned (.bool b) ∧ (b = true ↔ s = t') ∧ Ext w w' := by
  obtain ⟨R, h1, h2, h3, h4⟩ := h
  rcases hq with hq | hq
  · injection hq with e1 e2
    subst e1 e2
    exact alike_calls ⟨es, h1, h2⟩ h3 h1.lt
  · exact alike_calls ⟨es, h1, h2⟩ (h4 _ hq).2 h1.lt
theorem pe_first (h : PE W w Fs es p dp q sf m s t T) : Calls Try.prog 43 #[.pointer (some ⟨p, 0, none⟩)] w fun e w' => e = .returned (.int .i64 (s.first : Int)) ∧ Ext w w' := by
  obtain ⟨R, h1, _⟩ := h
  refine (j_first h1).mono ?_
  rintro e w' ⟨rfl, rfl⟩
  exact ⟨rfl, Ext.refl _⟩
theorem pe_next (h : PE W w Fs es p dp q sf m s t T) : Calls Try.prog 40 #[.pointer (some ⟨p, 0, none⟩)] w fun e w' => e = .returned (.int .i64 (s.next : Int)) ∧ Ext w w' := by
  obtain ⟨R, h1, _⟩ := h
  exact j_next h1
end

end Go.Proofs.Ytfclighheoobaaa
