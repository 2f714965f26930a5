/- A log and the document's log beside it; logs of the document that nobody writes any more. -/
import Derived.Test.YtfclighheoobaaaAlike
namespace Go.Proofs.Ytfclighheoobaaa
open Go.RowKit

/-- The log behind p with its state s; the document's behind q with its state t; those of T stay as they are. -/
def PW (W w : World) (Fs : List (List Nat)) (p dp q sf m : Nat) (s t : St) (T : List (Nat × St)) : Prop :=
  ∃ R, JS W w (R :: Fs) p dp sf s m ∧ IsRf w R q t ∧ ∀ e ∈ T, e.1 ≠ q ∧ IsRf w R e.1 e.2

section
variable {W w w' : World} {Fs : List (List Nat)} {R R' : List Nat} {p dp q sf m : Nat} {s t : St} {T : List (Nat × St)}
theorem JS.lt (h : JS W w (R :: Fs) p dp sf s m) : ∀ k ∈ R, k < w.heap.size := by
  obtain ⟨_, ⟨⟨Fd, Fl, _, _, hs⟩, _⟩, _⟩ := h
  exact fun k hk => hs.lt R (by simp) k hk
theorem JS.keeps (h : JS W w Fs p dp sf s m) (e : Ext w w') : ∀ G ∈ Fs, Keep G w w' := by
  obtain ⟨_, ⟨⟨Fd, Fl, _, _, hs⟩, _⟩, _⟩ := h
  exact fun G hG => hs.keep e G (by simp [hG])
theorem JS.refs (h : JS W w (R :: Fs) p dp sf s m) (nx : Next R R' w w') : JS W w' (R' :: Fs) p dp sf s m ∧ ∀ G ∈ Fs, Keep G w w' := by
  obtain ⟨es, ⟨⟨Fd, Fl, hd, hl, s0⟩, hr⟩, hs⟩ := h
  have s1 : Sep W w (R :: Fd :: Fl :: Fs) := s0.perm (List.perm_middle (a := R) (l₁ := [Fd, Fl]) (l₂ := Fs))
  obtain ⟨s2, ks⟩ := s1.next nx
  exact ⟨⟨es, ⟨⟨Fd, Fl, hd.keep (ks Fd (by simp)), hl.keep (ks Fl (by simp)), s2.perm (List.perm_middle (a := R') (l₁ := [Fd, Fl]) (l₂ := Fs)).symm⟩, hr⟩, hs⟩, fun G hG => ks G (by simp [hG])⟩
/-- A new block of the caller's. -/
theorem JS.block (h : JS W w (R :: Fs) p dp sf s m) (o : Obj) : JS W (w.alloc o) (R :: [w.heap.size] :: Fs) p dp sf s m := by
  have he : Ext w (w.alloc o) := (Below.refl _ _).alloc (Nat.le_refl _) _
  obtain ⟨es, ⟨⟨Fd, Fl, hd, hl, s0⟩, hr⟩, hs⟩ := h
  have s1 : Sep W (w.alloc o) ([w.heap.size] :: Fd :: Fl :: R :: Fs) := s0.new he (by simp)
  exact ⟨es, ⟨⟨Fd, Fl, hd.ext he, hl.ext he, s1.perm (List.perm_middle (a := [w.heap.size]) (l₁ := [Fd, Fl, R]) (l₂ := Fs)).symm⟩, hr⟩, hs⟩
theorem JS.drop2 {G : List Nat} (h : JS W w (R :: G :: Fs) p dp sf s m) : JS W w (R :: Fs) p dp sf s m := by
  obtain ⟨es, ⟨⟨Fd, Fl, hd, hl, s0⟩, hr⟩, hs⟩ := h
  have s1 : Sep W w (G :: Fd :: Fl :: R :: Fs) := s0.perm (List.perm_middle (a := G) (l₁ := [Fd, Fl, R]) (l₂ := Fs))
  exact ⟨es, ⟨⟨Fd, Fl, hd, hl, s1.drop⟩, hr⟩, hs⟩

theorem PW.ext (h : PW W w Fs p dp q sf m s t T) (e : Ext w w') : PW W w' Fs p dp q sf m s t T := by
  obtain ⟨R, h1, h2, h3⟩ := h
  exact ⟨R, h1.ext e, h2.ext h1.lt e, fun x hx => ⟨(h3 x hx).1, (h3 x hx).2.ext h1.lt e⟩⟩
theorem PW.below (h : PW W w Fs p dp q sf m s t T) : Below W.heap.size W w := by obtain ⟨R, h1, _⟩ := h; exact h1.below
theorem PW.keeps (h : PW W w Fs p dp q sf m s t T) (e : Ext w w') : ∀ G ∈ Fs, Keep G w w' := by obtain ⟨R, h1, _⟩ := h; exact fun G hG => h1.keeps e G (by simp [hG])
theorem PW.more (h : PW W w Fs p dp q sf m s t T) {m' : Nat} (hm : m ≤ m') : PW W w Fs p dp q sf m' s t T := by obtain ⟨R, h1, h2⟩ := h; exact ⟨R, h1.more hm, h2⟩
theorem PW.block (h : PW W w Fs p dp q sf m s t T) (o : Obj) : PW W (w.alloc o) ([w.heap.size] :: Fs) p dp q sf m s t T := by
  have he : Ext w (w.alloc o) := (Below.refl _ _).alloc (Nat.le_refl _) _
  obtain ⟨R, h1, h2, h3⟩ := h
  exact ⟨R, h1.block o, h2.ext h1.lt he, fun x hx => ⟨(h3 x hx).1, (h3 x hx).2.ext h1.lt he⟩⟩
theorem PW.drop {G : List Nat} (h : PW W w (G :: Fs) p dp q sf m s t T) : PW W w Fs p dp q sf m s t T := by
  obtain ⟨R, h1, h2⟩ := h
  exact ⟨R, h1.drop2, h2⟩
/-- A step of the log. -/
theorem PW.logs {p' sf' m' : Nat} {s' : St} (h2 : IsRf w R q t) (h3 : ∀ e ∈ T, e.1 ≠ q ∧ IsRf w R e.1 e.2) (h1 : JS W w' (R :: Fs) p' dp sf' s' m') (hk : ∀ G ∈ R :: Fs, Keep G w w') : PW W w' Fs p' dp q sf' m' s' t T ∧ ∀ G ∈ Fs, Keep G w w' :=
  ⟨⟨R, h1, h2.keep (hk R (by simp)), fun x hx => ⟨(h3 x hx).1, (h3 x hx).2.keep (hk R (by simp))⟩⟩, fun G hG => hk G (by simp [hG])⟩
/-- A step of the document's log. -/
theorem PW.refs {t' : St} (h1 : JS W w (R :: Fs) p dp sf s m) (h2 : IsRf w R q t) (h3 : ∀ e ∈ T, e.1 ≠ q ∧ IsRf w R e.1 e.2) (hr : IsRf w' R' q t') (hs : ∀ k ∈ R, k ∈ R') (hm : Mod [q] w w') (hR : ∀ k ∈ R', (k ∈ R ∨ w.heap.size ≤ k) ∧ k < w'.heap.size) :
    PW W w' Fs p dp q sf m s t' T ∧ ∀ G ∈ Fs, Keep G w w' := by
  obtain ⟨j1, j2⟩ := h1.refs (R' := R') ⟨hm.sub (fun k hk _ => by simp at hk; subst hk; exact h2.mem), hR⟩
  exact ⟨⟨R', j1, hr, fun x hx => ⟨(h3 x hx).1, ((h3 x hx).2.far h2 hm (h3 x hx).1).more hs⟩⟩, j2⟩

theorem pw_put (h : PW W w Fs p dp q sf m s t T) (n : Int) (x : List UInt8) (hx : x.length ≤ 100) (hm : m ≤ 1000) :
    Calls Try.prog 33 #[.pointer (some ⟨p, 0, none⟩), .int .i64 n, .string ⟨x.toArray⟩] w fun e w' => e = .returned (codeOf (s.putOk n)) ∧ PW W w' Fs p dp q sf (m + 1) (s.putI n x) t T ∧ ∀ G ∈ Fs, Keep G w w' := by
  obtain ⟨R, h1, h2, h3⟩ := h
  refine (js_putI h1 n x hx hm).mono ?_
  rintro e w' ⟨rfl, h4, hk⟩
  exact ⟨rfl, PW.logs h2 h3 h4 hk⟩
theorem pw_meta (h : PW W w Fs p dp q sf m s t T) (x : List UInt8) (hx : x.length ≤ 100) (hm : m ≤ 1000) :
    Calls Try.prog 34 #[.pointer (some ⟨p, 0, none⟩), .string ⟨x.toArray⟩] w fun e w' => e = .returned (.int .i64 0) ∧ PW W w' Fs p dp q sf (m + 1) { s with note := x } t T ∧ ∀ G ∈ Fs, Keep G w w' := by
  obtain ⟨R, h1, h2, h3⟩ := h
  refine (js_meta h1 x hx hm).mono ?_
  rintro e w' ⟨rfl, h4, hk⟩
  exact ⟨rfl, PW.logs h2 h3 h4 hk⟩
theorem pw_base (h : PW W w Fs p dp q sf m s t T) (n : Int) (x : List UInt8) (hx : x.length ≤ 100) (hm : m ≤ 1000) :
    Calls Try.prog 42 #[.pointer (some ⟨p, 0, none⟩), .int .i64 n, .string ⟨x.toArray⟩] w fun e w' => e = .returned (codeOf (s.baseOk n)) ∧ ∃ sf', PW W w' Fs p dp q sf' m (s.baseI n x) t T ∧ ∀ G ∈ Fs, Keep G w w' := by
  obtain ⟨R, h1, h2, h3⟩ := h
  refine (js_baseI h1 n x hx hm).mono ?_
  rintro e w' ⟨rfl, sf', h4, hk⟩
  exact ⟨rfl, sf', PW.logs h2 h3 h4 hk⟩
theorem pw_open (h : PW W w Fs p dp q sf m s t T) (hm : m ≤ 1000) : Calls Try.prog 38 #[.pointer (some ⟨dp, 0, none⟩)] w fun e w' => ∃ p', e = .returned (.tuple #[.pointer (some ⟨p', 0, none⟩), .int .i64 0]) ∧ PW W w' Fs p' dp q sf m s t T ∧ ∀ G ∈ Fs, Keep G w w' := by
  obtain ⟨R, h1, h2, h3⟩ := h
  refine (js_open h1 hm).mono ?_
  rintro e w' ⟨p', rfl, h4, hk⟩
  exact ⟨p', rfl, PW.logs h2 h3 h4 hk⟩
theorem pw_rput (h : PW W w Fs p dp q sf m s t T) (n : Int) (x : List UInt8) (hx : x.length ≤ 100) (hl : t.recs.length ≤ 900000) :
    Calls Try.prog 47 #[.pointer (some ⟨q, 0, none⟩), .int .i64 n, .string ⟨x.toArray⟩] w fun e w' => e = .returned (codeOf (t.putOk n)) ∧ PW W w' Fs p dp q sf m s (t.putI n x) T ∧ ∀ G ∈ Fs, Keep G w w' := by
  obtain ⟨R, h1, h2, h3⟩ := h
  refine (rf_putI h2 h1.lt n x hx hl).mono ?_
  rintro e w' ⟨rfl, R', h4, h5, h6, h7⟩
  exact ⟨rfl, PW.refs h1 h2 h3 h4 h5 h6 h7⟩
theorem pw_rbase (h : PW W w Fs p dp q sf m s t T) (n : Int) (x : List UInt8) (hx : x.length ≤ 100) :
    Calls Try.prog 49 #[.pointer (some ⟨q, 0, none⟩), .int .i64 n, .string ⟨x.toArray⟩] w fun e w' => e = .returned (codeOf (t.baseOk n)) ∧ PW W w' Fs p dp q sf m s (t.baseI n x) T ∧ ∀ G ∈ Fs, Keep G w w' := by
  obtain ⟨R, h1, h2, h3⟩ := h
  refine (rf_baseI h2 h1.lt n x hx).mono ?_
  rintro e w' ⟨rfl, R', h4, h5, h6, h7⟩
  exact ⟨rfl, PW.refs h1 h2 h3 h4 h5 h6 h7⟩
theorem pw_rmeta (h : PW W w Fs p dp q sf m s t T) (x : List UInt8) (hx : x.length ≤ 100) :
    Calls Try.prog 48 #[.pointer (some ⟨q, 0, none⟩), .string ⟨x.toArray⟩] w fun e w' => e = .returned (.int .i64 0) ∧ PW W w' Fs p dp q sf m s { t with note := x } T ∧ ∀ G ∈ Fs, Keep G w w' := by
  obtain ⟨R, h1, h2, h3⟩ := h
  refine (rf_meta h2 x hx).mono ?_
  rintro e w' ⟨rfl, h4, h6⟩
  exact ⟨rfl, PW.refs h1 h2 h3 h4 (fun _ h => h) h6 (fun k hk => ⟨.inl hk, Nat.lt_of_lt_of_le (h1.lt k hk) h6.size⟩)⟩
/-- Sync, and what is safe then. -/
theorem pw_sync (h : PW W w Fs p dp q sf m s t T) : Calls Try.prog 37 #[.pointer (some ⟨p, 0, none⟩)] w fun e w' => e = .returned (.tuple #[]) ∧ ∃ (n : Nat), n ≤ 4194304 ∧ PW W w' Fs p dp q n m s t T ∧ (∀ G ∈ Fs, Keep G w w') ∧
    (∀ w1, Ext w' w1 → Calls Try.prog 22 #[.pointer (some ⟨dp, 0, none⟩)] w1 fun e w2 => e = .returned (.int .i64 (n : Int)) ∧ Ext w1 w2) ∧
    (∀ w1, Ext w' w1 → Calls Try.prog 21 #[.pointer (some ⟨dp, 0, none⟩)] w1 fun e w2 => ∃ A c, e = .returned (.slice A n c) ∧ Ext w1 w2) := by
  obtain ⟨R, h1, h2, h3⟩ := h
  obtain ⟨es, hj, hs⟩ := h1
  refine (j_sync hj).mono ?_
  rintro e w' ⟨rfl, h4, hk⟩
  obtain ⟨a, b⟩ := PW.logs h2 h3 ⟨es, h4, hs⟩ hk
  obtain ⟨⟨Fd, Fl, hd, _, _⟩, _⟩ := h4
  refine ⟨rfl, _, hd.len, a, b, fun w1 he => ?_, fun w1 he => ?_⟩
  · refine (sd_safe (hd.ext he)).mono ?_
    rintro e w2 ⟨rfl, rfl⟩
    exact ⟨rfl, Ext.refl _⟩
  · refine (sd_bytes (hd.ext he)).mono ?_
    rintro e w2 ⟨A, c, rfl, _, h⟩
    exact ⟨A, c, rfl, h⟩
theorem pw_alike (h : PW W w Fs p dp q sf m s t T) (q' : Nat) (t' : St) (hq : (q', t') = (q, t) ∨ (q', t') ∈ T) :
    Calls Try.prog 50 #[.pointer (some ⟨p, 0, none⟩), .pointer (some ⟨q', 0, none⟩)] w fun e w' => ∃ b : Bool, e = .returned (.bool b) ∧ (b = true ↔ s = t') ∧ Ext w w' := by
  obtain ⟨R, h1, h2, h3⟩ := h
  rcases hq with hq | hq
  · injection hq with e1 e2
    subst e1 e2
    exact alike_calls h1 h2 h1.lt
  · exact alike_calls h1 (h3 _ hq).2 h1.lt
end

end Go.Proofs.Ytfclighheoobaaa
