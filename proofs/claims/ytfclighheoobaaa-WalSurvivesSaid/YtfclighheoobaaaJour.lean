/- A log whose disk holds the records that made it: each call as a step; a crash, and an opening again. -/
import Derived.Test.YtfclighheoobaaaWalBook
namespace Go.Proofs.Ytfclighheoobaaa
open Go.RowKit

/-- A log, its disk, and the records that are on it. -/
def JOn (W w : World) (Fs : List (List Nat)) (p dp : Nat) (es : List Ent) (sf : Nat) (s : St) : Prop := LogOn W w Fs p dp (bytesOf es) sf s ∧ Runs St.init es s

section
variable {W w w' : World} {Fs : List (List Nat)} {p dp : Nat} {es : List Ent} {sf : Nat} {s : St}
theorem JOn.ext (h : JOn W w Fs p dp es sf s) (e : Ext w w') : JOn W w' Fs p dp es sf s := ⟨h.1.ext e, h.2⟩
theorem JOn.below (h : JOn W w Fs p dp es sf s) : Below W.heap.size W w := h.1.below
theorem JOn.ok (h : JOn W w Fs p dp es sf s) : s.ok := h.1.ok
theorem bytesOf_snoc (l : List Ent) (e : Ent) : bytesOf (l ++ [e]) = bytesOf l ++ enc e.kind e.n e.s := by rw [bytesOf_append, bytesOf_one]

theorem j_put (h : JOn W w Fs p dp es sf s) (n : Nat) (x : List UInt8) (hn1 : s.first ≤ n) (hn2 : n ≤ s.next) (hn3 : n < 1073741824) (hx : x.length ≤ 65536) (hd : x.length + 21 + (bytesOf es).length ≤ 4194304) (hl : s.recs.length ≤ 900000) :
    Calls Try.prog 33 #[.pointer (some ⟨p, 0, none⟩), .int .i64 n, .string ⟨x.toArray⟩] w fun e w' => e = .returned (.int .i64 0) ∧ JOn W w' Fs p dp (es ++ [⟨1, n, x⟩]) sf (s.putAt n x) ∧ ∀ G ∈ Fs, Keep G w w' := by
  refine (log_put h.1 n x hn1 hn2 hn3 hx hd hl).mono ?_
  rintro e w' ⟨rfl, h1, h2⟩
  refine ⟨rfl, ⟨by rw [bytesOf_snoc]; exact h1, ?_⟩, h2⟩
  have := h.2.snoc (e := ⟨1, n, x⟩) ⟨hx, .inl ⟨rfl, hn1, hn2⟩⟩
  simpa [Ent.act] using this

theorem j_meta (h : JOn W w Fs p dp es sf s) (x : List UInt8) (hx : x.length ≤ 65536) (hd : x.length + 21 + (bytesOf es).length ≤ 4194304) :
    Calls Try.prog 34 #[.pointer (some ⟨p, 0, none⟩), .string ⟨x.toArray⟩] w fun e w' => e = .returned (.int .i64 0) ∧ JOn W w' Fs p dp (es ++ [⟨2, 0, x⟩]) sf { s with note := x } ∧ ∀ G ∈ Fs, Keep G w w' := by
  refine (log_meta h.1 x hx hd).mono ?_
  rintro e w' ⟨rfl, h1, h2⟩
  refine ⟨rfl, ⟨by rw [bytesOf_snoc]; exact h1, ?_⟩, h2⟩
  have := h.2.snoc (e := ⟨2, 0, x⟩) ⟨hx, .inr (.inl ⟨rfl, rfl⟩)⟩
  simpa [Ent.act] using this

theorem j_sync (h : JOn W w Fs p dp es sf s) : Calls Try.prog 37 #[.pointer (some ⟨p, 0, none⟩)] w fun e w' => e = .returned (.tuple #[]) ∧ JOn W w' Fs p dp es (bytesOf es).length s ∧ ∀ G ∈ Fs, Keep G w w' := by
  refine (log_sync h.1).mono ?_
  rintro e w' ⟨rfl, h1, h2⟩
  exact ⟨rfl, ⟨h1, h.2⟩, h2⟩

/-- The records that make a log at once. -/
def imgEnts (n : Nat) (snap note : List UInt8) (l : List (List UInt8)) : List Ent := ⟨3, n, snap⟩ :: ⟨2, 0, note⟩ :: puts n l
where puts : Nat → List (List UInt8) → List Ent
  | _, [] => []
  | n, x :: l => ⟨1, n, x⟩ :: puts (n + 1) l
theorem bytesOf_puts : ∀ (l : List (List UInt8)) (n : Nat), bytesOf (imgEnts.puts n l) = encPuts n l
  | [], _ => rfl
  | x :: l, n => by
    show enc 1 n x ++ bytesOf (imgEnts.puts (n + 1) l) = enc 1 n x ++ encPuts (n + 1) l
    rw [bytesOf_puts l (n + 1)]
theorem bytesOf_img (n : Nat) (snap note : List UInt8) (l : List (List UInt8)) : bytesOf (imgEnts n snap note l) = encAll n snap note l := by
  show enc 3 n snap ++ (enc 2 0 note ++ bytesOf (imgEnts.puts n l)) = _
  rw [bytesOf_puts]
  unfold encAll
  rw [List.append_assoc]
theorem runs_puts : ∀ (l : List (List UInt8)) (s : St), (∀ x ∈ l, x.length ≤ 65536) → Runs s (imgEnts.puts s.next l) { s with recs := s.recs ++ l }
  | [], s, _ => by
    rw [List.append_nil]
    exact Runs.nil
  | x :: l, s, h => by
    refine .cons ⟨h x (by simp), .inl ⟨rfl, by show s.first ≤ s.next; unfold St.next; omega, Nat.le_refl _⟩⟩ ?_
    have e1 : (⟨1, s.next, x⟩ : Ent).act s = { s with recs := s.recs ++ [x] } := by
      have : s.recs.take (s.next - s.first) = s.recs := List.take_of_length_le (by unfold St.next; omega)
      simp [Ent.act, St.putAt, this]
    rw [e1]
    have h1 := runs_puts l { s with recs := s.recs ++ [x] } (fun y hy => h y (by simp [hy]))
    have e2 : St.next { s with recs := s.recs ++ [x] } = s.next + 1 := by simp [St.next]; omega
    rw [e2] at h1
    simpa using h1
theorem runs_img (n : Nat) (snap note : List UInt8) (l : List (List UInt8)) (hn1 : 1 ≤ n) (hn : n ≤ 1073741824) (hs : snap.length ≤ 65536) (hnt : note.length ≤ 65536) (hl : ∀ x ∈ l, x.length ≤ 65536) : Runs St.init (imgEnts n snap note l) ⟨n, l, snap, note⟩ := by
  refine .cons ⟨hs, .inr (.inr ⟨rfl, hn1, hn⟩)⟩ (.cons ⟨hnt, .inr (.inl ⟨rfl, rfl⟩)⟩ ?_)
  have h1 := runs_puts l ⟨n, [], snap, note⟩ hl
  simpa [Ent.act, St.next, St.init] using h1

theorem Ent.act_first {e : Ent} {s : St} (h : e.fits s) : s.first ≤ (e.act s).first := by
  obtain ⟨_, h | h | h⟩ := h
  · unfold Ent.act; rw [if_pos h.1]; exact Nat.le_refl _
  · unfold Ent.act; rw [if_neg (by omega), if_pos h.1]; exact Nat.le_refl _
  · unfold Ent.act; rw [if_neg (by omega), if_neg (by omega)]; exact h.2.1
theorem Runs.first_le : ∀ {l : List Ent} {s s' : St}, Runs s l s' → s.first ≤ s'.first
  | _, _, _, .nil => Nat.le_refl _
  | _, _, _, .cons hf h => Nat.le_trans (Ent.act_first hf) h.first_le

theorem j_base (h : JOn W w Fs p dp es sf s) (n : Nat) (x : List UInt8) (hn1 : s.first ≤ n) (hn2 : n ≤ 1073741824) (hx : x.length ≤ 65536) (hT : (encAll n x s.note (s.recs.drop (n - s.first))).length ≤ 4194304) :
    Calls Try.prog 42 #[.pointer (some ⟨p, 0, none⟩), .int .i64 n, .string ⟨x.toArray⟩] w fun e w' => e = .returned (.int .i64 0) ∧
      JOn W w' Fs p dp (imgEnts n x s.note (s.recs.drop (n - s.first))) (bytesOf (imgEnts n x s.note (s.recs.drop (n - s.first)))).length (s.baseAt n x) ∧ ∀ G ∈ Fs, Keep G w w' := by
  refine (log_base h.1 n x hn1 hn2 hx hT).mono ?_
  rintro e w' ⟨rfl, h1, h2⟩
  have h3 := h.2.first_le
  have hok := h.ok
  refine ⟨rfl, ⟨by rw [bytesOf_img]; exact h1, ?_⟩, h2⟩
  exact runs_img n x s.note _ (Nat.le_trans h3 hn1) hn2 hx hok.2.2.2.1 (fun y hy => hok.2.2.2.2 y (List.mem_of_mem_drop hy))

theorem ent_bound {es : List Ent} (h : Runs St.init es s) : ∀ x ∈ es.map Ent.pay, x.length ≤ 1048572 := fun y hy => by
  obtain ⟨e, he, rfl⟩ := List.mem_map.1 hy
  have := h.bound e he
  show (Proofs.Ytfclighheoobaaa.pay e.kind e.n e.s).length ≤ _
  rw [pay_len]
  omega

/-- A crash: the disk has the first j records, and a torn one; no record that was safe is gone. -/
theorem j_crash (h : JOn W w Fs p dp es sf s) (k : Int) :
    Calls Try.prog 20 #[.pointer (some ⟨dp, 0, none⟩), .int .i64 k] w fun e w' => e = .returned (.tuple #[]) ∧ ∃ Fd j t sf', j ≤ es.length ∧ Torn t ∧ (∀ i, i ≤ es.length → (bytesOf (es.take i)).length ≤ sf → i ≤ j) ∧ (sf + k.toNat < (bytesOf es).length → j < es.length) ∧
      IsD w' Fd dp (bytesOf (es.take j) ++ t) sf' ∧ sf' = (bytesOf (es.take j)).length + t.length ∧ Sep W w' (Fd :: Fs) ∧ ∀ G ∈ Fs, Keep G w w' := by
  obtain ⟨⟨Fd, Fl, hd, hl, hs⟩, hr⟩ := h
  refine (sd_crash hd k).mono ?_
  rintro e w' ⟨rfl, hd', nx⟩
  obtain ⟨s5, ks⟩ := hs.next nx
  obtain ⟨j, t, h1, h2, h3, h4, h5⟩ := take_encs (es.map Ent.pay) (sf + k.toNat) (ent_bound hr)
  have e1 : (bytesOf es).take (sf + k.toNat) = bytesOf (es.take j) ++ t := by
    unfold bytesOf
    rw [h2, List.map_take]
  rw [e1] at hd'
  refine ⟨rfl, Fd, j, t, _, by simpa using h1, h3, fun i hi hle => h5 i (by simpa using hi) ?_, fun hlt => by simpa using h4 hlt, hd', by rw [List.length_append], s5.swap.drop, fun G hG => ks G (by simp [hG])⟩
  have : (encs ((es.map Ent.pay).take i)).length ≤ sf := by rw [← List.map_take]; exact hle
  omega

/-- Opening: the new log's state is what the records on the disk say. -/
theorem j_open {Fd : List Nat} {t : List UInt8} (hr : Runs St.init es s) (hes : es.length ≤ 900000) (ht : Torn t) (hd : IsD w Fd dp (bytesOf es ++ t) sf) (hs : Sep W w (Fd :: Fs)) :
    Calls Try.prog 38 #[.pointer (some ⟨dp, 0, none⟩)] w fun e w' => ∃ p sf', e = .returned (.tuple #[.pointer (some ⟨p, 0, none⟩), .int .i64 0]) ∧
      JOn W w' Fs p dp es sf' s ∧ (t = [] → sf' = sf) ∧ (t ≠ [] → sf' = (bytesOf es).length) ∧ ∀ G ∈ Fs, Keep G w w' := by
  refine (wal_open es t hr hes ht hd hs).mono ?_
  rintro e w' ⟨p, sf', rfl, h1, h2, h3, h4⟩
  exact ⟨p, sf', rfl, ⟨h1, hr⟩, h2, h3, h4⟩

theorem j_next (h : JOn W w Fs p dp es sf s) : Calls Try.prog 40 #[.pointer (some ⟨p, 0, none⟩)] w fun e w' => e = .returned (.int .i64 (s.next : Int)) ∧ Ext w w' := by obtain ⟨⟨_, _, _, hl, _⟩, _⟩ := h; exact log_next hl
theorem j_first (h : JOn W w Fs p dp es sf s) : Calls Try.prog 43 #[.pointer (some ⟨p, 0, none⟩)] w fun e w' => e = .returned (.int .i64 (s.first : Int)) ∧ w = w' := by obtain ⟨⟨_, _, _, hl, _⟩, _⟩ := h; exact log_first hl
theorem j_note (h : JOn W w Fs p dp es sf s) : Calls Try.prog 36 #[.pointer (some ⟨p, 0, none⟩)] w fun e w' => e = .returned (tx s.note) ∧ w = w' := by obtain ⟨⟨_, _, _, hl, _⟩, _⟩ := h; exact log_note hl
theorem j_snap (h : JOn W w Fs p dp es sf s) : Calls Try.prog 44 #[.pointer (some ⟨p, 0, none⟩)] w fun e w' => e = .returned (.tuple #[.int .i64 (s.first : Int), tx s.snap]) ∧ Ext w w' := by obtain ⟨⟨_, _, _, hl, _⟩, _⟩ := h; exact log_snap hl
theorem j_get (h : JOn W w Fs p dp es sf s) (n : Int) : Calls Try.prog 39 #[.pointer (some ⟨p, 0, none⟩), .int .i64 n] w fun e w' => e = .returned (.tuple #[tx ((s.get n).getD []), .bool (s.get n).isSome]) ∧ Ext w w' := by obtain ⟨⟨_, _, _, hl, _⟩, _⟩ := h; exact log_get hl n
end

end Go.Proofs.Ytfclighheoobaaa
