/- A log of few short texts: what its disk bears needs no bound of its own. The refusals. -/
import Derived.Test.YtfclighheoobaaaKnownW
import Derived.Deep.DeepCutAuto
namespace Go.Proofs.Ytfclighheoobaaa
open Go.RowKit

attribute [local go_sem] ba_append ba_extract ba_size Oper.pureUpon Oper.relUpon

theorem within_nat (n : Int) (hi : Nat) : ∃ b : Nat, within n 0 (hi : Int) = b ∧ b ≤ hi := by
  have h1 := Int.emod_nonneg n (b := (hi : Int) + 1) (by omega)
  have h2 := Int.emod_lt_of_pos n (b := (hi : Int) + 1) (by omega)
  refine ⟨(within n 0 (hi : Int)).toNat, ?_, ?_⟩ <;> (unfold within; simp only [Int.sub_zero, Int.zero_add]; omega)

/-- At most m records and calls, each text of at most 100 bytes. -/
def Small (es : List Ent) (s : St) (m : Nat) : Prop := (bytesOf es).length ≤ 121 * (m + 2) ∧ es.length ≤ m + 2 ∧ s.recs.length ≤ m ∧ s.snap.length ≤ 100 ∧ s.note.length ≤ 100 ∧ ∀ x ∈ s.recs, x.length ≤ 100
theorem Small.more {es : List Ent} {s : St} {m m' : Nat} (h : Small es s m) (hm : m ≤ m') : Small es s m' := by
  obtain ⟨h1, h2, h3, h4⟩ := h
  exact ⟨by omega, by omega, by omega, h4⟩
theorem small_init : Small [] St.init 0 := ⟨by decide, by decide, by decide, by decide, by decide, by simp [St.init]⟩
theorem Small.put {es : List Ent} {s : St} {m : Nat} (h : Small es s m) (n : Nat) {x : List UInt8} (hx : x.length ≤ 100) : Small (es ++ [⟨1, n, x⟩]) (s.putAt n x) (m + 1) := by
  obtain ⟨h1, h2, h3, h4, h5, h6⟩ := h
  refine ⟨?_, by simp; omega, ?_, h4, h5, ?_⟩
  · rw [bytesOf_snoc, List.length_append, enc_len]; show _ + (x.length + 21) ≤ _; omega
  · simp only [St.putAt, List.length_append, List.length_take, List.length_cons, List.length_nil]; omega
  · intro y hy
    simp only [St.putAt, List.mem_append, List.mem_singleton] at hy
    rcases hy with hy | rfl
    · exact h6 y (List.mem_of_mem_take hy)
    · exact hx
theorem Small.meta_ {es : List Ent} {s : St} {m : Nat} (h : Small es s m) {x : List UInt8} (hx : x.length ≤ 100) : Small (es ++ [⟨2, 0, x⟩]) { s with note := x } (m + 1) := by
  obtain ⟨h1, h2, h3, h4, h5, h6⟩ := h
  refine ⟨?_, by simp; omega, by show s.recs.length ≤ _; omega, h4, hx, h6⟩
  rw [bytesOf_snoc, List.length_append, enc_len]; show _ + (x.length + 21) ≤ _; omega
theorem puts_len : ∀ (l : List (List UInt8)) (n : Nat), (imgEnts.puts n l).length = l.length
  | [], _ => rfl
  | x :: l, n => by simp [imgEnts.puts, puts_len l]
theorem encPuts_short : ∀ (l : List (List UInt8)) (n : Nat), (∀ x ∈ l, x.length ≤ 100) → (encPuts n l).length ≤ 121 * l.length
  | [], _, _ => by simp [encPuts]
  | x :: l, n, h => by
    have h1 := encPuts_short l (n + 1) (fun y hy => h y (by simp [hy]))
    have h2 := h x (by simp)
    show (enc 1 n x ++ encPuts (n + 1) l).length ≤ _
    rw [List.length_append, enc_len, List.length_cons]
    omega
theorem encAll_short {s : St} {es : List Ent} {m : Nat} (h : Small es s m) (n : Nat) {x : List UInt8} (hx : x.length ≤ 100) (k : Nat) : (encAll n x s.note (s.recs.drop k)).length ≤ 121 * (m + 2) := by
  obtain ⟨h1, h2, h3, h4, h5, h6⟩ := h
  have h7 := encPuts_short (s.recs.drop k) n (fun y hy => h6 y (List.mem_of_mem_drop hy))
  rw [List.length_drop] at h7
  unfold encAll
  rw [List.length_append, List.length_append, enc_len, enc_len]
  omega
theorem Small.base {es : List Ent} {s : St} {m : Nat} (h : Small es s m) (n : Nat) {x : List UInt8} (hx : x.length ≤ 100) : Small (imgEnts n x s.note (s.recs.drop (n - s.first))) (s.baseAt n x) m := by
  have h0 := encAll_short h n hx (n - s.first)
  obtain ⟨h1, h2, h3, h4, h5, h6⟩ := h
  refine ⟨by rw [bytesOf_img]; exact h0, ?_, ?_, hx, h5, fun y hy => h6 y (List.mem_of_mem_drop hy)⟩
  · show (imgEnts.puts n (s.recs.drop (n - s.first))).length + 1 + 1 ≤ _
    rw [puts_len, List.length_drop]
    omega
  · show (s.recs.drop (n - s.first)).length ≤ _
    rw [List.length_drop]
    omega

/-- A log of few short texts, whatever records are on its disk. -/
def JS (W w : World) (Fs : List (List Nat)) (p dp sf : Nat) (s : St) (m : Nat) : Prop := ∃ es, JOn W w Fs p dp es sf s ∧ Small es s m

section
variable {W w w' : World} {Fs : List (List Nat)} {p dp sf : Nat} {s : St} {m : Nat}
theorem JS.ext (h : JS W w Fs p dp sf s m) (e : Ext w w') : JS W w' Fs p dp sf s m := by obtain ⟨es, h, hs⟩ := h; exact ⟨es, h.ext e, hs⟩
theorem JS.below (h : JS W w Fs p dp sf s m) : Below W.heap.size W w := by obtain ⟨es, h, hs⟩ := h; exact h.below
theorem JS.ok (h : JS W w Fs p dp sf s m) : s.ok := by obtain ⟨es, h, hs⟩ := h; exact h.ok
theorem JS.more (h : JS W w Fs p dp sf s m) {m' : Nat} (hm : m ≤ m') : JS W w Fs p dp sf s m' := by obtain ⟨es, h, hs⟩ := h; exact ⟨es, h, hs.more hm⟩

theorem js_fresh (w : World) : Calls Try.prog 32 #[] w fun e w' => ∃ p dp, e = .returned (.tuple #[.pointer (some ⟨dp, 0, none⟩), .pointer (some ⟨p, 0, none⟩), .bool true]) ∧ JS w w' [] p dp 0 St.init 0 := by
  refine (fresh_j w).mono ?_
  rintro e w' ⟨p, dp, rfl, h⟩
  exact ⟨p, dp, rfl, _, h, small_init⟩

theorem js_put (h : JS W w Fs p dp sf s m) (n : Nat) (x : List UInt8) (hn1 : s.first ≤ n) (hn2 : n ≤ s.next) (hn3 : n < 1073741824) (hx : x.length ≤ 100) (hm : m ≤ 1000) :
    Calls Try.prog 33 #[.pointer (some ⟨p, 0, none⟩), .int .i64 n, .string ⟨x.toArray⟩] w fun e w' => e = .returned (.int .i64 0) ∧ JS W w' Fs p dp sf (s.putAt n x) (m + 1) ∧ ∀ G ∈ Fs, Keep G w w' := by
  obtain ⟨es, h, hs⟩ := h
  refine (j_put h n x hn1 hn2 hn3 (by omega) (by have := hs.1; omega) (by have := hs.2.2.1; omega)).mono ?_
  rintro e w' ⟨rfl, h1, h2⟩
  exact ⟨rfl, ⟨_, h1, hs.put n hx⟩, h2⟩
theorem js_meta (h : JS W w Fs p dp sf s m) (x : List UInt8) (hx : x.length ≤ 100) (hm : m ≤ 1000) :
    Calls Try.prog 34 #[.pointer (some ⟨p, 0, none⟩), .string ⟨x.toArray⟩] w fun e w' => e = .returned (.int .i64 0) ∧ JS W w' Fs p dp sf { s with note := x } (m + 1) ∧ ∀ G ∈ Fs, Keep G w w' := by
  obtain ⟨es, h, hs⟩ := h
  refine (j_meta h x (by omega) (by have := hs.1; omega)).mono ?_
  rintro e w' ⟨rfl, h1, h2⟩
  exact ⟨rfl, ⟨_, h1, hs.meta_ hx⟩, h2⟩
theorem js_base (h : JS W w Fs p dp sf s m) (n : Nat) (x : List UInt8) (hn1 : s.first ≤ n) (hn2 : n ≤ 1073741824) (hx : x.length ≤ 100) (hm : m ≤ 1000) :
    Calls Try.prog 42 #[.pointer (some ⟨p, 0, none⟩), .int .i64 n, .string ⟨x.toArray⟩] w fun e w' => e = .returned (.int .i64 0) ∧ ∃ sf', JS W w' Fs p dp sf' (s.baseAt n x) m ∧ ∀ G ∈ Fs, Keep G w w' := by
  obtain ⟨es, h, hs⟩ := h
  refine (j_base h n x hn1 hn2 (by omega) (by have := encAll_short hs n hx (n - s.first); omega)).mono ?_
  rintro e w' ⟨rfl, h1, h2⟩
  exact ⟨rfl, _, ⟨_, h1, hs.base n hx⟩, h2⟩
theorem js_sync (h : JS W w Fs p dp sf s m) : Calls Try.prog 37 #[.pointer (some ⟨p, 0, none⟩)] w fun e w' => e = .returned (.tuple #[]) ∧ ∃ sf', JS W w' Fs p dp sf' s m ∧ ∀ G ∈ Fs, Keep G w w' := by
  obtain ⟨es, h, hs⟩ := h
  refine (j_sync h).mono ?_
  rintro e w' ⟨rfl, h1, h2⟩
  exact ⟨rfl, _, ⟨_, h1, hs⟩, h2⟩
/-- Opened again, without a crash. -/
theorem js_open (h : JS W w Fs p dp sf s m) (hm : m ≤ 1000) : Calls Try.prog 38 #[.pointer (some ⟨dp, 0, none⟩)] w fun e w' => ∃ p, e = .returned (.tuple #[.pointer (some ⟨p, 0, none⟩), .int .i64 0]) ∧ JS W w' Fs p dp sf s m ∧ ∀ G ∈ Fs, Keep G w w' := by
  obtain ⟨es, ⟨⟨Fd, Fl, hd, hl, hp⟩, hr⟩, hs⟩ := h
  refine (j_open (t := []) hr (by have := hs.2.1; omega) torn_nil (by simpa using hd) hp.swap.drop).mono ?_
  rintro e w' ⟨p, sf', rfl, h1, h2, _, h4⟩
  obtain rfl := h2 rfl
  exact ⟨p, rfl, ⟨es, h1, hs⟩, h4⟩
theorem js_next (h : JS W w Fs p dp sf s m) : Calls Try.prog 40 #[.pointer (some ⟨p, 0, none⟩)] w fun e w' => e = .returned (.int .i64 (s.next : Int)) ∧ Ext w w' := by obtain ⟨es, h, _⟩ := h; exact j_next h
theorem js_first (h : JS W w Fs p dp sf s m) : Calls Try.prog 43 #[.pointer (some ⟨p, 0, none⟩)] w fun e w' => e = .returned (.int .i64 (s.first : Int)) ∧ w = w' := by obtain ⟨es, h, _⟩ := h; exact j_first h
theorem js_note (h : JS W w Fs p dp sf s m) {x : List UInt8} (hx : s.note = x) : Calls Try.prog 36 #[.pointer (some ⟨p, 0, none⟩)] w fun e w' => e = .returned (.string ⟨x.toArray⟩) ∧ w = w' := by obtain ⟨es, h, _⟩ := h; subst hx; exact j_note h
theorem js_snap (h : JS W w Fs p dp sf s m) : Calls Try.prog 44 #[.pointer (some ⟨p, 0, none⟩)] w fun e w' => e = .returned (.tuple #[.int .i64 (s.first : Int), .string ⟨s.snap.toArray⟩]) ∧ Ext w w' := by obtain ⟨es, h, _⟩ := h; exact j_snap h
theorem js_get (h : JS W w Fs p dp sf s m) (n : Int) : Calls Try.prog 39 #[.pointer (some ⟨p, 0, none⟩), .int .i64 n] w fun e w' => e = .returned (.tuple #[tx ((s.get n).getD []), .bool (s.get n).isSome]) ∧ Ext w w' := by obtain ⟨es, h, _⟩ := h; exact j_get h n
theorem js_get_some (h : JS W w Fs p dp sf s m) {n : Int} {x : List UInt8} (hx : s.get n = some x) : Calls Try.prog 39 #[.pointer (some ⟨p, 0, none⟩), .int .i64 n] w fun e w' => e = .returned (.tuple #[.string ⟨x.toArray⟩, .bool true]) ∧ Ext w w' := by have := js_get h n; rw [hx] at this; exact this
theorem js_get_none (h : JS W w Fs p dp sf s m) {n : Int} (hx : s.get n = none) : Calls Try.prog 39 #[.pointer (some ⟨p, 0, none⟩), .int .i64 n] w fun e w' => e = .returned (.tuple #[.string ⟨#[]⟩, .bool false]) ∧ Ext w w' := by have := js_get h n; rw [hx] at this; exact this
end

end Go.Proofs.Ytfclighheoobaaa
