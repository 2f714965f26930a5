/- What a log refuses: nothing is changed. -/
import Derived.Test.YtfclighheoobaaaSmall
import Derived.Deep.DeepCutAuto
namespace Go.Proofs.Ytfclighheoobaaa
open Go.RowKit

attribute [local go_sem] ba_append ba_extract ba_size Oper.pureUpon Oper.relUpon

theorem open_nil (w : World) : Calls Try.prog 38 #[.pointer none] w fun e w' => e = .returned (.tuple #[.pointer none, .int .i64 1]) ∧ w = w' := by
  go_enter Try.func38, Try.ntmps38
  go_wp2_with fail
  refine wp_scope_once 1 (fun _ _ => False) (fun _ _ => 0) rfl (fun hp => ?_) (fun _ _ h => h.elim)
  go_wp2_with fail
  simp only [Exit.jump]
  go_ret2
  exact ⟨rfl, rfl⟩

section
variable {W w : World} {Fs : List (List Nat)} {F : List Nat} {p dp : Nat} {es : List Ent} {sf m : Nat} {s : St}

set_option maxRecDepth 100000 in
theorem log_put_arg (h : IsLog w F p dp s) (n : Int) (x : ByteArray) (hn : n < (s.first : Int) ∨ (s.next : Int) < n ∨ 1073741824 ≤ n) :
    Calls Try.prog 33 #[.pointer (some ⟨p, 0, none⟩), .int .i64 n, .string x] w fun e w' => e = .returned (.int .i64 1) ∧ Ext w w' := by
  have hnx := log_next h
  have c10 : w.cell? ⟨p, 1, none⟩ = some (.int .i64 (s.first : Int)) := by obtain ⟨v, hh, _⟩ := h; have := hh.1.cell 1; simpa using this
  generalize s.next = nx at *
  generalize s.first = f at *
  clear h
  by_cases h1 : n < (f : Int)
  · clear hn
    go_enter Try.func33, Try.ntmps33
    go_wp2_with fail
    go_ret
    exact ⟨rfl, Ext.refl _⟩
  by_cases h2 : (nx : Int) < n
  · clear hn
    go_enter Try.func33, Try.ntmps33
    go_wp2_with fail
    refine hnx.mono ?_
    rintro e w1 ⟨rfl, he1⟩
    go_wp2_with fail
    go_ret
    exact ⟨rfl, he1⟩
  · have h3 : decide ((1073741824 : Int) ≤ n) = true := decide_eq_true (by omega)
    clear hn
    go_enter Try.func33, Try.ntmps33
    go_wp2_with fail
    refine hnx.mono ?_
    rintro e w1 ⟨rfl, he1⟩
    go_wp2_with fail
    go_ret
    exact ⟨rfl, he1⟩

set_option maxRecDepth 100000 in
theorem log_put_long (h : IsLog w F p dp s) (n : Int) (x : ByteArray) (hn1 : (s.first : Int) ≤ n) (hn2 : n ≤ (s.next : Int)) (hn3 : n < 1073741824) (hx : 65536 < x.size) :
    Calls Try.prog 33 #[.pointer (some ⟨p, 0, none⟩), .int .i64 n, .string x] w fun e w' => e = .returned (.int .i64 3) ∧ Ext w w' := by
  have hnx := log_next h
  have c10 : w.cell? ⟨p, 1, none⟩ = some (.int .i64 (s.first : Int)) := by obtain ⟨v, hh, _⟩ := h; have := hh.1.cell 1; simpa using this
  generalize s.next = nx at *
  generalize s.first = f at *
  clear h
  have i1 : ¬ n < (f : Int) := by omega
  have i2 : ¬ n > (nx : Int) := by omega
  have h3 : decide ((1073741824 : Int) ≤ n) = false := decide_eq_false (by omega)
  have h4 : (x.size : Int) > 65536 := by omega
  clear hn1 hn2 hn3 hx
  go_enter Try.func33, Try.ntmps33
  go_wp2_with fail
  refine hnx.mono ?_
  rintro e w1 ⟨rfl, he1⟩
  go_wp2_with fail
  go_ret
  exact ⟨rfl, he1⟩

set_option maxRecDepth 100000 in
theorem log_meta_long (w : World) (p : Nat) (x : ByteArray) (hx : 65536 < x.size) :
    Calls Try.prog 34 #[.pointer (some ⟨p, 0, none⟩), .string x] w fun e w' => e = .returned (.int .i64 3) ∧ Ext w w' := by
  have h4 : (x.size : Int) > 65536 := by omega
  clear hx
  go_enter Try.func34, Try.ntmps34
  go_wp2_with fail
  go_ret
  exact ⟨rfl, Ext.refl _⟩

set_option maxRecDepth 100000 in
theorem log_base_arg (h : IsLog w F p dp s) (n : Int) (x : ByteArray) (hn : n < (s.first : Int) ∨ 1073741824 < n) :
    Calls Try.prog 42 #[.pointer (some ⟨p, 0, none⟩), .int .i64 n, .string x] w fun e w' => e = .returned (.int .i64 1) ∧ Ext w w' := by
  have c10 : w.cell? ⟨p, 1, none⟩ = some (.int .i64 (s.first : Int)) := by obtain ⟨v, hh, _⟩ := h; have := hh.1.cell 1; simpa using this
  generalize s.first = f at *
  clear h
  by_cases h1 : n < (f : Int)
  · clear hn
    go_enter Try.func42, Try.ntmps42
    go_wp2_with fail
    go_ret
    exact ⟨rfl, Ext.refl _⟩
  · have h3 : decide ((1073741824 : Int) < n) = true := decide_eq_true (by omega)
    clear hn
    go_enter Try.func42, Try.ntmps42
    go_wp2_with fail
    go_ret
    exact ⟨rfl, Ext.refl _⟩

set_option maxRecDepth 100000 in
theorem log_base_long (h : IsLog w F p dp s) (n : Int) (x : ByteArray) (hn1 : (s.first : Int) ≤ n) (hn3 : n ≤ 1073741824) (hx : 65536 < x.size) :
    Calls Try.prog 42 #[.pointer (some ⟨p, 0, none⟩), .int .i64 n, .string x] w fun e w' => e = .returned (.int .i64 3) ∧ Ext w w' := by
  have c10 : w.cell? ⟨p, 1, none⟩ = some (.int .i64 (s.first : Int)) := by obtain ⟨v, hh, _⟩ := h; have := hh.1.cell 1; simpa using this
  generalize s.first = f at *
  clear h
  have i1 : ¬ n < (f : Int) := by omega
  have h3 : decide ((1073741824 : Int) < n) = false := decide_eq_false (by omega)
  have h4 : (x.size : Int) > 65536 := by omega
  clear hn1 hn3 hx
  go_enter Try.func42, Try.ntmps42
  go_wp2_with fail
  go_ret
  exact ⟨rfl, Ext.refl _⟩

theorem j_put_arg (h : JOn W w Fs p dp es sf s) (n : Int) (x : ByteArray) (hn : n < (s.first : Int) ∨ (s.next : Int) < n ∨ 1073741824 ≤ n) :
    Calls Try.prog 33 #[.pointer (some ⟨p, 0, none⟩), .int .i64 n, .string x] w fun e w' => e = .returned (.int .i64 1) ∧ Ext w w' := by obtain ⟨⟨_, _, _, hl, _⟩, _⟩ := h; exact log_put_arg hl n x hn
theorem j_put_long (h : JOn W w Fs p dp es sf s) (n : Int) (x : ByteArray) (hn1 : (s.first : Int) ≤ n) (hn2 : n ≤ (s.next : Int)) (hn3 : n < 1073741824) (hx : 65536 < x.size) :
    Calls Try.prog 33 #[.pointer (some ⟨p, 0, none⟩), .int .i64 n, .string x] w fun e w' => e = .returned (.int .i64 3) ∧ Ext w w' := by obtain ⟨⟨_, _, _, hl, _⟩, _⟩ := h; exact log_put_long hl n x hn1 hn2 hn3 hx
theorem j_base_arg (h : JOn W w Fs p dp es sf s) (n : Int) (x : ByteArray) (hn : n < (s.first : Int) ∨ 1073741824 < n) :
    Calls Try.prog 42 #[.pointer (some ⟨p, 0, none⟩), .int .i64 n, .string x] w fun e w' => e = .returned (.int .i64 1) ∧ Ext w w' := by obtain ⟨⟨_, _, _, hl, _⟩, _⟩ := h; exact log_base_arg hl n x hn
theorem j_base_long (h : JOn W w Fs p dp es sf s) (n : Int) (x : ByteArray) (hn1 : (s.first : Int) ≤ n) (hn3 : n ≤ 1073741824) (hx : 65536 < x.size) :
    Calls Try.prog 42 #[.pointer (some ⟨p, 0, none⟩), .int .i64 n, .string x] w fun e w' => e = .returned (.int .i64 3) ∧ Ext w w' := by obtain ⟨⟨_, _, _, hl, _⟩, _⟩ := h; exact log_base_long hl n x hn1 hn3 hx

/-! ### Any number -/
/-- What Put answers, and what the log is behind it, whatever the number. -/
def St.putOk (s : St) (n : Int) : Bool := decide ((s.first : Int) ≤ n ∧ n ≤ (s.next : Int) ∧ n < 1073741824)
def St.putI (s : St) (n : Int) (x : List UInt8) : St := if s.putOk n then s.putAt n.toNat x else s
def St.baseOk (s : St) (n : Int) : Bool := decide ((s.first : Int) ≤ n ∧ n ≤ 1073741824)
def St.baseI (s : St) (n : Int) (x : List UInt8) : St := if s.baseOk n then s.baseAt n.toNat x else s
def codeOf (b : Bool) : Value := .int .i64 (if b then 0 else 1)

theorem js_putI (h : JS W w Fs p dp sf s m) (n : Int) (x : List UInt8) (hx : x.length ≤ 100) (hm : m ≤ 1000) :
    Calls Try.prog 33 #[.pointer (some ⟨p, 0, none⟩), .int .i64 n, .string ⟨x.toArray⟩] w fun e w' => e = .returned (codeOf (s.putOk n)) ∧ JS W w' Fs p dp sf (s.putI n x) (m + 1) ∧ ∀ G ∈ Fs, Keep G w w' := by
  by_cases hn : (s.first : Int) ≤ n ∧ n ≤ (s.next : Int) ∧ n < 1073741824
  · have e1 : s.putOk n = true := decide_eq_true hn
    have e2 : ((n.toNat : Nat) : Int) = n := Int.toNat_of_nonneg (by omega)
    have h1 := js_put h n.toNat x (by omega) (by omega) (by omega) hx hm
    rw [e2] at h1
    unfold St.putI
    rw [e1, if_pos rfl]
    exact h1
  · have e1 : s.putOk n = false := decide_eq_false hn
    unfold St.putI
    rw [e1, if_neg (by decide)]
    have h0 := h
    obtain ⟨es, hj, hs⟩ := h
    refine (j_put_arg hj n _ (by omega)).mono ?_
    rintro e w' ⟨rfl, he⟩
    refine ⟨rfl, (h0.ext he).more (by omega), ?_⟩
    obtain ⟨⟨_, _, _, _, hsp⟩, _⟩ := hj
    exact fun G hG => hsp.keep he G (by simp [hG])
theorem js_baseI (h : JS W w Fs p dp sf s m) (n : Int) (x : List UInt8) (hx : x.length ≤ 100) (hm : m ≤ 1000) :
    Calls Try.prog 42 #[.pointer (some ⟨p, 0, none⟩), .int .i64 n, .string ⟨x.toArray⟩] w fun e w' => e = .returned (codeOf (s.baseOk n)) ∧ ∃ sf', JS W w' Fs p dp sf' (s.baseI n x) m ∧ ∀ G ∈ Fs, Keep G w w' := by
  by_cases hn : (s.first : Int) ≤ n ∧ n ≤ 1073741824
  · have e1 : s.baseOk n = true := decide_eq_true hn
    have e2 : ((n.toNat : Nat) : Int) = n := Int.toNat_of_nonneg (by omega)
    have h1 := js_base h n.toNat x (by omega) (by omega) hx hm
    rw [e2] at h1
    unfold St.baseI
    rw [e1, if_pos rfl]
    exact h1
  · have e1 : s.baseOk n = false := decide_eq_false hn
    unfold St.baseI
    rw [e1, if_neg (by decide)]
    have h0 := h
    obtain ⟨es, hj, hs⟩ := h
    refine (j_base_arg hj n _ (by omega)).mono ?_
    rintro e w' ⟨rfl, he⟩
    refine ⟨rfl, sf, h0.ext he, ?_⟩
    obtain ⟨⟨_, _, _, _, hsp⟩, _⟩ := hj
    exact fun G hG => hsp.keep he G (by simp [hG])
end

end Go.Proofs.Ytfclighheoobaaa
