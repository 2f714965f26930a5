/- agree: a record as bytes; a message sent; what a function value writes. -/
import Derived.Test.YtiglblfjmmdeeaaGreatAgGet
import Derived.Test.YtiglblfjmmdeeaaGreatFrames
namespace Go.Proofs.YtiglblfjmmdeeaaGreat
open Go.RowKit Go.Maps Go.ChangeMaps

attribute [local go_sem] Oper.pureUpon Oper.relUpon

/-- A function value that writes bs into a new writer that holds l, as long as what was there at w stands. -/
def Writes (w : World) (fb : Nat) (caps : Array Value) (l bs : List UInt8) : Prop :=
  (∀ args w, (callFunc fb args).run Tryz.prog w = .ok (.enter fb args) w) ∧
  ∀ w1 F p, Ext w w1 → IsWr w1 F p l → (∀ k ∈ F, w.heap.size ≤ k) → Calls Tryz.prog fb (#[.pointer (some ⟨p, 0, none⟩)] ++ caps) w1 fun e w2 => e = .returned (.tuple #[]) ∧ ∃ F', IsWr w2 F' p (l ++ bs) ∧ Next F F' w1 w2
theorem Writes.ext {w w' : World} {fb : Nat} {caps : Array Value} {l bs : List UInt8} (h : Writes w fb caps l bs) (e : Ext w w') : Writes w' fb caps l bs :=
  ⟨h.1, fun w1 F p he hw hF => h.2 w1 F p (e.trans he) hw (fun k hk => Nat.le_trans e.size (hF k hk))⟩

theorem Next.ext_of {F F' : List Nat} {w w1 w2 : World} (e : Ext w w1) (n : Next F F' w1 w2) (hF : ∀ k ∈ F, w.heap.size ≤ k) : Ext w w2 ∧ ∀ k ∈ F', w.heap.size ≤ k :=
  ⟨⟨n.1.os.trans e.os, n.1.tape.trans e.tape, n.1.output.trans e.output, Nat.le_trans e.size n.1.size, fun k hk => (n.1.block k (Nat.lt_of_lt_of_le hk e.size) (fun h => by have := hF k h; omega)).trans (e.block k hk)⟩, fun k hk => by
    rcases (n.2 k hk).1 with h1 | h1
    · exact hF k h1
    · exact Nat.le_trans e.size h1⟩

set_option maxRecDepth 100000 in
theorem frame97 (w : World) (kind fb : Nat) (caps : Array Value) (bs : List UInt8) (hk : kind < 256) (hb : bs.length ≤ 80000) (hw : Writes w fb caps [UInt8.ofNat kind] bs) :
    Calls Tryz.prog 85 #[.int .i64 kind, .func (.func fb) #[] caps] w fun e w' => ∃ A c, e = .returned (.slice A (frm ([UInt8.ofNat kind] ++ bs)).length c) ∧
      w'.ownsRow w.heap.size 5 1 (.slice A (frm ([UInt8.ofNat kind] ++ bs)).length c) (frm ([UInt8.ofNat kind] ++ bs)).length (bys (frm ([UInt8.ofNat kind] ++ bs))) ∧ Ext w w' := by
  have hen := hw.1
  have HW := Lib.hid hw.2
  clear hw
  obtain ⟨l9, hl9⟩ : ∃ l9, [UInt8.ofNat kind] ++ bs = l9 := ⟨_, rfl⟩
  have hll : l9.length ≤ 80001 := by rw [← hl9]; simp; omega
  rw [hl9]
  have HL9 := Lib.hid hl9
  clear hl9
  go_enter Tryz.func85, Tryz.ntmps85
  go_wp2_with fail
  refine (writer_new w).mono ?_
  rintro e w1 ⟨p, rfl, hp, h1, he1⟩
  go_wp2_with fail
  refine (writer_byte h1 kind (by omega) (by simp)).mono ?_
  rintro e w2 ⟨rfl, F2, h2, n2⟩
  simp only [List.nil_append] at h2
  obtain ⟨he2, hF2⟩ := n2.ext_of he1 (by simp; omega)
  go_wp2_with fail
  refine (HW.out w2 F2 p he2 h2 hF2).mono ?_
  rintro e w3 ⟨rfl, F3, h3, n3⟩
  obtain ⟨he3, hF3⟩ := n3.ext_of he2 hF2
  rw [HL9.out] at h3
  go_wp2_with fail
  refine (writer_done h3 (by omega)).mono ?_
  rintro e w4 ⟨A4, c4, rfl, ho4, he4⟩
  go_wp2_with fail
  refine (frame_calls w4 w4.heap.size A4 l9.length c4 l9 (Reads.of_own ho4) (Nat.le_refl _) (by omega)).mono ?_
  rintro e w5 ⟨A5, c5, rfl, ho5, he5⟩
  go_wp2_with fail
  go_ret
  have he := he3.trans he4
  exact ⟨A5, c5, rfl, own_more ho5 he.size, he.trans he5⟩


end Go.Proofs.YtiglblfjmmdeeaaGreat
