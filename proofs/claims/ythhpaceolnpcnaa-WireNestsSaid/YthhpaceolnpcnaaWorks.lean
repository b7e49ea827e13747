/- The walk of the laws' own works(): a number, and a text, there and back. -/
import Derived.Test.YthhpaceolnpcnaaWalkR
namespace Go.Proofs.Ythhpaceolnpcnaa
open Go.RowKit
set_option maxRecDepth 100000
set_option linter.unusedSimpArgs false
set_option linter.unusedVariables false

theorem e300 : (⟨#[]⟩ ++ ⟨(enc 300).toArray⟩ : ByteArray) = ⟨#[130, 44]⟩ := by
  have : enc 300 = [130, 44] := by simp [enc, encHi]
  rw [this]; rfl
theorem eab : (⟨#[130, 44]⟩ ++ ⟨(enc (⟨#[97, 98]⟩ : ByteArray).size).toArray⟩ ++ ⟨#[97, 98]⟩ : ByteArray) = ⟨#[130, 44, 2, 97, 98]⟩ := by
  have : enc (⟨#[97, 98]⟩ : ByteArray).size = [2] := by show enc 2 = [2]; simp [enc, encHi_zero]
  rw [this]; rfl
theorem n300 : numOf [130, 44, 2, 97, 98] false = (300, [2, 97, 98], false) := by decide
theorem tab : textOf [2, 97, 98] false = ([97, 98], [], false) := by decide

def TrueOut (w : World) (e : Ending) (w' : World) : Prop := e = .returned (.bool true) ∧ Below w.heap.size w w'

theorem num_is {p : Nat} {l : List UInt8} {lost : Bool} {w : World} (h : RdAt w p l lost) {n : Nat} {l' : List UInt8} {lost' : Bool} (hn : numOf l lost = (n, l', lost')) :
    Calls Try.prog 15 #[.pointer (some ⟨p, 0, none⟩)] w (NumOut w p n l' lost') := by
  have := num_any p l lost w h
  rw [hn] at this
  exact this
theorem text_is {p : Nat} {l : List UInt8} {lost : Bool} {w : World} (h : RdAt w p l lost) {t : List UInt8} {l' : List UInt8} {lost' : Bool} (hn : textOf l lost = (t, l', lost')) :
    Calls Try.prog 17 #[.pointer (some ⟨p, 0, none⟩)] w (TextOut w p t l' lost') := by
  have := text_any p l lost w h
  rw [hn] at this
  exact this

set_option maxHeartbeats 2000000 in
theorem works_any (w : World) : Calls Try.prog 13 #[] w (TrueOut w) := by
  have h1 := fun wx => putNum_any ⟨#[]⟩ 300 wx (by omega) (Nat.zero_le _)
  have h2 := fun wx => putText_any ⟨#[130, 44]⟩ ⟨#[97, 98]⟩ wx (by decide) (by decide)
  have h3 := fun wx => newReader_any ⟨#[130, 44, 2, 97, 98]⟩ wx (by decide)
  rw [e300] at h1
  rw [eab] at h2
  go_enter Try.func13, Try.ntmps13
  go_wp2_with (first
    | (go_at_call 9; refine (h1 _).mono ?_; rintro e w1 ⟨rfl, hb1⟩)
    | (go_at_call 11; refine (h2 _).mono ?_; rintro e w2 ⟨rfl, hb2⟩)
    | (go_at_call 14; refine (h3 _).mono ?_; rintro e w3 ⟨rfl, hr3, hg3⟩)
    | (go_at_call 15; refine (num_is hr3 n300).mono ?_; rintro e w4 ⟨rfl, hr4, hg4⟩)
    | (go_at_call 17; refine (text_is hr4 tab).mono ?_; rintro e w5 ⟨rfl, hr5, hg5⟩)
    | (go_at_call 19; refine (ok_any _ _ _ _ hr5).mono ?_; rintro e w' ⟨rfl, rfl⟩)
    | (go_at_call 21; refine (end_any _ _ _ _ hr5).mono ?_; rintro e w' ⟨rfl, rfl⟩))
  go_ret
  have hb12 := hb1.trans (hb2.mono hb1.size)
  have hb3 := hb12.grown hg3 hb12.size (by simp)
  have hb4 := hb3.grown hg4 hb3.size (by have := hb12.size; simp; omega)
  have hb5 := hb4.grown hg5 hb4.size (by have := hb12.size; simp; omega)
  exact ⟨rfl, hb5⟩

theorem below_of_drew {w w' : World} {n : Nat} (h : Below (w.drewN n).heap.size (w.drewN n) w') : Below w.heap.size w w' := ⟨h.os, h.tape, h.output, h.size, h.block⟩
theorem _root_.Go.RowKit.Below.next {w w1 w2 : World} (h : Below w.heap.size w w1) (k : Below w1.heap.size w1 w2) : Below w.heap.size w w2 := h.trans (k.mono h.size)

end Go.Proofs.Ythhpaceolnpcnaa
