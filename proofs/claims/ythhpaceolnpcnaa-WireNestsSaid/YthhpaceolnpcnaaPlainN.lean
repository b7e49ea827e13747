/- The pure side of WireNests: texts within texts. -/
import Derived.Test.YthhpaceolnpcnaaRefL
namespace Go.Proofs.Ythhpaceolnpcnaa
set_option linter.unusedVariables false
set_option linter.unusedSimpArgs false

/-- A number and a text, the text holding a number and a text, and so on. -/
def nest : List Nat → List UInt8 → List UInt8
  | [], core => core
  | n :: l, core => enc n ++ (enc (nest l core).length ++ nest l core)

theorem nest_len (l : List Nat) (core : List UInt8) (hc : core.length ≤ 300) (h : l.length ≤ 30) (hl : ∀ n ∈ l, n < 18446744073709551616) : (nest l core).length ≤ 300 + 20 * l.length := by
  induction l with
  | nil => simpa [nest] using hc
  | cons n l ih =>
    have h1 := ih (by simp at h; omega) (fun m hm => hl m (by simp [hm]))
    have h2 := enc_len n (hl n (by simp))
    simp at h
    have h3 := enc_len (nest l core).length (by omega)
    simp [nest]; omega

theorem nest_num (n : Nat) (l : List Nat) (core : List UInt8) (lost : Bool) (hn : n < 18446744073709551616) : numOf (nest (n :: l) core) lost = (n, enc (nest l core).length ++ nest l core, lost) :=
  numOf_enc n _ lost hn

theorem nest_text (l : List Nat) (core : List UInt8) (lost : Bool) (h : (nest l core).length < 18446744073709551616) : textOf (enc (nest l core).length ++ nest l core) lost = (nest l core, [], lost) := by
  simp [textOf, rdText, rd_enc _ (nest l core) h]

/-- One byte less: the number comes, the text is lost. -/
theorem nest_short_num (n : Nat) (l : List Nat) (core : List UInt8) (hn : n < 18446744073709551616) : numOf (nest (n :: l) core).dropLast false = (n, (enc (nest l core).length ++ nest l core).dropLast, false) := by
  have hne : enc (nest l core).length ++ nest l core ≠ [] := by
    intro h
    have h1 := congrArg List.length h
    have h2 := enc_pos (nest l core).length
    simp only [List.length_append, List.length_nil] at h1
    omega
  show numOf (enc n ++ _).dropLast false = _
  rw [List.dropLast_append_of_ne_nil hne]
  exact numOf_enc n _ false hn

theorem short_text (b : List UInt8) (hb : b.length < 18446744073709551616) : textOf (enc b.length ++ b).dropLast false = ([], [], true) := by
  by_cases h : b = []
  · subst h
    have : enc ([] : List UInt8).length = [0] := by show enc 0 = [0]; simp [enc, encHi_zero]
    rw [this]; rfl
  · rw [List.dropLast_append_of_ne_nil h]
    have hl : ¬ b.length ≤ b.dropLast.length := by
      have : 0 < b.length := List.length_pos_iff.2 h
      simp; omega
    simp only [textOf, rdText, rd_enc b.length b.dropLast hb, Option.bind_some, if_neg hl]

end Go.Proofs.Ythhpaceolnpcnaa
