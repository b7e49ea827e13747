/- The pure side of WireGrows: how long rows are, and how they are ordered. -/
import Derived.Test.YthhpaceolnpcnaaPlain
import GoSem.Op.String
namespace Go.Proofs.Ythhpaceolnpcnaa
set_option linter.unusedVariables false
set_option linter.unusedSimpArgs false

theorem encHi_mono (k : Nat) : ∀ n m, m ≤ k → n ≤ m → (encHi n).length ≤ (encHi m).length := by
  induction k with
  | zero => intro n m hm hn; obtain rfl : n = m := by omega
            exact Nat.le_refl _
  | succ k ih =>
    intro n m hm hn
    by_cases h0 : n = 0
    · subst h0; simp [encHi_zero]
    · rw [encHi_pos n (by omega), encHi_pos m (by omega)]
      have := ih (n / 128) (m / 128) (by omega) (by omega)
      simp; omega

theorem enc_mono {n m : Nat} (h : n ≤ m) : (enc n).length ≤ (enc m).length := by
  have := encHi_mono (m / 128) (n / 128) (m / 128) (Nat.le_refl _) (by omega)
  simp [enc]; omega

theorem enc_lt_of_len {n m : Nat} (h : (enc n).length < (enc m).length) : n < m := by
  rcases Nat.lt_or_ge n m with h' | h'
  · exact h'
  · have := enc_mono h'; omega

theorem enc_times (a : Nat) (h : 0 < a) : (enc (a * 128)).length = (enc a).length + 1 := by
  unfold enc
  rw [show a * 128 / 128 = a by omega, encHi_pos a h]
  simp

/-- Two bytes of the same make: both from 128 on, or both below. -/
def Alike (c d : UInt8) : Prop := (128 ≤ c.toNat ∧ 128 ≤ d.toNat) ∨ (c.toNat < 128 ∧ d.toNat < 128)

theorem less_val : ∀ (x y : List UInt8) (n m : Nat), x.length = y.length → (∀ i, i < x.length → Alike (x.getD i 0) (y.getD i 0)) →
    (n < m → val n x < val m y) ∧ (m < n → val m y < val n x) ∧ (n = m → Op.bytesLess x y = decide (val n x < val m y))
  | [], [], n, m, _, _ => ⟨fun h => h, fun h => h, fun h => by subst h; simp [val, Op.bytesLess]⟩
  | [], _ :: _, _, _, h, _ => by simp at h
  | _ :: _, [], _, _, h, _ => by simp at h
  | c :: x, d :: y, n, m, h, ha => by
    have h0 := ha 0 (by simp)
    simp only [List.getD_cons_zero] at h0
    have hc := UInt8.toNat_lt c
    have hd := UInt8.toNat_lt d
    have ih := less_val x y (n * 128 + c.toNat % 128) (m * 128 + d.toNat % 128) (by simpa using h) (fun i hi => by
      have := ha (i + 1) (by simp; omega)
      simpa using this)
    have v1 : val n (c :: x) = val (n * 128 + c.toNat % 128) x := rfl
    have v2 : val m (d :: y) = val (m * 128 + d.toNat % 128) y := rfl
    rw [v1, v2]
    refine ⟨fun hnm => ih.1 (by omega), fun hnm => ih.2.1 (by omega), fun hnm => ?_⟩
    subst hnm
    rcases Nat.lt_trichotomy c.toNat d.toNat with hlt | heq | hgt
    · have e1 : (c < d) := UInt8.lt_iff_toNat_lt.2 hlt
      have e2 := ih.1 (by rcases h0 with h0 | h0 <;> omega)
      simp [Op.bytesLess, e1, e2]
    · obtain rfl : c = d := UInt8.toNat_inj.1 heq
      have e1 : ¬ c < c := by simp
      simp [Op.bytesLess, ih.2.2 rfl]
    · have e1 : ¬ c < d := by rw [UInt8.lt_iff_toNat_lt]; omega
      have e2 : (c == d) = false := by simp; rintro rfl; omega
      have e3 := ih.2.1 (by rcases h0 with h0 | h0 <;> omega)
      have e4 : ¬ val (n * 128 + c.toNat % 128) x < val (n * 128 + d.toNat % 128) y := by omega
      simp [Op.bytesLess, e1, e2, e4]

theorem enc_getD (n i : Nat) (hi : i < (enc n).length) : (i + 1 < (enc n).length → 128 ≤ ((enc n).getD i 0).toNat) ∧ (i + 1 = (enc n).length → ((enc n).getD i 0).toNat < 128) := by
  have hh := (encHi_high _ _ (lt_pow (n / 128))).1
  unfold enc at hi ⊢
  simp only [List.length_append, List.length_cons, List.length_nil] at hi ⊢
  refine ⟨fun h => ?_, fun h => ?_⟩
  · have hi' : i < (encHi (n / 128)).length := by omega
    have : (encHi (n / 128) ++ [UInt8.ofNat (n % 128)]).getD i 0 = (encHi (n / 128))[i] := by
      simp [List.getD, List.getElem?_append_left, hi']
    rw [this]
    exact hh _ (List.getElem_mem _)
  · obtain rfl : i = (encHi (n / 128)).length := by omega
    have : (encHi (n / 128) ++ [UInt8.ofNat (n % 128)]).getD (encHi (n / 128)).length 0 = UInt8.ofNat (n % 128) := by
      simp [List.getD]
    rw [this, toNat_ofNat _ (by omega)]; omega

theorem enc_less {a b : Nat} (h : (enc a).length = (enc b).length) : Op.bytesLess (enc a) (enc b) = decide (a < b) := by
  have := (less_val (enc a) (enc b) 0 0 h (fun i hi => by
    have h1 := enc_getD a i hi
    have h2 := enc_getD b i (by omega)
    by_cases hl : i + 1 < (enc a).length
    · exact Or.inl ⟨h1.1 hl, h2.1 (by omega)⟩
    · exact Or.inr ⟨h1.2 (by omega), h2.2 (by omega)⟩)).2.2 rfl
  rw [this, enc_val, enc_val]

end Go.Proofs.Ythhpaceolnpcnaa
