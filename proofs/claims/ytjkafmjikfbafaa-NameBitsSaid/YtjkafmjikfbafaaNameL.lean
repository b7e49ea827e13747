/- The letters of a hash, plain: bits of a number. No program in sight. -/
import Derived.Test.YtjkafmjikfbafaaHex
namespace Go.Proofs.Ytjkafmjikfbafaa
set_option linter.unusedVariables false
set_option linter.unusedSimpArgs false

/-- Bytes as one number, the highest first. -/
def beN (l : List UInt8) : Nat := l.foldl (fun a b => a * 256 + b.toNat) 0
theorem beN_snoc (l : List UInt8) (x : UInt8) : beN (l ++ [x]) = beN l * 256 + x.toNat := by simp [beN]
theorem beN_fold_lt : ∀ (l : List UInt8) (a : Nat), l.foldl (fun a b => a * 256 + b.toNat) a < (a + 1) * 256 ^ l.length
  | [], a => by simp
  | x :: l, a => by
    have ih := beN_fold_lt l (a * 256 + x.toNat)
    have hx := x.toNat_lt
    have h : (a * 256 + x.toNat + 1) * 256 ^ l.length ≤ (a + 1) * 256 * 256 ^ l.length := Nat.mul_le_mul_right _ (by omega)
    rw [List.foldl_cons, List.length_cons, Nat.pow_succ, Nat.mul_comm (256 ^ l.length), ← Nat.mul_assoc]
    omega
theorem beN_lt (l : List UInt8) : beN l < 256 ^ l.length := by
  have := beN_fold_lt l 0
  rwa [Nat.zero_add, Nat.one_mul] at this
/-- The first m of the hundred and sixty bits, as a number. -/
def pre (l : List UInt8) (m : Nat) : Nat := beN (l.take 20) / 2 ^ (160 - m)
theorem pre_div (l : List UInt8) (m k : Nat) (h : m ≤ k) (hk : k ≤ 160) : pre l m = pre l k / 2 ^ (k - m) := by
  unfold pre
  rw [Nat.div_div_eq_div_mul, ← Nat.pow_add]
  congr 2; omega
theorem pre_take (l : List UInt8) (hl : 20 ≤ l.length) : ∀ d q, q + d = 20 → pre l (8 * q) = beN (l.take q)
  | 0, q, h => by
    obtain rfl : q = 20 := by omega
    simp [pre]
  | d + 1, q, h => by
    have ih := pre_take l hl d (q + 1) (by omega)
    rw [pre_div l (8 * q) (8 * (q + 1)) (by omega) (by omega), ih, List.take_succ_eq_append_getElem (by omega), beN_snoc]
    have := (l[q]'(by omega)).toNat_lt
    rw [show 8 * (q + 1) - 8 * q = 8 by omega]
    omega
theorem pre_byte (l : List UInt8) (hl : 20 ≤ l.length) (q : Nat) (hq : q < 20) : pre l (8 * (q + 1)) = pre l (8 * q) * 256 + (l.getD q 0).toNat := by
  rw [pre_take l hl (19 - q) (q + 1) (by omega), pre_take l hl (20 - q) q (by omega), List.take_succ_eq_append_getElem (by omega), beN_snoc]
  rw [List.getD_eq_getElem?_getD, List.getElem?_eq_getElem (by omega)]
  rfl
theorem pre_zero (l : List UInt8) (hl : 20 ≤ l.length) : pre l 0 = 0 := by
  have := pre_take l hl 20 0 (by omega)
  rw [Nat.mul_zero] at this
  rw [this]; rfl
/-- One bit more. -/
theorem pre_two (l : List UInt8) (m : Nat) (hm : m < 160) : pre l (m + 1) = 2 * pre l m + pre l (m + 1) % 2 := by
  rw [pre_div l m (m + 1) (by omega) (by omega), show m + 1 - m = 1 by omega]
  omega
theorem pre_bit (l : List UInt8) (hl : 20 ≤ l.length) (m : Nat) (hm : m < 160) : pre l (m + 1) % 2 = (l.getD (m / 8) 0).toNat / 2 ^ (7 - m % 8) % 2 := by
  have hb := pre_byte l hl (m / 8) (by omega)
  rw [pre_div l (m + 1) (8 * (m / 8 + 1)) (by omega) (by omega), hb, show 8 * (m / 8 + 1) - (m + 1) = 7 - m % 8 by omega]
  have hc : (m % 8 = 0 ∨ m % 8 = 1 ∨ m % 8 = 2 ∨ m % 8 = 3) ∨ (m % 8 = 4 ∨ m % 8 = 5 ∨ m % 8 = 6 ∨ m % 8 = 7) := by omega
  rcases hc with (h | h | h | h) | (h | h | h | h) <;> (rw [h]; simp only [Nat.reduceSub, Nat.reducePow]; omega)

def letters32 : ByteArray := ⟨#[48, 49, 50, 51, 52, 53, 54, 55, 56, 57, 97, 98, 99, 100, 102, 103, 104, 105, 106, 107, 108, 109, 110, 112, 113, 114, 115, 118, 119, 120, 121, 122]⟩
def let32 (n : Nat) : UInt8 := letters32.data.toList.getD n 0
/-- The letters of the first twenty bytes. -/
def hashF (l : List UInt8) (c : Nat) : List UInt8 := (List.range c).map fun j => let32 (pre l (5 * (j + 1)) % 32)
theorem hashF_succ (l : List UInt8) (c : Nat) : hashF l (c + 1) = hashF l c ++ [let32 (pre l (5 * (c + 1)) % 32)] := by
  simp [hashF, List.range_succ]
theorem hashF_length (l : List UInt8) (c : Nat) : (hashF l c).length = c := by simp [hashF]

theorem digit32 (P m b : Nat) (h : b + 5 ≤ m) : P % 2 ^ m / 2 ^ b % 32 = P / 2 ^ b % 32 := by
  obtain ⟨d, rfl⟩ : ∃ d, m = b + (5 + d) := ⟨m - b - 5, by omega⟩
  rw [Nat.pow_add, Nat.mod_mul_right_div_self, Nat.pow_add, Nat.mod_mul_right_mod]
theorem low_bits (P m b : Nat) (h : b ≤ m) : P % 2 ^ m % 2 ^ b = P % 2 ^ b := by
  obtain ⟨d, rfl⟩ : ∃ d, m = b + d := ⟨m - b, by omega⟩
  rw [Nat.pow_add, Nat.mod_mul_right_mod]
/-- A byte more behind some low bits. -/
theorem more_bits (P x b : Nat) (hx : x < 256) : P % 2 ^ b * 256 + x = (P * 256 + x) % 2 ^ (b + 8) := by
  rw [Nat.pow_add, show (2 : Nat) ^ 8 = 256 by rfl, Nat.mul_comm (2 ^ b) 256, Nat.mod_mul, show (P * 256 + x) / 256 = P by omega, show (P * 256 + x) % 256 = x by omega]
  omega
theorem and_pow (n k : Nat) (hn : n < 18446744073709551616) (hk : k < 64) : bits .and .u64 (n : Int) ((2 ^ k - 1 : Nat) : Int) = ((n % 2 ^ k : Nat) : Int) := by
  have hp : 2 ^ k - 1 < 18446744073709551616 := by
    have : 2 ^ k ≤ 2 ^ 63 := Nat.pow_le_pow_right (by omega) (by omega)
    omega
  have h := bits_and_u64_nat n (2 ^ k - 1) hn hp
  rw [Nat.and_two_pow_sub_one_eq_mod] at h
  exact h
theorem or_256 (a b : Nat) (ha : a < 65536) (hb : b < 256) : bits .or .u64 ((a * 256 : Nat) : Int) (b : Int) = ((a * 256 + b : Nat) : Int) := by
  have h := bits_or_u64_nat (a * 256) b (by omega) (by omega)
  have e : a * 256 ||| b = a * 256 + b := by
    have := Nat.shiftLeft_add_eq_or_of_lt (b := b) (i := 8) (by omega) a
    rw [Nat.shiftLeft_eq] at this
    exact this.symm
  rw [e] at h
  exact h
end Go.Proofs.Ytjkafmjikfbafaa
