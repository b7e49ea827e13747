/- Words of 32 bits: the model's integers against UInt32; turning. They speak of no program. -/
import Derived.Test.YtjkafmjikfbafaaLaws
namespace Go.Proofs.Ytjkafmjikfbafaa
set_option linter.unusedVariables false
set_option linter.unusedSimpArgs false

theorem u32_wrap_id (n : Int) (h0 : 0 ≤ n) (h1 : n < 2 ^ 32) : IntKind.u32.wrap n = n := by rw [IntKind.wrap_u32]; omega

theorem u32_lt (x : UInt32) : x.toNat < 2 ^ 32 := x.toNat_lt

theorem ofInt_u32 (x : UInt32) : BitVec.ofInt IntKind.u32.bits (x.toNat : Int) = x.toBitVec := by
  rw [BitVec.ofInt_natCast]
  exact BitVec.ofNat_toNat _ x.toBitVec |>.trans (BitVec.setWidth_eq _)

theorem bits_xor (x y : UInt32) : bits .xor .u32 (x.toNat : Int) (y.toNat : Int) = ((x ^^^ y).toNat : Int) := by
  simp only [bits, ofInt_u32]
  exact u32_wrap_id _ (Int.natCast_nonneg _) (by exact_mod_cast (x ^^^ y).toNat_lt)
theorem bits_and (x y : UInt32) : bits .and .u32 (x.toNat : Int) (y.toNat : Int) = ((x &&& y).toNat : Int) := by
  simp only [bits, ofInt_u32]
  exact u32_wrap_id _ (Int.natCast_nonneg _) (by exact_mod_cast (x &&& y).toNat_lt)
theorem bits_or (x y : UInt32) : bits .or .u32 (x.toNat : Int) (y.toNat : Int) = ((x ||| y).toNat : Int) := by
  simp only [bits, ofInt_u32]
  exact u32_wrap_id _ (Int.natCast_nonneg _) (by exact_mod_cast (x ||| y).toNat_lt)
theorem wrap_add (x y : UInt32) : IntKind.u32.wrap ((x.toNat : Int) + (y.toNat : Int)) = ((x + y).toNat : Int) := by
  rw [IntKind.wrap_u32, UInt32.toNat_add]; omega
theorem div_shr (x : UInt32) (n : Nat) (hn : n < 32) : (x.toNat : Int) / ((2 ^ n : Nat) : Int) = ((x >>> UInt32.ofNat n).toNat : Int) := by
  rw [UInt32.toNat_shiftRight, Nat.shiftRight_eq_div_pow]
  have : (UInt32.ofNat n).toNat % 32 = n := by simp; omega
  rw [this]
  exact (Int.natCast_ediv _ _).symm

theorem mul_shl (x : UInt32) (n : Nat) (hn : n < 32) : IntKind.u32.wrap ((x.toNat : Int) * ((2 ^ n : Nat) : Int)) = ((x <<< UInt32.ofNat n).toNat : Int) := by
  rw [IntKind.wrap_u32, UInt32.toNat_shiftLeft, Nat.shiftLeft_eq]
  have : (UInt32.ofNat n).toNat % 32 = n := by simp; omega
  rw [this]
  show _ = (((x.toNat * 2 ^ n) % 4294967296 : Nat) : Int)
  rw [← Int.natCast_mul]
  rfl

/-- Turned right. -/
def rotr (x : UInt32) (n : Nat) : UInt32 := (x >>> UInt32.ofNat n) ||| (x <<< UInt32.ofNat (32 - n))

/-- The steps that turn. -/
theorem turn_eq (x : UInt32) (n : Nat) (h0 : 0 < n) (hn : n < 32) :
    bits .or .u32 ((x.toNat : Int) / 2 ^ n) (IntKind.u32.wrap ((x.toNat : Int) * 2 ^ (32 - n))) = ((rotr x n).toNat : Int) := by
  have h1 := div_shr x n hn
  have h2 := mul_shl x (32 - n) (by omega)
  have e1 : ((2 ^ n : Nat) : Int) = (2 : Int) ^ n := by simp
  have e2 : ((2 ^ (32 - n) : Nat) : Int) = (2 : Int) ^ (32 - n) := by simp
  rw [e1] at h1
  rw [e2] at h2
  rw [h1, h2, bits_or]
  rfl

theorem turn_eq1 (x : UInt32) (n : Nat) (h0 : 0 < n) (hn : n < 32) :
    bits .or .u32 ((x.toNat : Int) / 2 ^ n) ((x.toNat : Int) * 2 ^ (32 - n) % 4294967296) = ((rotr x n).toNat : Int) := by
  rw [← turn_eq x n h0 hn, IntKind.wrap_u32]
theorem turn_eq2 (x : UInt32) (n : Nat) (h0 : 0 < n) (hn : n < 32) :
    bits .or .u32 ((x.toNat : Int) * 2 ^ (32 - n) % 4294967296) ((x.toNat : Int) / 2 ^ n) = ((rotr x n).toNat : Int) := by
  rw [← turn_eq1 x n h0 hn]
  simp only [bits]
  rw [BitVec.or_comm]

theorem ret_u32 {a b : Int} (h : a = b) : Ending.returned (.int .u32 a) = .returned (.int .u32 b) := by rw [h]

theorem and31 (n : Nat) (h0 : 0 < n) (hn : n < 32) : bits .and .u64 (IntKind.u64.wrap (-(n : Int))) 31 = ((32 - n : Nat) : Int) := by
  have : ∀ m : Fin 32, 0 < m.val → bits .and .u64 (IntKind.u64.wrap (-(m.val : Int))) 31 = ((32 - m.val : Nat) : Int) := by decide
  exact this ⟨n, hn⟩ h0

end Go.Proofs.Ytjkafmjikfbafaa
