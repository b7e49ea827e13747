/- The walks of products in two words: bits.Mul64, bits.Add64, the reference's mul. -/
import Derived.Test.YtjkafmjikfbafaaBits
import Derived.Test.YtjkafmjikfbafaaProg
import Derived.Shelf.Bits.Mul64
import Derived.Shelf.Spec.BitsCarry
namespace Go.Proofs.Ytjkafmjikfbafaa
open Go.RowKit Go.Lib
set_option maxRecDepth 100000
set_option linter.unusedSimpArgs false
set_option linter.unusedVariables false

set_option maxHeartbeats 1000000 in
theorem mul64_any (x y : Nat) (hx : x < 18446744073709551616) (hy : y < 18446744073709551616) (w : World) :
    Calls Try.prog 61 #[.int .u64 x, .int .u64 y] w fun e w' => e = .returned (.tuple #[.int .u64 ((x * y / 18446744073709551616 : Nat) : Int), .int .u64 ((x * y % 18446744073709551616 : Nat) : Int)]) ∧ w = w' := by
  obtain ⟨bd, bt, bw, hhi⟩ := Lib.mul64_hi x y hx hy
  have ba := Lib.half_mul_le (a := x / 4294967296) (b := y / 4294967296) (by omega) (by omega)
  have bb := Lib.half_mul_le (a := x / 4294967296) (b := y % 4294967296) (by omega) (by omega)
  have bc := Lib.half_mul_le (a := x % 4294967296) (b := y / 4294967296) (by omega) (by omega)
  have ba' : x / 4294967296 * (y / 4294967296) < 18446744073709551616 := by omega
  have bb' : x / 4294967296 * (y % 4294967296) < 18446744073709551616 := by omega
  have bc' : x % 4294967296 * (y / 4294967296) < 18446744073709551616 := by omega
  have bh1 : x / 4294967296 * (y / 4294967296) + (x / 4294967296 * (y % 4294967296) + x % 4294967296 * (y % 4294967296) / 4294967296) / 4294967296 < 18446744073709551616 := by omega
  have bh : x / 4294967296 * (y / 4294967296) + (x / 4294967296 * (y % 4294967296) + x % 4294967296 * (y % 4294967296) / 4294967296) / 4294967296 + ((x / 4294967296 * (y % 4294967296) + x % 4294967296 * (y % 4294967296) / 4294967296) % 4294967296 + x % 4294967296 * (y / 4294967296)) / 4294967296 < 18446744073709551616 := by omega
  go_enter Try.func61, Try.ntmps61
  go_wp2
  simp only [Mul64.maskN x hx, Mul64.maskN y hy, Mul64.divN, Mul64.mulN, Mul64.addN, Mul64.wrapN _ bd, Mul64.wrapN _ bb', Mul64.wrapN _ bt, Mul64.maskN _ bt, Mul64.wrapN _ bc', Mul64.wrapN _ bw, Mul64.wrapN _ ba', Mul64.wrapN _ bh1, Mul64.wrapN _ bh, Mul64.wrapM (x * y)]
  rw [hhi]
  go_ret2
  exact ⟨rfl, rfl⟩

theorem add64 (x y : Int) (hx : 0 ≤ x) (hy : 0 ≤ y) (w : World) : (callFunc 62 #[.int .u64 x, .int .u64 y, .int .u64 0]).run Try.prog w =
    .ok (.value (.tuple #[.int .u64 ((x + y) % 18446744073709551616), .int .u64 ((x + y) / 18446744073709551616)])) w := by
  rw [run_callFunc_extern Try.func62 (by kernel_rfl) (by kernel_rfl) (by kernel_rfl) (e := add64Entry) (by kernel_rfl), run_add64 x y 0 hx hy (by omega) (by omega)]
  simp only [Result.andThen, Int.add_zero]

theorem or_parts (a b : Nat) (ha : a < 4294967296) (hb : b < 4294967296) : bits .or .u64 ((a * 4294967296 : Nat) : Int) (b : Int) = ((a * 4294967296 + b : Nat) : Int) := by
  have h := bits_or_u64_nat (a * 4294967296) b (by omega) (by omega)
  have e : a * 4294967296 ||| b = a * 4294967296 + b := by
    have := Nat.shiftLeft_add_eq_or_of_lt (b := b) (i := 32) (by omega) a
    rw [Nat.shiftLeft_eq] at this
    exact this.symm
  rw [e] at h
  exact h
theorem shlN (a : Nat) : IntKind.u64.wrap (((a : Nat) : Int) * 4294967296) = ((a % 4294967296 * 4294967296 : Nat) : Int) := by rw [IntKind.wrap_u64]; omega

theorem mul_arith (x y : Nat) (hx : x < 18446744073709551616) (hy : y < 18446744073709551616) :
    (x % 4294967296) * (y % 4294967296) < 18446744073709551616 ∧ (x % 4294967296) * (y / 4294967296) < 18446744073709551616 ∧ (x / 4294967296) * (y % 4294967296) < 18446744073709551616 ∧ (x / 4294967296) * (y / 4294967296) < 18446744073709551616 ∧
    (x % 4294967296) * (y % 4294967296) / 4294967296 + (x % 4294967296) * (y / 4294967296) % 4294967296 < 18446744073709551616 ∧
    (x % 4294967296) * (y % 4294967296) / 4294967296 + (x % 4294967296) * (y / 4294967296) % 4294967296 + (x / 4294967296) * (y % 4294967296) % 4294967296 < 18446744073709551616 ∧
    (x / 4294967296) * (y / 4294967296) + (x % 4294967296) * (y / 4294967296) / 4294967296 < 18446744073709551616 ∧
    (x / 4294967296) * (y / 4294967296) + (x % 4294967296) * (y / 4294967296) / 4294967296 + (x / 4294967296) * (y % 4294967296) / 4294967296 < 18446744073709551616 ∧
    (x / 4294967296) * (y / 4294967296) + (x % 4294967296) * (y / 4294967296) / 4294967296 + (x / 4294967296) * (y % 4294967296) / 4294967296 +
      ((x % 4294967296) * (y % 4294967296) / 4294967296 + (x % 4294967296) * (y / 4294967296) % 4294967296 + (x / 4294967296) * (y % 4294967296) % 4294967296) / 4294967296 < 18446744073709551616 ∧
    (x / 4294967296) * (y / 4294967296) + (x % 4294967296) * (y / 4294967296) / 4294967296 + (x / 4294967296) * (y % 4294967296) / 4294967296 +
      ((x % 4294967296) * (y % 4294967296) / 4294967296 + (x % 4294967296) * (y / 4294967296) % 4294967296 + (x / 4294967296) * (y % 4294967296) % 4294967296) / 4294967296 = x * y / 18446744073709551616 ∧
    ((x % 4294967296) * (y % 4294967296) / 4294967296 + (x % 4294967296) * (y / 4294967296) % 4294967296 + (x / 4294967296) * (y % 4294967296) % 4294967296) % 4294967296 * 4294967296 + (x % 4294967296) * (y % 4294967296) % 4294967296 = x * y % 18446744073709551616 := by
  have e := Go.Lib.split_mul (x / 4294967296) (x % 4294967296) (y / 4294967296) (y % 4294967296) 4294967296
  rw [Nat.div_add_mod' x 4294967296, Nat.div_add_mod' y 4294967296] at e
  have ha := half_mul_le (a := x / 4294967296) (b := y / 4294967296) (by omega) (by omega)
  have hb := half_mul_le (a := x / 4294967296) (b := y % 4294967296) (by omega) (by omega)
  have hc := half_mul_le (a := x % 4294967296) (b := y / 4294967296) (by omega) (by omega)
  have hd := half_mul_le (a := x % 4294967296) (b := y % 4294967296) (by omega) (by omega)
  rw [e]
  generalize (x / 4294967296) * (y / 4294967296) = a at *
  generalize (x / 4294967296) * (y % 4294967296) = b at *
  generalize (x % 4294967296) * (y / 4294967296) = c at *
  generalize (x % 4294967296) * (y % 4294967296) = d at *
  refine ⟨by omega, by omega, by omega, by omega, by omega, by omega, by omega, by omega, by omega, by omega, by omega⟩

set_option maxHeartbeats 1000000 in
theorem mul_any (x y : Nat) (hx : x < 18446744073709551616) (hy : y < 18446744073709551616) (w : World) :
    Calls Try.prog 56 #[.int .u64 x, .int .u64 y] w fun e w' => e = .returned (.tuple #[.int .u64 ((x * y / 18446744073709551616 : Nat) : Int), .int .u64 ((x * y % 18446744073709551616 : Nat) : Int)]) ∧ w = w' := by
  obtain ⟨b1, b2, b3, b4, b5, b6, b7, b8, b9, hhi, hlo⟩ := mul_arith x y hx hy
  go_enter Try.func56, Try.ntmps56
  go_wp2
  simp only [Mul64.maskN x hx, Mul64.maskN y hy, Mul64.divN, Mul64.mulN, Mul64.addN, Mul64.wrapN _ b1, Mul64.wrapN _ b2, Mul64.wrapN _ b3, Mul64.wrapN _ b4, Mul64.maskN _ b1, Mul64.maskN _ b2, Mul64.maskN _ b3, Mul64.divN, Mul64.addN, Mul64.wrapN _ b5, Mul64.wrapN _ b6, Mul64.wrapN _ b7, Mul64.wrapN _ b8, Mul64.wrapN _ b9, shlN]
  rw [hhi, or_parts _ _ (by omega) (by omega), hlo]
  go_ret2
  exact ⟨rfl, rfl⟩

end Go.Proofs.Ytjkafmjikfbafaa
