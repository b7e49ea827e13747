/- The walks of cubeAbove (both) and squareAbove. -/
import Derived.Test.YtjkafmjikfbafaaMul
namespace Go.Proofs.Ytjkafmjikfbafaa
open Go.RowKit Go.Lib
set_option maxRecDepth 100000
set_option linter.unusedSimpArgs false
set_option linter.unusedVariables false

/-- Is the cube (the square) of x, of 32 bits below the point, above p? -/
def cubeOver (x p : Nat) : Bool := decide (p * 79228162514264337593543950336 < x * x * x)
def squareOver (x p : Nat) : Bool := decide (p * 18446744073709551616 < x * x)

theorem mul64_at (x y H L : Nat) (hx : x < 18446744073709551616) (hy : y < 18446744073709551616) (h : x * y = H * 18446744073709551616 + L) (hL : L < 18446744073709551616) (w : World) :
    Calls Try.prog 61 #[.int .u64 x, .int .u64 y] w fun e w' => e = .returned (.tuple #[.int .u64 H, .int .u64 L]) ∧ w = w' := by
  refine (mul64_any x y hx hy w).mono ?_
  rintro e w1 ⟨rfl, rfl⟩
  rw [h, show (H * 18446744073709551616 + L) / 18446744073709551616 = H by omega, show (H * 18446744073709551616 + L) % 18446744073709551616 = L by omega]
  exact ⟨rfl, rfl⟩
theorem mul_at (x y H L : Nat) (hx : x < 18446744073709551616) (hy : y < 18446744073709551616) (h : x * y = H * 18446744073709551616 + L) (hL : L < 18446744073709551616) (w : World) :
    Calls Try.prog 56 #[.int .u64 x, .int .u64 y] w fun e w' => e = .returned (.tuple #[.int .u64 H, .int .u64 L]) ∧ w = w' := by
  refine (mul_any x y hx hy w).mono ?_
  rintro e w1 ⟨rfl, rfl⟩
  rw [h, show (H * 18446744073709551616 + L) / 18446744073709551616 = H by omega, show (H * 18446744073709551616 + L) % 18446744073709551616 = L by omega]
  exact ⟨rfl, rfl⟩

theorem cube_sum (P H L x : Nat) (h : P = H * 18446744073709551616 + L) : P * x = (L * x / 18446744073709551616 + H * x) * 18446744073709551616 + L * x % 18446744073709551616 := by
  subst h
  rw [Nat.add_mul, Nat.mul_right_comm]
  generalize L * x = A
  generalize H * x = B
  omega
theorem cube_parts (x : Nat) (hx : x < 68719476736) : ∃ H L h1 l1 M : Nat, x * x = H * 18446744073709551616 + L ∧ L < 18446744073709551616 ∧ L * x = h1 * 18446744073709551616 + l1 ∧ l1 < 18446744073709551616 ∧
    H * x = 0 * 18446744073709551616 + M ∧ M < 17592186044416 ∧ h1 < 68719476736 ∧ H < 256 ∧ x * x * x = (h1 + M) * 18446744073709551616 + l1 := by
  have hxx : x * x < 4722366482869645213696 := by
    have := Nat.mul_lt_mul'' hx hx
    exact this
  have hL : x * x % 18446744073709551616 < 18446744073709551616 := Nat.mod_lt _ (by omega)
  have hH : x * x / 18446744073709551616 < 256 := by omega
  have hLx : x * x % 18446744073709551616 * x < 1267650600228229401496703205376 := by
    have := Nat.mul_lt_mul'' hL hx
    exact this
  have hHx : x * x / 18446744073709551616 * x < 17592186044416 := by
    have := Nat.mul_lt_mul'' hH hx
    exact this
  have e : x * x = x * x / 18446744073709551616 * 18446744073709551616 + x * x % 18446744073709551616 := by omega
  refine ⟨x * x / 18446744073709551616, x * x % 18446744073709551616, x * x % 18446744073709551616 * x / 18446744073709551616, x * x % 18446744073709551616 * x % 18446744073709551616, x * x / 18446744073709551616 * x, e, hL, by omega, Nat.mod_lt _ (by omega), by omega, hHx, by omega, hH, ?_⟩
  exact cube_sum _ _ _ x e

theorem ret_bool {b c : Bool} (h : b = c) : Ending.returned (.bool b) = .returned (.bool c) := by rw [h]
theorem cube_dec (x p A l1 : Nat) (hl1 : l1 < 18446744073709551616) (e4 : x * x * x = A * 18446744073709551616 + l1) : cubeOver x p = decide (p * 4294967296 < A ∨ p * 4294967296 = A ∧ 0 < l1) := by
  unfold cubeOver; rw [e4]; apply decide_eq_decide.mpr; omega
theorem mod_small (a b : Nat) (h : a + b < 18446744073709551616) : ((a : Int) + (b : Int)) % 18446744073709551616 = (a : Int) + (b : Int) := by omega
theorem div_small (a b : Nat) (h : a + b < 18446744073709551616) : ((a : Int) + (b : Int)) / 18446744073709551616 = 0 := by omega
theorem shl_small (p : Nat) (hp : p < 4294967296) : IntKind.u64.wrap ((p : Int) * 4294967296) = (p : Int) * 4294967296 := by rw [IntKind.wrap_u64]; omega
set_option maxHeartbeats 1000000 in
theorem cubeAbove_any (x p : Nat) (hx : x < 68719476736) (hp : p < 4294967296) (w : World) :
    Calls Try.prog 50 #[.int .u64 x, .int .u64 p] w fun e w' => e = .returned (.bool (cubeOver x p)) ∧ w = w' := by
  obtain ⟨H, L, h1, l1, M, e1, hL, e2, hl1, e3, hM, hh1, hH, e4⟩ := cube_parts x hx
  have hc := cube_dec x p (h1 + M) l1 hl1 e4
  obtain ⟨D, hD⟩ : ∃ D, D = h1 + M := ⟨_, rfl⟩
  obtain ⟨T, hT⟩ : ∃ T, T = p * 4294967296 := ⟨_, rfl⟩
  have a1 : ((h1 : Int) + (M : Int)) % 18446744073709551616 = (D : Int) := by rw [mod_small h1 M (by omega), hD]; exact (Int.natCast_add _ _).symm
  have a2 := div_small h1 M (by omega)
  have s1 : IntKind.u64.wrap ((p : Int) * 4294967296) = (T : Int) := by rw [shl_small p hp, hT]; exact (Int.natCast_mul _ _).symm
  have a0 : (0 : Int) ≤ (h1 : Int) := by omega
  have aM : (0 : Int) ≤ (M : Int) := by omega
  have bx : x < 18446744073709551616 := by omega
  have bH : H < 18446744073709551616 := by omega
  have bM : M < 18446744073709551616 := by omega
  rw [← hD, ← hT] at hc
  have E1 := Lib.hid e1
  have E2 := Lib.hid e2
  have E3 := Lib.hid e3
  clear e1 e2 e3 e4 hD hT hM hh1 hH
  rw [hc]
  clear hc
  go_enter Try.func50, Try.ntmps50
  go_wp2_with (first
    | (go_at_call 61; ((with_reducible refine (mul64_at x x H L bx bx E1.out hL _).mono ?_); rintro e w1 ⟨rfl, rfl⟩))
    | (go_at_call 61; ((with_reducible refine (mul64_at L x h1 l1 hL bx E2.out hl1 _).mono ?_); rintro e w1 ⟨rfl, rfl⟩))
    | (go_at_call 61; ((with_reducible refine (mul64_at H x 0 M bH bx E3.out bM _).mono ?_); rintro e w1 ⟨rfl, rfl⟩))
    | simp only [add64 (h1 : Int) (M : Int) a0 aM, a1, a2])
  all_goals go_ret
  all_goals (refine ⟨ret_bool ?_, rfl⟩)
  all_goals
    rw [Bool.eq_iff_iff]
    simp only [Bool.or_eq_true, Bool.and_eq_true, decide_eq_true_eq, reduceCtorEq, false_iff, true_iff]
    omega

theorem square_parts (x : Nat) (hx : x < 68719476736) : ∃ H L : Nat, x * x = H * 18446744073709551616 + L ∧ L < 18446744073709551616 :=
  ⟨x * x / 18446744073709551616, x * x % 18446744073709551616, by omega, Nat.mod_lt _ (by omega)⟩
theorem square_dec (x p H L : Nat) (hL : L < 18446744073709551616) (e : x * x = H * 18446744073709551616 + L) : squareOver x p = decide (p < H ∨ p = H ∧ 0 < L) := by
  unfold squareOver; rw [e]; apply decide_eq_decide.mpr; omega

theorem squareAbove_any (x p : Nat) (hx : x < 68719476736) (w : World) :
    Calls Try.prog 51 #[.int .u64 x, .int .u64 p] w fun e w' => e = .returned (.bool (squareOver x p)) ∧ w = w' := by
  obtain ⟨H, L, e1, hL⟩ := square_parts x hx
  rw [square_dec x p H L hL e1]
  have bx : x < 18446744073709551616 := by omega
  have E1 := Lib.hid e1
  clear e1 hx
  go_enter Try.func51, Try.ntmps51
  go_wp2_with (go_at_call 61; ((with_reducible refine (mul64_at x x H L bx bx E1.out hL _).mono ?_); rintro e w1 ⟨rfl, rfl⟩))
  all_goals go_ret
  all_goals (refine ⟨ret_bool ?_, rfl⟩)
  all_goals
    rw [Bool.eq_iff_iff]
    simp only [Bool.or_eq_true, Bool.and_eq_true, decide_eq_true_eq, reduceCtorEq, false_iff, true_iff]
    omega

set_option maxHeartbeats 1000000 in
theorem refCubeAbove_any (x p : Nat) (hx : x < 68719476736) (hp : p < 4294967296) (w : World) :
    Calls Try.prog 55 #[.int .u64 x, .int .u64 p] w fun e w' => e = .returned (.bool (cubeOver x p)) ∧ w = w' := by
  obtain ⟨H, L, h1, l1, M, e1, hL, e2, hl1, e3, hM, hh1, hH, e4⟩ := cube_parts x hx
  have hc := cube_dec x p (h1 + M) l1 hl1 e4
  obtain ⟨D, hD⟩ : ∃ D, D = h1 + M := ⟨_, rfl⟩
  obtain ⟨T, hT⟩ : ∃ T, T = p * 4294967296 := ⟨_, rfl⟩
  have a1 : IntKind.u64.wrap ((h1 : Int) + (M : Int)) = (D : Int) := by rw [IntKind.wrap_u64]; omega
  have a2 : decide (D < h1) = false := by simp; omega
  have a3 : h1 ≤ D := by omega
  have s1 : IntKind.u64.wrap ((p : Int) * 4294967296) = (T : Int) := by rw [shl_small p hp, hT]; exact (Int.natCast_mul _ _).symm
  have bx : x < 18446744073709551616 := by omega
  have bH : H < 18446744073709551616 := by omega
  have bM : M < 18446744073709551616 := by omega
  rw [← hD, ← hT] at hc
  have E1 := Lib.hid e1
  have E2 := Lib.hid e2
  have E3 := Lib.hid e3
  clear e1 e2 e3 e4 hD hT hM hh1 hH
  rw [hc]
  clear hc
  go_enter Try.func55, Try.ntmps55
  go_wp2_with (first
    | (go_at_call 56; ((with_reducible refine (mul_at x x H L bx bx E1.out hL _).mono ?_); rintro e w1 ⟨rfl, rfl⟩))
    | (go_at_call 56; ((with_reducible refine (mul_at L x h1 l1 hL bx E2.out hl1 _).mono ?_); rintro e w1 ⟨rfl, rfl⟩))
    | (go_at_call 56; ((with_reducible refine (mul_at H x 0 M bH bx E3.out bM _).mono ?_); rintro e w1 ⟨rfl, rfl⟩)))
  all_goals go_ret
  all_goals (refine ⟨ret_bool ?_, rfl⟩)
  all_goals
    rw [Bool.eq_iff_iff]
    simp only [Bool.or_eq_true, Bool.and_eq_true, decide_eq_true_eq, reduceCtorEq, false_iff, true_iff]
    omega

end Go.Proofs.Ytjkafmjikfbafaa
