/- The walks of root (of cubeAbove and of squareAbove) and of the reference's cube and square: all the same halving. -/
import Derived.Test.YtjkafmjikfbafaaOver
namespace Go.Proofs.Ytjkafmjikfbafaa
open Go.RowKit Go.Lib
set_option maxRecDepth 100000
set_option linter.unusedSimpArgs false
set_option linter.unusedVariables false

/-- The halving: the greatest x below high (and from low on) whose f is false. -/
def bis (f : Nat → Bool) : Nat → Nat → Nat → Nat
  | 0, low, _ => low
  | n + 1, low, high => if high - low ≤ 1 then low else if f ((low + high) / 2) then bis f n low ((low + high) / 2) else bis f n ((low + high) / 2) high

def rootN (f : Nat → Bool) : Nat := bis f 36 0 68719476736

/-- What the loop of a root keeps. -/
def RootRel (f : Nat → Bool) (low high : Nat) : Prop := low < high ∧ high ≤ 68719476736 ∧ ∃ n, high - low ≤ 2 ^ n ∧ bis f n low high = rootN f

theorem RootRel.start (f : Nat → Bool) : RootRel f 0 68719476736 := ⟨by omega, by omega, 36, by simp, rfl⟩
theorem RootRel.half {f : Nat → Bool} {low high : Nat} (h : RootRel f low high) (hg : 1 < high - low) :
    (f ((low + high) / 2) = true → RootRel f low ((low + high) / 2)) ∧ (f ((low + high) / 2) = false → RootRel f ((low + high) / 2) high) := by
  obtain ⟨h1, h2, n, h3, h4⟩ := h
  match n, h3, h4 with
  | 0, h3, _ => simp at h3; omega
  | m + 1, h3, h4 =>
    rw [Nat.pow_succ] at h3
    rw [bis, if_neg (by omega)] at h4
    refine ⟨fun hf => ⟨by omega, by omega, m, by omega, by rwa [if_pos hf] at h4⟩, fun hf => ⟨by omega, h2, m, by omega, by rwa [if_neg (by simp [hf])] at h4⟩⟩
theorem RootRel.done {f : Nat → Bool} {low high : Nat} (h : RootRel f low high) (hg : ¬ 1 < high - low) : low = rootN f := by
  obtain ⟨h1, h2, n, h3, h4⟩ := h
  match n, h4 with
  | 0, h4 => exact h4
  | m + 1, h4 => rwa [bis, if_pos (by omega)] at h4

theorem ret_low (low : Nat) : Ending.returned (.int .u32 (IntKind.u32.wrap (low : Int))) = .returned (.int .u32 (UInt32.ofNat low).toNat) := by
  rw [IntKind.wrap_u32, UInt32.toNat_ofNat']
  rfl
theorem root_cube (p : Nat) (hp : p < 4294967296) (w : World) :
    Calls Try.prog 49 #[.int .u64 p, .func (Fn.func 50) #[] #[]] w fun e w' => e = .returned (.int .u32 (UInt32.ofNat (rootN fun x => cubeOver x p)).toNat) ∧ w = w' := by
  go_enter Try.func49, Try.ntmps49
  go_wp2_with fail
  go_loop [5, 6] (fun a b => ∃ low high : Nat, a = .int .u64 low ∧ b = .int .u64 high ∧ RootRel (fun x => cubeOver x p) low high) (fun a b => (intOf b).toNat - (intOf a).toNat)
  case atStart => exact ⟨0, 68719476736, rfl, rfl, RootRel.start _⟩
  case round =>
    obtain ⟨low, high, rfl, rfl, hr⟩ := hrel
    have h1 : low < high := hr.1
    have h2 : high ≤ 68719476736 := hr.2.1
    have s1 : IntKind.u64.wrap ((high : Int) - (low : Int)) = (high : Int) - (low : Int) := by rw [IntKind.wrap_u64]; omega
    have s2 : IntKind.u64.wrap ((low : Int) + (high : Int)) = (low : Int) + (high : Int) := by rw [IntKind.wrap_u64]; omega
    obtain ⟨m, hm⟩ : ∃ m, m = (low + high) / 2 := ⟨_, rfl⟩
    have s3 : ((low : Int) + (high : Int)) / 2 = (m : Int) := by omega
    have s4 : ((low : Int) + (high : Int)).tdiv 2 = (m : Int) := by rw [Int.tdiv_eq_ediv_of_nonneg (by omega)]; exact s3
    by_cases hg : 1 < high - low
    · have hh := hr.half hg
      rw [← hm] at hh
      have hml : low < m := by omega
      have hmh : m < high := by omega
      have hm36 : m < 68719476736 := by omega
      have hg2 : (1 : Int) < (high : Int) - (low : Int) := by omega
      clear hm
      by_cases hf : cubeOver m p = true
      · have hn := hh.1 hf
        clear hh hr
        go_wp2_with (go_at_call 50; ((with_reducible refine (cubeAbove_any m p hm36 hp _).mono ?_); rintro e w1 ⟨rfl, rfl⟩; rw [hf]))
        go_round
        case rel => exact ⟨low, m, rfl, rfl, hn⟩
        case measure => simp [intOf]; omega
      · have hf : cubeOver m p = false := by simpa using hf
        have hn := hh.2 hf
        clear hh hr
        go_wp2_with (go_at_call 50; ((with_reducible refine (cubeAbove_any m p hm36 hp _).mono ?_); rintro e w1 ⟨rfl, rfl⟩; rw [hf]))
        go_round
        case rel => exact ⟨m, high, rfl, rfl, hn⟩
        case measure => simp [intOf]; omega
    · have hd := hr.done hg
      have hg2 : (high : Int) - (low : Int) ≤ 1 := by omega
      clear hr hm s3 s4
      go_wp2_with fail
      go_ret
      refine ⟨?_, rfl⟩
      rw [← hd]
      exact ret_low low
theorem root_square (p : Nat) (hp : p < 4294967296) (w : World) :
    Calls Try.prog 49 #[.int .u64 p, .func (Fn.func 51) #[] #[]] w fun e w' => e = .returned (.int .u32 (UInt32.ofNat (rootN fun x => squareOver x p)).toNat) ∧ w = w' := by
  go_enter Try.func49, Try.ntmps49
  go_wp2_with fail
  go_loop [5, 6] (fun a b => ∃ low high : Nat, a = .int .u64 low ∧ b = .int .u64 high ∧ RootRel (fun x => squareOver x p) low high) (fun a b => (intOf b).toNat - (intOf a).toNat)
  case atStart => exact ⟨0, 68719476736, rfl, rfl, RootRel.start _⟩
  case round =>
    obtain ⟨low, high, rfl, rfl, hr⟩ := hrel
    have h1 : low < high := hr.1
    have h2 : high ≤ 68719476736 := hr.2.1
    have s1 : IntKind.u64.wrap ((high : Int) - (low : Int)) = (high : Int) - (low : Int) := by rw [IntKind.wrap_u64]; omega
    have s2 : IntKind.u64.wrap ((low : Int) + (high : Int)) = (low : Int) + (high : Int) := by rw [IntKind.wrap_u64]; omega
    obtain ⟨m, hm⟩ : ∃ m, m = (low + high) / 2 := ⟨_, rfl⟩
    have s3 : ((low : Int) + (high : Int)) / 2 = (m : Int) := by omega
    have s4 : ((low : Int) + (high : Int)).tdiv 2 = (m : Int) := by rw [Int.tdiv_eq_ediv_of_nonneg (by omega)]; exact s3
    by_cases hg : 1 < high - low
    · have hh := hr.half hg
      rw [← hm] at hh
      have hml : low < m := by omega
      have hmh : m < high := by omega
      have hm36 : m < 68719476736 := by omega
      have hg2 : (1 : Int) < (high : Int) - (low : Int) := by omega
      clear hm
      by_cases hf : squareOver m p = true
      · have hn := hh.1 hf
        clear hh hr
        go_wp2_with (go_at_call 51; ((with_reducible refine (squareAbove_any m p hm36 _).mono ?_); rintro e w1 ⟨rfl, rfl⟩; rw [hf]))
        go_round
        case rel => exact ⟨low, m, rfl, rfl, hn⟩
        case measure => simp [intOf]; omega
      · have hf : squareOver m p = false := by simpa using hf
        have hn := hh.2 hf
        clear hh hr
        go_wp2_with (go_at_call 51; ((with_reducible refine (squareAbove_any m p hm36 _).mono ?_); rintro e w1 ⟨rfl, rfl⟩; rw [hf]))
        go_round
        case rel => exact ⟨m, high, rfl, rfl, hn⟩
        case measure => simp [intOf]; omega
    · have hd := hr.done hg
      have hg2 : (high : Int) - (low : Int) ≤ 1 := by omega
      clear hr hm s3 s4
      go_wp2_with fail
      go_ret
      refine ⟨?_, rfl⟩
      rw [← hd]
      exact ret_low low
theorem refCube_any (p : Nat) (hp : p < 4294967296) (w : World) :
    Calls Try.prog 32 #[.int .u64 p] w fun e w' => e = .returned (.int .u32 (UInt32.ofNat (rootN fun x => cubeOver x p)).toNat) ∧ w = w' := by
  go_enter Try.func32, Try.ntmps32
  go_wp2_with fail
  go_loop [3, 4] (fun a b => ∃ low high : Nat, a = .int .u64 low ∧ b = .int .u64 high ∧ RootRel (fun x => cubeOver x p) low high) (fun a b => (intOf b).toNat - (intOf a).toNat)
  case atStart => exact ⟨0, 68719476736, rfl, rfl, RootRel.start _⟩
  case round =>
    obtain ⟨low, high, rfl, rfl, hr⟩ := hrel
    have h1 : low < high := hr.1
    have h2 : high ≤ 68719476736 := hr.2.1
    have s1 : IntKind.u64.wrap ((high : Int) - (low : Int)) = (high : Int) - (low : Int) := by rw [IntKind.wrap_u64]; omega
    have s2 : IntKind.u64.wrap ((low : Int) + (high : Int)) = (low : Int) + (high : Int) := by rw [IntKind.wrap_u64]; omega
    obtain ⟨m, hm⟩ : ∃ m, m = (low + high) / 2 := ⟨_, rfl⟩
    have s3 : ((low : Int) + (high : Int)) / 2 = (m : Int) := by omega
    have s4 : ((low : Int) + (high : Int)).tdiv 2 = (m : Int) := by rw [Int.tdiv_eq_ediv_of_nonneg (by omega)]; exact s3
    by_cases hg : 1 < high - low
    · have hh := hr.half hg
      rw [← hm] at hh
      have hml : low < m := by omega
      have hmh : m < high := by omega
      have hm36 : m < 68719476736 := by omega
      have hg2 : (1 : Int) < (high : Int) - (low : Int) := by omega
      clear hm
      by_cases hf : cubeOver m p = true
      · have hn := hh.1 hf
        clear hh hr
        go_wp2_with (go_at_call 55; ((with_reducible refine (refCubeAbove_any m p hm36 hp _).mono ?_); rintro e w1 ⟨rfl, rfl⟩; rw [hf]))
        go_round
        case rel => exact ⟨low, m, rfl, rfl, hn⟩
        case measure => simp [intOf]; omega
      · have hf : cubeOver m p = false := by simpa using hf
        have hn := hh.2 hf
        clear hh hr
        go_wp2_with (go_at_call 55; ((with_reducible refine (refCubeAbove_any m p hm36 hp _).mono ?_); rintro e w1 ⟨rfl, rfl⟩; rw [hf]))
        go_round
        case rel => exact ⟨m, high, rfl, rfl, hn⟩
        case measure => simp [intOf]; omega
    · have hd := hr.done hg
      have hg2 : (high : Int) - (low : Int) ≤ 1 := by omega
      clear hr hm s3 s4
      go_wp2_with fail
      go_ret
      refine ⟨?_, rfl⟩
      rw [← hd]
      exact ret_low low
theorem refSquare_any (p : Nat) (hp : p < 4294967296) (w : World) :
    Calls Try.prog 33 #[.int .u64 p] w fun e w' => e = .returned (.int .u32 (UInt32.ofNat (rootN fun x => squareOver x p)).toNat) ∧ w = w' := by
  go_enter Try.func33, Try.ntmps33
  go_wp2_with fail
  go_loop [3, 4] (fun a b => ∃ low high : Nat, a = .int .u64 low ∧ b = .int .u64 high ∧ RootRel (fun x => squareOver x p) low high) (fun a b => (intOf b).toNat - (intOf a).toNat)
  case atStart => exact ⟨0, 68719476736, rfl, rfl, RootRel.start _⟩
  case round =>
    obtain ⟨low, high, rfl, rfl, hr⟩ := hrel
    have h1 : low < high := hr.1
    have h2 : high ≤ 68719476736 := hr.2.1
    have s1 : IntKind.u64.wrap ((high : Int) - (low : Int)) = (high : Int) - (low : Int) := by rw [IntKind.wrap_u64]; omega
    have s2 : IntKind.u64.wrap ((low : Int) + (high : Int)) = (low : Int) + (high : Int) := by rw [IntKind.wrap_u64]; omega
    obtain ⟨m, hm⟩ : ∃ m, m = (low + high) / 2 := ⟨_, rfl⟩
    have s3 : ((low : Int) + (high : Int)) / 2 = (m : Int) := by omega
    have s4 : ((low : Int) + (high : Int)).tdiv 2 = (m : Int) := by rw [Int.tdiv_eq_ediv_of_nonneg (by omega)]; exact s3
    by_cases hg : 1 < high - low
    · have hh := hr.half hg
      rw [← hm] at hh
      have hml : low < m := by omega
      have hmh : m < high := by omega
      have hm36 : m < 68719476736 := by omega
      have hg2 : (1 : Int) < (high : Int) - (low : Int) := by omega
      clear hm
      obtain ⟨H, L, e1, hL⟩ := square_parts m hm36
      have hdec := square_dec m p H L hL e1
      have bm : m < 18446744073709551616 := by omega
      have E1 := Lib.hid e1
      clear e1 hr
      rcases Nat.lt_trichotomy p H with hc | hc | hc
      · have hn := hh.1 (by rw [hdec]; simp [hc])
        have t1 : decide (p < H) = true := by simp [hc]
        clear hh hdec
        go_wp2_with (go_at_call 56; ((with_reducible refine (mul_at m m H L bm bm E1.out hL _).mono ?_); rintro e w1 ⟨rfl, rfl⟩))
        go_round
        case rel => exact ⟨low, m, rfl, rfl, hn⟩
        case measure => simp [intOf]; omega
      · subst hc
        by_cases hl : 0 < L
        · have hn := hh.1 (by rw [hdec]; simp [hl])
          have t1 : decide (0 < L) = true := by simp [hl]
          clear hh hdec
          go_wp2_with (go_at_call 56; ((with_reducible refine (mul_at m m p L bm bm E1.out hL _).mono ?_); rintro e w1 ⟨rfl, rfl⟩))
          go_round
          case rel => exact ⟨low, m, rfl, rfl, hn⟩
          case measure => simp [intOf]; omega
        · obtain rfl : L = 0 := by omega
          have hn := hh.2 (by rw [hdec]; simp)
          clear hh hdec
          go_wp2_with (go_at_call 56; ((with_reducible refine (mul_at m m p 0 bm bm E1.out hL _).mono ?_); rintro e w1 ⟨rfl, rfl⟩))
          go_round
          case rel => exact ⟨m, high, rfl, rfl, hn⟩
          case measure => simp [intOf]; omega
      · have hn := hh.2 (by rw [hdec]; simp; omega)
        have t1 : decide (p < H) = false := by simp; omega
        have t2 : ¬ ((H : Int) = (p : Int)) := by omega
        have t3 : ¬ (H = p) := by omega
        clear hh hdec
        go_wp2_with (go_at_call 56; ((with_reducible refine (mul_at m m H L bm bm E1.out hL _).mono ?_); rintro e w1 ⟨rfl, rfl⟩))
        go_round
        case rel => exact ⟨m, high, rfl, rfl, hn⟩
        case measure => simp [intOf]; omega
    · have hd := hr.done hg
      have hg2 : (high : Int) - (low : Int) ≤ 1 := by omega
      clear hr hm s3 s4
      go_wp2_with fail
      go_ret
      refine ⟨?_, rfl⟩
      rw [← hd]
      exact ret_low low
end Go.Proofs.Ytjkafmjikfbafaa
