/- The walks of the laws ShaIs and ShaLong. -/
import Derived.Test.YtjkafmjikfbafaaHex
namespace Go.Proofs.Ytjkafmjikfbafaa
open Go.RowKit
set_option maxRecDepth 100000
set_option linter.unusedSimpArgs false
set_option linter.unusedVariables false

def sumB (s : ByteArray) : ByteArray := ⟨(shaSum s.data.toList).toArray⟩
theorem sumB_any (s : ByteArray) (w : World) (hs : s.size ≤ 1099511627776) : Calls Try.prog 13 #[.string s] w fun e w' => e = .returned (.string (sumB s)) ∧ Below w.heap.size w w' := sum_any s w hs
theorem refSumB_any (s : ByteArray) (w : World) (hs : s.size ≤ 1099511627776) : Calls Try.prog 14 #[.string s] w fun e w' => e = .returned (.string (sumB s)) ∧ Below w.heap.size w w' := refSum_any s w hs

set_option maxHeartbeats 2000000 in
theorem shaIs_walk (s : ByteArray) (w : World) (hs : s.size ≤ 9223372036854775807) : Calls Try.prog 3 #[.string s] w (TrueOut w) := by
  go_enter Try.func3, Try.ntmps3
  rcases Nat.lt_or_ge 20000 s.size with h1 | h1
  · have hs' : (s.extract 0 20000).size ≤ 1099511627776 := by simp; omega
    go_wp2_with (first
      | (go_at_call 13; ((with_reducible refine (sumB_any _ _ hs').mono ?_); rintro e w1 ⟨rfl, hb1⟩))
      | (go_at_call 14; ((with_reducible refine (refSumB_any _ _ hs').mono ?_); rintro e w2 ⟨rfl, hb2⟩))
      | (go_at_call 15; ((with_reducible refine (works_any _).mono ?_); rintro e w3 ⟨rfl, hb3⟩)))
    go_ret
    exact ⟨rfl, below_next (below_next hb1 hb2) hb3⟩
  · have hs' : s.size ≤ 1099511627776 := by omega
    go_wp2_with (first
      | (go_at_call 13; ((with_reducible refine (sumB_any _ _ hs').mono ?_); rintro e w1 ⟨rfl, hb1⟩))
      | (go_at_call 14; ((with_reducible refine (refSumB_any _ _ hs').mono ?_); rintro e w2 ⟨rfl, hb2⟩))
      | (go_at_call 15; ((with_reducible refine (works_any _).mono ?_); rintro e w3 ⟨rfl, hb3⟩)))
    go_ret
    exact ⟨rfl, below_next (below_next hb1 hb2) hb3⟩

theorem rem_nat (n : Nat) : ((n : Int) % 2000) = ((n % 2000 : Nat) : Int) := (Int.natCast_emod _ _).symm

set_option maxHeartbeats 2000000 in
theorem shaLong_walk (a : ByteArray) (n : Nat) (hn : n < 65536) (w : World) (hs : a.size ≤ 9223372036854775807) : Calls Try.prog 4 #[.string a, .int .u16 n] w (TrueOut w) := by
  go_enter Try.func4, Try.ntmps4
  rcases Nat.lt_or_ge 100 a.size with h1 | h1
  · go_wp2_with fail
    obtain ⟨b, hb⟩ : ∃ b, b = a.extract 0 100 ++ ⟨#[46]⟩ := ⟨_, rfl⟩
    have hb1 : 1 ≤ b.size ∧ b.size ≤ 101 := by
      rw [hb, ByteArray.size_append, ByteArray.size_extract, show (⟨#[46]⟩ : ByteArray).size = 1 from rfl]; omega
    rw [← hb]
    clear hb
    have hm : n % 2000 < 2000 := Nat.mod_lt _ (by omega)
    have hr := rem_nat n
    obtain ⟨m, hme⟩ : ∃ m, m = n % 2000 := ⟨_, rfl⟩
    rw [← hme] at hr hm
    clear hme
    obtain ⟨hb1, hb2⟩ := hb1
    go_loopw [5] (fun v wx => ∃ t : ByteArray, v = .string t ∧ t.size ≤ 2101 ∧ wx = w) (fun v _ => m - strLen v)
    case atStart => exact ⟨⟨#[]⟩, rfl, by decide, rfl⟩
    case round =>
      obtain ⟨t, rfl, ht, rfl⟩ := hrel
      by_cases hlt : t.size < m
      · go_wp2_with fail
        go_roundw
        case rel => exact ⟨_, rfl, by rw [ByteArray.size_append]; omega, trivial⟩
        case measure => simp only [strLen, ByteArray.size_append]; omega
      · have hs' : (t.extract 0 m).size ≤ 1099511627776 := by rw [ByteArray.size_extract]; omega
        go_wp2_with (first
          | (go_at_call 13; ((with_reducible refine (sumB_any _ _ hs').mono ?_); rintro e w1 ⟨rfl, hb1⟩))
          | (go_at_call 14; ((with_reducible refine (refSumB_any _ _ hs').mono ?_); rintro e w2 ⟨rfl, hb2⟩))
          | (go_at_call 15; ((with_reducible refine (works_any _).mono ?_); rintro e w3 ⟨rfl, hb3⟩)))
        go_ret
        exact ⟨rfl, below_next (below_next hb1 hb2) hb3⟩
  · go_wp2_with fail
    obtain ⟨b, hb⟩ : ∃ b, b = a ++ ⟨#[46]⟩ := ⟨_, rfl⟩
    have hb1 : 1 ≤ b.size ∧ b.size ≤ 101 := by
      rw [hb, ByteArray.size_append, show (⟨#[46]⟩ : ByteArray).size = 1 from rfl]; omega
    rw [← hb]
    clear hb
    have hm : n % 2000 < 2000 := Nat.mod_lt _ (by omega)
    have hr := rem_nat n
    obtain ⟨m, hme⟩ : ∃ m, m = n % 2000 := ⟨_, rfl⟩
    rw [← hme] at hr hm
    clear hme
    obtain ⟨hb1, hb2⟩ := hb1
    go_loopw [5] (fun v wx => ∃ t : ByteArray, v = .string t ∧ t.size ≤ 2101 ∧ wx = w) (fun v _ => m - strLen v)
    case atStart => exact ⟨⟨#[]⟩, rfl, by decide, rfl⟩
    case round =>
      obtain ⟨t, rfl, ht, rfl⟩ := hrel
      by_cases hlt : t.size < m
      · go_wp2_with fail
        go_roundw
        case rel => exact ⟨_, rfl, by rw [ByteArray.size_append]; omega, trivial⟩
        case measure => simp only [strLen, ByteArray.size_append]; omega
      · have hs' : (t.extract 0 m).size ≤ 1099511627776 := by rw [ByteArray.size_extract]; omega
        go_wp2_with (first
          | (go_at_call 13; ((with_reducible refine (sumB_any _ _ hs').mono ?_); rintro e w1 ⟨rfl, hb1⟩))
          | (go_at_call 14; ((with_reducible refine (refSumB_any _ _ hs').mono ?_); rintro e w2 ⟨rfl, hb2⟩))
          | (go_at_call 15; ((with_reducible refine (works_any _).mono ?_); rintro e w3 ⟨rfl, hb3⟩)))
        go_ret
        exact ⟨rfl, below_next (below_next hb1 hb2) hb3⟩
end Go.Proofs.Ytjkafmjikfbafaa
