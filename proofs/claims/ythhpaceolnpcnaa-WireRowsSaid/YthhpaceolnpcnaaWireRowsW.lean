/- The walk of the law WireRows. -/
import Derived.Test.YthhpaceolnpcnaaWorks
namespace Go.Proofs.Ythhpaceolnpcnaa
open Go.RowKit
set_option maxRecDepth 100000
set_option linter.unusedSimpArgs false
set_option linter.unusedVariables false

set_option maxHeartbeats 2000000 in
theorem wireRows_walk (n : Nat) (s t : ByteArray) (w : World) (hn : n < 18446744073709551616) (hs : s.size ≤ 9223372036854775807) (ht : t.size ≤ 9223372036854775807) :
    Calls Try.prog 3 #[.int .u64 n, .string s, .string t] w (TrueOut w) := by
  go_enter Try.func3, Try.ntmps3
  go_wp2
  rcases Nat.lt_or_ge 900 s.size with h1 | h1 <;> rcases Nat.lt_or_ge 900 t.size with h2 | h2
  · go_quiet (fail)
    have hs' : (s.extract 0 900).size ≤ 140737488351232 := by simp; omega
    have ht' : (t.extract 0 900).size ≤ 140737488351232 := by simp; omega
    go_wp2_with (first
      | (go_at_call 9; refine (putNum_any _ n _ hn hs').mono ?_; rintro e w1 ⟨rfl, hb1⟩)
      | (go_at_call 10; refine (refPutNum_any _ n _ hn hs').mono ?_; rintro e w2 ⟨rfl, hb2⟩)
      | (go_at_call 11; refine (putText_any _ _ _ hs' ht').mono ?_; rintro e w3 ⟨rfl, hb3⟩)
      | (go_at_call 12; refine (refPutText_any _ _ _ hs' ht').mono ?_; rintro e w4 ⟨rfl, hb4⟩)
      | (go_at_call 13; refine (works_any _).mono ?_; rintro e w5 ⟨rfl, hb5⟩))
    go_ret
    exact ⟨rfl, ((((below_of_drew hb1).next hb2).next hb3).next hb4).next hb5⟩
  · go_quiet (fail)
    have hs' : (s.extract 0 900).size ≤ 140737488351232 := by simp; omega
    have ht' : t.size ≤ 140737488351232 := by omega
    go_wp2_with (first
      | (go_at_call 9; refine (putNum_any _ n _ hn hs').mono ?_; rintro e w1 ⟨rfl, hb1⟩)
      | (go_at_call 10; refine (refPutNum_any _ n _ hn hs').mono ?_; rintro e w2 ⟨rfl, hb2⟩)
      | (go_at_call 11; refine (putText_any _ _ _ hs' ht').mono ?_; rintro e w3 ⟨rfl, hb3⟩)
      | (go_at_call 12; refine (refPutText_any _ _ _ hs' ht').mono ?_; rintro e w4 ⟨rfl, hb4⟩)
      | (go_at_call 13; refine (works_any _).mono ?_; rintro e w5 ⟨rfl, hb5⟩))
    go_ret
    exact ⟨rfl, ((((below_of_drew hb1).next hb2).next hb3).next hb4).next hb5⟩
  · go_quiet (fail)
    have hs' : s.size ≤ 140737488351232 := by omega
    have ht' : (t.extract 0 900).size ≤ 140737488351232 := by simp; omega
    go_wp2_with (first
      | (go_at_call 9; refine (putNum_any _ n _ hn hs').mono ?_; rintro e w1 ⟨rfl, hb1⟩)
      | (go_at_call 10; refine (refPutNum_any _ n _ hn hs').mono ?_; rintro e w2 ⟨rfl, hb2⟩)
      | (go_at_call 11; refine (putText_any _ _ _ hs' ht').mono ?_; rintro e w3 ⟨rfl, hb3⟩)
      | (go_at_call 12; refine (refPutText_any _ _ _ hs' ht').mono ?_; rintro e w4 ⟨rfl, hb4⟩)
      | (go_at_call 13; refine (works_any _).mono ?_; rintro e w5 ⟨rfl, hb5⟩))
    go_ret
    exact ⟨rfl, ((((below_of_drew hb1).next hb2).next hb3).next hb4).next hb5⟩
  · go_quiet (fail)
    have hs' : s.size ≤ 140737488351232 := by omega
    have ht' : t.size ≤ 140737488351232 := by omega
    go_wp2_with (first
      | (go_at_call 9; refine (putNum_any _ n _ hn hs').mono ?_; rintro e w1 ⟨rfl, hb1⟩)
      | (go_at_call 10; refine (refPutNum_any _ n _ hn hs').mono ?_; rintro e w2 ⟨rfl, hb2⟩)
      | (go_at_call 11; refine (putText_any _ _ _ hs' ht').mono ?_; rintro e w3 ⟨rfl, hb3⟩)
      | (go_at_call 12; refine (refPutText_any _ _ _ hs' ht').mono ?_; rintro e w4 ⟨rfl, hb4⟩)
      | (go_at_call 13; refine (works_any _).mono ?_; rintro e w5 ⟨rfl, hb5⟩))
    go_ret
    exact ⟨rfl, ((((below_of_drew hb1).next hb2).next hb3).next hb4).next hb5⟩

end Go.Proofs.Ythhpaceolnpcnaa
