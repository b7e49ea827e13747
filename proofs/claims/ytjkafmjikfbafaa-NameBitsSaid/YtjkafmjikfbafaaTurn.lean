/- The walks of what turns words: bits.RotateLeft32, the closure right, the reference's turned. -/
import Derived.Test.YtjkafmjikfbafaaProg
import Derived.Test.YtjkafmjikfbafaaBits
import Derived.Deep.QuietTactic
import Derived.BigQuiet
import Derived.StillTailTactics
namespace Go.Proofs.Ytjkafmjikfbafaa
open Go.RowKit
set_option maxRecDepth 100000
set_option linter.unusedSimpArgs false
set_option linter.unusedVariables false

def U32Is (x : UInt32) (w : World) (e : Ending) (w' : World) : Prop := e = .returned (.int .u32 x.toNat) ∧ ∃ n, w' = w.drewN n

theorem turned_any (x : UInt32) (n : Nat) (w : World) (h0 : 0 < n) (hn : n < 32) :
    Calls Try.prog 57 #[.int .u32 x.toNat, .int .i64 n] w (U32Is (rotr x n) w) := by
  have hx := x.toNat_lt
  go_enter Try.func57, Try.ntmps57
  go_wp2
  have a1 : (0 : Int) ≤ 32 - (n : Int) := by omega
  have a2 : (32 - (n : Int)).toNat = 32 - n := by omega
  have a3 : min n 32 = n := by omega
  have a4 : min (32 - n) 32 = 32 - n := by omega
  have a5 : IntKind.i64.wrap (32 - (n : Int)) = 32 - (n : Int) := IntWalk.i64_in _ (by omega)
  go_quiet (fail)
  go_wp2
  go_ret
  exact ⟨ret_u32 (turn_eq1 x n h0 hn), nq, rfl⟩

theorem rotate_any (x : UInt32) (n : Nat) (w : World) (h0 : 0 < n) (hn : n < 32) :
    Calls Try.prog 54 #[.int .u32 x.toNat, .int .i64 (-(n : Int))] w fun e w' => e = .returned (.int .u32 (rotr x n).toNat) ∧ w = w' := by
  have hx := x.toNat_lt
  have a0 := and31 n h0 hn
  have a2 : ((32 : Int) - ((32 - n : Nat) : Int)) = (n : Int) := by omega
  go_enter Try.func54, Try.ntmps54
  go_wp2
  go_ret
  exact ⟨ret_u32 (turn_eq2 x n h0 hn), rfl⟩

/-- Turned by each of some, and these together. -/
def turns (x : UInt32) (l : List Nat) : UInt32 := l.foldl (fun o n => o ^^^ rotr x n) 0

theorem turns_snoc (x : UInt32) (l : List Nat) (n : Nat) : turns x (l ++ [n]) = turns x l ^^^ rotr x n := by simp [turns]

theorem right_any (x : UInt32) (L : List Nat) (b : Nat) (w : World) (hL : ∀ n ∈ L, 0 < n ∧ n < 32) (hl : L.length ≤ 10) (ha : ∀ j, j < L.length → w.cell? ⟨b, j, none⟩ = some (.int .i64 (L.getD j 0 : Nat))) :
    Calls Try.prog 53 #[.int .u32 x.toNat, .slice (some ⟨b, 0, none⟩) L.length L.length] w fun e w' => e = .returned (.int .u32 (turns x L).toNat) ∧ w = w' := by
  go_enter Try.func53, Try.ntmps53
  go_wp2_with fail
  go_loop [4, 9] (fun o i => ∃ j : Nat, j ≤ L.length ∧ i = .int .i64 j ∧ o = .int .u32 (turns x (L.take j)).toNat) (fun _ i => L.length - (intOf i).toNat)
  case atStart => exact ⟨0, by omega, rfl, rfl⟩
  case round =>
    obtain ⟨j, hj, rfl, rfl⟩ := hrel
    by_cases hjl : j < L.length
    · have hc := ha j hjl
      have hm : L.getD j 0 ∈ L := by
        rw [List.getD_eq_getElem?_getD, List.getElem?_eq_getElem hjl]
        exact List.getElem_mem _
      obtain ⟨h0, h32⟩ := hL _ hm
      have hs : turns x (L.take (j + 1)) = turns x (L.take j) ^^^ rotr x (L.getD j 0) := by
        rw [List.take_succ_eq_append_getElem hjl, turns_snoc]; simp [List.getD, hjl]
      have HS := Lib.hid hs
      clear hs hm ha
      obtain ⟨n, hn⟩ : ∃ n, n = L.getD j 0 := ⟨_, rfl⟩
      rw [← hn] at hc h0 h32 HS
      obtain ⟨T, hT⟩ : ∃ T, T = turns x (L.take j) := ⟨_, rfl⟩
      rw [← hT] at HS ⊢
      have hb := bits_xor T (rotr x n)
      clear hn hT
      go_wp2_with (go_at_call 54; ((with_reducible refine (rotate_any x n _ h0 h32).mono ?_); rintro e w' ⟨rfl, rfl⟩))
      go_round
      case rel => exact ⟨j + 1, by omega, by go_num, by rw [HS.out, UInt32.toNat_xor]⟩
      case measure => simp [intOf]; omega
    · obtain rfl : j = L.length := by omega
      rw [List.take_length]
      go_wp2
      go_ret
      exact ⟨rfl, rfl⟩

end Go.Proofs.Ytjkafmjikfbafaa
