/- The laws' own works: a star, a group, and one that may not be. -/
import Derived.Test.YtnhlinkkfoojmaaFound
namespace Go.Proofs.Ytnhlinkkfoojmaa
open Go.RowKit
set_option maxRecDepth 100000
set_option linter.unusedSimpArgs false
set_option linter.unusedVariables false
theorem found_1 : foundO 100 [98, 98, 42] [97, 98, 98] 0 = some [49, 51] := by decide +kernel
theorem found_2 : foundO 100 [92, 40, 97, 92, 41, 120] [98, 97, 120] 0 = some [49, 51, 49, 50] := by decide +kernel
theorem found_3 : foundO 100 [92, 40] [120] 0 = some [33] := by decide +kernel
theorem found_4 : foundO 100 [99] [97, 98] 0 = some [110, 111] := by decide +kernel
theorem works_any (w : World) : Calls Try.prog 6 #[] w fun e w' => e = .returned (.bool true) ∧ Below w.heap.size w w' := by
  have g1 : ∀ wx, Calls Try.prog 9 #[.string { data := #[98, 98, 42] }, .string { data := #[97, 98, 98] }, .int .i64 0] wx fun e w' => e = .returned (.string { data := #[49, 51] }) ∧ Below wx.heap.size wx w' := fun wx =>
    found_any wx ⟨#[98, 98, 42]⟩ ⟨#[97, 98, 98]⟩ 0 (by decide) (by decide) (by decide) 100 [49, 51] found_1
  have g2 : ∀ wx, Calls Try.prog 9 #[.string { data := #[92, 40, 97, 92, 41, 120] }, .string { data := #[98, 97, 120] }, .int .i64 0] wx fun e w' => e = .returned (.string { data := #[49, 51, 49, 50] }) ∧ Below wx.heap.size wx w' := fun wx =>
    found_any wx ⟨#[92, 40, 97, 92, 41, 120]⟩ ⟨#[98, 97, 120]⟩ 0 (by decide) (by decide) (by decide) 100 [49, 51, 49, 50] found_2
  have g3 : ∀ wx, Calls Try.prog 9 #[.string { data := #[92, 40] }, .string { data := #[120] }, .int .i64 0] wx fun e w' => e = .returned (.string { data := #[33] }) ∧ Below wx.heap.size wx w' := fun wx =>
    found_any wx ⟨#[92, 40]⟩ ⟨#[120]⟩ 0 (by decide) (by decide) (by decide) 100 [33] found_3
  have g4 : ∀ wx, Calls Try.prog 9 #[.string { data := #[99] }, .string { data := #[97, 98] }, .int .i64 0] wx fun e w' => e = .returned (.string { data := #[110, 111] }) ∧ Below wx.heap.size wx w' := fun wx =>
    found_any wx ⟨#[99]⟩ ⟨#[97, 98]⟩ 0 (by decide) (by decide) (by decide) 100 [110, 111] found_4
  go_enter Try.func6, Try.ntmps6
  go_wp2_with (first
    | (go_at_call 9; ((with_reducible refine (g1 _).mono ?_); rintro e w1 ⟨rfl, hb1⟩))
    | (go_at_call 9; ((with_reducible refine (g2 _).mono ?_); rintro e w2 ⟨rfl, hb2⟩))
    | (go_at_call 9; ((with_reducible refine (g3 _).mono ?_); rintro e w3 ⟨rfl, hb3⟩))
    | (go_at_call 9; ((with_reducible refine (g4 _).mono ?_); rintro e w4 ⟨rfl, hb4⟩)))
  go_ret
  exact ⟨rfl, ((hb1.trans (hb2.mono hb1.size)).trans (hb3.mono (Nat.le_trans hb1.size hb2.size))).trans (hb4.mono (Nat.le_trans (Nat.le_trans hb1.size hb2.size) hb3.size))⟩
end Go.Proofs.Ytnhlinkkfoojmaa
