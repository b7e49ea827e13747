/- The walk of the law WireGrows. -/
import Derived.Test.YthhpaceolnpcnaaRefL
import Derived.Test.YthhpaceolnpcnaaPlainG
namespace Go.Proofs.Ythhpaceolnpcnaa
open Go.RowKit
set_option maxRecDepth 100000
set_option linter.unusedSimpArgs false
set_option linter.unusedVariables false

/-- How the two rows lie to each other. -/
structure Lie (a b : Nat) (X Y : ByteArray) : Prop where
  ok : (((X.size : Int) == (Y.size : Int)) = true ∧ ¬ X.size < Y.size ∧ ((a < b ∧ Op.bytesLess X.toList Y.toList = true) ∨ (¬ a < b ∧ Op.bytesLess X.toList Y.toList = false))) ∨ (((X.size : Int) == (Y.size : Int)) = false ∧ ((X.size < Y.size ∧ decide (b ≤ a) = false) ∨ ¬ X.size < Y.size))

theorem lie_of (a b : Nat) : Lie a b (ofBytes (enc a)) (ofBytes (enc b)) := by
  constructor
  by_cases h : (enc a).length = (enc b).length
  · left
    have hl := enc_less h
    refine ⟨by simp [ofBytes_size, h], by simp [ofBytes_size, h], ?_⟩
    rw [Lib.toList_data, Lib.toList_data, ofBytes_data, ofBytes_data, hl]
    by_cases hab : a < b
    · exact Or.inl ⟨hab, by simp [hab]⟩
    · exact Or.inr ⟨hab, by simp [hab]⟩
  · right
    refine ⟨by simp [ofBytes_size]; omega, ?_⟩
    by_cases hl : (enc a).length < (enc b).length
    · have hab := enc_lt_of_len hl
      exact Or.inl ⟨hl, by simpa using hab⟩
    · exact Or.inr hl

theorem grows_below {w w3 w4 w5 w6 w7 : World} (hb : Below w.heap.size w w3) (hg4 : w3.grownBy w4 none) (hg5 : w4.grownBy w5 (some (w3.heap.size + 1))) (hg6 : w5.grownBy w6 (some (w3.heap.size + 1))) (hb7 : Below w6.heap.size w6 w7) : Below w.heap.size w w7 := by
  have h4 := hb.grown hg4 hb.size (by simp)
  have h5 := h4.grown hg5 h4.size (by have := hb.size; simp; omega)
  have h6 := h5.grown hg6 h5.size (by have := hb.size; simp; omega)
  exact h6.next hb7

set_option maxHeartbeats 4000000 in
theorem wireGrows_walk (a b : Nat) (w : World) (ha : a < 18446744073709551616) (hb : b < 18446744073709551616) :
    Calls Try.prog 6 #[.int .u64 a, .int .u64 b] w (TrueOut w) := by
  have hlie := lie_of a b
  obtain ⟨X, hX⟩ : ∃ X, X = ofBytes (enc a) := ⟨_, rfl⟩
  obtain ⟨Y, hY⟩ : ∃ Y, Y = ofBytes (enc b) := ⟨_, rfl⟩
  have hXs : X.size = (enc a).length := by rw [hX]; rfl
  have hYs : Y.size = (enc b).length := by rw [hY]; rfl
  have hX10 : X.size ≤ 10 := by rw [hXs]; exact enc_len a ha
  have hY10 : Y.size ≤ 10 := by rw [hYs]; exact enc_len b hb
  have hXl : (X ++ Y).data.toList = enc a ++ (enc b ++ []) := by rw [hX, hY]; simp [ofBytes]
  have hz : (X ++ Y).size ≤ 140737488351232 := by rw [ByteArray.size_append]; omega
  have p1 := fun wx => put_is a wx ha hX
  have p2 := fun wx => put_is b wx hb hY
  have hnew := fun wx => newReader_any (X ++ Y) wx hz
  rw [hXl] at hnew
  rw [← hX, ← hY] at hlie
  have hk0 : 1 + (encHi (a / 128)).length = X.size := by rw [hXs]; simp [enc]; omega
  have h128 : 0 < a → (enc (a * 128)).length = X.size + 1 := fun h => by rw [hXs]; exact enc_times a h
  have hx1 := numOf_enc a (enc b ++ []) false ha
  have hx2 := numOf_enc b [] false hb
  have HX := Lib.hid (And.intro hX (And.intro hY (And.intro hXs (And.intro hYs (And.intro hXl (And.intro h128 hk0))))))
  clear hX hY hXs hYs hXl h128 hk0 hz
  go_enter Try.func6, Try.ntmps6
  go_wp2_with (first | (go_at_call 9; ((with_reducible refine (p1 _).mono ?_); rintro e w1 ⟨rfl, hb1⟩)) | (go_at_call 9; ((with_reducible refine (p2 _).mono ?_); rintro e w2 ⟨rfl, hb2⟩)))
  go_loop [7, 8] (fun k n => ∃ j m : Nat, k = .int .i64 j ∧ n = .int .u64 m ∧ m < 18446744073709551616 ∧ Hid (j + (encHi m).length = X.size) ∧ j ≤ X.size) (fun _ n => (intOf n).toNat)
  case atStart => exact ⟨1, a / 128, rfl, rfl, by omega, HX.out.2.2.2.2.2.2, by have := HX.out.2.2.2.2.2.2; omega⟩
  case round =>
    obtain ⟨j, m, rfl, rfl, hm, hj, hjx⟩ := hrel
    by_cases hm0 : 0 < m
    · have hj' := hj.out
      rw [encHi_pos m hm0] at hj'
      have HJ := Lib.hid hj'
      have hj1 : j + 1 ≤ X.size := by simp at hj'; omega
      clear hj hj'
      go_wp2
      go_round
      case rel => exact ⟨j + 1, m / 128, by go_num, by go_num, by omega, by have := HJ.out; simp at this; simp [Hid]; omega, hj1⟩
      case measure => simp [intOf]; omega
    · obtain rfl : m = 0 := by omega
      obtain rfl : j = X.size := by simpa [Hid, encHi_zero] using hj
      clear hj
      rcases hlie.ok with ⟨he, hns, ⟨hab, hl⟩ | ⟨hab, hl⟩⟩ | ⟨he, ⟨hl, hab⟩ | hl⟩
      all_goals
        clear hlie p1 p2
        by_cases ha0 : 0 < a
        · by_cases ha57 : a < 144115188075855872
          · have hd57 : decide ((a : Int) < 144115188075855872) = true := by simp; omega
            have h3 := HX.out.2.2.2.2.2.1 ha0
            obtain ⟨Z, hZ⟩ : ∃ Z, Z = ofBytes (enc (a * 128)) := ⟨_, rfl⟩
            have hZs : Z.size = X.size + 1 := by rw [hZ, ← h3]; rfl
            have p3 := fun wx => put_is (a * 128) wx (by omega) hZ
            have hw128 : ((a * 128 : Nat) : Int) = (a : Int) * 128 := by omega
            rw [hw128] at p3
            have hwr : IntKind.u64.wrap ((a : Int) * 128) = (a : Int) * 128 := by rw [IntKind.wrap_u64]; omega
            clear h3 hZ hw128 ha57
            go_wp2_with (first
              | (go_at_call 9; ((with_reducible refine (p3 _).mono ?_); rintro e w3 ⟨rfl, hb3⟩))
              | (go_at_call 14; ((with_reducible refine (hnew _).mono ?_); rintro e w4 ⟨rfl, hr4, hg4⟩))
              | (go_at_call 15; ((with_reducible refine (num_is hr4 hx1).mono ?_); rintro e w5 ⟨rfl, hr5, hg5⟩))
              | (go_at_call 15; ((with_reducible refine (num_is hr5 hx2).mono ?_); rintro e w6 ⟨rfl, hr6, hg6⟩))
              | (go_at_call 21; ((with_reducible refine (end_any _ _ _ _ hr6).mono ?_); rintro e w' ⟨rfl, rfl⟩))
              | (go_at_call 13; ((with_reducible refine (works_any _).mono ?_); rintro e w7 ⟨rfl, hb7⟩)))
            go_ret
            exact ⟨rfl, grows_below (hb1.next (hb2.next hb3)) hg4 hg5 hg6 hb7⟩
          · have hd57 : decide ((a : Int) < 144115188075855872) = false := by simp; omega
            clear ha57
            go_wp2_with (first
              | (go_at_call 9; ((with_reducible refine (p3 _).mono ?_); rintro e w3 ⟨rfl, hb3⟩))
              | (go_at_call 14; ((with_reducible refine (hnew _).mono ?_); rintro e w4 ⟨rfl, hr4, hg4⟩))
              | (go_at_call 15; ((with_reducible refine (num_is hr4 hx1).mono ?_); rintro e w5 ⟨rfl, hr5, hg5⟩))
              | (go_at_call 15; ((with_reducible refine (num_is hr5 hx2).mono ?_); rintro e w6 ⟨rfl, hr6, hg6⟩))
              | (go_at_call 21; ((with_reducible refine (end_any _ _ _ _ hr6).mono ?_); rintro e w' ⟨rfl, rfl⟩))
              | (go_at_call 13; ((with_reducible refine (works_any _).mono ?_); rintro e w7 ⟨rfl, hb7⟩)))
            go_ret
            exact ⟨rfl, grows_below (hb1.next hb2) hg4 hg5 hg6 hb7⟩
        · go_wp2_with (first
            | (go_at_call 9; ((with_reducible refine (p3 _).mono ?_); rintro e w3 ⟨rfl, hb3⟩))
            | (go_at_call 14; ((with_reducible refine (hnew _).mono ?_); rintro e w4 ⟨rfl, hr4, hg4⟩))
            | (go_at_call 15; ((with_reducible refine (num_is hr4 hx1).mono ?_); rintro e w5 ⟨rfl, hr5, hg5⟩))
            | (go_at_call 15; ((with_reducible refine (num_is hr5 hx2).mono ?_); rintro e w6 ⟨rfl, hr6, hg6⟩))
            | (go_at_call 21; ((with_reducible refine (end_any _ _ _ _ hr6).mono ?_); rintro e w' ⟨rfl, rfl⟩))
            | (go_at_call 13; ((with_reducible refine (works_any _).mono ?_); rintro e w7 ⟨rfl, hb7⟩)))
          go_ret
          exact ⟨rfl, grows_below (hb1.next hb2) hg4 hg5 hg6 hb7⟩

end Go.Proofs.Ythhpaceolnpcnaa
