/- The walks of the reference's bit, letters, Hash. -/
import Derived.Test.YtjkafmjikfbafaaNameH
namespace Go.Proofs.Ytjkafmjikfbafaa
open Go.RowKit
set_option maxRecDepth 100000
set_option linter.unusedSimpArgs false
set_option linter.unusedVariables false

theorem and_one (n : Nat) (hn : n < 256) : bits .and .i64 (n : Int) 1 = ((n % 2 : Nat) : Int) := by
  have : ∀ m : Fin 256, bits .and .i64 (m.val : Int) 1 = ((m.val % 2 : Nat) : Int) := by decide
  exact this ⟨n, hn⟩
theorem refBit_at (s : ByteArray) (q r v : Nat) (mi : Int) (w : World) (hq : q < s.size) (e1 : mi / 8 = (q : Int)) (e2 : 7 - mi % 8 = (r : Int)) (h0 : 0 ≤ mi) (hm : mi < 1000) (e4 : min r 64 = r) (h1 : bits .and .i64 ((s[q].toNat : Int) / 2 ^ r) 1 = (v : Int)) :
    Calls Try.prog 38 #[.string s, .int .i64 mi] w fun e w' => e = .returned (.int .i64 (v : Int)) ∧ w = w' := by
  have hx := (s[q]).toNat_lt
  go_enter Try.func38, Try.ntmps38
  go_wp2
  go_ret
  exact ⟨rfl, rfl⟩
theorem refBit_any (s : ByteArray) (m : Nat) (w : World) (hm : m / 8 < s.size) (hm2 : m < 1000) :
    Calls Try.prog 38 #[.string s, .int .i64 m] w fun e w' => e = .returned (.int .i64 ((s[m / 8].toNat / 2 ^ (7 - m % 8) % 2 : Nat) : Int)) ∧ w = w' := by
  have hx := (s[m / 8]).toNat_lt
  have h1 := and_one (s[m / 8].toNat / 2 ^ (7 - m % 8)) (Nat.lt_of_le_of_lt (Nat.div_le_self _ _) hx)
  rw [Int.natCast_ediv] at h1
  have e5 : ((2 ^ (7 - m % 8) : Nat) : Int) = (2 : Int) ^ (7 - m % 8) := by simp
  rw [e5] at h1
  exact refBit_at s (m / 8) (7 - m % 8) _ m w hm (Int.natCast_ediv _ _).symm (by have : (m : Int) % 8 = ((m % 8 : Nat) : Int) := (Int.natCast_emod _ _).symm; omega) (by omega) (by omega) (by omega) h1

theorem letters_any (w : World) : Calls Try.prog 39 #[] w fun e w' => e = .returned (.string letters32) ∧ w = w' := by
  go_enter Try.func39, Try.ntmps39
  go_wp2
  go_ret
  exact ⟨rfl, rfl⟩
theorem letter_cut (n : Nat) (hn : n < 32) : letters32.extract n (n + 1) = ⟨#[let32 n]⟩ := by
  have : ∀ m : Fin 32, (letters32.extract m.val (m.val + 1)).data.toList = [let32 m.val] := by decide
  apply ByteArray.ext
  apply Array.ext'
  exact this ⟨n, hn⟩
theorem slice_letter (n : Nat) (hn : n < 32) (w : World) : (Instr.slice 9 (.string letters32) (some (.int .i64 n)) (some (.int .i64 ((n : Int) + 1))) none).run Try.prog w = .ok (.string ⟨#[let32 n]⟩) w := by
  have hs : letters32.size = 32 := rfl
  have h := letter_cut n hn
  have e1 : (0 : Int) ≤ (n : Int) := by omega
  have e2 : (n : Int) ≤ (n : Int) + 1 := by omega
  have e3 : (n : Int) + 1 ≤ (letters32.size : Int) := by rw [hs]; omega
  have e4 : ((n : Int) + 1).toNat = n + 1 := by omega
  have e5 : ((n : Int)).toNat = n := by omega
  have := run_slice_string (P := Try.prog) w 9 letters32 .i64 .i64 n ((n : Int) + 1) Try.underlying9 e1 e2 e3
  rw [this, e4, e5, h]

set_option maxHeartbeats 4000000 in
theorem refHash_any (s : ByteArray) (w : World) (hs : s.size ≤ 1099511627776) :
    Calls Try.prog 18 #[.string s] w fun e w' => e = .returned (.string ⟨(hashF (shaSum s.data.toList) 32).toArray⟩) ∧ Below w.heap.size w w' := by
  obtain ⟨l, hl⟩ : ∃ l, l = shaSum s.data.toList := ⟨_, rfl⟩
  have hl32 : l.length = 32 := by rw [hl, shaSum_length]
  have hsz : (sumB s).size = 32 := by unfold sumB; rw [mk_size, shaSum_length]
  have hget : ∀ j (hj : j < (sumB s).size), (sumB s)[j] = l.getD j 0 := fun j hj => by
    rw [← byte_getD (sumB s) j hj, hl]
    unfold sumB; rw [List.toList_toArray]
  rw [← hl]
  obtain ⟨X, hX⟩ : ∃ X, X = sumB s := ⟨_, rfl⟩
  have h20 : 32 ≤ X.size := by rw [hX]; omega
  rw [← hX] at hget
  have HX := Lib.hid hX
  have HL32 := Lib.hid hl32
  have HG := Lib.hid hget
  clear hl hl32 hget hsz hX
  go_enter Try.func18, Try.ntmps18
  go_wp2_with (go_at_call 14; ((with_reducible refine (refSumB_any s _ hs).mono ?_); rintro e w1 ⟨rfl, hb1⟩))
  rw [← HX.out]
  go_loopw [4, 5] (fun ov iv wr => ∃ i : Nat, i ≤ 32 ∧ iv = .int .i64 i ∧ ov = .string ⟨(hashF l i).toArray⟩ ∧ wr = w1) (fun _ iv _ => 32 - (intOf iv).toNat)
  case atStart => exact ⟨0, by omega, rfl, rfl, rfl⟩
  case round =>
    obtain ⟨i, hi, rfl, rfl, rfl⟩ := hrel
    by_cases hi32 : i < 32
    · have hi32i : decide ((i : Int) < 32) = true := by simp; omega
      go_wp2_with fail
      go_loopw [6, 7] (fun nv kv wx => ∃ k n : Nat, k ≤ 5 ∧ n < 32 ∧ kv = .int .i64 k ∧ nv = .int .i64 (n : Nat) ∧ Hid (n = pre l (5 * i + k) % 2 ^ k) ∧ wx = wr) (fun _ kv _ => 5 - (intOf kv).toNat)
      case atStart => exact ⟨0, 0, by omega, by omega, rfl, rfl, by show 0 = _; omega, rfl⟩
      case round =>
        obtain ⟨k, n, hk, hn, rfl, rfl, hne, rfl⟩ := hrel
        obtain ⟨w2, rfl⟩ : ∃ w2, w2 = wr := ⟨_, rfl⟩
        by_cases hk5 : k < 5
        · have hbit := refBit_any X (5 * i + k) w2 (by omega) (by omega)
          have hv : X[(5 * i + k) / 8].toNat / 2 ^ (7 - (5 * i + k) % 8) % 2 = pre l (5 * i + (k + 1)) % 2 := by
            rw [← Nat.add_assoc, pre_bit l (by have := HL32.out; omega) (5 * i + k) (by omega), HG.out]
          rw [hv] at hbit
          have hnew : 2 * n + pre l (5 * i + (k + 1)) % 2 = pre l (5 * i + (k + 1)) % 2 ^ (k + 1) := by
            have h2 := pre_two l (5 * i + k) (by omega)
            rw [Nat.add_assoc] at h2
            rw [hne.out, Nat.pow_succ, Nat.mul_comm (2 ^ k) 2, Nat.mod_mul, show pre l (5 * i + (k + 1)) / 2 = pre l (5 * i + k) by omega]
            omega
          have hlt : pre l (5 * i + (k + 1)) % 2 ^ (k + 1) < 32 := by
            have h1 := Nat.mod_lt (pre l (5 * i + (k + 1))) (show 0 < 2 ^ (k + 1) from Nat.pow_pos (by omega))
            have h2 := Nat.pow_le_pow_right (n := 2) (by omega) (show k + 1 ≤ 5 by omega)
            omega
          obtain ⟨v, hve⟩ : ∃ v, v = pre l (5 * i + (k + 1)) % 2 := ⟨_, rfl⟩
          rw [← hve] at hbit hnew
          have hv2 : v < 2 := by omega
          rw [show ((5 * i + k : Nat) : Int) = 5 * (i : Int) + (k : Int) by omega] at hbit
          have HN := Lib.hid hnew
          have HNE := hne
          clear hv hve hnew hne
          go_wp2_with (go_at_call 38; ((with_reducible refine hbit.mono ?_); rintro e w3 ⟨rfl, rfl⟩))
          go_roundw
          case rel =>
            have h2 := HN.out
            exact ⟨k + 1, 2 * n + v, by omega, by omega, by go_num, by go_num, HN.out, trivial⟩
          case measure => simp [intOf]; omega
        · obtain rfl : k = 5 := by omega
          have hsl := slice_letter n hn
          have hfl := hashF_length l i
          go_wp2_with (go_at_call 39; ((with_reducible refine (letters_any _).mono ?_); rintro e w3 ⟨rfl, rfl⟩))
          go_roundw
          case rel =>
            refine ⟨i + 1, by omega, by go_num, ?_, trivial⟩
            have h2 := hne.out
            rw [hashF_succ, show 5 * (i + 1) = 5 * i + 5 by omega, show (32 : Nat) = 2 ^ 5 by rfl, ← h2]
            exact congrArg Value.string (mk_app _ [_])
          case measure => simp [intOf]; omega
    · obtain rfl : i = 32 := by omega
      go_wp2_with fail
      go_ret
      exact ⟨rfl, hb1⟩
end Go.Proofs.Ytjkafmjikfbafaa
