/- The law NameBits: plain facts, and the walk of value. -/
import Derived.Test.YtjkafmjikfbafaaNameKnownW
namespace Go.Proofs.Ytjkafmjikfbafaa
open Go.RowKit
set_option maxRecDepth 100000
set_option linter.unusedSimpArgs false
set_option linter.unusedVariables false
theorem let32_apart : ∀ m n : Fin 32, let32 m.val = let32 n.val → m = n := by decide +kernel
theorem let32_inj {m n : Nat} (hm : m < 32) (hn : n < 32) (h : let32 m = let32 n) : m = n := congrArg Fin.val (let32_apart ⟨m, hm⟩ ⟨n, hn⟩ h)
theorem value_at (n : Nat) (hn : n < 32) (c : UInt8) (hc : c = let32 n) (w : World) : Calls Try.prog 26 #[.int .u8 c.toNat] w fun e w' => e = .returned (.int .i64 n) ∧ w = w' := by
  have HC := Lib.hid hc
  have hx := c.toNat_lt
  clear hc
  obtain ⟨Z, hZ⟩ : ∃ Z, Z = letters32 := ⟨_, rfl⟩
  have hZ32 : Z.size = 32 := by rw [hZ]; rfl
  have hget : ∀ k (hk : k < Z.size), Z[k] = let32 k := fun k hk => by subst hZ; rw [← byte_getD letters32 k hk]; rfl
  have hlit : ({ data := #[48, 49, 50, 51, 52, 53, 54, 55, 56, 57, 97, 98, 99, 100, 102, 103, 104, 105, 106, 107, 108, 109, 110, 112, 113, 114, 115, 118, 119, 120, 121, 122] } : ByteArray) = Z := hZ.symm
  have HLIT := Lib.hid hlit
  have HG := Lib.hid hget
  clear hlit hget hZ
  go_enter Try.func26, Try.ntmps26
  rw [HLIT.out]
  go_wp2_with fail
  go_loop [4] (fun i => ∃ k : Nat, k ≤ n ∧ i = .int .i64 k) (fun i => 32 - (intOf i).toNat)
  case atStart => exact ⟨0, by omega, rfl⟩
  case round =>
    obtain ⟨k, hk, rfl⟩ := hrel
    have hks : k < Z.size := by omega
    by_cases hkn : k = n
    · have ht : ((Z[k].toNat : Int) == (c.toNat : Int)) = true := by rw [HG.out k hks, HC.out, hkn]; simp
      subst hkn
      go_wp2_with fail
      go_ret
      exact ⟨rfl, rfl⟩
    · have ht : ((Z[k].toNat : Int) == (c.toNat : Int)) = false := by
        rw [beq_eq_false_iff_ne, HG.out k hks, HC.out]
        intro e
        exact hkn (let32_inj (by omega) hn (UInt8.toNat_inj.1 (by omega)))
      have HKN := Lib.hid hkn
      clear hkn
      go_wp2_with fail
      go_round
      case rel => exact ⟨k + 1, by have := HKN.out; omega, by go_num⟩
      case measure => simp [intOf]; omega

theorem pre_five (l : List UInt8) (j : Nat) (hj : j < 32) : pre l (5 * (j + 1)) = 32 * pre l (5 * j) + pre l (5 * (j + 1)) % 32 := by
  have := pre_div l (5 * j) (5 * (j + 1)) (by omega) (by omega)
  rw [show 5 * (j + 1) - 5 * j = 5 by omega] at this
  omega
theorem hashF_get (l : List UInt8) (j : Nat) (hj : j < 32) : (hashF l 32).getD j 0 = let32 (pre l (5 * (j + 1)) % 32) := by
  rw [List.getD_eq_getElem?_getD, hashF, List.getElem?_map, List.getElem?_range hj]; rfl
theorem hashF_pre {l m : List UInt8} (hl : 20 ≤ l.length) (hm : 20 ≤ m.length) (h : hashF l 32 = hashF m 32) : ∀ j, j ≤ 32 → pre l (5 * j) = pre m (5 * j)
  | 0, _ => by rw [Nat.mul_zero, pre_zero l hl, pre_zero m hm]
  | j + 1, hj => by
    have ih := hashF_pre hl hm h j (by omega)
    have e : let32 (pre l (5 * (j + 1)) % 32) = let32 (pre m (5 * (j + 1)) % 32) := by
      rw [← hashF_get l j (by omega), ← hashF_get m j (by omega), h]
    have e2 := let32_inj (Nat.mod_lt _ (by omega)) (Nat.mod_lt _ (by omega)) e
    rw [pre_five l j (by omega), pre_five m j (by omega), ih, e2]
theorem hashF_iff {l m : List UInt8} (hl : 20 ≤ l.length) (hm : 20 ≤ m.length) : hashF l 32 = hashF m 32 ↔ l.take 20 = m.take 20 := by
  constructor
  · intro h
    have h160 := hashF_pre hl hm h 32 (by omega)
    have hp : ∀ q, q ≤ 20 → pre l (8 * q) = pre m (8 * q) := fun q hq => by
      rw [pre_div l (8 * q) 160 (by omega) (by omega), pre_div m (8 * q) 160 (by omega) (by omega)]
      rw [show 5 * 32 = 160 by rfl] at h160
      rw [h160]
    apply List.ext_getElem (by rw [List.length_take, List.length_take]; omega)
    intro q h1 h2
    rw [List.getElem_take, List.getElem_take]
    rw [List.length_take] at h1 h2
    have b1 := pre_byte l hl q (by omega)
    have b2 := pre_byte m hm q (by omega)
    rw [hp (q + 1) (by omega), b2, hp q (by omega)] at b1
    rw [List.getD_eq_getElem?_getD, List.getD_eq_getElem?_getD, List.getElem?_eq_getElem (by omega), List.getElem?_eq_getElem (by omega)] at b1
    simp only [Option.getD_some] at b1
    exact UInt8.toNat_inj.1 (by omega)
  · intro h
    unfold hashF pre
    rw [h]
end Go.Proofs.Ytjkafmjikfbafaa
