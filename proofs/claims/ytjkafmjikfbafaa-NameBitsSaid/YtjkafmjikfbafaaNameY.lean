/- The walk of the law NameBits. -/
import Derived.Test.YtjkafmjikfbafaaNameZ
namespace Go.Proofs.Ytjkafmjikfbafaa
open Go.RowKit
set_option maxRecDepth 100000
set_option linter.unusedSimpArgs false
set_option linter.unusedVariables false
theorem and_low (n k : Nat) (hn : n < 4096) (hk : k < 8) : bits .and .i64 (n : Int) ((2 ^ k - 1 : Nat) : Int) = ((n % 2 ^ k : Nat) : Int) := by
  have hp : 2 ^ k - 1 < 256 := by
    have : 2 ^ k ≤ 2 ^ 8 := Nat.pow_le_pow_right (by omega) (by omega)
    omega
  have e := Nat.and_two_pow_sub_one_eq_mod n k
  have h1 : (BitVec.ofInt 64 (n : Int)).toNat = n := by
    rw [BitVec.ofInt_natCast, BitVec.toNat_ofNat]; exact Nat.mod_eq_of_lt (by omega)
  have h2 : (BitVec.ofInt 64 ((2 ^ k - 1 : Nat) : Int)).toNat = 2 ^ k - 1 := by
    rw [BitVec.ofInt_natCast, BitVec.toNat_ofNat]; exact Nat.mod_eq_of_lt (by omega)
  show IntKind.i64.wrap ((BitVec.ofInt 64 (n : Int) &&& BitVec.ofInt 64 ((2 ^ k - 1 : Nat) : Int)).toNat : Int) = _
  rw [BitVec.toNat_and, h1, h2, e]
  have := Nat.mod_le n (2 ^ k)
  exact IntWalk.i64_in _ (by omega)
theorem conv_single (wr : World) (x : UInt8) : (convert 27 9 (.slice (some ⟨wr.heap.size, 0, none⟩) 1 1)).run Try.prog (wr.alloc (.cells #[.int .u8 x.toNat] 5)) = .ok (.string ⟨#[x]⟩) (wr.alloc (.cells #[.int .u8 x.toNat] 5)) := by
  have hb : BytesAt (wr.alloc (.cells #[.int .u8 x.toNat] 5)) wr.heap.size 0 [x] := by
    intro j hj
    obtain rfl : j = 0 := by simp at hj; omega
    have h := heap_alloc_new wr (.cells #[.int .u8 x.toNat] 5)
    show (match (wr.alloc (.cells #[.int .u8 x.toNat] 5)).heap[wr.heap.size]? with | some (.cells c _ _) => _ | _ => none) = _
    rw [h]; rfl
  exact run_conv_str (P := Try.prog) 27 5 9 Try.underlying27 Try.underlying5 Try.underlying9 hb 1 1 rfl

/-- One letter more. -/
theorem bits_step (l : List UInt8) (hl : 20 ≤ l.length) (i q b h v : Nat) (hi : i < 32) (hq : 5 * i = 8 * q + b) (hb : b < 8) (hh : h = pre l (5 * i) % 2 ^ b) (hv : v = pre l (5 * (i + 1)) % 32) :
    h * 32 + v = pre l (5 * (i + 1)) % 2 ^ (b + 5) := by
  have h5 := pre_five l i hi
  rw [hh, hv]
  rw [show (2 : Nat) ^ (b + 5) = 32 * 2 ^ b by rw [Nat.pow_add]; omega, Nat.mod_mul]
  have : pre l (5 * (i + 1)) / 32 = pre l (5 * i) := by omega
  rw [this]
  omega
theorem bits_byte (l : List UInt8) (hl : 20 ≤ l.length) (i q b r n : Nat) (hi : i < 32) (hq : 5 * i = 8 * q + b) (hr : b + 5 = 8 + r) (hn : n = pre l (5 * (i + 1)) % 2 ^ (b + 5)) :
    n / 2 ^ r = (l.getD q 0).toNat ∧ n % 2 ^ r = pre l (5 * (i + 1)) % 2 ^ r := by
  have hqq : q < 20 := by omega
  have hb := pre_byte l hl q hqq
  have hd := pre_div l (8 * (q + 1)) (5 * (i + 1)) (by omega) (by omega)
  rw [show 5 * (i + 1) - 8 * (q + 1) = r by omega] at hd
  have hx := (l.getD q 0).toNat_lt
  refine ⟨?_, ?_⟩
  · rw [hn, show b + 5 = r + 8 by omega, Nat.pow_add, Nat.mod_mul_right_div_self, ← hd, hb]
    omega
  · rw [hn, low_bits _ _ _ (by omega)]


theorem sumB_take (s : ByteArray) : (sumB s).extract 0 20 = ⟨((shaSum s.data.toList).take 20).toArray⟩ := by
  apply ext_bytes
  rw [Lib.extract_data, List.drop_zero]
  unfold sumB
  rw [List.toList_toArray, List.toList_toArray]
set_option maxHeartbeats 8000000 in
theorem nameBits_walk (a b : ByteArray) (w : World) (ha : a.size ≤ 9223372036854775807) (hb : b.size ≤ 9223372036854775807) : Calls Try.prog 10 #[.string a, .string b] w (TrueOut w) := by
  go_enter Try.func10, Try.ntmps10
  obtain ⟨m, hm, hm1, hm2⟩ : ∃ m : Nat, min (a.size : Int) 300 = (m : Int) ∧ m ≤ a.size ∧ m ≤ 300 := ⟨min a.size 300, by omega, by omega, by omega⟩
  obtain ⟨n, hn, hn1, hn2⟩ : ∃ n : Nat, min (b.size : Int) 300 = (n : Int) ∧ n ≤ b.size ∧ n ≤ 300 := ⟨min b.size 300, by omega, by omega, by omega⟩
  have hxs : (a.extract 0 m).size ≤ 300 := by simp; omega
  have hys : (b.extract 0 n).size ≤ 300 := by simp; omega
  obtain ⟨L, hL⟩ : ∃ L, L = shaSum (a.extract 0 m).data.toList := ⟨_, rfl⟩
  obtain ⟨L', hL'⟩ : ∃ L', L' = shaSum (b.extract 0 n).data.toList := ⟨_, rfl⟩
  have hl : L.length = 32 := by rw [hL, shaSum_length]
  have hl' : L'.length = 32 := by rw [hL', shaSum_length]
  obtain ⟨X, hX⟩ : ∃ X, X = (⟨(hashF L 32).toArray⟩ : ByteArray) := ⟨_, rfl⟩
  obtain ⟨Y, hY⟩ : ∃ Y, Y = (⟨(hashF L' 32).toArray⟩ : ByteArray) := ⟨_, rfl⟩
  obtain ⟨S, hS⟩ : ∃ S, S = sumB (a.extract 0 m) := ⟨_, rfl⟩
  obtain ⟨T, hT⟩ : ∃ T, T = sumB (b.extract 0 n) := ⟨_, rfl⟩
  have hXs : X.size = 32 := by rw [hX]; exact hash_size _
  have hYs : Y.size = 32 := by rw [hY]; exact hash_size _
  have hSs : S.size = 32 := by rw [hS]; unfold sumB; rw [mk_size, shaSum_length]
  have hTs : T.size = 32 := by rw [hT]; unfold sumB; rw [mk_size, shaSum_length]
  have g1 := hash_h (a.extract 0 m) X (by rw [hX, hL]) (by omega)
  have g2 := hash_h (b.extract 0 n) Y (by rw [hY, hL']) (by omega)
  have g3 := fun wx => sumB_any (a.extract 0 m) wx (by omega)
  have g4 := fun wx => sumB_any (b.extract 0 n) wx (by omega)
  rw [← hS] at g3
  rw [← hT] at g4
  have hget : ∀ k (hk : k < X.size), X[k] = let32 (pre L (5 * (k + 1)) % 32) := fun k hk => by
    rw [← hashF_get L k (by omega), ← byte_getD X k hk, hX, List.toList_toArray]
  obtain ⟨S20, hS20⟩ : ∃ S20, S20 = S.extract 0 20 := ⟨_, rfl⟩
  obtain ⟨T20, hT20⟩ : ∃ T20, T20 = T.extract 0 20 := ⟨_, rfl⟩
  have hSe : S20 = ⟨(L.take 20).toArray⟩ := by rw [hS20, hS, sumB_take, hL]
  have hTe : T20 = ⟨(L'.take 20).toArray⟩ := by rw [hT20, hT, sumB_take, hL']
  have hss : ∀ wx, (Instr.slice 9 (.string S) none (some (.int .i64 20)) none).run Try.prog wx = .ok (.string S20) wx := fun wx => by
    rw [hS20]; exact run_slice_string_h wx 9 S Try.underlying9 .i64 20 (by omega) (by omega)
  have hst : ∀ wx, (Instr.slice 9 (.string T) none (some (.int .i64 20)) none).run Try.prog wx = .ok (.string T20) wx := fun wx => by
    rw [hT20]; exact run_slice_string_h wx 9 T Try.underlying9 .i64 20 (by omega) (by omega)
  have hiff := hashF_iff (l := L) (m := L') (by omega) (by omega)
  obtain ⟨eb, heb⟩ : ∃ eb : Bool, eb = (X.toList == Y.toList) := ⟨_, rfl⟩
  have heb2 : (S20.toList == T20.toList) = eb := by
    rw [heb, toList_data, toList_data, toList_data, toList_data, hX, hY, hSe, hTe, Bool.eq_iff_iff, beq_iff_eq, beq_iff_eq]
    simp only [List.toList_toArray]
    exact hiff.symm
  have HEB := Lib.hid heb.symm
  have HEB2 := Lib.hid heb2
  have HG := Lib.hid hget
  have HL := Lib.hid hl
  have HSE := Lib.hid hSe
  clear heb heb2 hiff hget hX hY hS hT hL hL' hl hl' hS20 hT20 hSe hTe
  go_wp2_with (first
    | (go_at_call 17; ((with_reducible refine (g1 _).mono ?_); rintro e w1 ⟨rfl, hb1⟩))
    | (go_at_call 17; ((with_reducible refine (g2 _).mono ?_); rintro e w2 ⟨rfl, hb2⟩))
    | (go_at_call 13; ((with_reducible refine (g3 _).mono ?_); rintro e w3 ⟨rfl, hb3⟩))
    | (go_at_call 13; ((with_reducible refine (g4 _).mono ?_); rintro e w4 ⟨rfl, hb4⟩)))
  have hB0 := below_next (below_next (below_next hb1 hb2) hb3) hb4
  go_loopw [9, 10, 11, 12, 13] (fun ov hv bv iv _ wr => ∃ (i q b h : Nat) (O : ByteArray), i ≤ 32 ∧ b < 8 ∧ 5 * i = 8 * q + b ∧ h < 128 ∧ O.size ≤ 20 ∧ iv = .int .i64 i ∧ bv = .int .i64 b ∧ hv = .int .i64 h ∧ ov = .string O ∧ Hid (h = pre L (5 * i) % 2 ^ b) ∧ Hid (O = ⟨(L.take q).toArray⟩) ∧ Below w.heap.size w wr) (fun _ _ _ iv _ _ => 32 - (intOf iv).toNat)
  case atStart => exact ⟨0, 0, 0, 0, ⟨#[]⟩, by omega, by omega, rfl, by omega, by decide, rfl, rfl, rfl, rfl, by show 0 = _; omega, by show (⟨#[]⟩ : ByteArray) = _; rw [List.take_zero], hB0⟩
  case round =>
    obtain ⟨i, q, b', h, O, hi, hb8, hqb, hh, hO, rfl, rfl, rfl, rfl, hH, hOO, hbel⟩ := hrel
    clear hb1 hb2 hb3 hb4 hB0
    by_cases hi32 : i < 32
    · obtain ⟨v, hv⟩ : ∃ v, v = pre L (5 * (i + 1)) % 32 := ⟨_, rfl⟩
      have hv32 : v < 32 := by omega
      have hval := fun wx => value_at v hv32 (X[i]'(by omega)) (by rw [HG.out i (by omega), hv]) wx
      have hiX : i < X.size := by omega
      have hvneg : decide ((v : Int) < 0) = false := decide_eq_false (by omega)
      have hid : decide ((i : Int) < 32) = true := decide_eq_true (by omega)
      have hst5 := bits_step L (by rw [HL.out]; omega) i q b' h v hi32 hqb hb8 hH.out hv
      obtain ⟨N, hN⟩ : ∃ N, N = h * 32 + v := ⟨_, rfl⟩
      have hNb : N < 4096 := by omega
      rw [← hN] at hst5
      have HN := Lib.hid hst5
      have hNi : (h : Int) * 32 + (v : Int) = (N : Int) := by omega
      clear hst5 hv hN
      by_cases hb3 : b' < 3
      · have hd8 : decide (8 ≤ (b' : Int) + 5) = false := decide_eq_false (by omega)
        go_wp2_with (go_at_call 26; ((with_reducible refine (hval _).mono ?_); rintro e w5 ⟨rfl, rfl⟩))
        go_roundw
        case rel =>
          have hN128 : N < 128 := by
            have h1 := Nat.mod_lt (pre L (5 * (i + 1))) (show 0 < 2 ^ (b' + 5) from Nat.pow_pos (by omega))
            have h2 := Nat.pow_le_pow_right (n := 2) (by omega) (show b' + 5 ≤ 7 by omega)
            have := HN.out
            omega
          exact ⟨i + 1, q, b' + 5, N, O, by omega, by omega, by omega, hN128, hO, by go_num, by go_num, rfl, rfl, HN.out, hOO.out, hbel⟩
        case measure => simp [intOf]; omega
      · obtain ⟨r, hr⟩ : ∃ r, b' + 5 = 8 + r := ⟨b' - 3, by omega⟩
        have hd8 : decide (8 ≤ (b' : Int) + 5) = true := decide_eq_true (by omega)
        have hri : (b' : Int) + 5 - 8 = (r : Int) := by omega
        obtain ⟨p1, p2⟩ := bits_byte L (by rw [HL.out]; omega) i q b' r N hi32 hqb hr HN.out
        obtain ⟨x, hx⟩ : ∃ x, x = L.getD q 0 := ⟨_, rfl⟩
        have hx256 := x.toNat_lt
        rw [← hx] at p1
        have q1 : (N : Int) / 2 ^ r = (x.toNat : Int) := by
          rw [← p1, Int.natCast_ediv]; simp
        have q2 := and_low N r hNb (by omega)
        rw [p2] at q2
        have q3 : ((2 ^ r - 1 : Nat) : Int) = (2 : Int) ^ r - 1 := by
          have : 0 < 2 ^ r := Nat.pow_pos (by omega)
          rw [Int.natCast_sub (by omega)]; simp
        rw [q3] at q2
        have hr5 : r < 5 := by omega
        have hr64 : min r 64 = r := by omega
        have hcv := fun (W : World) => conv_single W x
        obtain ⟨h2, hh2⟩ : ∃ h2, h2 = pre L (5 * (i + 1)) % 2 ^ r := ⟨_, rfl⟩
        rw [← hh2] at q2
        have HX := Lib.hid hx
        have HH2 := Lib.hid hh2
        clear p1 p2 hx hh2 q3
        go_wp2_with (go_at_call 26; ((with_reducible refine (hval _).mono ?_); rintro e w5 ⟨rfl, rfl⟩))
        go_roundw
        case rel =>
          have hh128 : h2 < 128 := by
            have h1 := Nat.mod_lt (pre L (5 * (i + 1))) (show 0 < 2 ^ r from Nat.pow_pos (by omega))
            have h2 := Nat.pow_le_pow_right (n := 2) (by omega) (show r ≤ 7 by omega)
            have := HH2.out
            omega
          have hwr : wrap64 (wrap64 ((2 : Int) ^ r) - 1) = (2 : Int) ^ r - 1 := by
            have h5 : r = 0 ∨ r = 1 ∨ r = 2 ∨ r = 3 ∨ r = 4 := by omega
            rcases h5 with rfl | rfl | rfl | rfl | rfl <;> decide +kernel
          have hOn : O ++ ⟨#[x]⟩ = (⟨(L.take (q + 1)).toArray⟩ : ByteArray) := by
            have hq32 : q < L.length := by rw [HL.out]; omega
            apply ext_bytes
            rw [hOO.out, HX.out]
            show (L.take q).toArray.toList ++ [L.getD q 0] = (L.take (q + 1)).toArray.toList
            rw [List.toList_toArray, List.toList_toArray, List.take_succ_eq_append_getElem hq32, List.getD_eq_getElem?_getD, List.getElem?_eq_getElem hq32]
            rfl
          have hOs : (O ++ ⟨#[x]⟩ : ByteArray).size ≤ 20 := by
            rw [hOn, mk_size, List.length_take]; omega
          rw [hwr, q2]
          exact ⟨i + 1, q + 1, r, h2, O ++ ⟨#[x]⟩, by omega, by omega, by omega, hh128, hOs, by go_num, rfl, rfl, rfl, HH2.out, Lib.hid hOn, hbel.alloc hbel.size _⟩
        case measure => simp [intOf]; omega
    · obtain rfl : i = 32 := by omega
      obtain ⟨rfl, rfl⟩ : q = 20 ∧ b' = 0 := by omega
      obtain rfl : S20 = O := by rw [hOO.out, HSE.out]
      obtain rfl : h = 0 := by rw [hH.out]; omega
      go_wp2_with fail
      have qs1 := HEB.out
      have qs2 := HEB2.out
      clear g1 g2 g3 g4 hm hm1 hm2 hn hn1 hn2 hxs hys HEB HEB2 HG HL HSE hOO hH hXs hYs hTs hSs hqb hi hi32 hb8 hh ha hb hO
      refine wp_region_quiet_tail 20 (by kernel_rfl) (by kernel_rfl) ?_
      simp only [List.take_succ_cons, List.take_zero, List.drop_succ_cons, List.drop_zero]
      repeat (go_big_quiet_step (fail))
      refine wpQuiet_nil ?_
      intro _ hw'
      obtain ⟨nq2, hw''⟩ := hw'
      subst hw''
      go_wp2_with (go_at_call 19; ((with_reducible refine (nworks_any _).mono ?_); rintro e1 w5 ⟨rfl, hb5⟩))
      go_ret
      exact ⟨rfl, below_next (below_drewN hbel _) hb5⟩
end Go.Proofs.Ytjkafmjikfbafaa
