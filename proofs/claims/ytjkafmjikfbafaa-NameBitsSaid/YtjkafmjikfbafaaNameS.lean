/- The walks of the program's Path and Split. -/
import Derived.Test.YtjkafmjikfbafaaNameR
import Derived.Test.YtjkafmjikfbafaaNameA
namespace Go.Proofs.Ytjkafmjikfbafaa
open Go.RowKit
set_option maxRecDepth 100000
set_option linter.unusedSimpArgs false
set_option linter.unusedVariables false

theorem path_any (a b : ByteArray) (w : World) (ha : a.size ≤ 1000) (hb : b.size ≤ 1000) :
    Calls Try.prog 20 #[.string a, .string b] w fun e w' => e = .returned (.tuple #[.string (pathS a b), .int .i64 (pathN a b : Nat)]) ∧ Below w.heap.size w w' := by
  obtain ⟨h, hh⟩ : ∃ h, h = isHashB a.data.toList := ⟨_, rfl⟩
  obtain ⟨c, hc⟩ : ∃ c, c = checkN b.data.toList := ⟨_, rfl⟩
  have g1 := isHash_any a w (by omega)
  have g2 := fun wx => check_any b wx (by omega)
  rw [← hh] at g1
  rw [← hc] at g2
  have hP := pathS_eq a b
  have hN := pathN_eq a b
  rw [← hh, ← hc] at hP hN
  have HP := Lib.hid hP
  have HN := Lib.hid hN
  clear hP hN hh hc
  go_enter Try.func20, Try.ntmps20
  cases h with
  | false =>
    go_wp2_with (go_at_call 40; ((with_reducible refine g1.mono ?_); rintro e w1 ⟨rfl, hb1⟩))
    go_ret2
    exact ⟨by rw [HP.out, HN.out]; rfl, hb1⟩
  | true =>
    by_cases h0 : c = 0
    · subst h0
      go_wp2_with (first
        | (go_at_call 40; ((with_reducible refine g1.mono ?_); rintro e w1 ⟨rfl, hb1⟩))
        | (go_at_call 24; ((with_reducible refine (g2 _).mono ?_); rintro e w2 ⟨rfl, hb2⟩)))
      go_ret2
      exact ⟨by rw [HP.out, HN.out]; rfl, hb1.trans (hb2.mono hb1.size)⟩
    · have hc0 : ((c : Int) == 0) = false := by rw [beq_eq_false_iff_ne]; omega
      have hne : ¬ (c : Int) = 0 := by omega
      have H0 := Lib.hid h0
      clear h0
      go_wp2_with (first
        | (go_at_call 40; ((with_reducible refine g1.mono ?_); rintro e w1 ⟨rfl, hb1⟩))
        | (go_at_call 24; ((with_reducible refine (g2 _).mono ?_); rintro e w2 ⟨rfl, hb2⟩)))
      go_ret2
      refine ⟨?_, hb1.trans (hb2.mono hb1.size)⟩
      rw [HP.out, HN.out, if_neg (fun e => H0.out e.2)]
      rfl

set_option maxHeartbeats 4000000 in
theorem split_any (s : ByteArray) (w : World) (hs : s.size ≤ 1000) :
    Calls Try.prog 22 #[.string s] w fun e w' => e = .returned (.tuple #[.string (splitA s), .string (splitC s), .int .i64 (splitN s : Nat)]) ∧ Below w.heap.size w w' := by
  obtain ⟨X, hX⟩ : ∃ X, X = s.extract 0 32 := ⟨_, rfl⟩
  obtain ⟨Y, hY⟩ : ∃ Y, Y = s.extract 33 s.size := ⟨_, rfl⟩
  have hXs : X.size ≤ 1000 := by rw [hX, ByteArray.size_extract]; omega
  have hYs : Y.size ≤ 1000 := by rw [hY, ByteArray.size_extract]; omega
  have hYe : s.size = 33 → Y.data.toList.length = 0 := fun h => by
    have : Y.size = 0 := by rw [hY, ByteArray.size_extract]; omega
    rw [← this]; simp
  obtain ⟨h, hh⟩ : ∃ h, h = isHashB X.data.toList := ⟨_, rfl⟩
  obtain ⟨c, hc⟩ : ∃ c, c = checkN Y.data.toList := ⟨_, rfl⟩
  have hc33 : s.size = 33 → ¬ c = 0 := fun h => by
    rw [hc, List.eq_nil_of_length_eq_zero (hYe h)]; decide
  have g1 := fun wx => isHash_any X wx (by omega)
  have g2 := fun wx => check_any Y wx (by omega)
  rw [← hh] at g1
  rw [← hc] at g2
  have hB := splitB_eq s
  rw [← hX, ← hY, ← hh, ← hc] at hB
  have hsl1 := slice_32 s X hX
  have hsl2 := slice_33 s Y hY
  have HB := Lib.hid hB
  have HX := Lib.hid hX
  have HY := Lib.hid hY
  have H33 := Lib.hid hc33
  clear hB hX hY hh hc hc33 hYe
  go_enter Try.func22, Try.ntmps22
  by_cases h32 : s.size ≤ 32
  · have hno : splitB s = false := by rw [HB.out, decide_eq_false (by omega)]; simp
    have HNO := Lib.hid (split_no hno)
    have hd : decide ((s.size : Int) ≤ 32) = true := decide_eq_true (by omega)
    clear hno hsl1 hsl2
    go_wp2_with fail
    go_ret3
    exact ⟨by rw [HNO.out.1, HNO.out.2.1, HNO.out.2.2]; rfl, Below.refl _ _⟩
  have hd : decide ((s.size : Int) ≤ 32) = false := decide_eq_false (by omega)
  have hsl1 := hsl1 (by omega)
  have hsl2 := hsl2 (by omega)
  have h32 : 32 < s.size := by omega
  have hget : s.data.toList.getD 32 0 = s[32] := by rw [← byte_getD s 32 h32]
  by_cases h45 : s[32] = 45
  · have hne : ((s[32].toNat : Int) == 45) = true := by rw [h45]; rfl
    have hlit : (s[32].toNat : Int) = 45 := by rw [h45]; rfl
    cases h with
    | false =>
      have hno : splitB s = false := by rw [HB.out]; simp
      have HNO := Lib.hid (split_no hno)
      clear hno h45 hget
      go_wp2_with fail
      go_quiet (fail)
      go_wp2_with (first
          | (go_at_call 40; ((with_reducible refine (g1 _).mono ?_); rintro e w1 ⟨rfl, hb1⟩))
          | (go_at_call 24; ((with_reducible refine (g2 _).mono ?_); rintro e w2 ⟨rfl, hb2⟩)))
      go_ret3
      exact ⟨by rw [HNO.out.1, HNO.out.2.1, HNO.out.2.2]; rfl, below_of_drew hb1⟩
    | true =>
      by_cases h0 : c = 0
      · have h33 : ¬ s.size = 33 := fun e => H33.out e h0
        subst h0
        have hyes : splitB s = true := by rw [HB.out, decide_eq_true (by omega), hget, h45]; rfl
        have HY2 := Lib.hid (split_yes hyes)
        clear hyes h45 hget
        go_wp2_with fail
        go_quiet (fail)
        go_wp2_with (first
          | (go_at_call 40; ((with_reducible refine (g1 _).mono ?_); rintro e w1 ⟨rfl, hb1⟩))
          | (go_at_call 24; ((with_reducible refine (g2 _).mono ?_); rintro e w2 ⟨rfl, hb2⟩)))
        go_ret3
        refine ⟨?_, below_of_drew (hb1.trans (hb2.mono hb1.size))⟩
        rw [HY2.out.1, HY2.out.2.1, HY2.out.2.2, ← HX.out, ← HY.out]
        rfl
      · have hno : splitB s = false := by rw [HB.out, beq_eq_false_iff_ne.2 h0]; simp
        have HNO := Lib.hid (split_no hno)
        have hc0 : ((c : Int) == 0) = false := by rw [beq_eq_false_iff_ne]; omega
        have hcn : ¬ (c : Int) = 0 := by omega
        have hcb : ((c : Int) != 0) = true := by rw [bne, hc0]; rfl
        clear hno h0 h45 hget
        go_wp2_with fail
        go_quiet (fail)
        go_wp2_with (first
          | (go_at_call 40; ((with_reducible refine (g1 _).mono ?_); rintro e w1 ⟨rfl, hb1⟩))
          | (go_at_call 24; ((with_reducible refine (g2 _).mono ?_); rintro e w2 ⟨rfl, hb2⟩)))
        go_ret3
        exact ⟨by rw [HNO.out.1, HNO.out.2.1, HNO.out.2.2]; rfl, below_of_drew (hb1.trans (hb2.mono hb1.size))⟩
  · have hno : splitB s = false := by rw [HB.out, hget, beq_eq_false_iff_ne.2 h45]; simp
    have HNO := Lib.hid (split_no hno)
    have hne : ((s[32].toNat : Int) == 45) = false := by
      rw [beq_eq_false_iff_ne]
      intro e
      exact h45 (UInt8.toNat_inj.1 (show s[32].toNat = 45 by omega))
    have hlit : ¬ (s[32].toNat : Int) = 45 := by rwa [beq_eq_false_iff_ne] at hne
    clear hno h45 hget
    go_wp2_with fail
    go_ret3
    exact ⟨by rw [HNO.out.1, HNO.out.2.1, HNO.out.2.2]; rfl, Below.refl _ _⟩
end Go.Proofs.Ytjkafmjikfbafaa
