/- The walks of the reference Path and Split. -/
import Derived.Test.YtjkafmjikfbafaaNameI
namespace Go.Proofs.Ytjkafmjikfbafaa
open Go.RowKit
set_option maxRecDepth 100000
set_option linter.unusedSimpArgs false
set_option linter.unusedVariables false

def pathS (a b : ByteArray) : ByteArray := if isHashB a.data.toList = true ∧ checkN b.data.toList = 0 then a ++ ⟨#[45]⟩ ++ b else ⟨#[]⟩
def pathN (a b : ByteArray) : Nat := if isHashB a.data.toList = true then checkN b.data.toList else 2
theorem pathS_eq (a b : ByteArray) : pathS a b = if isHashB a.data.toList = true ∧ checkN b.data.toList = 0 then a ++ ⟨#[45]⟩ ++ b else ⟨#[]⟩ := rfl
theorem pathN_eq (a b : ByteArray) : pathN a b = if isHashB a.data.toList = true then checkN b.data.toList else 2 := rfl

theorem refPath_any (a b : ByteArray) (w : World) (ha : a.size ≤ 1000) (hb : b.size ≤ 1000) :
    Calls Try.prog 21 #[.string a, .string b] w fun e w' => e = .returned (.tuple #[.string (pathS a b), .int .i64 (pathN a b : Nat)]) ∧ Below w.heap.size w w' := by
  obtain ⟨h, hh⟩ : ∃ h, h = isHashB a.data.toList := ⟨_, rfl⟩
  obtain ⟨c, hc⟩ : ∃ c, c = checkN b.data.toList := ⟨_, rfl⟩
  have g1 := refIs_any a w (by omega)
  have g2 := fun wx => refCheck_any b wx (by omega)
  rw [← hh] at g1
  rw [← hc] at g2
  have hP := pathS_eq a b
  have hN := pathN_eq a b
  rw [← hh, ← hc] at hP hN
  have HP := Lib.hid hP
  have HN := Lib.hid hN
  clear hP hN hh hc
  go_enter Try.func21, Try.ntmps21
  cases h with
  | false =>
    go_wp2_with (go_at_call 41; ((with_reducible refine g1.mono ?_); rintro e w1 ⟨rfl, hb1⟩))
    go_ret2
    exact ⟨by rw [HP.out, HN.out]; rfl, hb1⟩
  | true =>
    by_cases h0 : c = 0
    · subst h0
      go_wp2_with (first
        | (go_at_call 41; ((with_reducible refine g1.mono ?_); rintro e w1 ⟨rfl, hb1⟩))
        | (go_at_call 25; ((with_reducible refine (g2 _).mono ?_); rintro e w2 ⟨rfl, hb2⟩)))
      go_ret2
      exact ⟨by rw [HP.out, HN.out]; rfl, hb1.trans (hb2.mono hb1.size)⟩
    · have hc0 : ((c : Int) == 0) = false := by rw [beq_eq_false_iff_ne]; omega
      have hne : ¬ (c : Int) = 0 := by omega
      have H0 := Lib.hid h0
      clear h0
      go_wp2_with (first
        | (go_at_call 41; ((with_reducible refine g1.mono ?_); rintro e w1 ⟨rfl, hb1⟩))
        | (go_at_call 25; ((with_reducible refine (g2 _).mono ?_); rintro e w2 ⟨rfl, hb2⟩)))
      go_ret2
      refine ⟨?_, hb1.trans (hb2.mono hb1.size)⟩
      rw [HP.out, HN.out, if_neg (fun e => H0.out e.2)]
      rfl

def splitB (s : ByteArray) : Bool := decide (34 ≤ s.size) && isHashB (s.extract 0 32).data.toList && (s.data.toList.getD 32 0 == 45) && (checkN (s.extract 33 s.size).data.toList == 0)
theorem splitB_eq (s : ByteArray) : splitB s = (decide (34 ≤ s.size) && isHashB (s.extract 0 32).data.toList && (s.data.toList.getD 32 0 == 45) && (checkN (s.extract 33 s.size).data.toList == 0)) := rfl
def splitA (s : ByteArray) : ByteArray := if splitB s then s.extract 0 32 else ⟨#[]⟩
def splitC (s : ByteArray) : ByteArray := if splitB s then s.extract 33 s.size else ⟨#[]⟩
def splitN (s : ByteArray) : Nat := if splitB s then 0 else 4
theorem split_no {s : ByteArray} (h : splitB s = false) : splitA s = ⟨#[]⟩ ∧ splitC s = ⟨#[]⟩ ∧ splitN s = 4 := by
  simp only [splitA, splitC, splitN, h]; exact ⟨rfl, rfl, rfl⟩
theorem split_yes {s : ByteArray} (h : splitB s = true) : splitA s = s.extract 0 32 ∧ splitC s = s.extract 33 s.size ∧ splitN s = 0 := by
  simp only [splitA, splitC, splitN, h]; exact ⟨rfl, rfl, rfl⟩
theorem slice_32 (s : ByteArray) (X : ByteArray) (hX : X = s.extract 0 32) (h : 32 ≤ s.size) (w : World) : (Instr.slice 9 (.string s) none (some (.int .i64 32)) none).run Try.prog w = .ok (.string X) w := by
  subst hX
  exact run_slice_string_h w 9 s Try.underlying9 .i64 32 (by omega) (by omega)
theorem slice_33 (s : ByteArray) (X : ByteArray) (hX : X = s.extract 33 s.size) (h : 33 ≤ s.size) (w : World) : (Instr.slice 9 (.string s) (some (.int .i64 33)) none none).run Try.prog w = .ok (.string X) w := by
  subst hX
  exact run_slice_string_l w 9 s Try.underlying9 .i64 33 (by omega) (by omega)

set_option maxHeartbeats 4000000 in
theorem refSplit_any (s : ByteArray) (w : World) (hs : s.size ≤ 1000) :
    Calls Try.prog 23 #[.string s] w fun e w' => e = .returned (.tuple #[.string (splitA s), .string (splitC s), .int .i64 (splitN s : Nat)]) ∧ Below w.heap.size w w' := by
  obtain ⟨X, hX⟩ : ∃ X, X = s.extract 0 32 := ⟨_, rfl⟩
  obtain ⟨Y, hY⟩ : ∃ Y, Y = s.extract 33 s.size := ⟨_, rfl⟩
  have hXs : X.size ≤ 1000 := by rw [hX, ByteArray.size_extract]; omega
  have hYs : Y.size ≤ 1000 := by rw [hY, ByteArray.size_extract]; omega
  obtain ⟨h, hh⟩ : ∃ h, h = isHashB X.data.toList := ⟨_, rfl⟩
  obtain ⟨c, hc⟩ : ∃ c, c = checkN Y.data.toList := ⟨_, rfl⟩
  have g1 := fun wx => refIs_any X wx (by omega)
  have g2 := fun wx => refCheck_any Y wx (by omega)
  rw [← hh] at g1
  rw [← hc] at g2
  have hB := splitB_eq s
  rw [← hX, ← hY, ← hh, ← hc] at hB
  have hsl1 := slice_32 s X hX
  have hsl2 := slice_33 s Y hY
  have HB := Lib.hid hB
  have HX := Lib.hid hX
  have HY := Lib.hid hY
  clear hB hX hY hh hc
  go_enter Try.func23, Try.ntmps23
  by_cases h34 : s.size < 34
  · have hno : splitB s = false := by rw [HB.out, decide_eq_false (by omega)]; simp
    have HNO := Lib.hid (split_no hno)
    clear hno hsl1 hsl2
    go_wp2_with fail
    go_ret3
    exact ⟨by rw [HNO.out.1, HNO.out.2.1, HNO.out.2.2]; rfl, Below.refl _ _⟩
  have hsl1 := hsl1 (by omega)
  have hsl2 := hsl2 (by omega)
  have h32 : 32 < s.size := by omega
  cases h with
  | false =>
    have hno : splitB s = false := by rw [HB.out]; simp
    have HNO := Lib.hid (split_no hno)
    clear hno
    go_wp2_with (go_at_call 41; ((with_reducible refine (g1 _).mono ?_); rintro e w1 ⟨rfl, hb1⟩))
    go_ret3
    exact ⟨by rw [HNO.out.1, HNO.out.2.1, HNO.out.2.2]; rfl, hb1⟩
  | true =>
    have hget : s.data.toList.getD 32 0 = s[32] := by rw [← byte_getD s 32 h32]
    by_cases h45 : s[32] = 45
    · have hne : ((s[32].toNat : Int) == 45) = true := by rw [h45]; rfl
      have hlit : (s[32].toNat : Int) = 45 := by rw [h45]; rfl
      by_cases h0 : c = 0
      · subst h0
        have hyes : splitB s = true := by rw [HB.out, decide_eq_true (by omega), hget, h45]; rfl
        have HY2 := Lib.hid (split_yes hyes)
        clear hyes h45 hget
        go_wp2_with (first
          | (go_at_call 41; ((with_reducible refine (g1 _).mono ?_); rintro e w1 ⟨rfl, hb1⟩))
          | (go_at_call 25; ((with_reducible refine (g2 _).mono ?_); rintro e w2 ⟨rfl, hb2⟩)))
        go_quiet (fail)
        go_wp2_with fail
        go_ret3
        refine ⟨?_, below_drewN (hb1.trans (hb2.mono hb1.size)) _⟩
        rw [HY2.out.1, HY2.out.2.1, HY2.out.2.2, ← HX.out, ← HY.out]
        rfl
      · have hno : splitB s = false := by rw [HB.out, beq_eq_false_iff_ne.2 h0]; simp
        have HNO := Lib.hid (split_no hno)
        have hc0 : ((c : Int) == 0) = false := by rw [beq_eq_false_iff_ne]; omega
        have hcn : ¬ (c : Int) = 0 := by omega
        have hcb : ((c : Int) != 0) = true := by rw [bne, hc0]; rfl
        clear hno h0 h45 hget
        go_wp2_with (first
          | (go_at_call 41; ((with_reducible refine (g1 _).mono ?_); rintro e w1 ⟨rfl, hb1⟩))
          | (go_at_call 25; ((with_reducible refine (g2 _).mono ?_); rintro e w2 ⟨rfl, hb2⟩)))
        go_ret3
        exact ⟨by rw [HNO.out.1, HNO.out.2.1, HNO.out.2.2]; rfl, hb1.trans (hb2.mono hb1.size)⟩
    · have hno : splitB s = false := by rw [HB.out, hget, beq_eq_false_iff_ne.2 h45]; simp
      have HNO := Lib.hid (split_no hno)
      have hne : ((s[32].toNat : Int) == 45) = false := by
        rw [beq_eq_false_iff_ne]
        intro e
        exact h45 (UInt8.toNat_inj.1 (show s[32].toNat = 45 by omega))
      have hlit : ¬ (s[32].toNat : Int) = 45 := by rwa [beq_eq_false_iff_ne] at hne
      clear hno h45 hget
      go_wp2_with (go_at_call 41; ((with_reducible refine (g1 _).mono ?_); rintro e w1 ⟨rfl, hb1⟩))
      go_ret3
      exact ⟨by rw [HNO.out.1, HNO.out.2.1, HNO.out.2.2]; rfl, hb1⟩
end Go.Proofs.Ytjkafmjikfbafaa
