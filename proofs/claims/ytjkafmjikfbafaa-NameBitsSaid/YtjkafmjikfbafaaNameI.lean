import Derived.Test.YtjkafmjikfbafaaNameP

namespace Go.Proofs.Ytjkafmjikfbafaa
open Go.RowKit
set_option maxRecDepth 100000
set_option linter.unusedSimpArgs false
set_option linter.unusedVariables false

theorem isHash_yes {l : List UInt8} (h : ∀ k (hk : k < l.length), inB l[k] letters32.data.toList = true) : isHashB l = (l.length == 32) := by
  have : (l.all fun c => inB c letters32.data.toList) = true := by
    rw [List.all_eq_true]
    intro x hx
    obtain ⟨k, hk, rfl⟩ := List.getElem_of_mem hx
    exact h k hk
  rw [isHashB, this, Bool.true_and]
theorem isHash_no {l : List UInt8} (k : Nat) (hk : k < l.length) (h : inB l[k] letters32.data.toList = false) : isHashB l = false := by
  have : (l.all fun c => inB c letters32.data.toList) = false := by
    rw [List.all_eq_false]
    exact ⟨l[k], List.getElem_mem _, by rw [h]; decide⟩
  rw [isHashB, this, Bool.false_and]
theorem letters_q (w : World) (n : Nat) : Calls Try.prog 39 #[] (w.drewN n) fun e w'' => e = .returned (.string letters32) ∧ ∃ m, w'' = w.drewN m :=
  (letters_any _).mono fun _ _ ⟨he, hm⟩ => ⟨he, n, hm.symm⟩
theorem letter_q (c : UInt8) (w : World) (n : Nat) : Calls Try.prog 48 #[.int .u8 c.toNat, .string letters32] (w.drewN n) fun e w'' => e = .returned (.bool (inB c letters32.data.toList)) ∧ ∃ m, w'' = w.drewN m :=
  (letter_any c letters32 _ (by decide)).mono fun _ _ ⟨he, hm⟩ => ⟨he, n, hm.symm⟩

theorem refIs_any (s : ByteArray) (w : World) (hs : s.size ≤ 1099511627776) :
    Calls Try.prog 41 #[.string s] w fun e w' => e = .returned (.bool (isHashB s.data.toList)) ∧ Below w.heap.size w w' := by
  obtain ⟨b, hb⟩ : ∃ b, b = isHashB s.data.toList := ⟨_, rfl⟩
  have hlen : s.data.toList.length = s.size := by simp
  rw [← hb]
  have HB := Lib.hid hb
  have HLEN := Lib.hid hlen
  clear hb hlen
  go_enter Try.func41, Try.ntmps41
  go_wp2_with fail
  go_loopw [3] (fun i wr => ∃ k : Nat, k ≤ s.size ∧ i = .int .i64 k ∧ Hid (∀ j (hj : j < s.size), j < k → inB s[j] letters32.data.toList = true) ∧ Below w.heap.size w wr) (fun i _ => s.size - (intOf i).toNat)
  case atStart => exact ⟨0, by omega, rfl, fun j hj h => absurd h (by omega), Below.refl _ _⟩
  case round =>
    obtain ⟨k, hk, rfl, hno, hbel⟩ := hrel
    by_cases hks : k < s.size
    · obtain ⟨ib, hib⟩ : ∃ ib, ib = inB s[k] letters32.data.toList := ⟨_, rfl⟩
      have hq := letter_q s[k] wr
      rw [← hib] at hq
      have HIB := Lib.hid hib
      clear hib
      go_wp2_with fail
      go_quiet ((first
        | (go_at_call 39; with_reducible exact letters_q _ _)
        | (go_at_call 48; with_reducible exact hq _)))
      cases ib with
      | true =>
        go_wp2_with fail
        go_roundw
        case rel =>
          refine ⟨k + 1, by omega, by go_num, fun j hj h => ?_, below_drewN hbel _⟩
          by_cases e : j = k
          · subst e; exact HIB.out.symm
          · exact hno.out j hj (by omega)
        case measure => simp [intOf]; omega
      | false =>
        go_wp2_with fail
        go_ret
        refine ⟨?_, below_drewN hbel _⟩
        rw [HB.out, isHash_no k (by rw [HLEN.out]; exact hks) (by rw [byte_elem s k (by rw [HLEN.out]; exact hks) hks]; exact HIB.out.symm)]
        rfl
    · obtain rfl : k = s.size := by omega
      have hbv : b = (s.size == 32) := by
        rw [HB.out, isHash_yes (fun j hj => by rw [byte_elem s j hj (by rw [← HLEN.out]; exact hj)]; exact hno.out j (by rw [← HLEN.out]; exact hj) (by rw [← HLEN.out]; exact hj)), HLEN.out]
      have hbi : ((s.size : Int) == 32) = b := by
        rw [hbv, Bool.eq_iff_iff, beq_iff_eq, beq_iff_eq]; omega
      have HBI := Lib.hid hbi
      clear hbi hbv
      go_wp2_with fail
      go_ret
      exact ⟨by rw [HBI.out]; rfl, hbel⟩

theorem loop_length (b : ByteArray) (i : Nat) (r : List UInt8) : (ByteArray.toList.loop b i r).length = r.length + (b.size - i) := by
  fun_induction ByteArray.toList.loop b i r with
  | case1 i r h ih => rw [ih]; simp; omega
  | case2 i r h => simp; omega
theorem toList_ne {s : ByteArray} (h : ¬ s.size = 0) : ¬ s.toList = [] := by
  intro e
  have := loop_length s 0 []
  rw [show ByteArray.toList.loop s 0 [] = s.toList from rfl, e] at this
  simp at this; omega
theorem toList_emp {s : ByteArray} (h : ¬ s.size = 0) : s.toList.isEmpty = false := by
  rw [List.isEmpty_eq_false_iff]; exact toList_ne h

theorem goodB_of (c : UInt8) (b1 b2 b3 b4 : Bool) (h1 : b1 = (decide (97 ≤ (c.toNat : Int)) && decide ((c.toNat : Int) ≤ 122))) (h2 : b2 = (decide (65 ≤ (c.toNat : Int)) && decide ((c.toNat : Int) ≤ 90)))
    (h3 : b3 = (decide (48 ≤ (c.toNat : Int)) && decide ((c.toNat : Int) ≤ 57))) (h4 : b4 = inB c signs4.data.toList) : goodB c = (b1 || b2 || b3 || b4) := by
  have e : ∀ n : Nat, ∀ m : UInt8, m.toNat = n → (decide (m ≤ c) = decide ((n : Int) ≤ (c.toNat : Int))) ∧ (decide (c ≤ m) = decide ((c.toNat : Int) ≤ (n : Int))) := by
    intro n m h
    subst h
    constructor <;> (congr 1; rw [UInt8.le_iff_toNat_le]; apply propext; omega)
  subst h1 h2 h3 h4
  unfold goodB
  rw [(e 97 97 rfl).1, (e 122 122 rfl).2, (e 65 65 rfl).1, (e 90 90 rfl).2, (e 48 48 rfl).1, (e 57 57 rfl).2]
  rfl
theorem check_long {l : List UInt8} (h : 20 < l.length) : checkN l = 3 := by rw [checkN, if_pos h]
theorem check_bad {l : List UInt8} (h : ¬ 20 < l.length) (k : Nat) (hk : k < l.length) (hb : goodB l[k] = false) : checkN l = 2 := by
  have : l.all goodB = false := by
    rw [List.all_eq_false]
    exact ⟨l[k], List.getElem_mem _, by rw [hb]; decide⟩
  rw [checkN, if_neg h, this]
  rfl
theorem check_good {l : List UInt8} (h : ¬ 20 < l.length) (hb : ∀ k (hk : k < l.length), goodB l[k] = true) : checkN l = if l = [] then 2 else if l.getD 0 0 = 46 then 2 else 0 := by
  have : l.all goodB = true := by
    rw [List.all_eq_true]
    intro x hx
    obtain ⟨k, hk, rfl⟩ := List.getElem_of_mem hx
    exact hb k hk
  rw [checkN, if_neg h, this, if_pos rfl]

set_option maxHeartbeats 4000000 in
theorem refCheck_any (s : ByteArray) (w : World) (hs : s.size ≤ 1099511627776) :
    Calls Try.prog 25 #[.string s] w fun e w' => e = .returned (.int .i64 (checkN s.data.toList : Nat)) ∧ Below w.heap.size w w' := by
  obtain ⟨v, hv⟩ : ∃ v, v = checkN s.data.toList := ⟨_, rfl⟩
  have hlen : s.data.toList.length = s.size := by simp
  rw [← hv]
  have HV := Lib.hid hv
  have HLEN := Lib.hid hlen
  clear hv hlen
  go_enter Try.func25, Try.ntmps25
  by_cases h20 : 20 < s.size
  · have hvv : v = 3 := by rw [HV.out, check_long (by rw [HLEN.out]; exact h20)]
    have HVV := Lib.hid hvv
    clear hvv
    go_wp2_with fail
    go_ret
    exact ⟨by rw [HVV.out]; rfl, Below.refl _ _⟩
  go_wp2_with fail
  go_loopw [3] (fun i wr => ∃ k : Nat, k ≤ s.size ∧ i = .int .i64 k ∧ Hid (∀ j (hj : j < s.size), j < k → goodB s[j] = true) ∧ Below w.heap.size w wr) (fun i _ => s.size - (intOf i).toNat)
  case atStart => exact ⟨0, by omega, rfl, fun j hj h => absurd h (by omega), Below.refl _ _⟩
  case round =>
    obtain ⟨k, hk, rfl, hno, hbel⟩ := hrel
    by_cases hks : k < s.size
    · obtain ⟨b1, h1⟩ : ∃ b, b = (decide (97 ≤ (s[k].toNat : Int)) && decide ((s[k].toNat : Int) ≤ 122)) := ⟨_, rfl⟩
      obtain ⟨b2, h2⟩ : ∃ b, b = (decide (65 ≤ (s[k].toNat : Int)) && decide ((s[k].toNat : Int) ≤ 90)) := ⟨_, rfl⟩
      obtain ⟨b3, h3⟩ : ∃ b, b = (decide (48 ≤ (s[k].toNat : Int)) && decide ((s[k].toNat : Int) ≤ 57)) := ⟨_, rfl⟩
      obtain ⟨b4, h4⟩ : ∃ b, b = inB s[k] signs4.data.toList := ⟨_, rfl⟩
      have hg := goodB_of s[k] b1 b2 b3 b4 h1 h2 h3 h4
      have hl : Calls Try.prog 48 #[.int .u8 s[k].toNat, .string { data := #[43, 45, 46, 95] }] wr fun e w' => e = .returned (.bool b4) ∧ wr = w' := by
        rw [h4]; exact letter_any s[k] signs4 wr (by decide)
      have HG := Lib.hid hg
      clear hg h4
      have h256 := s[k].toNat_lt
      have hseven : ∃ r : Nat, r < 7 ∧ (r = 0 → (s[k].toNat : Int) < 48) ∧ (r = 1 → 48 ≤ (s[k].toNat : Int) ∧ (s[k].toNat : Int) ≤ 57) ∧ (r = 2 → 57 < (s[k].toNat : Int) ∧ (s[k].toNat : Int) < 65) ∧ (r = 3 → 65 ≤ (s[k].toNat : Int) ∧ (s[k].toNat : Int) ≤ 90)
          ∧ (r = 4 → 90 < (s[k].toNat : Int) ∧ (s[k].toNat : Int) < 97) ∧ (r = 5 → 97 ≤ (s[k].toNat : Int) ∧ (s[k].toNat : Int) ≤ 122) ∧ (r = 6 → 122 < (s[k].toNat : Int)) := by
        refine ⟨if (s[k].toNat : Int) < 48 then 0 else if (s[k].toNat : Int) ≤ 57 then 1 else if (s[k].toNat : Int) < 65 then 2 else if (s[k].toNat : Int) ≤ 90 then 3 else if (s[k].toNat : Int) < 97 then 4 else if (s[k].toNat : Int) ≤ 122 then 5 else 6, ?_⟩
        split <;> (try split) <;> (try split) <;> (try split) <;> (try split) <;> (try split) <;> (refine ⟨?_, ?_, ?_, ?_, ?_, ?_, ?_, ?_⟩ <;> omega)
      obtain ⟨r, hr7, r0, r1, r2, r3, r4, r5, r6⟩ := hseven
      have hrs : (r = 0 ∨ r = 1 ∨ r = 2 ∨ r = 3) ∨ (r = 4 ∨ r = 5 ∨ r = 6) := by omega
      rcases hrs with (rfl | rfl | rfl | rfl) | (rfl | rfl | rfl)
      case inl.inl =>
        have hx := r0 rfl
        clear r0 r1 r2 r3 r4 r5 r6
        have d1 : decide (97 ≤ (s[k].toNat : Int)) = false := decide_eq_false (by omega)
        have d3 : decide (65 ≤ (s[k].toNat : Int)) = false := decide_eq_false (by omega)
        have d5 : decide (48 ≤ (s[k].toNat : Int)) = false := decide_eq_false (by omega)
        rw [d1] at h1
        rw [d3] at h2
        rw [d5] at h3
        simp only [Bool.false_and, Bool.true_and, Bool.and_false] at h1 h2 h3
        subst h1 h2 h3
        clear hx h256
        cases b4 with
        | true =>
          go_wp2_with (go_at_call 48; ((with_reducible refine hl.mono ?_); rintro e w3 ⟨rfl, rfl⟩))
          go_roundw
          case rel =>
            refine ⟨k + 1, by omega, by go_num, fun j hj h => ?_, hbel⟩
            by_cases e : j = k
            · subst e; exact HG.out
            · exact hno.out j hj (by omega)
          case measure => simp [intOf]; omega
        | false =>
          go_wp2_with (go_at_call 48; ((with_reducible refine hl.mono ?_); rintro e w3 ⟨rfl, rfl⟩))
          go_ret
          refine ⟨?_, hbel⟩
          rw [HV.out, check_bad (by rw [HLEN.out]; exact h20) k (by rw [HLEN.out]; exact hks) (by rw [byte_elem s k (by rw [HLEN.out]; exact hks) hks]; exact HG.out)]
          rfl
      case inl.inr.inl =>
        have hx := r1 rfl
        clear r0 r1 r2 r3 r4 r5 r6
        have d1 : decide (97 ≤ (s[k].toNat : Int)) = false := decide_eq_false (by omega)
        have d3 : decide (65 ≤ (s[k].toNat : Int)) = false := decide_eq_false (by omega)
        have d5 : decide (48 ≤ (s[k].toNat : Int)) = true := decide_eq_true (by omega)
        have d6 : decide ((s[k].toNat : Int) ≤ 57) = true := decide_eq_true (by omega)
        rw [d1] at h1
        rw [d3] at h2
        rw [d5] at h3
        rw [d6] at h3
        have hgood : goodB s[k] = true := by rw [HG.out, h3]; simp
        have HG := Lib.hid hgood
        clear hgood h1 h2 h3 hx h256
        go_wp2_with fail
        go_roundw
        case rel =>
          refine ⟨k + 1, by omega, by go_num, fun j hj h => ?_, hbel⟩
          by_cases e : j = k
          · subst e; exact HG.out
          · exact hno.out j hj (by omega)
        case measure => simp [intOf]; omega
      case inl.inr.inr.inl =>
        have hx := r2 rfl
        clear r0 r1 r2 r3 r4 r5 r6
        have d1 : decide (97 ≤ (s[k].toNat : Int)) = false := decide_eq_false (by omega)
        have d3 : decide (65 ≤ (s[k].toNat : Int)) = false := decide_eq_false (by omega)
        have d5 : decide (48 ≤ (s[k].toNat : Int)) = true := decide_eq_true (by omega)
        have d6 : decide ((s[k].toNat : Int) ≤ 57) = false := decide_eq_false (by omega)
        rw [d1] at h1
        rw [d3] at h2
        rw [d5] at h3
        rw [d6] at h3
        simp only [Bool.false_and, Bool.true_and, Bool.and_false] at h1 h2 h3
        subst h1 h2 h3
        clear hx h256
        cases b4 with
        | true =>
          go_wp2_with (go_at_call 48; ((with_reducible refine hl.mono ?_); rintro e w3 ⟨rfl, rfl⟩))
          go_roundw
          case rel =>
            refine ⟨k + 1, by omega, by go_num, fun j hj h => ?_, hbel⟩
            by_cases e : j = k
            · subst e; exact HG.out
            · exact hno.out j hj (by omega)
          case measure => simp [intOf]; omega
        | false =>
          go_wp2_with (go_at_call 48; ((with_reducible refine hl.mono ?_); rintro e w3 ⟨rfl, rfl⟩))
          go_ret
          refine ⟨?_, hbel⟩
          rw [HV.out, check_bad (by rw [HLEN.out]; exact h20) k (by rw [HLEN.out]; exact hks) (by rw [byte_elem s k (by rw [HLEN.out]; exact hks) hks]; exact HG.out)]
          rfl
      case inl.inr.inr.inr =>
        have hx := r3 rfl
        clear r0 r1 r2 r3 r4 r5 r6
        have d1 : decide (97 ≤ (s[k].toNat : Int)) = false := decide_eq_false (by omega)
        have d3 : decide (65 ≤ (s[k].toNat : Int)) = true := decide_eq_true (by omega)
        have d4 : decide ((s[k].toNat : Int) ≤ 90) = true := decide_eq_true (by omega)
        have d5 : decide (48 ≤ (s[k].toNat : Int)) = true := decide_eq_true (by omega)
        rw [d1] at h1
        rw [d3] at h2
        rw [d4] at h2
        rw [d5] at h3
        have hgood : goodB s[k] = true := by rw [HG.out, h2]; simp
        have HG := Lib.hid hgood
        clear hgood h1 h2 h3 hx h256
        go_wp2_with fail
        go_roundw
        case rel =>
          refine ⟨k + 1, by omega, by go_num, fun j hj h => ?_, hbel⟩
          by_cases e : j = k
          · subst e; exact HG.out
          · exact hno.out j hj (by omega)
        case measure => simp [intOf]; omega
      case inr.inl =>
        have hx := r4 rfl
        clear r0 r1 r2 r3 r4 r5 r6
        have d1 : decide (97 ≤ (s[k].toNat : Int)) = false := decide_eq_false (by omega)
        have d3 : decide (65 ≤ (s[k].toNat : Int)) = true := decide_eq_true (by omega)
        have d4 : decide ((s[k].toNat : Int) ≤ 90) = false := decide_eq_false (by omega)
        have d5 : decide (48 ≤ (s[k].toNat : Int)) = true := decide_eq_true (by omega)
        have d6 : decide ((s[k].toNat : Int) ≤ 57) = false := decide_eq_false (by omega)
        rw [d1] at h1
        rw [d3] at h2
        rw [d4] at h2
        rw [d5] at h3
        rw [d6] at h3
        simp only [Bool.false_and, Bool.true_and, Bool.and_false] at h1 h2 h3
        subst h1 h2 h3
        clear hx h256
        cases b4 with
        | true =>
          go_wp2_with (go_at_call 48; ((with_reducible refine hl.mono ?_); rintro e w3 ⟨rfl, rfl⟩))
          go_roundw
          case rel =>
            refine ⟨k + 1, by omega, by go_num, fun j hj h => ?_, hbel⟩
            by_cases e : j = k
            · subst e; exact HG.out
            · exact hno.out j hj (by omega)
          case measure => simp [intOf]; omega
        | false =>
          go_wp2_with (go_at_call 48; ((with_reducible refine hl.mono ?_); rintro e w3 ⟨rfl, rfl⟩))
          go_ret
          refine ⟨?_, hbel⟩
          rw [HV.out, check_bad (by rw [HLEN.out]; exact h20) k (by rw [HLEN.out]; exact hks) (by rw [byte_elem s k (by rw [HLEN.out]; exact hks) hks]; exact HG.out)]
          rfl
      case inr.inr.inl =>
        have hx := r5 rfl
        clear r0 r1 r2 r3 r4 r5 r6
        have d1 : decide (97 ≤ (s[k].toNat : Int)) = true := decide_eq_true (by omega)
        have d2 : decide ((s[k].toNat : Int) ≤ 122) = true := decide_eq_true (by omega)
        have d3 : decide (65 ≤ (s[k].toNat : Int)) = true := decide_eq_true (by omega)
        have d5 : decide (48 ≤ (s[k].toNat : Int)) = true := decide_eq_true (by omega)
        rw [d1] at h1
        rw [d2] at h1
        rw [d3] at h2
        rw [d5] at h3
        have hgood : goodB s[k] = true := by rw [HG.out, h1]; simp
        have HG := Lib.hid hgood
        clear hgood h1 h2 h3 hx h256
        go_wp2_with fail
        go_roundw
        case rel =>
          refine ⟨k + 1, by omega, by go_num, fun j hj h => ?_, hbel⟩
          by_cases e : j = k
          · subst e; exact HG.out
          · exact hno.out j hj (by omega)
        case measure => simp [intOf]; omega
      case inr.inr.inr =>
        have hx := r6 rfl
        clear r0 r1 r2 r3 r4 r5 r6
        have d1 : decide (97 ≤ (s[k].toNat : Int)) = true := decide_eq_true (by omega)
        have d2 : decide ((s[k].toNat : Int) ≤ 122) = false := decide_eq_false (by omega)
        have d3 : decide (65 ≤ (s[k].toNat : Int)) = true := decide_eq_true (by omega)
        have d4 : decide ((s[k].toNat : Int) ≤ 90) = false := decide_eq_false (by omega)
        have d5 : decide (48 ≤ (s[k].toNat : Int)) = true := decide_eq_true (by omega)
        have d6 : decide ((s[k].toNat : Int) ≤ 57) = false := decide_eq_false (by omega)
        rw [d1] at h1
        rw [d2] at h1
        rw [d3] at h2
        rw [d4] at h2
        rw [d5] at h3
        rw [d6] at h3
        simp only [Bool.false_and, Bool.true_and, Bool.and_false] at h1 h2 h3
        subst h1 h2 h3
        clear hx h256
        cases b4 with
        | true =>
          go_wp2_with (go_at_call 48; ((with_reducible refine hl.mono ?_); rintro e w3 ⟨rfl, rfl⟩))
          go_roundw
          case rel =>
            refine ⟨k + 1, by omega, by go_num, fun j hj h => ?_, hbel⟩
            by_cases e : j = k
            · subst e; exact HG.out
            · exact hno.out j hj (by omega)
          case measure => simp [intOf]; omega
        | false =>
          go_wp2_with (go_at_call 48; ((with_reducible refine hl.mono ?_); rintro e w3 ⟨rfl, rfl⟩))
          go_ret
          refine ⟨?_, hbel⟩
          rw [HV.out, check_bad (by rw [HLEN.out]; exact h20) k (by rw [HLEN.out]; exact hks) (by rw [byte_elem s k (by rw [HLEN.out]; exact hks) hks]; exact HG.out)]
          rfl
    · obtain rfl : k = s.size := by omega
      have hvv : v = if s.data.toList = [] then 2 else if s.data.toList.getD 0 0 = 46 then 2 else 0 := by
        rw [HV.out, check_good (by rw [HLEN.out]; exact h20) (fun j hj => by rw [byte_elem s j hj (by rw [← HLEN.out]; exact hj)]; exact hno.out j (by rw [← HLEN.out]; exact hj) (by rw [← HLEN.out]; exact hj))]
      by_cases h0 : s.size = 0
      · obtain rfl : s = ⟨#[]⟩ := by
          apply ByteArray.ext
          exact Array.eq_empty_of_size_eq_zero h0
        have hv2 : v = 2 := hvv
        have HV2 := Lib.hid hv2
        clear hv2 hvv
        go_wp2_with fail
        go_ret
        exact ⟨by rw [HV2.out]; rfl, hbel⟩
      · have hne := toList_ne h0
        have hne2 := toList_emp h0
        have hvv2 : v = if s[0].toNat = 46 then 2 else 0 := by
          rw [hvv, if_neg (by intro e; apply h0; rw [← HLEN.out, e]; rfl)]
          have : s.data.toList.getD 0 0 = s[0] := by
            rw [← byte_getD s 0 (by omega)]
          rw [this]
          congr 1
          rw [eq_iff_iff]
          constructor
          · intro e; rw [e]; rfl
          · intro e; exact UInt8.toNat_inj.1 e
        have HVV2 := Lib.hid hvv2
        clear hvv2 hvv
        have hs0 : 0 < s.size := by omega
        by_cases h46 : s[0].toNat = 46
        · have ht : ((s[0].toNat : Int) == 46) = true := by rw [h46]; rfl
          have H46 := Lib.hid h46
          clear h46
          go_wp2_with fail
          go_ret
          exact ⟨by rw [HVV2.out, if_pos H46.out]; rfl, hbel⟩
        · have ht : ((s[0].toNat : Int) == 46) = false := by rw [beq_eq_false_iff_ne]; omega
          have H46 := Lib.hid h46
          clear h46
          go_wp2_with fail
          go_ret
          exact ⟨by rw [HVV2.out, if_neg H46.out]; rfl, hbel⟩
end Go.Proofs.Ytjkafmjikfbafaa
