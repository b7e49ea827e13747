import Derived.Test.YtjkafmjikfbafaaNameI
import Derived.Maps.Own
import Derived.Maps.OwnOps
import Derived.Maps.OwnSet
namespace Go.Proofs.Ytjkafmjikfbafaa
open Go.RowKit Go.Maps
set_option maxRecDepth 100000
set_option linter.unusedSimpArgs false
set_option linter.unusedVariables false
theorem law5 : Keyed Try.prog 5 := int_keyed Try.underlying5
theorem zero3 (w : World) : (zeroValue 3).run Try.prog w = .ok (.int .i64 0) w := by kernel_rfl
def letMap : Nat → DataW Unit
  | 0 => .map []
  | k + 1 => (letMap k).put (.int .u8 (let32 k).toNat) (.lit (.int .i64 k))
theorem values_any (w : World) :
    Calls Try.prog 59 #[] w fun e w' => e = .returned (.map (some w.heap.size)) ∧ w'.ownsMap Try.prog 5 (plainElem Try.prog 3) w.heap.size 32 (letMap 32) ∧ Below w.heap.size w w' := by
  have hmm := @run_makeMap Try.prog
  go_enter Try.func59, Try.ntmps59
  go_wp2
  go_loopw [4] (fun i wr => ∃ k : Nat, k ≤ 32 ∧ i = .int .i64 k ∧ wr.ownsMap Try.prog 5 (plainElem Try.prog 3) w.heap.size k (letMap k) ∧ Below w.heap.size w wr) (fun i _ => 32 - (intOf i).toNat)
  case atStart => exact ⟨0, Nat.zero_le _, rfl, World.ownsMap_made _ _ _ _, (Below.refl _ _).alloc (Nat.le_refl _) _⟩
  case round =>
    obtain ⟨k, hk, rfl, hown, hnx⟩ := hrel
    by_cases hks : k < 32
    · have hki : decide ((k : Int) < 32) = true := by simp; omega
      have hget : ∀ h : k < letters32.size, letters32[k] = let32 k := fun h => by rw [← byte_getD letters32 k h]; rfl
      have hwf : (Lit.int .i64 (k : Int)).wf = true := WalkArith.wf_i64 (by omega)
      have hkey : ∀ h : k < letters32.size, keyOf Try.prog 5 (.int .u8 (letters32[k].toNat : Nat)) = some (.int .u8 (let32 k).toNat) := fun h => by
        rw [hget h]
        have := (let32 k).toNat_lt
        exact keyOf_int_mk Try.underlying5 (WalkArith.wf_u8 (by omega))
      clear hget
      go_wp2_with (first
        | (at_mapUpdate; refine wpList_mapUpdate_own _ rfl _ _ _ 78 rfl 5 3 law5 Try.underlying78 _ w.heap.size k _ rfl hown (by unfold maxLen; omega) _ _ _ rfl rfl (hkey hks) _ [] (plainElem_int Try.underlying3 hwf) ?_; intro w1 hown1 hgrow1)
        | fail)
      go_roundw
      case rel => exact ⟨k + 1, by omega, by go_num, hown1, hnx.grown hgrow1 hnx.size (fun j hj => by cases hj; exact Nat.le_refl _)⟩
      case measure => simp [intOf]; omega
    · obtain rfl : k = 32 := by omega
      go_wp2_with fail
      go_ret
      exact ⟨rfl, hown, hnx⟩
theorem letMap_isMap : ∀ k, IsMap (letMap k)
  | 0 => ⟨_, rfl⟩
  | k + 1 => (letMap_isMap k).put _ _
theorem letMap_has (c : UInt8) : ∀ k, k ≤ 32 → Maps.has (letMap k) (.int .u8 c.toNat) = inB c (letters32.data.toList.take k)
  | 0, _ => rfl
  | k + 1, h => by
    have ih := letMap_has c k (by omega)
    have hl : k < letters32.data.toList.length := by show k < 32; omega
    have e : letters32.data.toList[k] = let32 k := by
      show _ = letters32.data.toList.getD k 0
      rw [List.getD_eq_getElem?_getD, List.getElem?_eq_getElem hl]; rfl
    rw [List.take_succ_eq_append_getElem hl, inB, List.any_append, e]
    show Maps.has ((letMap k).put (.int .u8 (let32 k).toNat) (.lit (.int .i64 k))) _ = _
    by_cases hc : let32 k = c
    · subst hc
      rw [has_put_same (letMap_isMap k) (by trivial)]
      simp
    · rw [has_put_other (by intro e; injection e with _ e; exact hc (UInt8.toNat_inj.1 (by omega)).symm), ih, inB]
      simp [hc]
theorem letMap_known (c : UInt8) : Maps.has (letMap 32) (.int .u8 c.toNat) = inB c letters32.data.toList := letMap_has c 32 (by omega)

theorem isHash_any (s : ByteArray) (w : World) (hs : s.size ≤ 1099511627776) :
    Calls Try.prog 40 #[.string s] w fun e w' => e = .returned (.bool (isHashB s.data.toList)) ∧ Below w.heap.size w w' := by
  obtain ⟨b, hb⟩ : ∃ b, b = isHashB s.data.toList := ⟨_, rfl⟩
  have hlen : s.data.toList.length = s.size := by simp
  rw [← hb]
  have HB := Lib.hid hb
  have HLEN := Lib.hid hlen
  clear hb hlen
  go_enter Try.func40, Try.ntmps40
  go_wp2_with (go_at_call 59; ((with_reducible refine (values_any _).mono ?_); rintro e w1 ⟨rfl, hown, hb1⟩))
  go_loopw [4, 5, 6, 10] (fun v4 v5 v6 i wr => ∃ k : Nat, k ≤ s.size ∧ i = .int .i64 k ∧ Hid (∀ j (hj : j < s.size), j < k → inB s[j] letters32.data.toList = true) ∧ wr = w1) (fun _ _ _ i _ => s.size - (intOf i).toNat)
  case atStart => exact ⟨0, by omega, rfl, fun j hj h => absurd h (by omega), rfl⟩
  case round =>
    obtain ⟨k, hk, rfl, hno, rfl⟩ := hrel
    by_cases hks : k < s.size
    · obtain ⟨ib, hib⟩ : ∃ ib, ib = inB s[k] letters32.data.toList := ⟨_, rfl⟩
      have hkn : Maps.has (letMap 32) (.int .u8 s[k].toNat) = ib := by rw [hib]; exact letMap_known _
      have hu := s[k].toNat_lt
      have hkey : keyOf Try.prog 5 (.int .u8 (s[k].toNat : Nat)) = some (.int .u8 s[k].toNat) := keyOf_int_mk Try.underlying5 (WalkArith.wf_u8 (by omega))
      have HIB := Lib.hid hib
      clear hib hu
      cases ib with
      | true =>
        go_wp2_with (first
          | (at_lookup; refine wpList_lookup_own_ok_int _ rfl _ _ 78 rfl 5 3 .i64 law5 Try.underlying78 Try.underlying3 (zero3 _) w.heap.size 32 _ rfl hown _ _ rfl hkey ?_; intro c hat hwc; rw [hkn]; clear hat hwc)
          | fail)
        go_roundw
        case rel =>
          refine ⟨k + 1, by omega, by go_num, fun j hj h => ?_, trivial⟩
          by_cases e : j = k
          · subst e; exact HIB.out.symm
          · exact hno.out j hj (by omega)
        case measure => simp [intOf]; omega
      | false =>
        go_wp2_with (first
          | (at_lookup; refine wpList_lookup_own_ok_int _ rfl _ _ 78 rfl 5 3 .i64 law5 Try.underlying78 Try.underlying3 (zero3 _) w.heap.size 32 _ rfl hown _ _ rfl hkey ?_; intro c hat hwc; rw [hkn]; clear hat hwc)
          | fail)
        go_ret
        refine ⟨?_, hb1⟩
        rw [HB.out, isHash_no k (by rw [HLEN.out]; exact hks) (by rw [byte_elem s k (by rw [HLEN.out]; exact hks) hks]; exact HIB.out.symm)]
        rfl
    · obtain rfl : k = s.size := by omega
      have hbv : b = (s.size == 32) := by
        rw [HB.out, isHash_yes (fun j hj => by rw [byte_elem s j hj (by rw [← HLEN.out]; exact hj)]; exact hno.out j (by rw [← HLEN.out]; exact hj) (by rw [← HLEN.out]; exact hj)), HLEN.out]
      have hbi : ((s.size : Int) == 32) = b := by
        rw [hbv, Bool.eq_iff_iff, beq_iff_eq, beq_iff_eq]; omega
      have HBI := Lib.hid hbi
      clear hbi hbv
      go_wp2_with fail
      go_ret
      exact ⟨by rw [HBI.out]; rfl, hb1⟩

theorem small_any (c : UInt8) (w : World) : Calls Try.prog 42 #[.int .u8 c.toNat] w fun e w' => e = .returned (.bool (decide (97 ≤ (c.toNat : Int)) && decide ((c.toNat : Int) ≤ 122))) ∧ w = w' := by
  have hx := c.toNat_lt
  go_enter Try.func42, Try.ntmps42
  by_cases h : 97 ≤ (c.toNat : Int)
  · have d : decide (97 ≤ (c.toNat : Int)) = true := decide_eq_true h
    clear h
    go_wp2_with fail
    go_ret
    exact ⟨by rw [d]; simp, rfl⟩
  · have d : decide (97 ≤ (c.toNat : Int)) = false := decide_eq_false h
    clear h
    go_wp2_with fail
    go_ret
    exact ⟨by rw [d]; rfl, rfl⟩
theorem great_any (c : UInt8) (w : World) : Calls Try.prog 43 #[.int .u8 c.toNat] w fun e w' => e = .returned (.bool (decide (65 ≤ (c.toNat : Int)) && decide ((c.toNat : Int) ≤ 90))) ∧ w = w' := by
  have hx := c.toNat_lt
  go_enter Try.func43, Try.ntmps43
  by_cases h : 65 ≤ (c.toNat : Int)
  · have d : decide (65 ≤ (c.toNat : Int)) = true := decide_eq_true h
    clear h
    go_wp2_with fail
    go_ret
    exact ⟨by rw [d]; simp, rfl⟩
  · have d : decide (65 ≤ (c.toNat : Int)) = false := decide_eq_false h
    clear h
    go_wp2_with fail
    go_ret
    exact ⟨by rw [d]; rfl, rfl⟩
theorem digit_any (c : UInt8) (w : World) : Calls Try.prog 44 #[.int .u8 c.toNat] w fun e w' => e = .returned (.bool (decide (48 ≤ (c.toNat : Int)) && decide ((c.toNat : Int) ≤ 57))) ∧ w = w' := by
  have hx := c.toNat_lt
  go_enter Try.func44, Try.ntmps44
  by_cases h : 48 ≤ (c.toNat : Int)
  · have d : decide (48 ≤ (c.toNat : Int)) = true := decide_eq_true h
    clear h
    go_wp2_with fail
    go_ret
    exact ⟨by rw [d]; simp, rfl⟩
  · have d : decide (48 ≤ (c.toNat : Int)) = false := decide_eq_false h
    clear h
    go_wp2_with fail
    go_ret
    exact ⟨by rw [d]; rfl, rfl⟩

theorem indexByte_sign (c : UInt8) : ((Lib.indexByte signs4.data.toList c.toNat.toUInt8 : Int) ≥ 0) = (inB c signs4.data.toList = true) := by
  have h : ∀ n : Fin 256, (decide ((Lib.indexByte signs4.data.toList (UInt8.ofNat n.val) : Int) ≥ 0)) = inB (UInt8.ofNat n.val) signs4.data.toList := by decide +kernel
  have h2 := h ⟨c.toNat, c.toNat_lt⟩
  have e : c.toNat.toUInt8 = c := by simp
  have e2 : UInt8.ofNat c.toNat = c := by simp
  rw [e2] at h2
  rw [e, ← h2, decide_eq_true_eq]
end Go.Proofs.Ytjkafmjikfbafaa
