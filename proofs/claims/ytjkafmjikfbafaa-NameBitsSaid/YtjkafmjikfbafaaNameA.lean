import Derived.Test.YtjkafmjikfbafaaNameV
namespace Go.Proofs.Ytjkafmjikfbafaa
open Go.RowKit
set_option maxRecDepth 100000
set_option linter.unusedSimpArgs false
set_option linter.unusedVariables false
theorem other_any (c : UInt8) (w : World) : Calls Try.prog 45 #[.int .u8 c.toNat] w fun e w' => e = .returned (.bool (inB c signs4.data.toList)) ∧ w = w' := by
  have hx := c.toNat_lt
  obtain ⟨x, hxe⟩ : ∃ x, x = Lib.indexByte signs4.data.toList c.toNat.toUInt8 := ⟨_, rfl⟩
  have g : Calls Try.prog 46 #[.string { data := #[43, 45, 46, 95] }, .int .u8 c.toNat] w fun e w' => e = .returned (.int .i64 x) ∧ w' = w := by
    rw [hxe]; exact Try.strings_IndexByte signs4 c.toNat w
  have hb := indexByte_sign c
  rw [← hxe] at hb
  have HB := Lib.hid hb
  clear hb hxe
  go_enter Try.func45, Try.ntmps45
  go_wp2_with (go_at_call 46; ((with_reducible refine g.mono ?_); rintro e w1 ⟨rfl, rfl⟩))
  go_ret
  refine ⟨?_, rfl⟩
  have := HB.out
  cases hh : inB c signs4.data.toList with
  | true => rw [hh] at this; have : x ≥ 0 := by rw [this]
            have h0 : decide (0 ≤ x) = true := decide_eq_true this
            rw [h0]; rfl
  | false => rw [hh] at this; have : ¬ x ≥ 0 := by rw [this]; simp
             have h0 : decide (0 ≤ x) = false := decide_eq_false this
             rw [h0]; rfl

set_option maxHeartbeats 4000000 in
theorem any_any (c : UInt8) (B : Nat) (w : World) (b1 b2 b3 b4 : Bool) (h1 : b1 = (decide (97 ≤ (c.toNat : Int)) && decide ((c.toNat : Int) ≤ 122))) (h2 : b2 = (decide (65 ≤ (c.toNat : Int)) && decide ((c.toNat : Int) ≤ 90)))
    (h3 : b3 = (decide (48 ≤ (c.toNat : Int)) && decide ((c.toNat : Int) ≤ 57))) (h4 : b4 = inB c signs4.data.toList)
    (c0 : w.cell? ⟨B, 0, none⟩ = some (.func (.func 42) #[] #[])) (c1 : w.cell? ⟨B, 1, none⟩ = some (.func (.func 43) #[] #[])) (c2 : w.cell? ⟨B, 2, none⟩ = some (.func (.func 44) #[] #[])) (c3 : w.cell? ⟨B, 3, none⟩ = some (.func (.func 45) #[] #[])) :
    Calls Try.prog 47 #[.int .u8 c.toNat, .slice (some ⟨B, 0, none⟩) 4 4] w fun e w' => e = .returned (.bool (b1 || b2 || b3 || b4)) ∧ w = w' := by
  have g1 := small_any c w
  have g2 := great_any c w
  have g3 := digit_any c w
  have g4 := other_any c w
  rw [← h1] at g1
  rw [← h2] at g2
  rw [← h3] at g3
  rw [← h4] at g4
  clear h1 h2 h3 h4
  go_enter Try.func47, Try.ntmps47
  go_wp2_with fail
  refine wp_loop_rounds 5 ?_
  rw [rounds_succ]
  cases b1 with
  | true =>
    go_wp2_with (go_at_call 42; ((with_reducible refine g1.mono ?_); rintro e w1 ⟨rfl, rfl⟩))
    go_ret
    exact ⟨by simp, rfl⟩
  | false =>
    go_wp2_with (go_at_call 42; ((with_reducible refine g1.mono ?_); rintro e w1 ⟨rfl, rfl⟩))
    rw [rounds_succ]
    cases b2 with
    | true =>
      go_wp2_with (go_at_call 43; ((with_reducible refine g2.mono ?_); rintro e w1 ⟨rfl, rfl⟩))
      go_ret
      exact ⟨by simp, rfl⟩
    | false =>
      go_wp2_with (go_at_call 43; ((with_reducible refine g2.mono ?_); rintro e w1 ⟨rfl, rfl⟩))
      rw [rounds_succ]
      cases b3 with
      | true =>
        go_wp2_with (go_at_call 44; ((with_reducible refine g3.mono ?_); rintro e w1 ⟨rfl, rfl⟩))
        go_ret
        exact ⟨by simp, rfl⟩
      | false =>
        go_wp2_with (go_at_call 44; ((with_reducible refine g3.mono ?_); rintro e w1 ⟨rfl, rfl⟩))
        rw [rounds_succ]
        cases b4 with
        | true =>
          go_wp2_with (go_at_call 45; ((with_reducible refine g4.mono ?_); rintro e w1 ⟨rfl, rfl⟩))
          go_ret
          exact ⟨by simp, rfl⟩
        | false =>
          go_wp2_with (go_at_call 45; ((with_reducible refine g4.mono ?_); rintro e w1 ⟨rfl, rfl⟩))
          rw [rounds_succ]
          go_wp2_with fail
          go_ret
          exact ⟨rfl, rfl⟩

theorem cell_new4 (w : World) (a b c d : Value) (t : TypeId) : (w.alloc (.cells #[a, b, c, d] t)).cell? ⟨w.heap.size, 0, none⟩ = some a ∧ (w.alloc (.cells #[a, b, c, d] t)).cell? ⟨w.heap.size, 1, none⟩ = some b ∧ (w.alloc (.cells #[a, b, c, d] t)).cell? ⟨w.heap.size, 2, none⟩ = some c ∧ (w.alloc (.cells #[a, b, c, d] t)).cell? ⟨w.heap.size, 3, none⟩ = some d := by
  have h := heap_alloc_new w (.cells #[a, b, c, d] t)
  refine ⟨?_, ?_, ?_, ?_⟩ <;> (show (match (w.alloc (.cells #[a, b, c, d] t)).heap[w.heap.size]? with | some (.cells c _ _) => _ | _ => none) = _; rw [h]; rfl)
set_option maxHeartbeats 4000000 in
theorem check_any (s : ByteArray) (w : World) (hs : s.size ≤ 1099511627776) :
    Calls Try.prog 24 #[.string s] w fun e w' => e = .returned (.int .i64 (checkN s.data.toList : Nat)) ∧ Below w.heap.size w w' := by
  obtain ⟨v, hv⟩ : ∃ v, v = checkN s.data.toList := ⟨_, rfl⟩
  have hlen : s.data.toList.length = s.size := by simp
  rw [← hv]
  have HV := Lib.hid hv
  have HLEN := Lib.hid hlen
  clear hv hlen
  go_enter Try.func24, Try.ntmps24
  by_cases h20 : 20 < s.size
  · have hvv : v = 3 := by rw [HV.out, check_long (by rw [HLEN.out]; exact h20)]
    have HVV := Lib.hid hvv
    clear hvv
    go_wp2_with fail
    go_ret
    exact ⟨by rw [HVV.out]; rfl, Below.refl _ _⟩
  go_wp2_with fail
  go_loopw [7, 13] (fun _ i wr => ∃ k : Nat, k ≤ s.size ∧ i = .int .i64 k ∧ Hid (∀ j (hj : j < s.size), j < k → goodB s[j] = true) ∧ Below w.heap.size w wr) (fun _ i _ => s.size - (intOf i).toNat)
  case atStart => exact ⟨0, by omega, rfl, fun j hj h => absurd h (by omega), Below.refl _ _⟩
  case round =>
    obtain ⟨k, hk, rfl, hno, hbel⟩ := hrel
    by_cases hks : k < s.size
    · obtain ⟨g, hg⟩ : ∃ g, g = goodB s[k] := ⟨_, rfl⟩
      have hany : ∀ (B : Nat) (wx : World), wx.cell? ⟨B, 0, none⟩ = some (.func (.func 42) #[] #[]) → wx.cell? ⟨B, 1, none⟩ = some (.func (.func 43) #[] #[]) → wx.cell? ⟨B, 2, none⟩ = some (.func (.func 44) #[] #[]) → wx.cell? ⟨B, 3, none⟩ = some (.func (.func 45) #[] #[]) →
          Calls Try.prog 47 #[.int .u8 s[k].toNat, .slice (some ⟨B, 0, none⟩) 4 4] wx fun e w' => e = .returned (.bool g) ∧ wx = w' := fun B wx c0 c1 c2 c3 => by
        rw [hg, goodB_of s[k] _ _ _ _ rfl rfl rfl rfl]
        exact any_any s[k] B wx _ _ _ _ rfl rfl rfl rfl c0 c1 c2 c3
      have HG := Lib.hid hg
      clear hg
      cases g with
      | true =>
        go_wp2_with (go_at_call 47; ((with_reducible refine (hany _ _ (cell_new4 _ _ _ _ _ _).1 (cell_new4 _ _ _ _ _ _).2.1 (cell_new4 _ _ _ _ _ _).2.2.1 (cell_new4 _ _ _ _ _ _).2.2.2).mono ?_); rintro e w3 ⟨rfl, rfl⟩))
        go_roundw
        case rel =>
          refine ⟨k + 1, by omega, by go_num, fun j hj h => ?_, hbel.alloc hbel.size _⟩
          by_cases e : j = k
          · subst e; exact HG.out.symm
          · exact hno.out j hj (by omega)
        case measure => simp [intOf]; omega
      | false =>
        go_wp2_with (go_at_call 47; ((with_reducible refine (hany _ _ (cell_new4 _ _ _ _ _ _).1 (cell_new4 _ _ _ _ _ _).2.1 (cell_new4 _ _ _ _ _ _).2.2.1 (cell_new4 _ _ _ _ _ _).2.2.2).mono ?_); rintro e w3 ⟨rfl, rfl⟩))
        go_ret
        refine ⟨?_, hbel.alloc hbel.size _⟩
        rw [HV.out, check_bad (by rw [HLEN.out]; exact h20) k (by rw [HLEN.out]; exact hks) (by rw [byte_elem s k (by rw [HLEN.out]; exact hks) hks]; exact HG.out.symm)]
        rfl
    · obtain rfl : k = s.size := by omega
      have hvv : v = if s.data.toList = [] then 2 else if s.data.toList.getD 0 0 = 46 then 2 else 0 := by
        rw [HV.out, check_good (by rw [HLEN.out]; exact h20) (fun j hj => by rw [byte_elem s j hj (by rw [← HLEN.out]; exact hj)]; exact hno.out j (by rw [← HLEN.out]; exact hj) (by rw [← HLEN.out]; exact hj))]
      by_cases h0 : s.size = 0
      · obtain rfl : s = ⟨#[]⟩ := by
          apply ByteArray.ext
          exact Array.eq_empty_of_size_eq_zero h0
        have hv2 : v = 2 := hvv
        have HV2 := Lib.hid hv2
        clear hv2 hvv
        go_wp2_with fail
        go_ret
        exact ⟨by rw [HV2.out]; rfl, hbel⟩
      · have hne := toList_ne h0
        have hne2 := toList_emp h0
        have hvv2 : v = if s[0].toNat = 46 then 2 else 0 := by
          rw [hvv, if_neg (by intro e; apply h0; rw [← HLEN.out, e]; rfl)]
          have : s.data.toList.getD 0 0 = s[0] := by
            rw [← byte_getD s 0 (by omega)]
          rw [this]
          congr 1
          rw [eq_iff_iff]
          constructor
          · intro e; rw [e]; rfl
          · intro e; exact UInt8.toNat_inj.1 e
        have HVV2 := Lib.hid hvv2
        clear hvv2 hvv
        have hs0 : 0 < s.size := by omega
        by_cases h46 : s[0].toNat = 46
        · have ht : ((s[0].toNat : Int) == 46) = true := by rw [h46]; rfl
          have H46 := Lib.hid h46
          clear h46
          go_wp2_with fail
          go_ret
          exact ⟨by rw [HVV2.out, if_pos H46.out]; rfl, hbel⟩
        · have ht : ((s[0].toNat : Int) == 46) = false := by rw [beq_eq_false_iff_ne]; omega
          have H46 := Lib.hid h46
          clear h46
          go_wp2_with fail
          go_ret
          exact ⟨by rw [HVV2.out, if_neg H46.out]; rfl, hbel⟩
end Go.Proofs.Ytjkafmjikfbafaa
