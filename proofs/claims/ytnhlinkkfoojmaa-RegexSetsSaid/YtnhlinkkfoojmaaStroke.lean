/- A stroke: the walk of stroke, from that of group. -/
import Derived.Test.YtnhlinkkfoojmaaGroup
import Derived.Test.YtnhlinkkfoojmaaQTail
namespace Go.Proofs.Ytnhlinkkfoojmaa
open Go.RowKit
set_option maxRecDepth 100000
set_option linter.unusedSimpArgs false
set_option linter.unusedVariables false
def signs : ByteArray := ⟨#[46, 42, 91, 93, 94, 36, 47, 92]⟩
theorem idx_signs (c : UInt8) : (0 : Int) ≤ Lib.indexByte signs.data.toList c ↔ c ∈ ([46, 42, 91, 93, 94, 36, 47, 92] : List UInt8) := by
  rw [indexByte_find]
  show _ ≤ idxVal (([46, 42, 91, 93, 94, 36, 47, 92] : List UInt8).findIdx? (· == c)) ↔ _
  cases h : ([46, 42, 91, 93, 94, 36, 47, 92] : List UInt8).findIdx? (· == c) with
  | none =>
    rw [List.findIdx?_eq_none_iff] at h
    constructor
    · intro h2; simp [idxVal] at h2
    · intro h2
      have := h c h2
      simp at this
  | some j =>
    obtain ⟨hj, h1, _⟩ := List.findIdx?_eq_some_iff_getElem.1 h
    constructor
    · intro _
      have : ([46, 42, 91, 93, 94, 36, 47, 92] : List UInt8)[j] = c := by simpa using h1
      rw [← this]
      exact List.getElem_mem hj
    · intro _; show (0 : Int) ≤ (j : Int); omega
theorem u8_eqb (c : UInt8) (k : Nat) (hk : k < 256) : ((c.toNat : Int) == (k : Int)) = decide (c = UInt8.ofNat k) := by
  rw [Bool.eq_iff_iff, beq_iff_eq, decide_eq_true_iff]
  constructor
  · intro h
    apply UInt8.toNat_inj.1
    rw [UInt8.toNat_ofNat_of_lt' hk]
    omega
  · intro h
    rw [h, UInt8.toNat_ofNat_of_lt' hk]
set_option maxHeartbeats 8000000 in
theorem stroke_step (s : ByteArray) (hs : s.size ≤ 1000) (f : Nat) (h32 : C32 s f) : C26 s (f + 1) := by
  intro p w r hRA hg hl hd hf
  obtain ⟨v, hR⟩ := hRA
  have hile := hg.i
  have hlen := hg.len
  obtain ⟨out, hout⟩ : ∃ o, o = stroke (f + 1) s.data.toList r := ⟨_, rfl⟩
  rw [← hout]
  rw [stroke] at hout
  simp only at hout
  rw [size_list] at hout
  have HO := Lib.hid hout
  have hc2 := hR.c2
  have hc3 := hR.c3
  have hz3 := hR.froz 3
  have HR := Lib.hid hR
  clear hout hR
  go_enter Try.func26, Try.ntmps26
  by_cases hi : r.i < s.size
  · have hle : decide ((r.i : Int) < (s.size : Int)) = true := decide_eq_true (by omega)
    obtain ⟨c, hc⟩ : ∃ c, c = s.data.toList.getD r.i 0 := ⟨_, rfl⟩
    have hic := fun wx => idx_run s r.i hi (r.i : Int) rfl c hc wx
    have hR1 : ∀ n, RV ((w.drewN n).setCell ⟨p, 3, none⟩ (.int .i64 ((r.i : Int) + 1))) p s { r with i := r.i + 1 } v := fun n => by
      have := (HR.out.same (Same.drew w n)).put3 (r.i + 1)
      rwa [show ((r.i + 1 : Nat) : Int) = (r.i : Int) + 1 by omega] at this
    have hB1 : ∀ n, Below p w ((w.drewN n).setCell ⟨p, 3, none⟩ (.int .i64 ((r.i : Int) + 1))) := fun n => ((Same.drew w n).below p).setCell (p := ⟨p, 3, none⟩) (Nat.le_refl _) _
    have HB1 := Lib.hid hB1
    have hg1 : Gd s.size ({ r with i := r.i + 1 } : Rdr) := hg.put rfl rfl rfl (by show r.i ≤ r.i + 1; omega) hi
    have g32 := fun n => h32 p _ { r with i := r.i + 1 } (hR1 n).ra hg1 (by show r.l.length + 2 ≤ 2 * (r.i + 1); omega) (by show r.deep + 2 ≤ r.i + 1; omega) (by show 9 + 4 * (s.size - (r.i + 1)) ≤ f; omega)
    have g10 := fun n => single_any p _ s { r with i := r.i + 1 } 10 (hR1 n).ra (by show r.l.length ≤ 100000; omega)
    have gc := fun n => single_any p _ s { r with i := r.i + 1 } c (hR1 n).ra (by show r.l.length ≤ 100000; omega)
    obtain ⟨ix, hixe⟩ : ∃ ix, ix = Lib.indexByte signs.data.toList c := ⟨_, rfl⟩
    have g31 : ∀ wx, Calls Try.prog 31 #[.string { data := #[46, 42, 91, 93, 94, 36, 47, 92] }, .int .u8 (c.toNat : Nat)] wx fun e w' => e = .returned (.int .i64 ix) ∧ w' = wx := fun wx => by
      have := Try.strings_IndexByte signs (c.toNat : Int) wx
      have e1 : ((c.toNat : Int)).toNat.toUInt8 = c := by simp
      rw [e1, ← hixe] at this
      exact this
    have e2 : (((10 : UInt8).toNat : Nat) : Int) = 10 := by decide
    rw [e2] at g10
    have hq1 : ((c.toNat : Int) == 40) = decide (c = 40) := u8_eqb c 40 (by omega)
    have hq2 : ((c.toNat : Int) == 110) = decide (c = 110) := u8_eqb c 110 (by omega)
    have hix := idx_signs c
    rw [← hixe] at hix
    have HC := Lib.hid hc
    have hout2 : out = if c = 40 then group f s.data.toList { r with i := r.i + 1 } else if c = 110 then some (({ r with i := r.i + 1 } : Rdr).single 10, false) else
        if c ∈ ([46, 42, 91, 93, 94, 36, 47, 92] : List UInt8) then some (({ r with i := r.i + 1 } : Rdr).single c, false) else none := by rw [HO.out, if_pos hi, hc]
    have HO2 := Lib.hid hout2
    obtain ⟨o2, ho2⟩ : ∃ o, o = group f s.data.toList { r with i := r.i + 1 } := ⟨_, rfl⟩
    rw [← ho2] at g32
    have HP := Lib.hid ho2
    have HIX := Lib.hid hix
    clear hixe hR1 hB1 hg1 e2 hc hout2 ho2 hix HO
    go_upto_region 1 with fail
    refine wp_region_quiet_tail 10 (by kernel_rfl) (by kernel_rfl) ?_
    simp only [List.take_succ_cons, List.take_zero, List.drop_succ_cons, List.drop_zero]
    repeat (go_big_quiet_step (fail))
    refine wpQuiet_nil ?_
    intro _ hw'
    obtain ⟨nq2, hw''⟩ := hw'
    subst hw''
    go_upto_region 2 with (go_at_call 18; ((with_reducible refine (must_yes _).mono ?_); rintro e w3 ⟨rfl, rfl⟩))
    go_quiet (fail)
    by_cases h40 : c = 40
    · have hq3 : ((c.toNat : Int) == 40) = true := by rw [hq1]; exact decide_eq_true h40
      have hon : out = o2 := by rw [HO2.out, if_pos h40, HP.out]
      subst hon
      clear hq1 hq2 HO2 HP h40
      cases out with
      | none =>
        go_wp2_with (go_at_call 32; ((with_reducible refine (g32 _).mono ?_); rintro e w4 ⟨rfl, hB5⟩))
        exact ⟨rfl, rfl, (HB1.out _).trans hB5⟩
      | some x =>
        obtain ⟨r2, b⟩ := x
        go_wp2_with (go_at_call 32; ((with_reducible refine (g32 _).mono ?_); rintro e w4 ⟨rfl, hR5, hB5⟩))
        go_ret
        exact ⟨rfl, hR5, (HB1.out _).trans hB5⟩
    · have hq3 : ((c.toNat : Int) == 40) = false := by rw [hq1]; exact decide_eq_false h40
      by_cases h110 : c = 110
      · have hq4 : ((c.toNat : Int) == 110) = true := by rw [hq2]; exact decide_eq_true h110
        have hon : out = some (({ r with i := r.i + 1 } : Rdr).single 10, false) := by rw [HO2.out, if_neg h40, if_pos h110]
        subst hon
        clear hq1 hq2 HO2 HP h40 h110
        go_wp2_with (go_at_call 27; ((with_reducible refine (g10 _).mono ?_); rintro e w4 ⟨rfl, hR5, hB5⟩))
        go_ret
        exact ⟨rfl, hR5, (HB1.out _).trans hB5⟩
      · have hq4 : ((c.toNat : Int) == 110) = false := by rw [hq2]; exact decide_eq_false h110
        by_cases hm : c ∈ ([46, 42, 91, 93, 94, 36, 47, 92] : List UInt8)
        · have hon : out = some (({ r with i := r.i + 1 } : Rdr).single c, false) := by rw [HO2.out, if_neg h40, if_neg h110, if_pos hm]
          have hge : decide (ix ≥ 0) = true := decide_eq_true (HIX.out.2 hm)
          subst hon
          clear hq1 hq2 HO2 HP h40 h110 hm
          go_wp2_with (first
            | (go_at_call 31; ((with_reducible refine (g31 _).mono ?_); rintro e w4 ⟨rfl, rfl⟩))
            | (go_at_call 18; ((with_reducible refine (must_yes _).mono ?_); rintro e w5 ⟨rfl, rfl⟩))
            | (go_at_call 27; ((with_reducible refine (gc _).mono ?_); rintro e w6 ⟨rfl, hR5, hB5⟩)))
          go_ret
          exact ⟨rfl, hR5, (HB1.out _).trans hB5⟩
        · have hon : out = none := by rw [HO2.out, if_neg h40, if_neg h110, if_neg hm]
          have hge : decide (ix ≥ 0) = false := decide_eq_false (fun e => hm (HIX.out.1 e))
          subst hon
          clear hq1 hq2 HO2 HP h40 h110 hm
          go_wp2_with (first
            | (go_at_call 31; ((with_reducible refine (g31 _).mono ?_); rintro e w4 ⟨rfl, rfl⟩))
            | (go_at_call 18; ((with_reducible refine (must_no _).mono ?_); rintro e w5 ⟨rfl, rfl⟩)))
          exact ⟨rfl, rfl, HB1.out _⟩
  · have hle : decide ((r.i : Int) < (s.size : Int)) = false := decide_eq_false (by omega)
    have hon : out = none := by rw [HO.out, if_neg hi]
    subst hon
    clear HO
    go_upto_region 1 with fail
    refine wp_region_quiet_tail 10 (by kernel_rfl) (by kernel_rfl) ?_
    simp only [List.take_succ_cons, List.take_zero, List.drop_succ_cons, List.drop_zero]
    repeat (go_big_quiet_step (fail))
    refine wpQuiet_nil ?_
    intro _ hw'
    obtain ⟨nq2, hw''⟩ := hw'
    subst hw''
    go_wp2_with (go_at_call 18; ((with_reducible refine (must_no _).mono ?_); rintro e w3 ⟨rfl, rfl⟩))
    exact ⟨rfl, rfl, (Same.drew w nq2).below p⟩
end Go.Proofs.Ytnhlinkkfoojmaa
