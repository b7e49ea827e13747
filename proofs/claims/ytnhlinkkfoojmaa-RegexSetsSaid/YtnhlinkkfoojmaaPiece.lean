/- A piece: the walk of piece, from that of stroke. -/
import Derived.Test.YtnhlinkkfoojmaaMap67
namespace Go.Proofs.Ytnhlinkkfoojmaa
open Go.RowKit
set_option maxRecDepth 100000
set_option linter.unusedSimpArgs false
set_option linter.unusedVariables false
theorem piece_eq (f : Nat) (L : List UInt8) (r : Rdr) (c : UInt8) (hc : c = L.getD r.i 0) (R1 : Rdr) (hR1 : R1 = { r with i := r.i + 1, first := false }) : piece (f + 1) L r =
    if c = 94 ∧ r.first = true then some ({ R1.add ⟨noSet, 1, 0⟩ with first := (R1.add ⟨noSet, 1, 0⟩).at' L [42] }, true, false)
    else if c = 36 ∧ (R1.i = L.length ∨ (0 < R1.deep ∧ R1.at' L [92, 41] = true)) then some (R1.add ⟨noSet, 2, 0⟩, true, false)
    else if c = 46 then some (R1.point, false, true)
    else if c = 91 then (R1.square L).map fun r2 => (r2, false, true)
    else if c = 92 then (stroke f L R1).map fun x => (x.1, x.2, true)
    else if c ≠ 42 ∨ r.first = true then some (R1.single c, false, true)
    else none := by
  subst hc hR1
  rw [piece]
theorem at_q {w : World} {p : Nat} {s : ByteArray} {r : Rdr} {v : Value} (h : RV w p s r v) (hi : r.i ≤ s.size) (hs : s.size ≤ 100000) (t : ByteArray) (ht : t.size ≤ 100000) (b : Bool) (hb : b = r.at' s.data.toList t.data.toList) (n : Nat) :
    Calls Try.prog 16 #[.pointer (some ⟨p, 0, none⟩), .string t] (w.drewN n) fun e w' => e = .returned (.bool b) ∧ ∃ m, w' = w.drewN m := by
  have h2 := h.same (Same.drew w n)
  refine (at_any p s t r.i _ hi (by omega) (by omega) h2.c2 h2.c3).mono ?_
  rintro e w' ⟨rfl, m, rfl⟩
  exact ⟨by rw [hb]; rfl, n + m, World.drewN_drewN ..⟩
theorem look_46' (p : Nat) (c : UInt8) (h : c = 46) : Instr.findNow (.int .u8) (u8k c.toNat) (readers p 3).toList 0 = some (some (0, bound p 24)) := by rw [h]; exact look_46 p
theorem look_91' (p : Nat) (c : UInt8) (h : c = 91) : Instr.findNow (.int .u8) (u8k c.toNat) (readers p 3).toList 0 = some (some (1, bound p 25)) := by rw [h]; exact look_91 p
theorem look_92' (p : Nat) (c : UInt8) (h : c = 92) : Instr.findNow (.int .u8) (u8k c.toNat) (readers p 3).toList 0 = some (some (2, bound p 26)) := by rw [h]; exact look_92 p
theorem look_no' (p : Nat) (c : UInt8) (h1 : c ≠ 46) (h2 : c ≠ 91) (h3 : c ≠ 92) : Instr.findNow (.int .u8) (u8k c.toNat) (readers p 3).toList 0 = some none :=
  look_no p c.toNat (fun e => h1 (UInt8.toNat_inj.1 e)) (fun e => h2 (UInt8.toNat_inj.1 e)) (fun e => h3 (UInt8.toNat_inj.1 e))
theorem u8_beq (c : UInt8) (k : UInt8) (n : Int) (hn : n = (k.toNat : Nat)) : ((c.toNat : Int) == n) = decide (c = k) := by
  subst hn
  rw [Bool.eq_iff_iff, beq_iff_eq, decide_eq_true_iff]
  constructor
  · intro h; exact UInt8.toNat_inj.1 (by omega)
  · intro h; rw [h]
set_option maxHeartbeats 8000000 in
theorem piece_step (s : ByteArray) (hs : s.size ≤ 1000) (f : Nat) (h26 : C26 s f) : C17 s (f + 1) := by
  intro p w r hRA hg hi hf
  obtain ⟨v, hR⟩ := hRA
  have hlen := hg.len
  have hdeep := hg.deep
  obtain ⟨c, hc⟩ : ∃ c, c = s.data.toList.getD r.i 0 := ⟨_, rfl⟩
  obtain ⟨R1, hR1e⟩ : ∃ R1, R1 = ({ r with i := r.i + 1, first := false } : Rdr) := ⟨_, rfl⟩
  obtain ⟨out, hout⟩ : ∃ o, o = piece (f + 1) s.data.toList r := ⟨_, rfl⟩
  rw [← hout]
  rw [piece_eq f s.data.toList r c hc R1 hR1e, size_list] at hout
  have HO := Lib.hid hout
  have hR1 : ∀ n, RV (((w.drewN n).setCell ⟨p, 3, none⟩ (.int .i64 ((r.i : Int) + 1))).setCell ⟨p, 5, none⟩ (.bool false)) p s R1 v := fun n => by
    have := ((hR.same (Same.drew w n)).put3 (r.i + 1)).put5 false
    rw [show ((r.i + 1 : Nat) : Int) = (r.i : Int) + 1 by omega] at this
    rw [hR1e]; exact this
  have hB1 : ∀ n, Below p w (((w.drewN n).setCell ⟨p, 3, none⟩ (.int .i64 ((r.i : Int) + 1))).setCell ⟨p, 5, none⟩ (.bool false)) := fun n => (((Same.drew w n).below p).setCell (p := ⟨p, 3, none⟩) (Nat.le_refl _) _).setCell (p := ⟨p, 5, none⟩) (Nat.le_refl _) _
  have hg1 : Gd s.size R1 := by rw [hR1e]; exact hg.put rfl rfl rfl (by show r.i ≤ r.i + 1; omega) hi
  have hl1 : R1.l.length + 2 ≤ 2 * R1.i := by rw [hR1e]; show r.l.length + 2 ≤ 2 * (r.i + 1); omega
  have hd1 : R1.deep + 1 ≤ R1.i := by rw [hR1e]; show r.deep + 1 ≤ r.i + 1; omega
  have hi1 : R1.i = r.i + 1 := by rw [hR1e]
  have hdd1 : R1.deep = r.deep := by rw [hR1e]
  have hl0 : R1.l.length = r.l.length := by rw [hR1e]
  have hc2 := hR.c2
  have hc3 := hR.c3
  have hc5 := hR.c5
  have hz3 := hR.froz 3
  have hz5 := hR.froz 5
  have hic := fun wx => idx_run s r.i hi (r.i : Int) rfl c hc wx
  have HR1 := Lib.hid hR1
  have HB1 := Lib.hid hB1
  have HI1 := Lib.hid hi1
  have HDD := Lib.hid hdd1
  have HL0 := Lib.hid hl0
  have HC := Lib.hid hc
  obtain ⟨fst, hfst⟩ : ∃ b, b = r.first := ⟨_, rfl⟩
  rw [← hfst] at hc5
  have HF := Lib.hid hfst
  clear hout hR1 hB1 hR1e hR hc hfst hi1 hdd1 hl0
  go_enter Try.func17, Try.ntmps17
  go_upto_region 1 with fail
  go_quiet (fail)
  have hRW := HR1.out nq
  have hBW := HB1.out nq
  go_upto_region 4 with fail
  generalize ((w.drewN nq).setCell ⟨p, 3, none⟩ (.int .i64 ((r.i : Int) + 1))).setCell ⟨p, 5, none⟩ (.bool false) = W at hRW hBW ⊢
  clear HR1 HB1 hc2 hc3 hc5 hz3 hz5 hic
  have hi2 : R1.i ≤ s.size := by rw [HI1.out]; omega
  have hl2 : R1.l.length ≤ 100000 := by rw [HL0.out]; omega
  have hc2 := hRW.c2
  have hc3 := hRW.c3
  have hc4 := hRW.c4
  have HRW := Lib.hid hRW
  have hq1 : ((c.toNat : Int) == 94) = decide (c = 94) := u8_beq c 94 94 rfl
  have hq2 : ((c.toNat : Int) == 36) = decide (c = 36) := u8_beq c 36 36 rfl
  clear hRW
  by_cases hA : c = 94 ∧ fst = true
  · obtain ⟨hA1, hA2⟩ := hA
    have hon : out = some ({ R1.add ⟨noSet, 1, 0⟩ with first := (R1.add ⟨noSet, 1, 0⟩).at' s.data.toList [42] }, true, false) := by rw [HO.out, if_pos ⟨hA1, by rw [← HF.out]; exact hA2⟩]
    subst hon
    have hq3 : ((c.toNat : Int) == 94) = true := by rw [hq1]; exact decide_eq_true hA1
    have gA := add_any p W s R1 ⟨noSet, 1, 0⟩ (by rfl) HRW.out.ra hl2 _ (List.toList_toArray ..)
    obtain ⟨b2, hb2⟩ : ∃ b2, b2 = (R1.add ⟨noSet, 1, 0⟩).at' s.data.toList (⟨#[42]⟩ : ByteArray).data.toList := ⟨_, rfl⟩
    have HB2 := Lib.hid hb2
    clear hq1 hq2 hA1 HO hb2
    go_wp2_with (first
      | (with_reducible refine wpList_build_k rfl 1 rfl ?_)
      | (go_at_call 13; ((with_reducible refine gA.mono ?_); rintro e w2 ⟨rfl, hRA2, hB2⟩); (obtain ⟨v2, hR2⟩ := hRA2); (have g16 := at_r hR2 hi2 (by omega) ⟨#[42]⟩ (by decide) b2 HB2.out); (have HR2 := Lib.hid hR2); (clear hR2))
      | (go_at_call 16; ((with_reducible refine g16.mono ?_); rintro e w3 ⟨rfl, hs3⟩); (have hz5 := (HR2.out.same hs3).froz 5); (have hc5 := (HR2.out.same hs3).c5)))
    go_ret2
    refine ⟨rfl, ?_, ((hBW.trans hB2).trans (hs3.below p)).setCell (p := ⟨p, 5, none⟩) (Nat.le_refl _) _⟩
    have := (HR2.out.same hs3).put5 b2
    rw [HB2.out] at this ⊢
    exact this.ra
  have hAf : (decide (c = 94) && fst) = false := by
    cases h : (decide (c = 94) && fst) with
    | false => rfl
    | true =>
      rw [Bool.and_eq_true, decide_eq_true_iff] at h
      exact absurd h hA
  obtain ⟨dd, hdd⟩ : ∃ dd, dd = decide (c = 36 ∧ (R1.i = s.size ∨ (0 < R1.deep ∧ R1.at' s.data.toList [92, 41] = true))) := ⟨_, rfl⟩
  have HDD2 := Lib.hid hdd
  have hO2 : out = if dd = true then some (R1.add ⟨noSet, 2, 0⟩, true, false)
    else if c = 46 then some (R1.point, false, true)
    else if c = 91 then (R1.square s.data.toList).map fun r2 => (r2, false, true)
    else if c = 92 then (stroke f s.data.toList R1).map fun x => (x.1, x.2, true)
    else if c ≠ 42 ∨ fst = true then some (R1.single c, false, true)
    else none := by
    rw [HO.out, if_neg (by rw [← HF.out]; exact hA), HF.out, hdd]
    simp only [decide_eq_true_eq]
  have HO2 := Lib.hid hO2
  have HAF := Lib.hid hAf
  clear hdd hO2 HO hA hAf
  have hpre : (((c.toNat : Int) == 94) = false) ∨ (((c.toNat : Int) == 94) = true ∧ fst = false) := by
    have h := HAF.out
    rw [← hq1] at h
    cases h2 : ((c.toNat : Int) == 94) with
    | false => exact .inl rfl
    | true => rw [h2] at h; exact .inr ⟨rfl, by simpa using h⟩
  have HQ1 := Lib.hid hq1
  clear hq1
  go_upto_region 4 with fail
  go_cut [31] (fun v31 wx => v31 = .bool false ∧ wx = W)
  case first =>
    rcases hpre with h | ⟨h, h2⟩
    · go_wp2_with fail
      go_meet
      exact ⟨rfl, rfl⟩
    · go_wp2_with fail
      go_meet
      exact ⟨rfl, rfl⟩
  case rest =>
    obtain ⟨rfl, rfl⟩ := hcut
    clear hpre
    clear HQ1 HAF
    go_upto_region 8 with fail
    go_cut [45] (fun v45 wx => v45 = .bool dd ∧ Same wc wx)
    case first =>
      by_cases h36 : c = 36
      · have hq3 : ((c.toNat : Int) == 36) = true := by rw [hq2]; exact decide_eq_true h36
        by_cases hend : R1.i = s.size
        · have he : ((R1.i : Int) == (s.size : Int)) = true := by rw [beq_iff_eq]; omega
          have hdd : dd = true := by rw [HDD2.out]; exact decide_eq_true ⟨h36, .inl hend⟩
          clear hq2 h36 hend HDD2 HO2
          go_quiet (fail)
          go_wp2_with fail
          go_meet
          exact ⟨by rw [hdd], Same.drew _ _⟩
        · have he : ((R1.i : Int) == (s.size : Int)) = false := by rw [beq_eq_false_iff_ne]; intro e; exact hend (by omega)
          by_cases hdp : 0 < R1.deep
          · have hd2 : decide ((R1.deep : Int) > 0) = true := decide_eq_true (by omega)
            have hd3 : decide (R1.deep > 0) = true := decide_eq_true hdp
            have hd4 : decide ((0 : Int) < (R1.deep : Int)) = true := decide_eq_true (by omega)
            have hdd : dd = R1.at' s.data.toList (⟨#[92, 41]⟩ : ByteArray).data.toList := by
              rw [HDD2.out]
              show _ = R1.at' s.data.toList [92, 41]
              cases R1.at' s.data.toList [92, 41] with
              | true => exact decide_eq_true ⟨h36, .inr ⟨hdp, rfl⟩⟩
              | false => exact decide_eq_false (fun e => by rcases e.2 with h | ⟨_, h⟩; exact hend h; cases h)
            have g16 := fun n => at_q HRW.out hi2 (by omega) ⟨#[92, 41]⟩ (by decide) dd hdd n
            clear hq2 h36 hend HDD2 HO2 hdd
            go_quiet ((go_at_call 16; with_reducible exact (g16 _)))
            go_wp2_with fail
            go_meet
            exact ⟨rfl, Same.drew _ _⟩
          · have hd2 : decide ((R1.deep : Int) > 0) = false := decide_eq_false (by omega)
            have hd3 : decide (R1.deep > 0) = false := decide_eq_false hdp
            have hd4 : decide ((0 : Int) < (R1.deep : Int)) = false := decide_eq_false (by omega)
            have hdd : dd = false := by
              rw [HDD2.out]
              exact decide_eq_false (fun e => by rcases e.2 with h | ⟨h, _⟩; exact hend h; exact hdp h)
            clear hq2 h36 hend HDD2 HO2
            go_quiet (fail)
            go_wp2_with fail
            go_meet
            exact ⟨by rw [hdd], Same.drew _ _⟩
      · have hq3 : ((c.toNat : Int) == 36) = false := by rw [hq2]; exact decide_eq_false h36
        have hdd : dd = false := by rw [HDD2.out]; exact decide_eq_false (fun e => h36 e.1)
        clear hq2 h36 HDD2 HO2
        go_quiet (fail)
        go_wp2_with fail
        go_meet
        exact ⟨by rw [hdd], Same.drew _ _⟩
    case rest =>
      obtain ⟨rfl, hsW⟩ := hcut
      have hRX := HRW.out.same hsW
      have hBX := hBW.trans (hsW.below p)
      clear HRW hBW hsW hc2 hc3 hc4 hq2
      have HRW := Lib.hid hRX
      have hBW := hBX
      clear hRX hBX
      cases dd with
      | true =>
        have hon : out = some (R1.add ⟨noSet, 2, 0⟩, true, false) := by rw [HO2.out, if_pos rfl]
        subst hon
        clear HO2 HDD2
        have gA := fun wx hRx => add_any p wx s R1 ⟨noSet, 2, 0⟩ (by rfl) hRx hl2 _ (List.toList_toArray ..)
        have gA2 := gA _ HRW.out.ra
        clear gA
        go_wp2_with (first
          | (with_reducible refine wpList_build_k rfl 2 rfl ?_)
          | (go_at_call 13; ((with_reducible refine gA2.mono ?_); rintro e w2 ⟨rfl, hRA2, hB2⟩)))
        go_ret2
        exact ⟨rfl, hRA2, hBW.trans hB2⟩
      | false =>
        have HO3 := Lib.hid (HO2.out.trans (if_neg Bool.false_ne_true))
        clear HO2
        have HO2 := HO3
        clear HO3
        clear HDD2
        by_cases h46 : c = 46
        · have hon : out = some (R1.point, false, true) := by rw [HO2.out, if_pos h46]
          have HLK := Lib.hid (look_46' p c h46)
          subst hon
          clear HO2 h46
          go_upto_region 12 with (first
                | ((with_reducible refine wpList_make67 rfl rfl p ?_); intro G w2 hGw hM0)
                | ((with_reducible refine wpList_put67 rfl (.tmp 75) (.tmp 77) 46 rfl G p 0 1 24 rfl ?_ ?_ hM0 ?_ ?_ ?_); (rfl); (rfl); (exact put_46 p); (rfl); intro w3 hM1)
                | ((with_reducible refine wpList_put67 rfl (.tmp 75) (.tmp 79) 91 rfl G p 1 2 25 rfl ?_ ?_ hM1 ?_ ?_ ?_); (rfl); (rfl); (exact put_91 p); (rfl); intro w4 hM2)
                | ((with_reducible refine wpList_put67 rfl (.tmp 75) (.tmp 81) 92 rfl G p 2 3 26 rfl ?_ ?_ hM2 ?_ ?_ ?_); (rfl); (rfl); (exact put_92 p); (rfl); intro w5 hM3)
                | ((with_reducible refine wpList_look67 rfl (.tmp 82) (.tmp 83) rfl G p 3 c.toNat ?_ ?_ hM3 _ HLK.out #[.func (.func 24) #[.pointer (some ⟨p, 0, none⟩)] #[], .bool true] ?_ ?_); (rfl); (rfl); (rfl)))
          have hRG := (HRW.out.below hGw hM3.bel)
          have hBG := hBW.trans (hM3.bel.mono (Nat.le_trans (Nat.le_of_lt HRW.out.lt) hGw))
          have g24 := point_any p _ s R1 hRG.ra hl2
          go_wp2_with (go_at_call 24; ((with_reducible refine g24.mono ?_); rintro e w6 ⟨rfl, hR6, hB6⟩))
          go_ret2
          exact ⟨rfl, hR6, hBG.trans hB6⟩
        · by_cases h91 : c = 91
          · have hon : out = (R1.square s.data.toList).map fun r2 => (r2, false, true) := by rw [HO2.out, if_neg h46, if_pos h91]
            have HLK := Lib.hid (look_91' p c h91)
            obtain ⟨o2, ho2⟩ : ∃ o2, o2 = R1.square s.data.toList := ⟨_, rfl⟩
            rw [← ho2] at hon
            subst hon
            have HP := Lib.hid ho2
            clear HO2 h91 h46 ho2
            go_upto_region 12 with (first
                  | ((with_reducible refine wpList_make67 rfl rfl p ?_); intro G w2 hGw hM0)
                  | ((with_reducible refine wpList_put67 rfl (.tmp 75) (.tmp 77) 46 rfl G p 0 1 24 rfl ?_ ?_ hM0 ?_ ?_ ?_); (rfl); (rfl); (exact put_46 p); (rfl); intro w3 hM1)
                  | ((with_reducible refine wpList_put67 rfl (.tmp 75) (.tmp 79) 91 rfl G p 1 2 25 rfl ?_ ?_ hM1 ?_ ?_ ?_); (rfl); (rfl); (exact put_91 p); (rfl); intro w4 hM2)
                  | ((with_reducible refine wpList_put67 rfl (.tmp 75) (.tmp 81) 92 rfl G p 2 3 26 rfl ?_ ?_ hM2 ?_ ?_ ?_); (rfl); (rfl); (exact put_92 p); (rfl); intro w5 hM3)
                  | ((with_reducible refine wpList_look67 rfl (.tmp 82) (.tmp 83) rfl G p 3 c.toNat ?_ ?_ hM3 _ HLK.out #[.func (.func 25) #[.pointer (some ⟨p, 0, none⟩)] #[], .bool true] ?_ ?_); (rfl); (rfl); (rfl)))
            have hRG := (HRW.out.below hGw hM3.bel)
            have hBG := hBW.trans (hM3.bel.mono (Nat.le_trans (Nat.le_of_lt HRW.out.lt) hGw))
            have g25 := square_ra p _ s R1 hRG.ra hi2 hs hl2
            rw [← HP.out] at g25
            cases o2 with
            | none =>
              go_wp2_with (go_at_call 25; ((with_reducible refine g25.mono ?_); rintro e w6 ⟨rfl, hB6⟩))
              exact ⟨rfl, rfl, hBG.trans hB6⟩
            | some r2 =>
              go_wp2_with (go_at_call 25; ((with_reducible refine g25.mono ?_); rintro e w6 ⟨rfl, hR6, hB6⟩))
              go_ret2
              exact ⟨rfl, hR6, hBG.trans hB6⟩
          · by_cases h92 : c = 92
            · have hon : out = (stroke f s.data.toList R1).map fun x => (x.1, x.2, true) := by rw [HO2.out, if_neg h46, if_neg h91, if_pos h92]
              have HLK := Lib.hid (look_92' p c h92)
              obtain ⟨o2, ho2⟩ : ∃ o2, o2 = stroke f s.data.toList R1 := ⟨_, rfl⟩
              rw [← ho2] at hon
              subst hon
              have HP := Lib.hid ho2
              clear HO2 h91 h46 h92 ho2
              go_upto_region 12 with (first
                    | ((with_reducible refine wpList_make67 rfl rfl p ?_); intro G w2 hGw hM0)
                    | ((with_reducible refine wpList_put67 rfl (.tmp 75) (.tmp 77) 46 rfl G p 0 1 24 rfl ?_ ?_ hM0 ?_ ?_ ?_); (rfl); (rfl); (exact put_46 p); (rfl); intro w3 hM1)
                    | ((with_reducible refine wpList_put67 rfl (.tmp 75) (.tmp 79) 91 rfl G p 1 2 25 rfl ?_ ?_ hM1 ?_ ?_ ?_); (rfl); (rfl); (exact put_91 p); (rfl); intro w4 hM2)
                    | ((with_reducible refine wpList_put67 rfl (.tmp 75) (.tmp 81) 92 rfl G p 2 3 26 rfl ?_ ?_ hM2 ?_ ?_ ?_); (rfl); (rfl); (exact put_92 p); (rfl); intro w5 hM3)
                    | ((with_reducible refine wpList_look67 rfl (.tmp 82) (.tmp 83) rfl G p 3 c.toNat ?_ ?_ hM3 _ HLK.out #[.func (.func 26) #[.pointer (some ⟨p, 0, none⟩)] #[], .bool true] ?_ ?_); (rfl); (rfl); (rfl)))
              have hRG := (HRW.out.below hGw hM3.bel)
              have hBG := hBW.trans (hM3.bel.mono (Nat.le_trans (Nat.le_of_lt HRW.out.lt) hGw))
              have g26 := h26 p _ R1 hRG.ra hg1 hl1 hd1 (by rw [HI1.out]; omega)
              rw [← HP.out] at g26
              cases o2 with
              | none =>
                go_wp2_with (go_at_call 26; ((with_reducible refine g26.mono ?_); rintro e w6 ⟨rfl, hB6⟩))
                exact ⟨rfl, rfl, hBG.trans hB6⟩
              | some x =>
                obtain ⟨r2, b⟩ := x
                go_wp2_with (go_at_call 26; ((with_reducible refine g26.mono ?_); rintro e w6 ⟨rfl, hR6, hB6⟩))
                go_ret2
                exact ⟨rfl, hR6, hBG.trans hB6⟩
            · have HLK := Lib.hid (look_no' p c h46 h91 h92)
              have hon : out = if c ≠ 42 ∨ fst = true then some (R1.single c, false, true) else none := by rw [HO2.out, if_neg h46, if_neg h91, if_neg h92]
              have HON := Lib.hid hon
              clear HO2 hon h46 h91 h92
              go_upto_region 12 with (first
                    | ((with_reducible refine wpList_make67 rfl rfl p ?_); intro G w2 hGw hM0)
                    | ((with_reducible refine wpList_put67 rfl (.tmp 75) (.tmp 77) 46 rfl G p 0 1 24 rfl ?_ ?_ hM0 ?_ ?_ ?_); (rfl); (rfl); (exact put_46 p); (rfl); intro w3 hM1)
                    | ((with_reducible refine wpList_put67 rfl (.tmp 75) (.tmp 79) 91 rfl G p 1 2 25 rfl ?_ ?_ hM1 ?_ ?_ ?_); (rfl); (rfl); (exact put_91 p); (rfl); intro w4 hM2)
                    | ((with_reducible refine wpList_put67 rfl (.tmp 75) (.tmp 81) 92 rfl G p 2 3 26 rfl ?_ ?_ hM2 ?_ ?_ ?_); (rfl); (rfl); (exact put_92 p); (rfl); intro w5 hM3)
                    | ((with_reducible refine wpList_look67 rfl (.tmp 82) (.tmp 83) rfl G p 3 c.toNat ?_ ?_ hM3 _ HLK.out #[.nilFunc, .bool false] ?_ ?_); (rfl); (rfl); (rfl)))
              have hRG := (HRW.out.below hGw hM3.bel)
              have hBG := hBW.trans (hM3.bel.mono (Nat.le_trans (Nat.le_of_lt HRW.out.lt) hGw))
              have g27 := single_any p _ s R1 c hRG.ra hl2
              have hq42 : ((c.toNat : Int) != 42) = decide (c ≠ 42) := by
                rw [bne, u8_beq c 42 42 rfl]; simp
              by_cases h42 : c = 42
              · have hq5 : ((c.toNat : Int) != 42) = false := by rw [hq42]; exact decide_eq_false (fun e => e h42)
                clear hq42
                cases fst with
                | true =>
                  have hon : out = some (R1.single c, false, true) := by rw [HON.out, if_pos (.inr rfl)]
                  subst hon
                  clear HON h42
                  go_wp2_with (first
                    | (go_at_call 18; ((with_reducible refine (must_yes _).mono ?_); rintro e w6 ⟨rfl, rfl⟩))
                    | (go_at_call 27; ((with_reducible refine g27.mono ?_); rintro e w7 ⟨rfl, hR6, hB6⟩)))
                  go_ret2
                  exact ⟨rfl, hR6, hBG.trans hB6⟩
                | false =>
                  have hon : out = none := by rw [HON.out, if_neg]; rintro (h | h); exact h h42; cases h
                  subst hon
                  clear HON h42
                  go_wp2_with (go_at_call 18; ((with_reducible refine (must_no _).mono ?_); rintro e w6 ⟨rfl, rfl⟩))
                  exact ⟨rfl, rfl, hBG⟩
              · have hq5 : ((c.toNat : Int) != 42) = true := by rw [hq42]; exact decide_eq_true h42
                have hon : out = some (R1.single c, false, true) := by rw [HON.out, if_pos (.inl h42)]
                subst hon
                clear HON h42 hq42
                go_wp2_with (first
                  | (go_at_call 18; ((with_reducible refine (must_yes _).mono ?_); rintro e w6 ⟨rfl, rfl⟩))
                  | (go_at_call 27; ((with_reducible refine g27.mono ?_); rintro e w7 ⟨rfl, hR6, hB6⟩)))
                go_ret2
                exact ⟨rfl, hR6, hBG.trans hB6⟩
end Go.Proofs.Ytnhlinkkfoojmaa
