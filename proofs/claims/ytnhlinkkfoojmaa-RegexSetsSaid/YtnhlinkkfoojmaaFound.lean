/- The laws' own found: the walk. -/
import Derived.Test.YtnhlinkkfoojmaaFind
import Derived.OwnWalk
namespace Go.Proofs.Ytnhlinkkfoojmaa
open Go.RowKit
set_option maxRecDepth 100000
set_option linter.unusedSimpArgs false
set_option linter.unusedVariables false
/-- Each step, by itself, is in order. -/
def locS (len k : Nat) (x : Stp) : Bool := decide (x.kind ≤ 6) && (x.kind == 6 || x.kind == 4 || decide (k + 1 < len)) && (!(x.kind == 3 || x.kind == 4) || decide (x.to < len)) && decide (x.to ≤ 1000000)
def locB (l : List Stp) : Bool := decide (0 < l.length) && decide (l.length ≤ 100000) && (List.range l.length).all fun k => locS l.length k (l.getD k default)
theorem locB_spec {l : List Stp} (h : locB l = true) : WF l ∧ l.length ≤ 100000 ∧ ∀ x ∈ l, x.to ≤ 1000000 := by
  unfold locB at h
  simp only [Bool.and_eq_true, decide_eq_true_eq, List.all_eq_true, List.mem_range] at h
  obtain ⟨⟨h0, h1⟩, h2⟩ := h
  have hk : ∀ k, k < l.length → (l.getD k default).kind ≤ 6 ∧ ((l.getD k default).kind = 6 ∨ (l.getD k default).kind = 4 ∨ k + 1 < l.length) ∧ ((l.getD k default).kind = 3 ∨ (l.getD k default).kind = 4 → (l.getD k default).to < l.length) ∧ (l.getD k default).to ≤ 1000000 := fun k hk => by
    have h3 := h2 k hk
    unfold locS at h3
    simp only [Bool.and_eq_true, Bool.or_eq_true, decide_eq_true_eq, beq_iff_eq, Bool.not_eq_true', Bool.or_eq_false_iff, beq_eq_false_iff_ne] at h3
    obtain ⟨⟨⟨h4, h5⟩, h6⟩, h7⟩ := h3
    refine ⟨h4, ?_, fun e => ?_, h7⟩
    · rcases h5 with (h5 | h5) | h5
      · exact .inl h5
      · exact .inr (.inl h5)
      · exact .inr (.inr h5)
    · rcases h6 with h6 | h6
      · rcases e with e | e
        · exact absurd e h6.1
        · exact absurd e h6.2
      · exact h6
  refine ⟨⟨h0, fun k h => (hk k h).1, fun k h at_ size t ht => ?_, fun k h e => ?_⟩, h1, fun x hx => ?_⟩
  · obtain ⟨h4, h5, h6, _⟩ := hk k h
    rw [goesOn_K] at ht
    unfold goesK at ht
    generalize l.getD k default = x at *
    split at ht
    · split at ht
      · simp at ht
      · simp at ht; omega
    · split at ht
      · split at ht
        · simp at ht
        · simp at ht; omega
      · split at ht
        · rename_i e3
          simp at ht
          have := h6 (.inl e3)
          rcases ht with rfl | rfl <;> omega
        · split at ht
          · rename_i e4
            simp at ht
            have := h6 (.inr e4)
            omega
          · split at ht
            · simp at ht; omega
            · simp at ht
  · obtain ⟨_, h5, _, _⟩ := hk k h
    omega
  · obtain ⟨i, hi, rfl⟩ := List.mem_iff_getElem.1 hx
    have := (hk i hi).2.2.2
    simpa [hi] using this
theorem RX_SG {w : World} {G p : Nat} {l : List Stp} {n : Nat} (h : RX w G p l n) (hl : 0 < l.length) : ∃ g cap, SG w p w.heap.size l n g cap := by
  obtain ⟨⟨s, r, v, hR, rfl, rfl⟩, hge⟩ := h
  obtain ⟨g, cap, cur, rfl, hW⟩ := hR.row hl
  exact ⟨g, cap, ⟨⟨s, r, cur, hW, rfl, rfl⟩, hR.lt, (Array.getElem?_eq_some_iff.1 hW.blk).1⟩⟩
theorem conv_one (w : World) (b : Nat) (c : UInt8) (hc : w.cell? ⟨b, 0, none⟩ = some (.int .u8 (c.toNat : Nat))) : (convert 32 9 (.slice (some ⟨b, 0, none⟩) 1 1)).run Try.prog w = .ok (.string ⟨#[c]⟩) w := by
  have := run_convert_bytes_arg (P := Try.prog) w 32 5 Try.underlying32 Try.underlying5 b 0 1 1 [(c.toNat : Int)] rfl (fun i hi => by
    obtain rfl : i = 0 := by omega
    rw [hc]; rfl) 9 Try.underlying9
  rw [this]
  simp [strOfNums]
def digit (x : Int) : UInt8 := if x < 0 then 45 else UInt8.ofNat (48 + x.toNat)
def digits (out : List (Int × Int)) : List UInt8 := out.flatMap fun q => [digit q.1, digit q.2]
def foundO (u : Nat) (s text : List UInt8) (fr : Nat) : Option (List UInt8) :=
  match compile s with
  | none => some [33]
  | some (l, n) => if locB l && decide (n ≤ 9) then
      match findO u l n text fr with
      | none => none
      | some none => some [110, 111]
      | some (some out) => if out.all (fun q => decide (-1 ≤ q.1 ∧ q.1 < 10 ∧ -1 ≤ q.2 ∧ q.2 < 10)) && decide (out.length ≤ 100) then some (digits out) else none
    else none
set_option maxHeartbeats 8000000 in
theorem found_any (w : World) (s text : ByteArray) (fr : Nat) (hs : s.size ≤ 255) (ht : text.size ≤ 1000) (hfr : fr ≤ text.size) (u : Nat) (r : List UInt8) (hr : foundO u s.data.toList text.data.toList fr = some r) :
    Calls Try.prog 9 #[.string s, .string text, .int .i64 (fr : Nat)] w fun e w' => e = .returned (.string ⟨r.toArray⟩) ∧ Below w.heap.size w w' := by
  have g7 := compile_any s w hs
  unfold foundO at hr
  cases hc : compile s.data.toList with
  | none =>
    rw [hc] at g7 hr
    have hre : r = [33] := by injection hr with hr; exact hr.symm
    subst hre
    clear hr hc
    go_enter Try.func9, Try.ntmps9
    go_wp2_with (go_at_call 7; ((with_reducible refine g7.mono ?_); rintro e w2 ⟨rfl, hB2⟩))
    go_ret
    exact ⟨rfl, hB2⟩
  | some x =>
    obtain ⟨l, n⟩ := x
    rw [hc] at g7 hr
    simp only at hr
    by_cases hloc : (locB l && decide (n ≤ 9)) = true
    · rw [if_pos hloc] at hr
      rw [Bool.and_eq_true, decide_eq_true_eq] at hloc
      obtain ⟨hloc, hn9⟩ := hloc
      obtain ⟨hwf, hl, htos⟩ := locB_spec hloc
      cases hf : findO u l n text.data.toList fr with
      | none => rw [hf] at hr; cases hr
      | some out =>
        rw [hf] at hr
        have g8 := fun wx p G g cap h1 h2 => find_any wx p G l n g cap h1 hwf hl (by omega) htos h2 text ht fr hfr u out hf
        have HPOS := Lib.hid hwf.pos
        clear hf hc hloc
        cases out with
        | none =>
          have hre : r = [110, 111] := by injection hr with hr; exact hr.symm
          subst hre
          clear hr
          go_enter Try.func9, Try.ntmps9
          go_upto_region 4 with (go_at_call 7; ((with_reducible refine g7.mono ?_); rintro e w2 ⟨p, rfl, hRX, hB2⟩))
          obtain ⟨g, cap, hSG⟩ := RX_SG hRX HPOS.out
          have g8a := g8 w2 p _ g cap hSG (Nat.le_refl _)
          clear g8 hRX hSG
          go_wp2_with (go_at_call 8; ((with_reducible refine g8a.mono ?_); rintro e w3 ⟨rfl, hB3⟩))
          go_ret
          exact ⟨rfl, hB2.trans (hB3.mono hB2.size)⟩
        | some out =>
          simp only at hr
          by_cases hsm : (out.all (fun q => decide (-1 ≤ q.1 ∧ q.1 < 10 ∧ -1 ≤ q.2 ∧ q.2 < 10)) && decide (out.length ≤ 100)) = true
          · rw [if_pos hsm] at hr
            have hre : r = digits out := by injection hr with hr; exact hr.symm
            rw [Bool.and_eq_true, decide_eq_true_eq, List.all_eq_true] at hsm
            obtain ⟨hsm, hol⟩ := hsm
            have HSM := Lib.hid hsm
            have HRE := Lib.hid hre
            clear hr hsm hre
            obtain ⟨H, hH⟩ : ∃ H, H = w.heap.size := ⟨_, rfl⟩
            rw [← hH]
            have HH := Lib.hid hH
            clear hH
            go_enter Try.func9, Try.ntmps9
            go_upto_region 4 with (go_at_call 7; ((with_reducible refine g7.mono ?_); rintro e w2 ⟨p, rfl, hRX, hB2⟩))
            obtain ⟨g, cap, hSG⟩ := RX_SG hRX HPOS.out
            have g8a := g8 w2 p _ g cap hSG (Nat.le_refl _)
            clear g8 hRX hSG
            go_upto_region 9 with (go_at_call 8; ((with_reducible refine g8a.mono ?_); rintro e w3 ⟨ob, rfl, hPA, hob, hB3⟩))
            have hB : Below H w w3 := by rw [HH.out]; exact hB2.trans (hB3.mono hB2.size)
            have hobH : H ≤ ob := by rw [HH.out]; exact Nat.le_trans hB2.size hob
            have HPA := Lib.hid hPA
            have HB := Lib.hid hB
            clear hPA hB hob hB2 hB3 g8a
            go_loopw [11, 12, 13, 14] (fun v11 v12 _ _ wr => ∃ (i : Nat) (S : ByteArray), i ≤ out.length ∧ v12 = .int .i64 (i : Nat) ∧ v11 = .string S ∧ Hid (S.data.toList = digits (out.take i)) ∧ PA wr ob out ∧ Below H w wr) (fun _ v12 _ _ _ => out.length - (intOf v12).toNat)
            case atStart => exact ⟨0, _, Nat.zero_le _, rfl, rfl, rfl, HPA.out, HB.out⟩
            case round =>
              clear HPA HB
              obtain ⟨i, S, hi, rfl, rfl, hS, hPA, hB⟩ := hrel
              by_cases hil : i < out.length
              · have hlt1 : decide ((i : Int) < (out.length : Int)) = true := decide_eq_true (by omega)
                have hlt2 : decide (i < out.length) = true := decide_eq_true hil
                obtain ⟨x0, x1, hq⟩ : ∃ x0 x1, out.getD i (-1, -1) = (x0, x1) := ⟨_, _, rfl⟩
                obtain ⟨hcx, hcy⟩ := hPA.cell0 i hil
                rw [hq] at hcx hcy
                have hmem : (x0, x1) ∈ out := by
                  rw [← hq, List.getD_eq_getElem?_getD, List.getElem?_eq_getElem hil]; exact List.getElem_mem hil
                have hb := of_decide_eq_true (HSM.out _ hmem)
                obtain ⟨b1, b2, b3, b4⟩ := hb
                have htake : digits (out.take (i + 1)) = digits (out.take i) ++ [digit x0, digit x1] := by
                  rw [List.take_succ_eq_append_getElem hil]
                  have : out[i] = (x0, x1) := by rw [← hq]; simp [hil]
                  rw [this]; simp [digits]
                have HTK := Lib.hid htake
                have HPA := Lib.hid hPA
                have HB := Lib.hid hB
                have hi3 : decide ((0 : Int) ≤ (i : Int)) = true := decide_eq_true (by omega)
                have hi4 : ¬ out.length ≤ i := by omega
                clear hmem htake hPA hB
                go_upto_region 12 with fail
                go_loopw [11, 13, 14] (fun v11 v13 _ wx => ∃ (k : Nat) (S2 : ByteArray), k ≤ 2 ∧ v13 = .int .i64 (k : Nat) ∧ v11 = .string S2 ∧ Hid (S2.data.toList = digits (out.take i) ++ [digit x0, digit x1].take k) ∧ PA wx ob out ∧ Below H w wx) (fun _ v13 _ _ => 2 - (intOf v13).toNat)
                case atStart => exact ⟨0, S, by omega, rfl, rfl, by show _ = _; rw [hS.out]; simp, HPA.out, HB.out⟩
                case round =>
                  clear HPA HB hS hcx hcy
                  obtain ⟨k, S2, hk, rfl, rfl, hS2, hPA, hB⟩ := hrel
                  by_cases hk2 : k < 2
                  · have hlt3 : decide ((k : Int) < 2) = true := decide_eq_true (by omega)
                    have hlt4 : decide (k < 2) = true := decide_eq_true hk2
                    obtain ⟨xk, hxk⟩ : ∃ xk, xk = if k = 0 then x0 else x1 := ⟨_, rfl⟩
                    have hck : wr.cell? ⟨ob, i * 2 + k, none⟩ = some (.int .i64 xk) := by
                      obtain ⟨hcx, hcy⟩ := hPA.cell0 i hil
                      have hk3 : k = 0 ∨ k = 1 := by omega
                      rcases hk3 with rfl | rfl
                      · rw [hxk]; simp only [if_true, Nat.add_zero]; rw [hcx, hq]
                      · rw [hxk]; simp only [Nat.one_ne_zero, if_false]; rw [hcy, hq]
                    have hbk : -1 ≤ xk ∧ xk < 10 := by rw [hxk]; split <;> omega
                    have hnext : digits (out.take i) ++ [digit x0, digit x1].take (k + 1) = (digits (out.take i) ++ [digit x0, digit x1].take k) ++ [digit xk] := by
                      have hk3 : k = 0 ∨ k = 1 := by omega
                      rcases hk3 with rfl | rfl
                      · simp [hxk]
                      · simp [hxk]
                    have HNX := Lib.hid hnext
                    have HPA := Lib.hid hPA
                    have HB := Lib.hid hB
                    have hi5 : decide ((0 : Int) ≤ (k : Int)) = true := decide_eq_true (by omega)
                    obtain ⟨hb1, hb2⟩ := hbk
                    have hS2s : S2.size ≤ 300 := by
                      have h := congrArg List.length hS2.out
                      rw [size_list, List.length_append] at h
                      have h1 : (digits (out.take i)).length = 2 * (out.take i).length := by
                        unfold digits
                        induction out.take i with
                        | nil => rfl
                        | cons q t ih => simp only [List.flatMap_cons, List.length_append, ih, List.length_cons, List.length_nil]; omega
                      rw [h1, List.length_take] at h
                      have h2 : ([digit x0, digit x1].take k).length ≤ 2 := by rw [List.length_take]; simp; omega
                      omega
                    clear hnext hPA hB hxk
                    by_cases hneg : xk < 0
                    · have hn1 : decide (xk < 0) = true := decide_eq_true hneg
                      have hdg : digit xk = 45 := by unfold digit; rw [if_pos hneg]
                      have HDG := Lib.hid hdg
                      clear hdg
                      go_wp2_with fail
                      go_roundw
                      case rel =>
                        refine ⟨k + 1, _, by omega, by go_num, rfl, ?_, HPA.out, HB.out⟩
                        show _ = _
                        rw [HNX.out, HDG.out, ← hS2.out]
                        simp
                      case measure => simp [intOf]; omega
                    · have hn1 : decide (xk < 0) = false := decide_eq_false hneg
                      have hn2 : decide (xk < 10) = true := decide_eq_true hb2
                      obtain ⟨d, hd⟩ : ∃ d : Nat, xk = (d : Int) := ⟨xk.toNat, by omega⟩
                      subst hd
                      have hd10 : d < 10 := by omega
                      have hc8 : (UInt8.ofNat (48 + d)).toNat = 48 + d := by rw [UInt8.toNat_ofNat_of_lt' (by show 48 + d < 256; omega)]
                      have hconv := conv_one (wr.alloc (.cells #[.int .u8 (48 + (d : Int))] 5)) wr.heap.size (UInt8.ofNat (48 + d)) (by
                        rw [cell_of_row _ _ 0 _ 5 (0, 0) (heap_alloc_new wr _), hc8]
                        simp)
                      have hdg : digit (d : Int) = UInt8.ofNat (48 + d) := by unfold digit; rw [if_neg hneg]; simp
                      have HDG := Lib.hid hdg
                      have hbA : Below wr.heap.size wr (wr.alloc (.cells #[.int .u8 (48 + (d : Int))] 5)) := (Below.refl _ wr).alloc (Nat.le_refl _) _
                      have HBA := Lib.hid hbA
                      clear hdg hc8 hbA
                      go_wp2_with fail
                      go_roundw
                      case rel =>
                        have hobl : ob < wr.heap.size := (Array.getElem?_eq_some_iff.1 HPA.out).1
                        refine ⟨k + 1, _, by omega, by go_num, rfl, ?_, (HBA.out.block ob hobl).trans HPA.out, HB.out.trans (HBA.out.mono (by omega))⟩
                        show _ = _
                        rw [HNX.out, HDG.out, ← hS2.out]
                        simp
                      case measure => simp [intOf]; omega
                  · obtain rfl : k = 2 := by omega
                    have hlt3 : decide (((2 : Nat) : Int) < 2) = false := by decide
                    have hfin : S2.data.toList = digits (out.take (i + 1)) := by rw [hS2.out, HTK.out]; rfl
                    have HFIN := Lib.hid hfin
                    have HPA := Lib.hid hPA
                    have HB := Lib.hid hB
                    clear hfin hPA hB hS2
                    go_wp2_with fail
                    go_roundw
                    case rel => exact ⟨i + 1, S2, by omega, by go_num, rfl, HFIN.out, HPA.out, HB.out⟩
                    case measure => simp [intOf]; omega
              · obtain rfl : i = out.length := by omega
                have hlt1 : decide ((out.length : Int) < (out.length : Int)) = false := decide_eq_false (by omega)
                have hfin : S = ⟨r.toArray⟩ := by
                  apply ByteArray.ext
                  apply Array.toList_inj.1
                  rw [hS.out, List.take_length, HRE.out]
                have HFIN := Lib.hid hfin
                have HB := Lib.hid hB
                clear hfin hPA hB hS
                go_wp2_with fail
                go_ret
                exact ⟨by rw [← HFIN.out]; rfl, HB.out⟩
          · rw [if_neg hsm] at hr; cases hr
    · rw [if_neg hloc] at hr; cases hr
end Go.Proofs.Ytnhlinkkfoojmaa
