/- The walk of the law WireNests. -/
import Derived.Test.YthhpaceolnpcnaaPlainN

import Derived.Deep.DeepCutAuto
import Derived.Deep.CutRange
namespace Go.Proofs.Ythhpaceolnpcnaa
open Go.RowKit
set_option maxRecDepth 100000
set_option linter.unusedSimpArgs false
set_option linter.unusedVariables false

/-- The numbers that came in: those that count. -/
def NumsAt (w : World) (a : Option Addr) (L : List Nat) : Prop :=
  ∀ j, j < L.length → ∃ b o, a = some ⟨b, o, none⟩ ∧ b < w.heap.size ∧ w.cell? ⟨b, o + j, none⟩ = some (.int .u64 (L.getD j 0 : Nat))

/-- What stands behind the law's first row. -/
def NestRel (w : World) (a : Option Addr) (cap : Nat) (v c : Value) (wx : World) : Prop :=
  ∃ (L : List Nat) (C : ByteArray), v = .slice a L.length cap ∧ c = .string C ∧ L.length ≤ 30 ∧ C.size ≤ 300 ∧ (∀ n ∈ L, n < 18446744073709551616) ∧ NumsAt w a L ∧ Below w.heap.size w wx

theorem nums_take {w : World} {a : Option Addr} {Z : List Nat} (h : NumsAt w a Z) (m : Nat) : NumsAt w a (Z.take m) := by
  intro j hj
  simp at hj
  obtain ⟨b, o, ha, hb, hc⟩ := h j (by omega)
  refine ⟨b, o, ha, hb, ?_⟩
  rw [hc]
  simp [List.getD, List.getElem?_take, show j < m by omega]

theorem nestRel_mk {w wx : World} {a : Option Addr} {cap m : Nat} {Z : List Nat} {C : ByteArray} (hZ : NumsAt w a Z) (hn : ∀ n ∈ Z, n < 18446744073709551616) (hm : m ≤ 30) (hml : m ≤ Z.length) (hC : C.size ≤ 300) (hb : Below w.heap.size w wx) : NestRel w a cap (.slice a m cap) (.string C) wx :=
  ⟨Z.take m, C, by simp; omega, rfl, by simp; omega, hC, fun n h => hn n (List.mem_of_mem_take h), nums_take hZ m, hb⟩

theorem below_drewN' (w : World) (n : Nat) : Below w.heap.size w (w.drewN n) := ⟨rfl, rfl, rfl, Nat.le_refl _, fun _ _ => rfl⟩

theorem nest_step (L : List Nat) (N : List UInt8) (j : Nat) (hj : j < L.length) (hL : L.length ≤ 30) (hN : N.length ≤ 300) (hn : ∀ n ∈ L, n < 18446744073709551616) :
    L.getD j 0 < 18446744073709551616 ∧ (nest (L.drop (j + 1)) N).length ≤ 900 ∧ nest (L.drop j) N = enc (L.getD j 0) ++ (enc (nest (L.drop (j + 1)) N).length ++ nest (L.drop (j + 1)) N) := by
  have e : L.drop j = L.getD j 0 :: L.drop (j + 1) := by
    rw [List.drop_eq_getElem_cons hj]; simp [List.getD, hj]
  refine ⟨?_, ?_, by rw [e]; rfl⟩
  · apply hn
    rw [List.getD_eq_getElem?_getD, List.getElem?_eq_getElem hj]
    exact List.getElem_mem _
  · have := nest_len (L.drop (j + 1)) N hN (by simp; omega) (fun n h => hn n (List.mem_of_mem_drop h))
    simp at this
    omega

theorem rd_drew {w : World} {p : Nat} {l : List UInt8} {lost : Bool} (h : RdAt w p l lost) : RdAt w.drew p l lost := h
theorem cell_drew {w : World} {a : Addr} {v : Value} (h : w.cell? a = some v) : w.drew.cell? a = some v := h
theorem nest_ne {w wr : World} {b o : Nat} (h : b < w.heap.size) (h2 : w.heap.size ≤ wr.heap.size) : some (⟨b, o, none⟩ : Addr).block ≠ some (wr.heap.size + 1) := by simp; omega
theorem nest_below {w wr w1 w2 : World} (h : Below w.heap.size w w1) (hg : w1.drew.grownBy w2 (some (wr.heap.size + 1))) (hs : w.heap.size ≤ wr.heap.size) : Below w.heap.size w w2 :=
  h.drew.grown hg h.size (by simp; omega)

theorem cut_last (l : List UInt8) (h : 0 < l.length) : ((ofBytes l).extract 0 (l.length - 1)).data.toList = l.dropLast := by
  rw [Lib.extract_data, ofBytes_data, List.dropLast_eq_take]; simp
theorem nest_last {w wr w1 w2 w3 w7 : World} (hb : Below w.heap.size w wr) (h1 : wr.grownBy w1 none) (h2 : w1.grownBy w2 (some (wr.heap.size + 1))) (h3 : w2.grownBy w3 (some (wr.heap.size + 1))) (h7 : Below w3.heap.size w3 w7) : Below w.heap.size w w7 := by
  have b1 := hb.grown h1 hb.size (by simp)
  have b2 := b1.grown h2 b1.size (by have := hb.size; simp; omega)
  have b3 := b2.grown h3 b2.size (by have := hb.size; simp; omega)
  exact b3.next h7

set_option maxHeartbeats 4000000 in
theorem wireNests_walk (a : Option Addr) (Z : List Nat) (cap : Nat) (core : ByteArray) (w : World) (hZl : Z.length ≤ 9223372036854775807) (hc : core.size ≤ 9223372036854775807) (hcap : Z.length ≤ cap) (hn : ∀ n ∈ Z, n < 18446744073709551616) (ha : NumsAt w a Z) :
    Calls Try.prog 5 #[.slice a Z.length cap, .string core] w (TrueOut w) := by
  go_enter Try.func5, Try.ntmps5
  go_wp2_with fail
  go_cut [0, 1] (fun v c wx => NestRel w a cap v c wx)
  case first =>
    rcases Nat.lt_or_ge 30 Z.length with h1 | h1 <;> rcases Nat.lt_or_ge 300 core.size with h2 | h2
    all_goals
      go_quiet (fail)
      go_wp2_with fail
      go_meet
      case rel => first | exact nestRel_mk ha hn (by omega) (by omega) (by simp; omega) (below_drewN' _ _) | exact nestRel_mk ha hn (by omega) (by omega) (by omega) (below_drewN' _ _)
  case rest =>
    obtain ⟨L, C, rfl, rfl, hL, hC, hnL, haL, hb⟩ := hcut
    obtain ⟨N, hN⟩ : ∃ N : List UInt8, N = C.data.toList := ⟨_, rfl⟩
    have hNl : N.length ≤ 300 := by rw [hN]; simpa using hC
    have hCN : C = ofBytes N := by rw [hN]; rfl
    subst hCN
    clear hN hC hc hcap hn hZl ha
    go_wp2_with fail
    go_loopw [5, 6] (fun s i wr => ∃ k : Nat, k ≤ L.length ∧ i = .int .i64 ((k : Int) - 1) ∧ s = .string (ofBytes (nest (L.drop k) N)) ∧ Below w.heap.size w wr) (fun _ i _ => (intOf i + 1).toNat)
    case atStart => exact ⟨L.length, Nat.le_refl _, rfl, by simp [nest], hb⟩
    case round =>
      clear hb
      obtain ⟨k, hk, rfl, rfl, hb⟩ := hrel
      by_cases hk0 : 0 < k
      · obtain ⟨j, rfl⟩ : ∃ j, k = j + 1 := ⟨k - 1, by omega⟩
        obtain ⟨b, o, rfl, hbw, hcell⟩ := haL j (by omega)
        have hc1 : wr.cell? ⟨b, o + j, none⟩ = some (.int .u64 (L.getD j 0 : Nat)) := (hb.cell (p := ⟨b, o + j, none⟩) hbw).trans hcell
        obtain ⟨S, hS⟩ : ∃ S, S = ofBytes (nest (L.drop (j + 1)) N) := ⟨_, rfl⟩
        obtain ⟨n, hn⟩ : ∃ n, n = L.getD j 0 := ⟨_, rfl⟩
        obtain ⟨hnlt, hSl, hnx⟩ := nest_step L N j (by omega) hL hNl hnL
        rw [← hn] at hnlt hnx hc1
        rw [← hS]
        have hSz : S.size ≤ 140737488351232 := by rw [hS, ofBytes_size]; omega
        have hp1 := fun wx => put_is n wx hnlt rfl
        have hp2 := fun wx => putText_any (ofBytes (enc n)) S wx (by rw [ofBytes_size]; have := enc_len n hnlt; omega) hSz
        have hX : (ofBytes (enc n) ++ ⟨(enc S.size).toArray⟩ ++ S : ByteArray) = ofBytes (nest (L.drop j) N) := by
          rw [hnx, hS]; apply ByteArray.ext; simp [ofBytes]; rfl
        rw [hX] at hp2
        clear hS hn hnx hX hcell
        go_wp2_with (first
          | (go_at_call 9; ((with_reducible refine (hp1 _).mono ?_); rintro e w1 ⟨rfl, hb1⟩))
          | (go_at_call 11; ((with_reducible refine (hp2 _).mono ?_); rintro e w2 ⟨rfl, hb2⟩)))
        go_roundw
        case rel => exact ⟨j, by omega, by go_num, rfl, (hb.trans (hb1.mono hb.size)).trans (hb2.mono (Nat.le_trans hb.size hb1.size))⟩
        case measure => simp [intOf]
      · obtain rfl : k = 0 := by omega
        obtain ⟨W0, hW0⟩ : ∃ W0, W0 = nest L N := ⟨_, rfl⟩
        have hW1 : nest (L.drop 0) N = W0 := by rw [hW0]; rfl
        rw [hW1]
        have HW := Lib.hid hW0
        clear hW1 hk hk0 hW0
        go_wp2_with fail
        go_loopw [5, 8] (fun s i wr => ∃ k : Nat, k ≤ L.length ∧ i = .int .i64 k ∧ s = .string (ofBytes (nest (L.drop k) N)) ∧ Below w.heap.size w wr) (fun _ i _ => 30 - (intOf i).toNat)
        case atStart => exact ⟨0, by omega, rfl, by rw [HW.out]; rfl, hb⟩
        case round =>
          clear hb
          obtain ⟨k, hk, rfl, rfl, hb⟩ := hrel
          by_cases hkl : k < L.length
          · obtain ⟨b, o, rfl, hbw, hcell⟩ := haL k hkl
            have hc1 : wr.cell? ⟨b, o + k, none⟩ = some (.int .u64 (L.getD k 0 : Nat)) := (hb.cell (p := ⟨b, o + k, none⟩) hbw).trans hcell
            obtain ⟨S, hS⟩ : ∃ S, S = ofBytes (nest (L.drop k) N) := ⟨_, rfl⟩
            obtain ⟨n, hn⟩ : ∃ n, n = L.getD k 0 := ⟨_, rfl⟩
            obtain ⟨hnlt, hSl, hnx⟩ := nest_step L N k hkl hL hNl hnL
            rw [← hn] at hnlt hnx hc1
            obtain ⟨T, hT⟩ : ∃ T, T = nest (L.drop (k + 1)) N := ⟨_, rfl⟩
            rw [← hT] at hSl hnx
            have hSz : S.size ≤ 140737488351232 := by
              rw [hS, ofBytes_size, hnx]
              have := enc_len n hnlt
              have := enc_len T.length (by omega)
              simp; omega
            have hnew := fun wx => newReader_any S wx hSz
            have hSd : S.data.toList = enc n ++ (enc T.length ++ T) := by rw [hS, ofBytes_data, hnx]
            rw [hSd] at hnew
            have hx1 := numOf_enc n (enc T.length ++ T) false hnlt
            have hx2 : textOf (enc T.length ++ T) false = (T, [], false) := by simp [textOf, rdText, rd_enc _ T (show T.length < 18446744073709551616 by omega)]
            rw [← hS]
            have HT := Lib.hid hT
            clear hS hn hnx hSd hcell hT
            go_upto_region 12 with (go_at_call 14; ((with_reducible refine (hnew _).mono ?_); rintro e w1 ⟨rfl, hr1, hg1⟩))
            have hb1 := hb.grown hg1 hb.size (by simp)
            have hc2 : w1.cell? ⟨b, o + k, none⟩ = some (.int .u64 n) := hg1.cell hc1 (by simp)
            have hbs := hb.size
            have hkk : (k : Int) < (L.length : Int) := by omega
            clear hg1
            go_cut [58] from 39 to 63 (fun v wx => v = .bool false ∧ RdAt wx (wr.heap.size + 1) (enc T.length ++ T) false ∧ Below w.heap.size w wx)
            case first =>
              go_region_with (first
                | (go_at_call 15; ((with_reducible refine (num_is (rd_drew hr1) hx1).mono ?_); rintro e w2 ⟨rfl, hr2, hg2⟩; have hc3 := hg2.cell (cell_drew hc2) (nest_ne hbw hbs)))
                | (go_at_call 19; ((with_reducible refine (ok_any _ _ _ _ hr2).mono ?_); rintro e w' ⟨rfl, rfl⟩)))
              all_goals
                go_wp2_with fail
                go_meet
                case rel => exact ⟨rfl, hr2, nest_below hb1 hg2 hbs⟩
            case rest =>
              obtain ⟨rfl, hr2, hb2⟩ := hcut
              go_wp2_with (first
                | (go_at_call 17; ((with_reducible refine (text_is hr2 hx2).mono ?_); rintro e w3 ⟨rfl, hr3, hg3⟩))
                | (go_at_call 21; ((with_reducible refine (end_any _ _ _ _ hr3).mono ?_); rintro e w' ⟨rfl, rfl⟩)))
              refine ⟨?_, by simp [intOf]; omega⟩
              (repeat apply Exists.intro)
              exact ⟨⟨k + 1, by omega, by go_num, by rw [← HT.out] <;> rfl, hb2.grown hg3 hb2.size (by simp; omega)⟩, rfl⟩
          · obtain rfl : k = L.length := by omega
            rw [List.drop_length]
            have hs1 : ((ofBytes (nest [] N)).toList == (ofBytes N).toList) = true := by simp [nest]
            cases L with
            | nil =>
              go_wp2_with (go_at_call 13; ((with_reducible refine (works_any _).mono ?_); rintro e w7 ⟨rfl, hb7⟩))
              go_ret
              exact ⟨rfl, hb.trans (hb7.mono hb.size)⟩
            | cons n L =>
              have hnlt := hnL n (by simp)
              obtain ⟨b, o, rfl, hbw, hcell⟩ := haL 0 (by simp)
              have hc1 : wr.cell? ⟨b, o, none⟩ = some (.int .u64 n) := (hb.cell (p := ⟨b, o, none⟩) hbw).trans hcell
              have hl := nest_len (n :: L) N hNl hL hnL
              rw [← HW.out] at hl
              have hl900 : W0.length ≤ 900 := by omega
              have hpos : 0 < W0.length := by
                rw [HW.out]; have := enc_pos n; simp [nest]; omega
              have hx1 : numOf W0.dropLast false = (n, (enc (nest L N).length ++ nest L N).dropLast, false) := by
                rw [HW.out]; exact nest_short_num n L N hnlt
              have hx2 := short_text (nest L N) (by
                have := nest_len L N hNl (by simp at hL; omega) (fun m hm => hnL m (by simp [hm]))
                simp at hL; omega)
              have hcut := cut_last W0 hpos
              have hsz : (ofBytes W0).size = W0.length := rfl
              have hnew := fun wx => newReader_any ((ofBytes W0).extract 0 (W0.length - 1)) wx (by simp [hsz]; omega)
              rw [hcut] at hnew
              have hbs := hb.size
              have hLi : ((L.length : Int) + 1 == 0) = false := by simp; omega
              have hp1 : (1 : Int) ≤ (W0.length : Int) := by omega
              have hp2 : (W0.length : Int) - 1 = ((W0.length - 1 : Nat) : Int) := by omega
              clear hcut hl haL
              go_wp2_with (first
                | (go_at_call 14; ((with_reducible refine (hnew _).mono ?_); rintro e w1 ⟨rfl, hr1, hg1⟩; have hc2 := hg1.cell hc1 (by simp)))
                | (go_at_call 15; ((with_reducible refine (num_is hr1 hx1).mono ?_); rintro e w2 ⟨rfl, hr2, hg2⟩; have hc3 := hg2.cell hc2 (nest_ne hbw hbs)))
                | (go_at_call 17; ((with_reducible refine (text_is hr2 hx2).mono ?_); rintro e w3 ⟨rfl, hr3, hg3⟩; have hc4 := hg3.cell hc3 (nest_ne hbw hbs)))
                | (go_at_call 19; ((with_reducible refine (ok_any _ _ _ _ hr3).mono ?_); rintro e w' ⟨rfl, rfl⟩))
                | (go_at_call 21; ((with_reducible refine (end_any _ _ _ _ hr3).mono ?_); rintro e w' ⟨rfl, rfl⟩))
                | (go_at_call 13; ((with_reducible refine (works_any _).mono ?_); rintro e w7 ⟨rfl, hb7⟩)))
              go_ret
              exact ⟨rfl, nest_last hb hg1 hg2 hg3 hb7⟩

end Go.Proofs.Ythhpaceolnpcnaa
