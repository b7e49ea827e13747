/- The walk of the law WireAsked. -/
import Derived.Test.YthhpaceolnpcnaaRefL
namespace Go.Proofs.Ythhpaceolnpcnaa
open Go.RowKit
set_option maxRecDepth 100000
set_option linter.unusedSimpArgs false
set_option linter.unusedVariables false

/-- What the round of WireAsked hands on. -/
def AskRel (w : World) (P Q : Nat) (wr : World) : Prop :=
  ∃ l lost, l.length ≤ 1500 ∧ RdAt wr P l lost ∧ DAt wr Q (ofBytes l) lost ∧ P < Q ∧ w.heap.size < P ∧ Below w.heap.size w wr

theorem askRel_mk {w wr : World} {P Q : Nat} {l : List UInt8} {lost : Bool} (hP : RdAt wr P l lost) (hQ : DAt wr Q (ofBytes l) lost) (hl : l.length ≤ 1500) (h1 : P < Q) (h2 : w.heap.size < P) (hb : Below w.heap.size w wr) : AskRel w P Q wr :=
  ⟨l, lost, hl, hP, hQ, h1, h2, hb⟩
theorem ne_of_lt' {P Q : Nat} (h : P < Q) : some Q ≠ some P := by simp; omega
theorem le_cap {l : List UInt8} (h : l.length ≤ 1500) : l.length ≤ 140737488351232 := by omega
theorem rd_other {w w' : World} {P Q : Nat} {l : List UInt8} {lost : Bool} (h : RdAt w P l lost) (hg : w.grownBy w' (some Q)) (hPQ : P < Q) : RdAt w' P l lost :=
  h.grown hg (by simp; omega) (by simp; omega)

theorem same_bytes (t : List UInt8) : (t == (ofBytes t).toList) = true := by simp [ofBytes]
theorem ask_below {w wr w2 w3 : World} {P Q : Nat} (hb : Below w.heap.size w wr) (hg2 : wr.grownBy w2 (some P)) (hg3 : w2.grownBy w3 (some Q)) (hPQ : P < Q) (hwP : w.heap.size < P) : Below w.heap.size w w3 :=
  have h2 := hb.grown hg2 hb.size (by simp; omega)
  h2.grown hg3 h2.size (by simp; omega)

set_option maxHeartbeats 4000000 in
theorem wireAsked_walk (s : ByteArray) (a : Option Addr) (len cap : Nat) (w : World) (hs : s.size ≤ 9223372036854775807) (hlen : len ≤ 9223372036854775807)
    (hz : ∀ j, j < len → ∃ b o, a = some ⟨b, o, none⟩ ∧ b < w.heap.size ∧ ∃ c : Nat, c < 256 ∧ w.cell? ⟨b, o + j, none⟩ = some (.int .u8 c)) :
    Calls Try.prog 4 #[.string s, .slice a len cap] w (TrueOut w) := by
  rcases Nat.lt_or_ge 1500 s.size with h1 | h1
  · have hnew := fun wx => newReader_any (s.extract 0 1500) wx (by simp; omega)
    go_enter Try.func4, Try.ntmps4
    go_wp2_with (go_at_call 14; refine (hnew _).mono ?_; rintro e w1 ⟨rfl, hr1, hg1⟩)
    have hb1 := (Below.refl w.heap.size w).grown hg1 (Nat.le_refl _) (by simp)
    have hlt := hr1.lt
    have hQ : DAt (w1.alloc (.cells #[(.string (s.extract 0 1500)), .bool false] 32)) w1.heap.size (ofBytes (s.extract 0 1500).data.toList) false := arrAt_alloc _ _ _ _ rfl
    have hrel0 := askRel_mk (hr1.grown (World.grownBy_alloc w1 (.cells #[(.string (s.extract 0 1500)), .bool false] 32) none) (by simp) (by simp)) hQ (by simp; omega) hlt (by omega) (hb1.alloc hb1.size _)
    obtain ⟨Q, hQe⟩ : ∃ Q, Q = w1.heap.size := ⟨_, rfl⟩
    obtain ⟨P, hPe⟩ : ∃ P, P = w.heap.size + 1 := ⟨_, rfl⟩
    rw [← hQe, ← hPe] at hrel0
    rw [← hQe, ← hPe]
    clear hr1 hg1 hb1 hlt hQ hnew hQe hPe
    go_loopw [7] (fun i wr => ∃ k : Nat, k ≤ len ∧ k ≤ 80 ∧ i = .int .i64 k ∧ AskRel w P Q wr) (fun i _ => 80 - (intOf i).toNat)
    case atStart => exact ⟨0, by omega, by omega, rfl, hrel0⟩
    case round =>
      clear hrel0
      obtain ⟨k, hk, hk80, rfl, l, lost, hl, hP, hQ, hPQ, hwP, hb⟩ := hrel
      by_cases hlt : k < len
      · by_cases h80 : k < 80
        · obtain ⟨b, o, rfl, hbw, c, hc, hcell⟩ := hz k hlt
          have hcell' : wr.cell? ⟨b, o + k, none⟩ = some (.int .u8 c) := (hb.cell (p := ⟨b, o + k, none⟩) hbw).trans hcell
          clear hcell
          by_cases h0 : c % 2 = 0
          · obtain ⟨⟨n, l', lost'⟩, hn⟩ : ∃ x, numOf l lost = x := ⟨_, rfl⟩
            have hll := numOf_len hn
            go_wp2_with (first
              | (go_at_call 15; refine (num_is hP hn).mono ?_; rintro e w2 ⟨rfl, hP2, hg2⟩; have hQ2 := hQ.grown hg2 (ne_of_lt' hPQ))
              | (go_at_call 16; refine (dnum_is hQ2 (le_cap hl) hn).mono ?_; rintro e w3 ⟨rfl, hQ3, hg3⟩; have hP3 := rd_other hP2 hg3 hPQ)
              | (go_at_call 19; refine (ok_any _ _ _ _ hP3).mono ?_; rintro e w' ⟨rfl, rfl⟩)
              | (go_at_call 20; refine (refOK_any _ _ _ _ hQ3).mono ?_; rintro e w' ⟨rfl, rfl⟩)
              | (go_at_call 21; refine (end_any _ _ _ _ hP3).mono ?_; rintro e w' ⟨rfl, rfl⟩)
              | (go_at_call 22; refine (dend_is hQ3).mono ?_; rintro e w' ⟨rfl, rfl⟩))
            go_roundw
            case rel => exact ⟨k + 1, by omega, by omega, by go_num, askRel_mk hP3 hQ3 (by omega) hPQ hwP (ask_below hb hg2 hg3 hPQ hwP)⟩
            case measure => simp [intOf]; omega
          · have h0' : ((c : Int) % 2 == 0) = false := by simp; omega
            obtain ⟨⟨t, l', lost'⟩, hn⟩ : ∃ x, textOf l lost = x := ⟨_, rfl⟩
            have hll := textOf_len hn
            go_wp2_with (first
              | (go_at_call 17; refine (text_is hP hn).mono ?_; rintro e w2 ⟨rfl, hP2, hg2⟩; have hQ2 := hQ.grown hg2 (ne_of_lt' hPQ))
              | (go_at_call 18; refine (dtext_is hQ2 (le_cap hl) hn).mono ?_; rintro e w3 ⟨rfl, hQ3, hg3⟩; have hP3 := rd_other hP2 hg3 hPQ; have hsame := same_bytes t)
              | (go_at_call 19; refine (ok_any _ _ _ _ hP3).mono ?_; rintro e w' ⟨rfl, rfl⟩)
              | (go_at_call 20; refine (refOK_any _ _ _ _ hQ3).mono ?_; rintro e w' ⟨rfl, rfl⟩)
              | (go_at_call 21; refine (end_any _ _ _ _ hP3).mono ?_; rintro e w' ⟨rfl, rfl⟩)
              | (go_at_call 22; refine (dend_is hQ3).mono ?_; rintro e w' ⟨rfl, rfl⟩))
            go_roundw
            case rel => exact ⟨k + 1, by omega, by omega, by go_num, askRel_mk hP3 hQ3 (by omega) hPQ hwP (ask_below hb hg2 hg3 hPQ hwP)⟩
            case measure => simp [intOf]; omega
        · go_wp2_with (go_at_call 13; refine (works_any _).mono ?_; rintro e w5 ⟨rfl, hb5⟩)
          go_ret
          exact ⟨rfl, hb.trans (hb5.mono hb.size)⟩
      · go_wp2_with (go_at_call 13; refine (works_any _).mono ?_; rintro e w5 ⟨rfl, hb5⟩)
        go_ret
        exact ⟨rfl, hb.trans (hb5.mono hb.size)⟩
  · have hnew := fun wx => newReader_any s wx (by omega)
    go_enter Try.func4, Try.ntmps4
    go_wp2_with (go_at_call 14; refine (hnew _).mono ?_; rintro e w1 ⟨rfl, hr1, hg1⟩)
    have hb1 := (Below.refl w.heap.size w).grown hg1 (Nat.le_refl _) (by simp)
    have hlt := hr1.lt
    have hQ : DAt (w1.alloc (.cells #[.string s, .bool false] 32)) w1.heap.size (ofBytes s.data.toList) false := arrAt_alloc _ _ _ _ rfl
    have hrel0 := askRel_mk (hr1.grown (World.grownBy_alloc w1 (.cells #[.string s, .bool false] 32) none) (by simp) (by simp)) hQ (by simp; omega) hlt (by omega) (hb1.alloc hb1.size _)
    obtain ⟨Q, hQe⟩ : ∃ Q, Q = w1.heap.size := ⟨_, rfl⟩
    obtain ⟨P, hPe⟩ : ∃ P, P = w.heap.size + 1 := ⟨_, rfl⟩
    rw [← hQe, ← hPe] at hrel0
    rw [← hQe, ← hPe]
    clear hr1 hg1 hb1 hlt hQ hnew hQe hPe
    go_loopw [7] (fun i wr => ∃ k : Nat, k ≤ len ∧ k ≤ 80 ∧ i = .int .i64 k ∧ AskRel w P Q wr) (fun i _ => 80 - (intOf i).toNat)
    case atStart => exact ⟨0, by omega, by omega, rfl, hrel0⟩
    case round =>
      clear hrel0
      obtain ⟨k, hk, hk80, rfl, l, lost, hl, hP, hQ, hPQ, hwP, hb⟩ := hrel
      by_cases hlt : k < len
      · by_cases h80 : k < 80
        · obtain ⟨b, o, rfl, hbw, c, hc, hcell⟩ := hz k hlt
          have hcell' : wr.cell? ⟨b, o + k, none⟩ = some (.int .u8 c) := (hb.cell (p := ⟨b, o + k, none⟩) hbw).trans hcell
          clear hcell
          by_cases h0 : c % 2 = 0
          · obtain ⟨⟨n, l', lost'⟩, hn⟩ : ∃ x, numOf l lost = x := ⟨_, rfl⟩
            have hll := numOf_len hn
            go_wp2_with (first
              | (go_at_call 15; refine (num_is hP hn).mono ?_; rintro e w2 ⟨rfl, hP2, hg2⟩; have hQ2 := hQ.grown hg2 (ne_of_lt' hPQ))
              | (go_at_call 16; refine (dnum_is hQ2 (le_cap hl) hn).mono ?_; rintro e w3 ⟨rfl, hQ3, hg3⟩; have hP3 := rd_other hP2 hg3 hPQ)
              | (go_at_call 19; refine (ok_any _ _ _ _ hP3).mono ?_; rintro e w' ⟨rfl, rfl⟩)
              | (go_at_call 20; refine (refOK_any _ _ _ _ hQ3).mono ?_; rintro e w' ⟨rfl, rfl⟩)
              | (go_at_call 21; refine (end_any _ _ _ _ hP3).mono ?_; rintro e w' ⟨rfl, rfl⟩)
              | (go_at_call 22; refine (dend_is hQ3).mono ?_; rintro e w' ⟨rfl, rfl⟩))
            go_roundw
            case rel => exact ⟨k + 1, by omega, by omega, by go_num, askRel_mk hP3 hQ3 (by omega) hPQ hwP (ask_below hb hg2 hg3 hPQ hwP)⟩
            case measure => simp [intOf]; omega
          · have h0' : ((c : Int) % 2 == 0) = false := by simp; omega
            obtain ⟨⟨t, l', lost'⟩, hn⟩ : ∃ x, textOf l lost = x := ⟨_, rfl⟩
            have hll := textOf_len hn
            go_wp2_with (first
              | (go_at_call 17; refine (text_is hP hn).mono ?_; rintro e w2 ⟨rfl, hP2, hg2⟩; have hQ2 := hQ.grown hg2 (ne_of_lt' hPQ))
              | (go_at_call 18; refine (dtext_is hQ2 (le_cap hl) hn).mono ?_; rintro e w3 ⟨rfl, hQ3, hg3⟩; have hP3 := rd_other hP2 hg3 hPQ; have hsame := same_bytes t)
              | (go_at_call 19; refine (ok_any _ _ _ _ hP3).mono ?_; rintro e w' ⟨rfl, rfl⟩)
              | (go_at_call 20; refine (refOK_any _ _ _ _ hQ3).mono ?_; rintro e w' ⟨rfl, rfl⟩)
              | (go_at_call 21; refine (end_any _ _ _ _ hP3).mono ?_; rintro e w' ⟨rfl, rfl⟩)
              | (go_at_call 22; refine (dend_is hQ3).mono ?_; rintro e w' ⟨rfl, rfl⟩))
            go_roundw
            case rel => exact ⟨k + 1, by omega, by omega, by go_num, askRel_mk hP3 hQ3 (by omega) hPQ hwP (ask_below hb hg2 hg3 hPQ hwP)⟩
            case measure => simp [intOf]; omega
        · go_wp2_with (go_at_call 13; refine (works_any _).mono ?_; rintro e w5 ⟨rfl, hb5⟩)
          go_ret
          exact ⟨rfl, hb.trans (hb5.mono hb.size)⟩
      · go_wp2_with (go_at_call 13; refine (works_any _).mono ?_; rintro e w5 ⟨rfl, hb5⟩)
        go_ret
        exact ⟨rfl, hb.trans (hb5.mono hb.size)⟩

end Go.Proofs.Ythhpaceolnpcnaa
