/- The walk of the law WireStays. -/
import Derived.Test.YthhpaceolnpcnaaRefL
namespace Go.Proofs.Ythhpaceolnpcnaa
open Go.RowKit
set_option maxRecDepth 100000
set_option linter.unusedSimpArgs false
set_option linter.unusedVariables false

theorem textOf_put (t rest : List UInt8) (lost : Bool) (ht : t.length < 18446744073709551616) : textOf (enc t.length ++ (t ++ rest)) lost = (t, rest, lost) := by
  simp [textOf, rdText, rd_enc t.length (t ++ rest) ht]

theorem empty_same (s : ByteArray) : (s.data.isEmpty == s.toList.isEmpty) = true := by
  rw [Lib.toList_data]
  simp [Array.isEmpty]

/-- What WireStays asks of the two texts. -/
structure StaysFacts (t s X : ByteArray) : Prop where
  put : ∀ wx : World, Calls Try.prog 11 #[.string ⟨#[]⟩, .string t] wx (PutOut wx X)
  xs : X.size ≤ 210
  new : ∀ wx : World, Calls Try.prog 14 #[.string (X ++ s)] wx fun e w' => e = .returned (.pointer (some ⟨wx.heap.size + 1, 0, none⟩)) ∧ RdAt w' (wx.heap.size + 1) (enc t.data.toList.length ++ (t.data.toList ++ s.data.toList)) false ∧ wx.grownBy w' none
  text : textOf (enc t.data.toList.length ++ (t.data.toList ++ s.data.toList)) false = (t.data.toList, s.data.toList, false)
  new2 : ∀ wx : World, Calls Try.prog 14 #[.string s] wx fun e w' => e = .returned (.pointer (some ⟨wx.heap.size + 1, 0, none⟩)) ∧ RdAt w' (wx.heap.size + 1) s.data.toList false ∧ wx.grownBy w' none
  ssz : s.size ≤ 200

theorem staysFacts (t s : ByteArray) (hs : s.size ≤ 200) (ht : t.size ≤ 200) : ∃ X, StaysFacts t s X := by
  have he10 := enc_len t.size (by omega)
  have hXs : (⟨#[]⟩ ++ ⟨(enc t.size).toArray⟩ ++ t : ByteArray).size = (enc t.size).length + t.size := by
    rw [ByteArray.size_append, ByteArray.size_append]
    show 0 + (enc t.size).toArray.size + _ = _
    simp
  refine ⟨ByteArray.mk #[] ++ ByteArray.mk (enc t.size).toArray ++ t, fun wx => putText_any ⟨#[]⟩ t wx (Nat.zero_le _) (by omega), Nat.le_trans (Nat.le_of_eq hXs) (by omega), fun wx => ?_, textOf_put _ _ _ (by simp; omega), fun wx => newReader_any s wx (by omega), hs⟩
  have := newReader_any (⟨#[]⟩ ++ ⟨(enc t.size).toArray⟩ ++ t ++ s) wx (by rw [ByteArray.size_append]; omega)
  have hXl : (⟨#[]⟩ ++ ⟨(enc t.size).toArray⟩ ++ t ++ s : ByteArray).data.toList = enc t.data.toList.length ++ (t.data.toList ++ s.data.toList) := by simp
  rw [hXl] at this
  exact this

/-- The row that a number was read from stands there. -/
theorem row_there {s : ByteArray} {n : Nat} {l' : List UInt8} (h : numOf s.data.toList false = (n, l', false)) : (ofBytes (enc n)).size ≤ s.size ∧ ((s.extract 0 (ofBytes (enc n)).size).toList == (ofBytes (enc n)).toList) = true := by
  unfold numOf at h
  cases hr : rd s.data.toList with
  | none => simp [hr] at h
  | some x =>
    obtain ⟨m, r⟩ := x
    simp [hr] at h
    obtain ⟨rfl, rfl⟩ := h
    have e := (rd_inv hr).2
    have hl : s.size = (enc m).length + r.length := by rw [sz_eq e]; simp
    refine ⟨by rw [ofBytes_size]; omega, ?_⟩
    rw [Lib.extract_toList, Lib.toList_data, ofBytes_data, ofBytes_size, e]
    simp

theorem stays_below {w w1 w2 w3 w4 w5 w6 w7 : World} {nq : Nat} (h1 : Below (w.drewN nq).heap.size (w.drewN nq) w1) (g2 : w1.grownBy w2 none) (g3 : w2.grownBy w3 (some (w1.heap.size + 1))) (g4 : w3.grownBy w4 (some (w1.heap.size + 1)))
    (g5 : w4.grownBy w5 none) (g6 : w5.grownBy w6 (some (w4.heap.size + 1))) (h7 : Below w6.heap.size w6 w7) : Below w.heap.size w w7 := by
  have b1 := below_of_drew h1
  have b2 := b1.grown g2 b1.size (by simp)
  have b3 := b2.grown g3 b2.size (by have := b1.size; simp; omega)
  have b4 := b3.grown g4 b3.size (by have := b1.size; simp; omega)
  have b5 := b4.grown g5 b4.size (by simp)
  have b6 := b5.grown g6 b5.size (by have := b4.size; simp; omega)
  exact b6.next h7

set_option maxHeartbeats 4000000 in
theorem wireStays_walk (t s : ByteArray) (w : World) (hs : s.size ≤ 9223372036854775807) (ht : t.size ≤ 9223372036854775807) :
    Calls Try.prog 7 #[.string t, .string s] w (TrueOut w) := by
  rcases Nat.lt_or_ge 200 s.size with h1 | h1 <;> rcases Nat.lt_or_ge 200 t.size with h2 | h2
  · obtain ⟨T, hT⟩ : ∃ T, t.extract 0 200 = T := ⟨_, rfl⟩
    have hTz : T.size ≤ 200 := by rw [← hT]; simp; omega
    obtain ⟨S, hS⟩ : ∃ S, s.extract 0 200 = S := ⟨_, rfl⟩
    have hSz0 : S.size ≤ 200 := by rw [← hS]; simp; omega
    obtain ⟨X, F⟩ := staysFacts T S (by first | omega | (simp; omega)) (by first | omega | (simp; omega))
    obtain ⟨⟨n, l', lost'⟩, hx2⟩ : ∃ x, numOf S.data.toList false = x := ⟨_, rfl⟩
    have hemp := empty_same S
    have hput2 := fun wx => put_is n wx (numOf_len hx2).2 rfl
    have hXz := F.xs
    have hSz := F.ssz
    cases lost'
    · have hrow := row_there hx2
      have hrow1 := hrow.1
      have hrow2 := hrow.2
      have hrow3 : ((ofBytes (enc n)).size : Int) ≤ (S.size : Int) := by omega
      clear hrow
      go_enter Try.func7, Try.ntmps7
      go_wp2
      go_quiet (fail)
      go_wp2_with (first
        | (go_at_call 11; ((with_reducible refine (F.put _).mono ?_); rintro e w1 ⟨rfl, hb1⟩))
        | (go_at_call 14; ((with_reducible refine (F.new _).mono ?_); rintro e w2 ⟨rfl, hr2, hg2⟩))
        | (go_at_call 17; ((with_reducible refine (text_is hr2 F.text).mono ?_); rintro e w3 ⟨rfl, hr3, hg3⟩))
        | (go_at_call 19; ((with_reducible refine (ok_any _ _ _ _ hr3).mono ?_); rintro e w' ⟨rfl, rfl⟩))
        | (go_at_call 21; ((with_reducible refine (end_any _ _ _ _ hr3).mono ?_); rintro e w' ⟨rfl, rfl⟩))
        | (go_at_call 15; ((with_reducible refine (num_is hr3 hx2).mono ?_); rintro e w4 ⟨rfl, hr4, hg4⟩); clear hr3)
        | (go_at_call 19; ((with_reducible refine (ok_any _ _ _ _ hr4).mono ?_); rintro e w' ⟨rfl, rfl⟩))
        | (go_at_call 14; ((with_reducible refine (F.new2 _).mono ?_); rintro e w5 ⟨rfl, hr5, hg5⟩))
        | (go_at_call 15; ((with_reducible refine (num_is hr5 hx2).mono ?_); rintro e w6 ⟨rfl, hr6, hg6⟩); clear hr4)
        | (go_at_call 19; ((with_reducible refine (ok_any _ _ _ _ hr6).mono ?_); rintro e w' ⟨rfl, rfl⟩))
        | (go_at_call 9; ((with_reducible refine (hput2 _).mono ?_); rintro e w7 ⟨rfl, hb7⟩))
        | (go_at_call 13; ((with_reducible refine (works_any _).mono ?_); rintro e w8 ⟨rfl, hb8⟩)))
      go_ret
      exact ⟨rfl, stays_below hb1 hg2 hg3 hg4 hg5 hg6 (hb7.next hb8)⟩
    · go_enter Try.func7, Try.ntmps7
      go_wp2
      go_quiet (fail)
      go_wp2_with (first
        | (go_at_call 11; ((with_reducible refine (F.put _).mono ?_); rintro e w1 ⟨rfl, hb1⟩))
        | (go_at_call 14; ((with_reducible refine (F.new _).mono ?_); rintro e w2 ⟨rfl, hr2, hg2⟩))
        | (go_at_call 17; ((with_reducible refine (text_is hr2 F.text).mono ?_); rintro e w3 ⟨rfl, hr3, hg3⟩))
        | (go_at_call 19; ((with_reducible refine (ok_any _ _ _ _ hr3).mono ?_); rintro e w' ⟨rfl, rfl⟩))
        | (go_at_call 21; ((with_reducible refine (end_any _ _ _ _ hr3).mono ?_); rintro e w' ⟨rfl, rfl⟩))
        | (go_at_call 15; ((with_reducible refine (num_is hr3 hx2).mono ?_); rintro e w4 ⟨rfl, hr4, hg4⟩); clear hr3)
        | (go_at_call 19; ((with_reducible refine (ok_any _ _ _ _ hr4).mono ?_); rintro e w' ⟨rfl, rfl⟩))
        | (go_at_call 14; ((with_reducible refine (F.new2 _).mono ?_); rintro e w5 ⟨rfl, hr5, hg5⟩))
        | (go_at_call 15; ((with_reducible refine (num_is hr5 hx2).mono ?_); rintro e w6 ⟨rfl, hr6, hg6⟩); clear hr4)
        | (go_at_call 19; ((with_reducible refine (ok_any _ _ _ _ hr6).mono ?_); rintro e w' ⟨rfl, rfl⟩))
        | (go_at_call 9; ((with_reducible refine (hput2 _).mono ?_); rintro e w7 ⟨rfl, hb7⟩))
        | (go_at_call 13; ((with_reducible refine (works_any _).mono ?_); rintro e w8 ⟨rfl, hb8⟩)))
      go_ret
      exact ⟨rfl, stays_below hb1 hg2 hg3 hg4 hg5 hg6 (hb7.next hb8)⟩
  · obtain ⟨S, hS⟩ : ∃ S, s.extract 0 200 = S := ⟨_, rfl⟩
    have hSz0 : S.size ≤ 200 := by rw [← hS]; simp; omega
    obtain ⟨X, F⟩ := staysFacts t S (by first | omega | (simp; omega)) (by first | omega | (simp; omega))
    obtain ⟨⟨n, l', lost'⟩, hx2⟩ : ∃ x, numOf S.data.toList false = x := ⟨_, rfl⟩
    have hemp := empty_same S
    have hput2 := fun wx => put_is n wx (numOf_len hx2).2 rfl
    have hXz := F.xs
    have hSz := F.ssz
    cases lost'
    · have hrow := row_there hx2
      have hrow1 := hrow.1
      have hrow2 := hrow.2
      have hrow3 : ((ofBytes (enc n)).size : Int) ≤ (S.size : Int) := by omega
      clear hrow
      go_enter Try.func7, Try.ntmps7
      go_wp2
      go_quiet (fail)
      go_wp2_with (first
        | (go_at_call 11; ((with_reducible refine (F.put _).mono ?_); rintro e w1 ⟨rfl, hb1⟩))
        | (go_at_call 14; ((with_reducible refine (F.new _).mono ?_); rintro e w2 ⟨rfl, hr2, hg2⟩))
        | (go_at_call 17; ((with_reducible refine (text_is hr2 F.text).mono ?_); rintro e w3 ⟨rfl, hr3, hg3⟩))
        | (go_at_call 19; ((with_reducible refine (ok_any _ _ _ _ hr3).mono ?_); rintro e w' ⟨rfl, rfl⟩))
        | (go_at_call 21; ((with_reducible refine (end_any _ _ _ _ hr3).mono ?_); rintro e w' ⟨rfl, rfl⟩))
        | (go_at_call 15; ((with_reducible refine (num_is hr3 hx2).mono ?_); rintro e w4 ⟨rfl, hr4, hg4⟩); clear hr3)
        | (go_at_call 19; ((with_reducible refine (ok_any _ _ _ _ hr4).mono ?_); rintro e w' ⟨rfl, rfl⟩))
        | (go_at_call 14; ((with_reducible refine (F.new2 _).mono ?_); rintro e w5 ⟨rfl, hr5, hg5⟩))
        | (go_at_call 15; ((with_reducible refine (num_is hr5 hx2).mono ?_); rintro e w6 ⟨rfl, hr6, hg6⟩); clear hr4)
        | (go_at_call 19; ((with_reducible refine (ok_any _ _ _ _ hr6).mono ?_); rintro e w' ⟨rfl, rfl⟩))
        | (go_at_call 9; ((with_reducible refine (hput2 _).mono ?_); rintro e w7 ⟨rfl, hb7⟩))
        | (go_at_call 13; ((with_reducible refine (works_any _).mono ?_); rintro e w8 ⟨rfl, hb8⟩)))
      go_ret
      exact ⟨rfl, stays_below hb1 hg2 hg3 hg4 hg5 hg6 (hb7.next hb8)⟩
    · go_enter Try.func7, Try.ntmps7
      go_wp2
      go_quiet (fail)
      go_wp2_with (first
        | (go_at_call 11; ((with_reducible refine (F.put _).mono ?_); rintro e w1 ⟨rfl, hb1⟩))
        | (go_at_call 14; ((with_reducible refine (F.new _).mono ?_); rintro e w2 ⟨rfl, hr2, hg2⟩))
        | (go_at_call 17; ((with_reducible refine (text_is hr2 F.text).mono ?_); rintro e w3 ⟨rfl, hr3, hg3⟩))
        | (go_at_call 19; ((with_reducible refine (ok_any _ _ _ _ hr3).mono ?_); rintro e w' ⟨rfl, rfl⟩))
        | (go_at_call 21; ((with_reducible refine (end_any _ _ _ _ hr3).mono ?_); rintro e w' ⟨rfl, rfl⟩))
        | (go_at_call 15; ((with_reducible refine (num_is hr3 hx2).mono ?_); rintro e w4 ⟨rfl, hr4, hg4⟩); clear hr3)
        | (go_at_call 19; ((with_reducible refine (ok_any _ _ _ _ hr4).mono ?_); rintro e w' ⟨rfl, rfl⟩))
        | (go_at_call 14; ((with_reducible refine (F.new2 _).mono ?_); rintro e w5 ⟨rfl, hr5, hg5⟩))
        | (go_at_call 15; ((with_reducible refine (num_is hr5 hx2).mono ?_); rintro e w6 ⟨rfl, hr6, hg6⟩); clear hr4)
        | (go_at_call 19; ((with_reducible refine (ok_any _ _ _ _ hr6).mono ?_); rintro e w' ⟨rfl, rfl⟩))
        | (go_at_call 9; ((with_reducible refine (hput2 _).mono ?_); rintro e w7 ⟨rfl, hb7⟩))
        | (go_at_call 13; ((with_reducible refine (works_any _).mono ?_); rintro e w8 ⟨rfl, hb8⟩)))
      go_ret
      exact ⟨rfl, stays_below hb1 hg2 hg3 hg4 hg5 hg6 (hb7.next hb8)⟩
  · obtain ⟨T, hT⟩ : ∃ T, t.extract 0 200 = T := ⟨_, rfl⟩
    have hTz : T.size ≤ 200 := by rw [← hT]; simp; omega
    obtain ⟨X, F⟩ := staysFacts T s (by first | omega | (simp; omega)) (by first | omega | (simp; omega))
    obtain ⟨⟨n, l', lost'⟩, hx2⟩ : ∃ x, numOf s.data.toList false = x := ⟨_, rfl⟩
    have hemp := empty_same s
    have hput2 := fun wx => put_is n wx (numOf_len hx2).2 rfl
    have hXz := F.xs
    have hSz := F.ssz
    cases lost'
    · have hrow := row_there hx2
      have hrow1 := hrow.1
      have hrow2 := hrow.2
      have hrow3 : ((ofBytes (enc n)).size : Int) ≤ (s.size : Int) := by omega
      clear hrow
      go_enter Try.func7, Try.ntmps7
      go_wp2
      go_quiet (fail)
      go_wp2_with (first
        | (go_at_call 11; ((with_reducible refine (F.put _).mono ?_); rintro e w1 ⟨rfl, hb1⟩))
        | (go_at_call 14; ((with_reducible refine (F.new _).mono ?_); rintro e w2 ⟨rfl, hr2, hg2⟩))
        | (go_at_call 17; ((with_reducible refine (text_is hr2 F.text).mono ?_); rintro e w3 ⟨rfl, hr3, hg3⟩))
        | (go_at_call 19; ((with_reducible refine (ok_any _ _ _ _ hr3).mono ?_); rintro e w' ⟨rfl, rfl⟩))
        | (go_at_call 21; ((with_reducible refine (end_any _ _ _ _ hr3).mono ?_); rintro e w' ⟨rfl, rfl⟩))
        | (go_at_call 15; ((with_reducible refine (num_is hr3 hx2).mono ?_); rintro e w4 ⟨rfl, hr4, hg4⟩); clear hr3)
        | (go_at_call 19; ((with_reducible refine (ok_any _ _ _ _ hr4).mono ?_); rintro e w' ⟨rfl, rfl⟩))
        | (go_at_call 14; ((with_reducible refine (F.new2 _).mono ?_); rintro e w5 ⟨rfl, hr5, hg5⟩))
        | (go_at_call 15; ((with_reducible refine (num_is hr5 hx2).mono ?_); rintro e w6 ⟨rfl, hr6, hg6⟩); clear hr4)
        | (go_at_call 19; ((with_reducible refine (ok_any _ _ _ _ hr6).mono ?_); rintro e w' ⟨rfl, rfl⟩))
        | (go_at_call 9; ((with_reducible refine (hput2 _).mono ?_); rintro e w7 ⟨rfl, hb7⟩))
        | (go_at_call 13; ((with_reducible refine (works_any _).mono ?_); rintro e w8 ⟨rfl, hb8⟩)))
      go_ret
      exact ⟨rfl, stays_below hb1 hg2 hg3 hg4 hg5 hg6 (hb7.next hb8)⟩
    · go_enter Try.func7, Try.ntmps7
      go_wp2
      go_quiet (fail)
      go_wp2_with (first
        | (go_at_call 11; ((with_reducible refine (F.put _).mono ?_); rintro e w1 ⟨rfl, hb1⟩))
        | (go_at_call 14; ((with_reducible refine (F.new _).mono ?_); rintro e w2 ⟨rfl, hr2, hg2⟩))
        | (go_at_call 17; ((with_reducible refine (text_is hr2 F.text).mono ?_); rintro e w3 ⟨rfl, hr3, hg3⟩))
        | (go_at_call 19; ((with_reducible refine (ok_any _ _ _ _ hr3).mono ?_); rintro e w' ⟨rfl, rfl⟩))
        | (go_at_call 21; ((with_reducible refine (end_any _ _ _ _ hr3).mono ?_); rintro e w' ⟨rfl, rfl⟩))
        | (go_at_call 15; ((with_reducible refine (num_is hr3 hx2).mono ?_); rintro e w4 ⟨rfl, hr4, hg4⟩); clear hr3)
        | (go_at_call 19; ((with_reducible refine (ok_any _ _ _ _ hr4).mono ?_); rintro e w' ⟨rfl, rfl⟩))
        | (go_at_call 14; ((with_reducible refine (F.new2 _).mono ?_); rintro e w5 ⟨rfl, hr5, hg5⟩))
        | (go_at_call 15; ((with_reducible refine (num_is hr5 hx2).mono ?_); rintro e w6 ⟨rfl, hr6, hg6⟩); clear hr4)
        | (go_at_call 19; ((with_reducible refine (ok_any _ _ _ _ hr6).mono ?_); rintro e w' ⟨rfl, rfl⟩))
        | (go_at_call 9; ((with_reducible refine (hput2 _).mono ?_); rintro e w7 ⟨rfl, hb7⟩))
        | (go_at_call 13; ((with_reducible refine (works_any _).mono ?_); rintro e w8 ⟨rfl, hb8⟩)))
      go_ret
      exact ⟨rfl, stays_below hb1 hg2 hg3 hg4 hg5 hg6 (hb7.next hb8)⟩
  · skip
    obtain ⟨X, F⟩ := staysFacts t s (by first | omega | (simp; omega)) (by first | omega | (simp; omega))
    obtain ⟨⟨n, l', lost'⟩, hx2⟩ : ∃ x, numOf s.data.toList false = x := ⟨_, rfl⟩
    have hemp := empty_same s
    have hput2 := fun wx => put_is n wx (numOf_len hx2).2 rfl
    have hXz := F.xs
    have hSz := F.ssz
    cases lost'
    · have hrow := row_there hx2
      have hrow1 := hrow.1
      have hrow2 := hrow.2
      have hrow3 : ((ofBytes (enc n)).size : Int) ≤ (s.size : Int) := by omega
      clear hrow
      go_enter Try.func7, Try.ntmps7
      go_wp2
      go_quiet (fail)
      go_wp2_with (first
        | (go_at_call 11; ((with_reducible refine (F.put _).mono ?_); rintro e w1 ⟨rfl, hb1⟩))
        | (go_at_call 14; ((with_reducible refine (F.new _).mono ?_); rintro e w2 ⟨rfl, hr2, hg2⟩))
        | (go_at_call 17; ((with_reducible refine (text_is hr2 F.text).mono ?_); rintro e w3 ⟨rfl, hr3, hg3⟩))
        | (go_at_call 19; ((with_reducible refine (ok_any _ _ _ _ hr3).mono ?_); rintro e w' ⟨rfl, rfl⟩))
        | (go_at_call 21; ((with_reducible refine (end_any _ _ _ _ hr3).mono ?_); rintro e w' ⟨rfl, rfl⟩))
        | (go_at_call 15; ((with_reducible refine (num_is hr3 hx2).mono ?_); rintro e w4 ⟨rfl, hr4, hg4⟩); clear hr3)
        | (go_at_call 19; ((with_reducible refine (ok_any _ _ _ _ hr4).mono ?_); rintro e w' ⟨rfl, rfl⟩))
        | (go_at_call 14; ((with_reducible refine (F.new2 _).mono ?_); rintro e w5 ⟨rfl, hr5, hg5⟩))
        | (go_at_call 15; ((with_reducible refine (num_is hr5 hx2).mono ?_); rintro e w6 ⟨rfl, hr6, hg6⟩); clear hr4)
        | (go_at_call 19; ((with_reducible refine (ok_any _ _ _ _ hr6).mono ?_); rintro e w' ⟨rfl, rfl⟩))
        | (go_at_call 9; ((with_reducible refine (hput2 _).mono ?_); rintro e w7 ⟨rfl, hb7⟩))
        | (go_at_call 13; ((with_reducible refine (works_any _).mono ?_); rintro e w8 ⟨rfl, hb8⟩)))
      go_ret
      exact ⟨rfl, stays_below hb1 hg2 hg3 hg4 hg5 hg6 (hb7.next hb8)⟩
    · go_enter Try.func7, Try.ntmps7
      go_wp2
      go_quiet (fail)
      go_wp2_with (first
        | (go_at_call 11; ((with_reducible refine (F.put _).mono ?_); rintro e w1 ⟨rfl, hb1⟩))
        | (go_at_call 14; ((with_reducible refine (F.new _).mono ?_); rintro e w2 ⟨rfl, hr2, hg2⟩))
        | (go_at_call 17; ((with_reducible refine (text_is hr2 F.text).mono ?_); rintro e w3 ⟨rfl, hr3, hg3⟩))
        | (go_at_call 19; ((with_reducible refine (ok_any _ _ _ _ hr3).mono ?_); rintro e w' ⟨rfl, rfl⟩))
        | (go_at_call 21; ((with_reducible refine (end_any _ _ _ _ hr3).mono ?_); rintro e w' ⟨rfl, rfl⟩))
        | (go_at_call 15; ((with_reducible refine (num_is hr3 hx2).mono ?_); rintro e w4 ⟨rfl, hr4, hg4⟩); clear hr3)
        | (go_at_call 19; ((with_reducible refine (ok_any _ _ _ _ hr4).mono ?_); rintro e w' ⟨rfl, rfl⟩))
        | (go_at_call 14; ((with_reducible refine (F.new2 _).mono ?_); rintro e w5 ⟨rfl, hr5, hg5⟩))
        | (go_at_call 15; ((with_reducible refine (num_is hr5 hx2).mono ?_); rintro e w6 ⟨rfl, hr6, hg6⟩); clear hr4)
        | (go_at_call 19; ((with_reducible refine (ok_any _ _ _ _ hr6).mono ?_); rintro e w' ⟨rfl, rfl⟩))
        | (go_at_call 9; ((with_reducible refine (hput2 _).mono ?_); rintro e w7 ⟨rfl, hb7⟩))
        | (go_at_call 13; ((with_reducible refine (works_any _).mono ?_); rintro e w8 ⟨rfl, hb8⟩)))
      go_ret
      exact ⟨rfl, stays_below hb1 hg2 hg3 hg4 hg5 hg6 (hb7.next hb8)⟩

end Go.Proofs.Ythhpaceolnpcnaa
