/- The walks of the reader of package wire: OK, End, Num, Text. -/
import Derived.Test.YthhpaceolnpcnaaWalkB
namespace Go.Proofs.Ythhpaceolnpcnaa
open Go.RowKit
set_option maxRecDepth 100000
set_option linter.unusedSimpArgs false
set_option linter.unusedVariables false

theorem SlAt.shape {w : World} {p : Nat} {sl : Value} {l : List UInt8} (h : SlAt w p sl l) : ∃ a cap, sl = .slice a l.length cap := by
  rcases h with ⟨rfl, a, c, rfl⟩ | ⟨b, off, cap, _, rfl, _, _⟩
  · exact ⟨a, c, rfl⟩
  · exact ⟨_, cap, rfl⟩

def BoolIs (x : Bool) (w : World) (e : Ending) (w' : World) : Prop := e = .returned (.bool x) ∧ w = w'

theorem ok_any (p : Nat) (l : List UInt8) (lost : Bool) (w : World) (h : RdAt w p l lost) :
    Calls Try.prog 19 #[.pointer (some ⟨p, 0, none⟩)] w (BoolIs (!lost) w) := by
  obtain ⟨hl, sl, ha, hs⟩ := h
  have c1 := ha.cell (v := .bool lost) 1 rfl
  go_enter Try.func19, Try.ntmps19
  go_wp2
  go_ret
  exact ⟨rfl, rfl⟩

theorem end_any (p : Nat) (l : List UInt8) (lost : Bool) (w : World) (h : RdAt w p l lost) :
    Calls Try.prog 21 #[.pointer (some ⟨p, 0, none⟩)] w (BoolIs (!lost && l.isEmpty) w) := by
  have hok := ok_any p l lost w h
  obtain ⟨hl, sl, ha, hs⟩ := h
  obtain ⟨a, cap, rfl⟩ := hs.shape
  have c0 := ha.cell (v := .slice a l.length cap) 0 rfl
  cases lost
  · cases l with
    | nil =>
      go_enter Try.func21, Try.ntmps21
      go_wp2_with (go_at_call 19; refine hok.mono ?_; rintro e w' ⟨rfl, rfl⟩)
      go_ret
      exact ⟨rfl, rfl⟩
    | cons x r =>
      have hz : ((r.length : Int) + 1 == 0) = false := by simp; omega
      go_enter Try.func21, Try.ntmps21
      go_wp2_with (go_at_call 19; refine hok.mono ?_; rintro e w' ⟨rfl, rfl⟩)
      go_ret
      exact ⟨rfl, rfl⟩
  · go_enter Try.func21, Try.ntmps21
    go_wp2_with (go_at_call 19; refine hok.mono ?_; rintro e w' ⟨rfl, rfl⟩)
    go_ret
    exact ⟨rfl, rfl⟩

/-- What Num makes of a reader. -/
def NumOut (w : World) (p : Nat) (n : Nat) (l : List UInt8) (lost : Bool) (e : Ending) (w' : World) : Prop :=
  e = .returned (.int .u64 n) ∧ RdAt w' p l lost ∧ w.grownBy w' (some p)

theorem foldW_snoc (k : List UInt8) (c : UInt8) : foldW 0 (k ++ [c]) = (foldW 0 k * 128 + c.toNat % 128) % 18446744073709551616 := by simp [foldW]
theorem foldW_lt (k : List UInt8) : foldW 0 k < 18446744073709551616 := by
  rcases List.eq_nil_or_concat k with rfl | ⟨g, c, rfl⟩
  · simp [foldW]
  · rw [List.concat_eq_append, foldW_snoc]; omega

theorem wrap_step (F c : Nat) : Value.int IntKind.u64 (IntKind.u64.wrap (IntKind.u64.wrap ((F : Int) * 128) + (c : Int) % 128)) = Value.int IntKind.u64 (((F * 128 + c % 128) % 18446744073709551616 : Nat) : Int) := by
  rw [IntKind.wrap_u64, IntKind.wrap_u64]
  congr 1
  omega

set_option maxHeartbeats 1000000 in
theorem num_some (p : Nat) (l : List UInt8) (lost : Bool) (w : World) (h : RdAt w p l lost) (hr : 0 < rowLen l) :
    Calls Try.prog 15 #[.pointer (some ⟨p, 0, none⟩)] w (NumOut w p (foldW 0 (l.take (rowLen l))) (l.drop (rowLen l)) lost) := by
  have ht := take_row p l lost w h hr (rowLen_le l)
  obtain ⟨T, hT⟩ : ∃ T, T = l.take (rowLen l) := ⟨_, rfl⟩
  have hlen : T.length = rowLen l := by rw [hT]; simp; exact Nat.min_eq_left (rowLen_le l)
  have hb : T.length ≤ 140737488351232 := by have := h.1; have := rowLen_le l; omega
  unfold Took at ht
  rw [← hT, ← hlen] at ht
  rw [← hT]
  obtain ⟨D, hD⟩ : ∃ D, D = l.drop (rowLen l) := ⟨_, rfl⟩
  rw [← hlen] at hD
  rw [← hlen, ← hD] 
  rw [← hD] at ht
  clear hT hlen hD hr h
  go_enter Try.func15, Try.ntmps15
  go_wp2_with (go_at_call 23; refine ht.mono ?_; rintro e w' ⟨b, off, cap, rfl, hby, hrd, hg⟩)
  go_loop [2, 8] (fun n i => ∃ k : Nat, k ≤ T.length ∧ i = .int .i64 k ∧ n = .int .u64 (foldW 0 (T.take k))) (fun _ i => T.length - (intOf i).toNat)
  case atStart => exact ⟨0, Nat.zero_le _, rfl, rfl⟩
  case round =>
    obtain ⟨k, hk, rfl, rfl⟩ := hrel
    by_cases hlt : k < T.length
    · obtain ⟨c, hc1, hc2, hc⟩ := hby.get k hlt
      have hs : foldW 0 (T.take (k + 1)) = (foldW 0 (T.take k) * 128 + c % 128) % 18446744073709551616 := by
        rw [List.take_succ_eq_append_getElem hlt, foldW_snoc, ← hc2]; simp [List.getD, hlt]
      have hfl := foldW_lt (T.take k)
      obtain ⟨F, hF⟩ : ∃ F, F = foldW 0 (T.take k) := ⟨_, rfl⟩
      rw [← hF] at hs hfl ⊢
      have HS := Lib.hid hs
      clear hs hF hc2
      go_wp2
      go_round
      case rel => exact ⟨k + 1, by omega, by go_num, by rw [HS.out, wrap_step]⟩
      case measure => simp [intOf]; omega
    · obtain rfl : k = T.length := by omega
      rw [List.take_length]
      go_wp2
      go_ret
      exact ⟨rfl, hrd, hg⟩

theorem num_none (p : Nat) (l : List UInt8) (lost : Bool) (w : World) (h : RdAt w p l lost) (hr : rowLen l = 0) :
    Calls Try.prog 15 #[.pointer (some ⟨p, 0, none⟩)] w (NumOut w p 0 [] true) := by
  have ht := takeno_row p l lost w h hr
  unfold TookNo at ht
  clear hr h
  go_enter Try.func15, Try.ntmps15
  go_wp2_with (go_at_call 23; refine ht.mono ?_; rintro e w' ⟨rfl, hrd, hg⟩)
  refine wp_loop_rounds 1 ?_
  rw [rounds_succ]
  go_wp2
  go_ret
  exact ⟨rfl, hrd, hg⟩

/-- A reader behind Num: the number, what is left, whether it is lost. -/
def numOf (l : List UInt8) (lost : Bool) : Nat × List UInt8 × Bool :=
  match rd l with
  | some (n, r) => (n, r, lost)
  | none => (0, [], true)

theorem num_any (p : Nat) (l : List UInt8) (lost : Bool) (w : World) (h : RdAt w p l lost) :
    Calls Try.prog 15 #[.pointer (some ⟨p, 0, none⟩)] w (NumOut w p (numOf l lost).1 (numOf l lost).2.1 (numOf l lost).2.2) := by
  by_cases hr : rowLen l = 0
  · have : rd l = none := by unfold rd; rw [if_pos hr]
    simp only [numOf, this]
    exact num_none p l lost w h hr
  · have : rd l = some (foldW 0 (l.take (rowLen l)), l.drop (rowLen l)) := by unfold rd; rw [if_neg hr]
    simp only [numOf, this]
    exact num_some p l lost w h (by omega)

/-- A reader behind Text. -/
def textOf (l : List UInt8) (lost : Bool) : List UInt8 × List UInt8 × Bool :=
  match rdText l with
  | some (t, r) => (t, r, lost)
  | none => ([], [], true)

/-- What Text makes of a reader. -/
def TextOut (w : World) (p : Nat) (t : List UInt8) (l : List UInt8) (lost : Bool) (e : Ending) (w' : World) : Prop :=
  e = .returned (.string ⟨t.toArray⟩) ∧ RdAt w' p l lost ∧ w.grownBy w' (some p)

theorem textOut_same {w w' : World} {p : Nat} {l : List UInt8} {lost : Bool} {o : Obj} {e : Ending} (he : e = .returned (.string ⟨#[]⟩)) (hrd : RdAt w' p l lost) (hg : w.grownBy w' (some p)) : TextOut w p [] l lost e (w'.alloc o) :=
  ⟨he, hrd.grown (World.grownBy_alloc w' o none) (by simp) (by simp), World.grownBy_trans hg (World.grownBy_alloc w' o _)⟩

set_option maxHeartbeats 1000000 in
theorem text_any (p : Nat) (l : List UInt8) (lost : Bool) (w : World) (h : RdAt w p l lost) :
    Calls Try.prog 17 #[.pointer (some ⟨p, 0, none⟩)] w (TextOut w p (textOf l lost).1 (textOf l lost).2.1 (textOf l lost).2.2) := by
  have hn := num_any p l lost w h
  clear h
  cases hrd : rd l with
  | none =>
    have e : textOf l lost = ([], [], true) := by simp [textOf, rdText, hrd]
    rw [e]
    simp only [numOf, hrd] at hn
    unfold NumOut at hn
    clear hrd e
    go_enter Try.func17, Try.ntmps17
    go_wp2_with (go_at_call 15; refine hn.mono ?_; rintro e w' ⟨rfl, hrd, hg⟩)
    go_ret
    exact textOut_same rfl hrd hg
  | some x =>
    obtain ⟨n, r⟩ := x
    have hnlt := (rd_inv hrd).1
    by_cases hle : n ≤ r.length
    · have e : textOf l lost = (r.take n, r.drop n, lost) := by simp [textOf, rdText, hrd, hle]
      rw [e]
      simp only [numOf, hrd] at hn
      unfold NumOut at hn
      clear hrd e
      by_cases hn0 : n = 0
      · subst hn0
        go_enter Try.func17, Try.ntmps17
        go_wp2_with (go_at_call 15; refine hn.mono ?_; rintro e w' ⟨rfl, hrd, hg⟩)
        go_ret
        exact textOut_same rfl hrd hg
      · have hz : ((n : Int) == 0) = false := by simpa using hn0
        go_enter Try.func17, Try.ntmps17
        go_wp2_with (go_at_call 15; refine hn.mono ?_; rintro e w' ⟨rfl, hrd, hg⟩)
        have ht := take_text p r lost (w'.alloc (.cells #[.int .u64 n] 22)) (hrd.grown (World.grownBy_alloc w' _ none) (by simp) (by simp)) w'.heap.size n (arrAt_alloc _ _ _ _ rfl) (by omega) hnlt (by omega) hle
        have hg1 := World.grownBy_trans hg (World.grownBy_alloc w' (.cells #[.int .u64 n] 22) (some p))
        clear hrd hg
        unfold Took at ht
        refine ht.mono ?_
        rintro e w2 ⟨b, off, cap, rfl, hby, hrd, hg⟩
        have hcv := run_conv_str (P := Try.prog) 27 5 9 Try.underlying27 Try.underlying5 Try.underlying9 hby n cap (by simp; omega)
        have hg2 := World.grownBy_trans hg1 hg
        clear hg1 hg hby
        go_wp2
        go_ret
        exact ⟨rfl, hrd, hg2⟩
    · have e : textOf l lost = ([], [], true) := by simp [textOf, rdText, hrd, hle]
      rw [e]
      simp only [numOf, hrd] at hn
      unfold NumOut at hn
      clear hrd e
      have hz : ((n : Int) == 0) = false := by simp; omega
      go_enter Try.func17, Try.ntmps17
      go_wp2_with (go_at_call 15; refine hn.mono ?_; rintro e w' ⟨rfl, hrd, hg⟩)
      have ht := takeno_text p r lost (w'.alloc (.cells #[.int .u64 n] 22)) (hrd.grown (World.grownBy_alloc w' _ none) (by simp) (by simp)) w'.heap.size n (arrAt_alloc _ _ _ _ rfl) (by omega) hnlt (by omega)
      have hg1 := World.grownBy_trans hg (World.grownBy_alloc w' (.cells #[.int .u64 n] 22) (some p))
      clear hrd hg
      unfold TookNo at ht
      refine ht.mono ?_
      rintro e w2 ⟨rfl, hrd, hg⟩
      have hcv := run_convert_bytes_nil (P := Try.prog) w2 27 5 Try.underlying27 Try.underlying5 0 0 9 Try.underlying9
      have hg2 := World.grownBy_trans hg1 hg
      clear hg1 hg
      go_wp2
      go_ret
      exact ⟨rfl, hrd, hg2⟩

end Go.Proofs.Ythhpaceolnpcnaa
