/- The walk of the closed law WireKnown. -/
import Derived.Test.YthhpaceolnpcnaaRefL

import Derived.Deep.DeepCutAuto
import Derived.Deep.CutRange
namespace Go.Proofs.Ythhpaceolnpcnaa
open Go.RowKit
set_option maxRecDepth 100000
set_option linter.unusedSimpArgs false
set_option linter.unusedVariables false

/-- The rows that the closed law tells. -/
def known : List Value :=
  [.int .u64 0, .string ⟨#[0]⟩, .int .u64 127, .string ⟨#[127]⟩, .int .u64 128, .string ⟨#[129, 0]⟩, .int .u64 300, .string ⟨#[130, 44]⟩, .int .u64 16383, .string ⟨#[255, 127]⟩,
   .int .u64 16384, .string ⟨#[129, 128, 0]⟩, .int .u64 18446744073709551615, .string ⟨#[129, 255, 255, 255, 255, 255, 255, 255, 255, 127]⟩]

def IsKnown (n : Nat) (s : ByteArray) : Prop := rd s.data.toList = some (n, [])

theorem known_at (k : Nat) (hk : k < 7) : ∃ (n : Nat) (s : ByteArray), known[k * 2]? = some (.int .u64 n) ∧ known[k * 2 + 1]? = some (.string s) ∧ IsKnown n s := by
  match k, hk with
  | 0, _ => exact ⟨0, _, rfl, rfl, by unfold IsKnown; decide⟩
  | 1, _ => exact ⟨127, _, rfl, rfl, by unfold IsKnown; decide⟩
  | 2, _ => exact ⟨128, _, rfl, rfl, by unfold IsKnown; decide⟩
  | 3, _ => exact ⟨300, _, rfl, rfl, by unfold IsKnown; decide⟩
  | 4, _ => exact ⟨16383, _, rfl, rfl, by unfold IsKnown; decide⟩
  | 5, _ => exact ⟨16384, _, rfl, rfl, by unfold IsKnown; decide⟩
  | 6, _ => exact ⟨18446744073709551615, _, rfl, rfl, by unfold IsKnown; decide⟩

theorem known_facts {n : Nat} {s : ByteArray} (h : IsKnown n s) : s.size ≤ 140737488351232 ∧ n < 18446744073709551616 ∧ numOf s.data.toList false = (n, [], false) ∧
    ∃ X : ByteArray, ((⟨#[113]⟩ : ByteArray) ++ ⟨(enc n).toArray⟩) = X ∧ (X.toList == ((⟨#[113]⟩ : ByteArray) ++ s).toList) = true := by
  obtain ⟨hn, he⟩ := rd_inv h
  rw [List.append_nil] at he
  have hl := enc_len n hn
  refine ⟨by rw [sz_eq he]; omega, hn, by unfold numOf; rw [h], _, rfl, ?_⟩
  have : s = ⟨(enc n).toArray⟩ := by rw [← he]
  rw [this]; simp

/-- .. and bytes that are none. -/
def nones : List Value :=
  [.string ⟨#[]⟩, .string ⟨#[128, 5]⟩, .string ⟨#[129]⟩, .string ⟨#[128, 0]⟩, .string ⟨#[130, 128, 128, 128, 128, 128, 128, 128, 128, 0]⟩, .string ⟨#[129, 128, 128, 128, 128, 128, 128, 128, 128, 128, 0]⟩,
   .string ⟨#[255, 255, 255, 255, 255, 255, 255, 255, 255, 255, 127]⟩]

theorem none_at (k : Nat) (hk : k < 7) : ∃ s : ByteArray, nones[k]? = some (.string s) ∧ s.size ≤ 11 ∧ numOf s.data.toList false = (0, [], true) := by
  match k, hk with
  | 0, _ => exact ⟨_, rfl, by decide, by decide⟩
  | 1, _ => exact ⟨_, rfl, by decide, by decide⟩
  | 2, _ => exact ⟨_, rfl, by decide, by decide⟩
  | 3, _ => exact ⟨_, rfl, by decide, by decide⟩
  | 4, _ => exact ⟨_, rfl, by decide, by decide⟩
  | 5, _ => exact ⟨_, rfl, by decide, by decide⟩
  | 6, _ => exact ⟨_, rfl, by decide, by decide⟩

/-- A reader that is none. -/
theorem takeNil (w : World) : Calls Try.prog 23 #[.pointer none, .func (.func 24) #[] #[]] w fun e w' => e = .returned (.slice none 0 0) ∧ w = w' := by
  go_enter Try.func23, Try.ntmps23
  go_wp2
  go_ret
  exact ⟨rfl, rfl⟩
theorem numNil (w : World) : Calls Try.prog 15 #[.pointer none] w fun e w' => e = .returned (.int .u64 0) ∧ w = w' := by
  go_enter Try.func15, Try.ntmps15
  go_wp2_with (go_at_call 23; refine (takeNil _).mono ?_; rintro e w' ⟨rfl, rfl⟩)
  refine wp_loop_rounds 1 ?_
  rw [rounds_succ]
  go_wp2
  go_ret
  exact ⟨rfl, rfl⟩
theorem textNil (w : World) : Calls Try.prog 17 #[.pointer none] w fun e w' => e = .returned (.string ⟨#[]⟩) ∧ w' = w.alloc (.cells #[.int .u64 0] 22) := by
  go_enter Try.func17, Try.ntmps17
  go_wp2_with (go_at_call 15; refine (numNil _).mono ?_; rintro e w' ⟨rfl, rfl⟩)
  go_ret
  exact ⟨rfl, rfl⟩
theorem okNil (w : World) : Calls Try.prog 19 #[.pointer none] w fun e w' => e = .returned (.bool false) ∧ w = w' := by
  go_enter Try.func19, Try.ntmps19
  go_wp2
  go_ret
  exact ⟨rfl, rfl⟩
theorem endNil (w : World) : Calls Try.prog 21 #[.pointer none] w fun e w' => e = .returned (.bool false) ∧ w = w' := by
  go_enter Try.func21, Try.ntmps21
  go_wp2_with (go_at_call 19; refine (okNil _).mono ?_; rintro e w' ⟨rfl, rfl⟩)
  go_ret
  exact ⟨rfl, rfl⟩

theorem cell_below {w w' : World} (hb : Below w.drew.heap.size w.drew w') {a : Addr} {v : Value} (h : w.cell? a = some v) : w'.cell? a = some v := (hb.cell (World.block_lt_of_cell? w a h)).trans h
theorem rd_below {w w' : World} (hb : Below w.drew.heap.size w.drew w') {p : Nat} {l : List UInt8} {lost : Bool} (h : RdAt w p l lost) : RdAt w' p l lost := h.same (hb.block p h.lt) (fun b hb' => hb.block b (by have := h.lt; show b < w.heap.size; omega))
theorem arr_below {w w' : World} (hb : Below w.drew.heap.size w.drew w') {b : Nat} {t : TypeId} {l : List Value} (h : ArrAt w b t l) : ArrAt w' b t l := by
  unfold ArrAt; rw [hb.block b h.lt]; exact h
theorem known_below {w wr w1 : World} {o : Obj} (hb : Below w.heap.size w wr) (hg : (wr.alloc o).grownBy w1 none) : Below w.heap.size w w1 := (hb.alloc hb.size o).grown hg (by have := hb.size; simp; omega) (by simp)
theorem ne_two (b : Nat) : some b ≠ some (b + 1 + 1) := by simp; omega
theorem ne_big {a b : Nat} (h : a ≤ b) : some a ≠ some (b + 1 + 1) := by simp; omega

theorem known_end {w w1 w2 w3 : World} {B : Nat} (h1 : Below w.heap.size w w1) (h2 : Below w1.drew.heap.size w1.drew w2) (h3 : w2.grownBy w3 (some (B + 1 + 1))) (hB : w.heap.size ≤ B) : Below w.heap.size w w3 := by
  have h2' : Below w1.heap.size w1 w2 := ⟨h2.os, h2.tape, h2.output, h2.size, h2.block⟩
  have h := h1.next h2'
  exact h.grown h3 h.size (by simp; omega)

/-- The first loop's round. -/
def KnownRel (w : World) (B : Nat) (wr : World) : Prop := ArrAt wr B 40 known ∧ B = w.heap.size ∧ Below w.heap.size w wr

theorem put_empty : (⟨#[]⟩ ++ ⟨(enc (⟨#[]⟩ : ByteArray).size).toArray⟩ ++ ⟨#[]⟩ : ByteArray) = ⟨#[0]⟩ := by
  have : enc (⟨#[]⟩ : ByteArray).size = [0] := by show enc 0 = [0]; simp [enc, encHi_zero]
  rw [this]; rfl

/-- The second loop's round. -/
def NoneRel (w : World) (B : Nat) (wr : World) : Prop := ArrAt wr B 9 nones ∧ w.heap.size ≤ B ∧ Below w.heap.size w wr

theorem none_end {w wr w1 w2 w3 w4 : World} {B : Nat} (ha : ArrAt wr B 9 nones) (hB : w.heap.size ≤ B) (hb : Below w.heap.size w wr) (h1 : wr.grownBy w1 none) (h2 : w1.grownBy w2 (some (wr.heap.size + 1))) (h3 : w2.grownBy w3 (some (wr.heap.size + 1))) (h4 : w3.grownBy w4 (some (wr.heap.size + 1))) : NoneRel w B w4 := by
  have hlt := ha.lt
  have hs := hb.size
  have b1 := hb.grown h1 hb.size (by simp)
  have b2 := b1.grown h2 b1.size (by simp; omega)
  have b3 := b2.grown h3 b2.size (by simp; omega)
  have b4 := b3.grown h4 b3.size (by simp; omega)
  exact ⟨(((ha.grown h1 (by simp)).grown h2 (by simp; omega)).grown h3 (by simp; omega)).grown h4 (by simp; omega), hB, b4⟩

theorem none_last {w wr w1 w2 w3 w4 w5 : World} (hb : Below w.heap.size w wr) (h1 : wr.grownBy w1 none) (h2 : w1.grownBy w2 (some (wr.heap.size + 1))) (h3 : Below w2.heap.size w2 w3) (h4 : w4 = w3.alloc (.cells #[.int .u64 0] 22)) (h5 : Below w4.heap.size w4 w5) : Below w.heap.size w w5 := by
  subst h4
  have b1 := hb.grown h1 hb.size (by simp)
  have b2 := b1.grown h2 b1.size (by have := hb.size; simp; omega)
  have b3 := b2.next h3
  exact (b3.alloc b3.size _).next h5

set_option maxHeartbeats 4000000 in
theorem wireKnown_walk (w : World) : Calls Try.prog 8 #[] w (TrueOut w) := by
  go_enter Try.func8, Try.ntmps8
  go_wp2_with fail
  go_loopw [18] (fun i wr => ∃ k : Nat, k ≤ 7 ∧ i = .int .i64 k ∧ KnownRel w w.heap.size wr) (fun i _ => 7 - (intOf i).toNat)
  case atStart => exact ⟨0, by omega, rfl, arrAt_alloc _ _ _ _ rfl, rfl, (Below.refl _ _).alloc (Nat.le_refl _) _⟩
  case round =>
    obtain ⟨k, hk, rfl, ha, hB, hb⟩ := hrel
    by_cases hlt : k < 7
    · obtain ⟨n, s, hn, hs, hks⟩ := known_at k hlt
      have c0 := ha.cell (k * 2) hn
      have c1 := ha.cell (k * 2 + 1) hs
      obtain ⟨hsz, hnlt, hnum, X, hX, hXe⟩ := known_facts hks
      have hnew := fun wx => newReader_any s wx hsz
      have hput := fun wx => putNum_any ⟨#[113]⟩ n wx hnlt (by decide)
      rw [hX] at hput
      go_upto_region 5 with (go_at_call 14; ((with_reducible refine (hnew _).mono ?_); rintro e w1 ⟨rfl, hr1, hg1⟩))
      have d0 : w1.cell? ⟨wr.heap.size, 0, none⟩ = some (.int .u64 n) := hg1.cell (by simp) (by simp)
      have d1 : w1.cell? ⟨wr.heap.size, 1, none⟩ = some (.string s) := hg1.cell (by simp) (by simp)
      have hb1 := known_below hb hg1
      have ha1 := (ha.alloc (.cells #[.int .u64 n, .string s] 40)).grown hg1 (by simp)
      clear hg1 ha
      rw [World.size_alloc] at hr1
      go_cut [44] from 19 to 47 (fun v wx => v = .bool false ∧ ArrAt wx w.heap.size 40 known ∧ Below w.heap.size w wx)
      case first =>
        go_region_with (first
          | (go_at_call 9; ((with_reducible refine (hput _).mono ?_); rintro e w2 ⟨rfl, hb2⟩; have d0' := cell_below hb2 d0; have d1' := cell_below hb2 d1; have hr2 := rd_below hb2 hr1; have ha2 := arr_below hb2 ha1))
          | (go_at_call 15; ((with_reducible refine (num_is hr2 hnum).mono ?_); rintro e w3 ⟨rfl, hr3, hg3⟩; have d0'' := hg3.cell d0' (ne_two _); have d1'' := hg3.cell d1' (ne_two _); have ha3 := ha2.grown hg3 (ne_big hb.size)))
          | (go_at_call 21; ((with_reducible refine (end_any _ _ _ _ hr3).mono ?_); rintro e w' ⟨rfl, rfl⟩)))
        all_goals
          go_wp2_with fail
          go_meet
          case rel => exact ⟨rfl, ha3, known_end hb1 hb2 hg3 hb.size⟩
      case rest =>
        obtain ⟨rfl, ha3, hb3⟩ := hcut
        go_wp2
        go_roundw
        case rel => exact ⟨k + 1, by omega, by go_num, ha3, rfl, hb3⟩
        case measure => simp [intOf]; omega
    · obtain ⟨wo, rfl⟩ : ∃ wo : World, wo = wr := ⟨_, rfl⟩
      go_wp2_with fail
      go_loopw [50] (fun i wr => ∃ j : Nat, j ≤ 7 ∧ i = .int .i64 j ∧ NoneRel w wo.heap.size wr) (fun i _ => 7 - (intOf i).toNat)
      case atStart => exact ⟨0, by omega, rfl, arrAt_alloc _ _ _ _ rfl, hb.size, hb.alloc hb.size _⟩
      case round =>
        obtain ⟨j, hj, rfl, han, hwo, hbn⟩ := hrel
        clear ha hb
        obtain ⟨B2, hB2⟩ : ∃ B2, B2 = wo.heap.size := ⟨_, rfl⟩
        rw [← hB2] at han hwo
        by_cases hjl : j < 7
        · obtain ⟨s, hs, hsz, hnum⟩ := none_at j hjl
          have c0 := han.cell j hs
          have hnew := fun wx => newReader_any s wx (by omega)
          have hE1 : numOf [] true = (0, [], true) := rfl
          have hE2 : textOf [] true = ([], [], true) := rfl
          rw [hB2] at c0
          go_wp2_with (first
            | (go_at_call 14; ((with_reducible refine (hnew _).mono ?_); rintro e w1 ⟨rfl, hr1, hg1⟩))
            | (go_at_call 19; ((with_reducible refine (ok_any _ _ _ _ hr1).mono ?_); rintro e w' ⟨rfl, rfl⟩))
            | (go_at_call 15; ((with_reducible refine (num_is hr1 hnum).mono ?_); rintro e w2 ⟨rfl, hr2, hg2⟩); clear hr1)
            | (go_at_call 19; ((with_reducible refine (ok_any _ _ _ _ hr2).mono ?_); rintro e w' ⟨rfl, rfl⟩))
            | (go_at_call 21; ((with_reducible refine (end_any _ _ _ _ hr2).mono ?_); rintro e w' ⟨rfl, rfl⟩))
            | (go_at_call 15; ((with_reducible refine (num_is hr2 hE1).mono ?_); rintro e w3 ⟨rfl, hr3, hg3⟩); clear hr2)
            | (go_at_call 17; ((with_reducible refine (text_is hr3 hE2).mono ?_); rintro e w4 ⟨rfl, hr4, hg4⟩)))
          go_roundw
          case rel =>
            rw [← hB2]
            exact ⟨j + 1, by omega, by go_num, none_end han hwo hbn hg1 hg2 hg3 hg4⟩
          case measure => simp [intOf]; omega
        · have hnew := fun wx => newReader_any ⟨#[4, 97, 98, 99]⟩ wx (by decide)
          have hT : textOf [4, 97, 98, 99] false = ([], [], true) := by decide
          have hput := fun wx => putText_any ⟨#[]⟩ ⟨#[]⟩ wx (by decide) (by decide)
          rw [put_empty] at hput
          go_wp2_with (first
            | (go_at_call 14; ((with_reducible refine (hnew _).mono ?_); rintro e w1 ⟨rfl, hr1, hg1⟩))
            | (go_at_call 17; ((with_reducible refine (text_is hr1 hT).mono ?_); rintro e w2 ⟨rfl, hr2, hg2⟩))
            | (go_at_call 19; ((with_reducible refine (ok_any _ _ _ _ hr2).mono ?_); rintro e w' ⟨rfl, rfl⟩))
            | (go_at_call 11; ((with_reducible refine (hput _).mono ?_); rintro e w3 ⟨rfl, hb3⟩))
            | (go_at_call 15; ((with_reducible refine (numNil _).mono ?_); rintro e w' ⟨rfl, rfl⟩))
            | (go_at_call 17; ((with_reducible refine (textNil _).mono ?_); rintro e w4 ⟨rfl, rfl⟩))
            | (go_at_call 19; ((with_reducible refine (okNil _).mono ?_); rintro e w' ⟨rfl, rfl⟩))
            | (go_at_call 21; ((with_reducible refine (endNil _).mono ?_); rintro e w' ⟨rfl, rfl⟩))
            | (go_at_call 13; ((with_reducible refine (works_any _).mono ?_); rintro e w5 ⟨rfl, hb5⟩)))
          go_ret
          exact ⟨rfl, none_last hbn hg1 hg2 hb3 rfl hb5⟩

end Go.Proofs.Ythhpaceolnpcnaa
