/- A blank front: the walk of blank. -/
import Derived.Test.YtnhlinkkfoojmaaEnter
namespace Go.Proofs.Ytnhlinkkfoojmaa
open Go.RowKit
set_option maxRecDepth 100000
set_option linter.unusedSimpArgs false
set_option linter.unusedVariables false
theorem own_full {w : World} {B e g n size : Nat} {xs : List Value} (h : w.ownsRow B e size (.slice (some ⟨g, 0, none⟩) n n) n xs) : w.heap[g]? = some (.cells xs.toArray e (0, 0)) := by
  rcases h.2 with ⟨h0, _⟩ | ⟨g', cap, cur, hv, hb, hg, hle, hmax, hsz, htk⟩
  · cases h0
  · injection hv with h1 h2 h3
    injection h1 with h1
    injection h1 with h1
    subst h1 h3
    rw [List.take_of_length_le (by rw [Array.length_toList, hsz]; exact Nat.le_refl _)] at htk
    rw [hg, ← htk]
theorem FA.setO {w : World} {fb : Nat} {f : Front} (h : FA w fb f) (k : Nat) (o : Option Nat) : FA (w.setCell ⟨fb, k, none⟩ (.int .i64 (fVal o))) fb (f.set k o) ∧ w.grownBy (w.setCell ⟨fb, k, none⟩ (.int .i64 (fVal o))) (some fb) := by
  refine ⟨?_, rfl, rfl, rfl, by simp, fun j _ hj => heap_setCell_other w ⟨fb, k, none⟩ j _ (fun e => hj (by simp [e]))⟩
  unfold FA
  rw [heap_setCell_same w fb k _ 3 _ h]
  congr 2
  simp [frontVals, List.map_set]
theorem info3 : (Try.prog.info? 3).map (fun i => (i.zero, i.size, i.bytes)) = some (some (.int .i64 0), 1, 8) := by kernel_rfl
def bfill (n i : Nat) : Front := List.replicate i none ++ List.replicate (n - i) (some 0)
theorem bfill_length (n i : Nat) (h : i ≤ n) : (bfill n i).length = n := by simp [bfill]; omega
theorem bfill_set (n i : Nat) (h : i < n) : (bfill n i).set i none = bfill n (i + 1) := by
  unfold bfill
  rw [List.set_append_right _ _ (by simp)]
  simp only [List.length_replicate, Nat.sub_self]
  rw [show n - i = (n - (i + 1)) + 1 by omega, List.replicate_succ, List.set_cons_zero, List.replicate_succ', List.append_assoc]
  rfl
theorem bfill_zero (n : Nat) : frontVals (bfill n 0) = (madeCells (Value.int .i64 0).cells (n * 1)) := by
  apply Array.toList_inj.1
  rw [show (Value.int .i64 0).cells = #[Value.int .i64 0] from rfl, toList_madeCells_one]
  simp [frontVals, bfill, fVal]
set_option maxHeartbeats 8000000 in
theorem blank_any (w : World) (p G : Nat) (l : List Stp) (n g cap : Nat) (h : SG w p G l n g cap) (hl : l.length ≤ 100000) (hG : G ≤ w.heap.size) :
    Calls Try.prog 20 #[.pointer (some ⟨p, 0, none⟩)] w fun e w' => ∃ fb, e = .returned (.slice (some ⟨fb, 0, none⟩) l.length l.length) ∧ w.heap.size ≤ fb ∧ FA w' fb (blank l) ∧ Below w.heap.size w w' := by
  obtain ⟨i0, hi, hz0, hz1, hz2⟩ := info_parts info3
  have c0 := h.c0
  obtain ⟨H, hH⟩ : ∃ H, H = w.heap.size := ⟨_, rfl⟩
  obtain ⟨N, hN⟩ : ∃ N, N = l.length := ⟨_, rfl⟩
  have hbl : blank l = bfill N N := by simp [blank, bfill, hN]
  rw [hbl]
  rw [← hN] at c0 hl ⊢
  simp only [← hH]
  have HH := Lib.hid hH
  clear hbl hN hH
  go_enter Try.func20, Try.ntmps20
  go_upto_region 2 with ((with_reducible refine wpList_make_full _ rfl (.tmp 9) (.tmp 9) 60 rfl H 3 i0 (.int .i64 0) 1 Try.underlying60 hi hz0 hz1 .i64 .i64 (N : Int) (N : Int) N ?_ ?_ rfl rfl ?_ ?_ ?_ ?_); (rfl); (rfl); (rw [hz2]; omega); (simp only [maxLen]; omega); (rw [HH.out]; exact Nat.le_refl _); intro w1 hown hg1)
  rw [← HH.out] at hown ⊢
  have hFA0 : FA w1 H (bfill N 0) := by
    unfold FA
    rw [bfill_zero]
    exact own_full hown
  have hb0 : Below H w w1 := ⟨hg1.os, hg1.tape, hg1.output, hg1.size, fun k hk => hg1.block k (by rw [← HH.out]; exact hk) (fun e => by cases e)⟩
  have HF0 := Lib.hid hFA0
  have HB0 := Lib.hid hb0
  clear hown hg1 hFA0 hb0
  go_wp2_with fail
  go_loopw [4, 13] (fun _ v13 wr => ∃ i : Nat, i ≤ N ∧ v13 = .int .i64 (i : Nat) ∧ FA wr H (bfill N i) ∧ Below H w wr) (fun _ v13 _ => N - (intOf v13).toNat)
  case atStart => exact ⟨0, Nat.zero_le _, rfl, HF0.out, HB0.out⟩
  case round =>
    obtain ⟨i, hi', rfl, hF, hB⟩ := hrel
    by_cases hin : i < N
    · have hd1 : decide ((i : Int) < (N : Int)) = true := decide_eq_true (by omega)
      have hd2 : decide (i < N) = true := decide_eq_true hin
      have hi3 : decide ((0 : Int) ≤ (i : Int)) = true := decide_eq_true (by omega)
      have hc := hF.cell i (by rw [bfill_length N i hi']; exact hin)
      have hz := hF.froz i
      obtain ⟨hF2, hg2⟩ := hF.setO i none
      rw [bfill_set N i hin] at hF2
      have HF2 := Lib.hid hF2
      have HB := Lib.hid (hB.grown hg2 (by have := hB.size; rw [HH.out]; exact this) (fun k hk => by injection hk with hk; omega))
      clear hF hF2 hg2 hB
      go_wp2_with fail
      go_roundw
      case rel => exact ⟨i + 1, by omega, by go_num, HF2.out, HB.out⟩
      case measure => simp [intOf]; omega
    · obtain rfl : i = N := by omega
      have HF := Lib.hid hF
      clear hF
      go_wp2_with fail
      go_ret
      exact ⟨_, rfl, Nat.le_refl _, HF.out, hB⟩
end Go.Proofs.Ytnhlinkkfoojmaa
