/- From which steps the end can be reached: the closure of reach. -/
import Derived.Test.YtnhlinkkfoojmaaTotal
namespace Go.Proofs.Ytnhlinkkfoojmaa
open Go.RowKit
set_option maxRecDepth 100000
set_option linter.unusedSimpArgs false
set_option linter.unusedVariables false
/-- A row of truths. -/
def boolVals (t : List Bool) : Array Value := (t.map Value.bool).toArray
def BA (w : World) (b : Nat) (t : List Bool) : Prop := w.heap[b]? = some (.cells (boolVals t) 4 (0, 0))
theorem BA.cell {w : World} {b : Nat} {t : List Bool} (h : BA w b t) (k : Nat) (hk : k < t.length) : w.cell? ⟨b, k, none⟩ = some (.bool (t.getD k false)) := by
  refine (cell_of_row w b k _ 4 (0, 0) h).trans ?_
  simp [boolVals, hk]
theorem BA.froz {w : World} {b : Nat} {t : List Bool} (h : BA w b t) (k : Nat) : w.frozen? ⟨b, k, none⟩ = false := frozen_of_row w b k _ 4 h
theorem BA.set {w : World} {b : Nat} {t : List Bool} (h : BA w b t) (k : Nat) (x : Bool) : BA (w.setCell ⟨b, k, none⟩ (.bool x)) b (t.set k x) ∧ w.grownBy (w.setCell ⟨b, k, none⟩ (.bool x)) (some b) := by
  refine ⟨?_, rfl, rfl, rfl, by simp, fun j _ hj => heap_setCell_other w ⟨b, k, none⟩ j _ (fun e => hj (by simp [e]))⟩
  unfold BA
  rw [heap_setCell_same w b k _ 4 _ h]
  congr 2
  simp [boolVals, List.map_set]
/-- What the closure sees: the boxed variables, the row of the round, the next place's row. -/
structure CanW (w : World) (p G : Nat) (l : List Stp) (n g cap : Nat) (s : ByteArray) (lo hi at_ q mb ab tb lb nb : Nat) (cur nxt : List Bool) : Prop where
  sg : SG w p G l n g cap
  v23 : w.heap[q]? = some (.cells #[.pointer (some ⟨p, 0, none⟩)] 23 (0, 0))
  v9 : w.heap[q + 1]? = some (.cells #[.string s] 9 (0, 0))
  v30 : w.heap[q + 2]? = some (.cells #[.int .i64 (lo : Nat), .int .i64 (hi : Nat)] 30 (0, 0))
  v63 : w.heap[mb]? = some (.cells #[.slice (some ⟨q + 3, 0, none⟩) (hi - lo + 1) (hi - lo + 1)] 63 (0, 0))
  vat : w.heap[ab]? = some (.cells #[.int .i64 (at_ : Nat)] 3 (0, 0))
  vl : w.heap[tb]? = some (.cells #[.slice (some ⟨lb, 0, none⟩) l.length l.length] 65 (0, 0))
  row : BA w lb cur
  len : cur.length = l.length
  nxt : at_ < hi → w.cell? ⟨q + 3, at_ + 1 - lo, none⟩ = some (.slice (some ⟨nb, 0, none⟩) l.length l.length) ∧ BA w nb nxt ∧ nxt.length = l.length
theorem cell1 {w : World} {b : Nat} {v : Value} {t : TypeId} (h : w.heap[b]? = some (.cells #[v] t (0, 0))) : w.cell? ⟨b, 0, none⟩ = some v := cell_of_row w b 0 _ t (0, 0) h
set_option maxHeartbeats 8000000 in
theorem can_any (w : World) (p G : Nat) (l : List Stp) (n g cap : Nat) (s : ByteArray) (lo hi at_ q mb ab tb lb nb : Nat) (cur nxt : List Bool) (h : CanW w p G l n g cap s lo hi at_ q mb ab tb lb nb cur nxt) (hwf : WF l) (hl : l.length ≤ 100000)
    (hG : G ≤ w.heap.size) (hs : s.size ≤ 1000) (hlo : lo ≤ at_) (hat : at_ ≤ hi) (hhi : hi ≤ s.size) (k : Nat) (hk : k < l.length) :
    Calls Try.prog 29 #[.int .i64 (k : Nat), .pointer (some ⟨q, 0, none⟩), .pointer (some ⟨ab, 0, none⟩), .pointer (some ⟨q + 2, 0, none⟩), .pointer (some ⟨q + 1, 0, none⟩), .pointer (some ⟨mb, 0, none⟩), .pointer (some ⟨tb, 0, none⟩)] w
      fun e w' => e = .returned (.bool (canStep l s.data.toList hi at_ nxt cur k)) ∧ Below w.heap.size w w' := by
  obtain ⟨out, hout⟩ : ∃ o, o = canStep l s.data.toList hi at_ nxt cur k := ⟨_, rfl⟩
  rw [← hout]
  have HO := Lib.hid hout
  have c0 := h.sg.c0
  have ck := h.sg.kind k hk
  have c23 := cell1 h.v23
  have c9 := cell1 h.v9
  have clo : w.cell? ⟨q + 2, 0, none⟩ = some (.int .i64 (lo : Nat)) := cell_of_row w (q + 2) 0 _ 30 (0, 0) h.v30
  have chi : w.cell? ⟨q + 2, 1, none⟩ = some (.int .i64 (hi : Nat)) := cell_of_row w (q + 2) 1 _ 30 (0, 0) h.v30
  have c63 := cell1 h.v63
  have cat := cell1 h.vat
  have cl := cell1 h.vl
  have hkd6 := hwf.kinds k hk
  obtain ⟨kd, hkd⟩ : ∃ kd, kd = (l.getD k default).kind := ⟨_, rfl⟩
  rw [← hkd] at ck hkd6
  have HKD := Lib.hid hkd
  have HH := Lib.hid h
  have hi1 : decide ((0 : Int) ≤ (k : Int)) = true := decide_eq_true (by omega)
  have hi2 : decide ((k : Int) < (l.length : Int)) = true := decide_eq_true (by omega)
  have gG := goesOn_any w p G l n g cap h.sg hG k hk (hwf.kinds k hk) at_ s.size hl
  clear hout hkd h
  go_enter Try.func29, Try.ntmps29
  by_cases hk0 : kd = 0
  · have hq0 : ((kd : Int) == 0) = true := by rw [hk0]; rfl
    have hk1 : k + 1 < l.length := hwf.takes k hk (by rw [← HKD.out]; exact hk0)
    by_cases hlt : at_ < hi
    · obtain ⟨hn1, hn2, hn3⟩ := HH.out.nxt hlt
      obtain ⟨c, hc⟩ : ∃ c, c = s.data.toList.getD at_ 0 := ⟨_, rfl⟩
      have hic := fun wx => idx_run s at_ (by omega) (at_ : Int) rfl c hc wx
      have hcc : c.toNat < 256 := c.toNat_lt
      have hcbit := HH.out.sg.bit k c.toNat hk hcc
      have hnx := hn2.cell (k + 1) (by omega)
      obtain ⟨bt, hbt⟩ : ∃ bt, bt = (l.getD k default).has.getD c.toNat false := ⟨_, rfl⟩
      obtain ⟨nt, hnt⟩ : ∃ nt, nt = nxt.getD (k + 1) false := ⟨_, rfl⟩
      rw [← hbt] at hcbit
      rw [← hnt] at hnx
      have hon : out = (bt && nt) := by
        rw [HO.out, canStep]
        rw [← HKD.out, if_pos hk0, ← hc, ← hbt, ← hnt, decide_eq_true hlt]
        rfl
      obtain ⟨d, hd⟩ : ∃ d, d = at_ + 1 - lo := ⟨_, rfl⟩
      rw [← hd] at hn1
      have hdi : (at_ : Int) + 1 - (lo : Int) = (d : Int) := by omega
      have hw1 : IntKind.i64.wrap ((at_ : Int) + 1) = (at_ : Int) + 1 := IntWalk.i64_in _ (by omega)
      have hw2 : IntKind.i64.wrap ((at_ : Int) + 1 - (lo : Int)) = (d : Int) := by rw [IntWalk.i64_in _ (by omega)]; exact hdi
      have hw3 : IntKind.i64.wrap ((k : Int) + 1) = ((k + 1 : Nat) : Int) := by rw [IntWalk.i64_in _ (by omega)]; omega
      have hd1 : decide ((at_ : Int) < (hi : Int)) = true := decide_eq_true (by omega)
      have hd1' : decide (at_ < hi) = true := decide_eq_true hlt
      have hi3 : decide ((0 : Int) ≤ (d : Int)) = true := decide_eq_true (by omega)
      have hi4 : decide ((d : Int) < ((hi - lo + 1 : Nat) : Int)) = true := decide_eq_true (by omega)
      have hi5 : decide ((0 : Int) ≤ (c.toNat : Int)) = true := decide_eq_true (by omega)
      have hi6 : decide ((c.toNat : Int) < 256) = true := decide_eq_true (by omega)
      have hi7 : decide ((0 : Int) ≤ ((k + 1 : Nat) : Int)) = true := decide_eq_true (by omega)
      have hi8 : decide (((k + 1 : Nat) : Int) < (l.length : Int)) = true := decide_eq_true (by omega)
      have HON := Lib.hid hon
      have hdlt : d < hi - lo + 1 := by omega
      clear hon HO hc hbt hnt hd hn2 hn3 hk0 hdi
      cases bt with
      | false =>
        go_upto_region 3 with fail
        go_quiet (fail)
        go_wp2_with fail
        go_ret
        exact ⟨by rw [HON.out]; rfl, (Same.drew _ _).below _⟩
      | true =>
        go_upto_region 3 with fail
        go_quiet (fail)
        go_wp2_with fail
        go_ret
        exact ⟨by rw [HON.out]; rfl, (Same.drew _ _).below _⟩
    · have hd1 : decide ((at_ : Int) < (hi : Int)) = false := decide_eq_false (by omega)
      have hd1' : decide (at_ < hi) = false := decide_eq_false hlt
      have hon : out = false := by
        rw [HO.out, canStep]
        rw [← HKD.out, if_pos hk0, decide_eq_false hlt]
        rfl
      have HON := Lib.hid hon
      clear hon HO hk0
      go_upto_region 3 with fail
      go_quiet (fail)
      go_wp2_with fail
      go_ret
      exact ⟨by rw [HON.out]; rfl, (Same.drew _ _).below _⟩
  have hq0 : ((kd : Int) == 0) = false := by rw [beq_eq_false_iff_ne]; omega
  by_cases hk6 : kd = 6
  · have hq6 : ((kd : Int) == 6) = true := by rw [hk6]; rfl
    have hon : out = decide (at_ = hi) := by
      rw [HO.out, canStep]
      rw [← HKD.out, if_neg hk0, if_pos hk6]
    have HON := Lib.hid hon
    have hqe : ((at_ : Int) == (hi : Int)) = decide (at_ = hi) := by
      rw [Bool.eq_iff_iff, beq_iff_eq, decide_eq_true_iff]; omega
    clear hon HO hk0 hk6
    go_wp2_with fail
    go_ret
    exact ⟨by rw [HON.out]; rfl, Below.refl _ _⟩
  have hq6 : ((kd : Int) == 6) = false := by rw [beq_eq_false_iff_ne]; omega
  have hon : out = (goesOn l k at_ s.size).any fun j => cur.getD j false := by
    rw [HO.out, canStep]
    rw [← HKD.out, if_neg hk0, if_neg hk6, size_list]
  have hnext := hwf.next k hk at_ s.size
  have hk2 := goesOn_length l k at_ s.size
  obtain ⟨ks, hks⟩ : ∃ ks, ks = goesOn l k at_ s.size := ⟨_, rfl⟩
  rw [← hks] at gG hnext hk2 hon
  have HON := Lib.hid hon
  have HNX := Lib.hid hnext
  clear hon hnext hks HO hk0 hk6
  go_upto_region 7 with (go_at_call 28; ((with_reducible refine gG.mono ?_); rintro e w2 ⟨v, rfl, hN, hB2⟩); rcases hN with ⟨hks0, rfl⟩ | ⟨b1, rfl, hb1, hblk⟩)
  · have ho : out = false := by rw [HON.out, hks0]; rfl
    have HOF := Lib.hid ho
    clear ho HON hks0
    go_loopw [11, 68] (fun _ v68 wr => v68 = .int .i64 (0 : Int) ∧ wr = w2) (fun _ _ _ => 0)
    case atStart => exact ⟨rfl, rfl⟩
    case round =>
      obtain ⟨rfl, rfl⟩ := hrel
      go_wp2_with fail
      go_ret
      exact ⟨by rw [HOF.out]; rfl, hB2⟩
  · have hrow2 : BA w2 lb cur := (hB2.block lb (by have := (Array.getElem?_eq_some_iff.1 HH.out.row).1; exact this)).trans HH.out.row
    have hvl2 : w2.heap[tb]? = some (.cells #[.slice (some ⟨lb, 0, none⟩) l.length l.length] 65 (0, 0)) := (hB2.block tb (by have := (Array.getElem?_eq_some_iff.1 HH.out.vl).1; exact this)).trans HH.out.vl
    have cl2 := cell1 hvl2
    have HROW := Lib.hid hrow2
    have HBL := Lib.hid hblk
    clear hrow2 hvl2 hblk
    go_loopw [11, 68] (fun _ v68 wr => ∃ j : Nat, j ≤ ks.length ∧ v68 = .int .i64 (j : Nat) ∧ wr = w2 ∧ Hid (out = (ks.drop j).any fun j => cur.getD j false)) (fun _ v68 _ => ks.length - (intOf v68).toNat)
    case atStart => exact ⟨0, Nat.zero_le _, rfl, rfl, HON.out⟩
    case round =>
      obtain ⟨j, hj, rfl, rfl, hOJ⟩ := hrel
      by_cases hjk : j < ks.length
      · have hd1 : decide ((j : Int) < (ks.length : Int)) = true := decide_eq_true (by omega)
        have hd2 : decide (j < ks.length) = true := decide_eq_true hjk
        have hi3 : decide ((0 : Int) ≤ (j : Int)) = true := decide_eq_true (by omega)
        obtain ⟨t, ht⟩ : ∃ t, t = ks[j] := ⟨_, rfl⟩
        have hct : wr.cell? ⟨b1, j, none⟩ = some (.int .i64 (t : Nat)) := by
          refine (cell_of_row wr b1 j _ 3 (0, 0) HBL.out).trans ?_
          simp [natVals, hjk, ht]
        have htl : t < l.length := HNX.out t (by rw [ht]; exact List.getElem_mem hjk)
        have hcr := HROW.out.cell t (by rw [HH.out.len]; exact htl)
        obtain ⟨x, hx⟩ : ∃ x, x = cur.getD t false := ⟨_, rfl⟩
        rw [← hx] at hcr
        have hdrop : out = (x || (ks.drop (j + 1)).any fun j => cur.getD j false) := by
          rw [hOJ.out, List.drop_eq_getElem_cons hjk, ← ht, List.any_cons, hx]
        have HDR := Lib.hid hdrop
        have hi4 : decide ((0 : Int) ≤ (t : Int)) = true := decide_eq_true (by omega)
        have hi5 : decide ((t : Int) < (l.length : Int)) = true := decide_eq_true (by omega)
        clear ht hx hdrop hOJ
        cases x with
        | true =>
          go_wp2_with fail
          go_ret
          exact ⟨by rw [HDR.out]; rfl, hB2⟩
        | false =>
          go_wp2_with fail
          go_roundw
          case rel => exact ⟨j + 1, by omega, by go_num, trivial, by show _ = _; rw [HDR.out]; rfl⟩
          case measure => simp [intOf]; omega
      · obtain rfl : j = ks.length := by omega
        have ho : out = false := by rw [hOJ.out, List.drop_length]; rfl
        have HOF := Lib.hid ho
        clear ho hOJ
        go_wp2_with fail
        go_ret
        exact ⟨by rw [HOF.out]; rfl, hB2⟩
end Go.Proofs.Ytnhlinkkfoojmaa
