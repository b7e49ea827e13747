/- A step is entered: the walk of enter. -/
import Derived.Test.YtnhlinkkfoojmaaGoes
namespace Go.Proofs.Ytnhlinkkfoojmaa
open Go.RowKit
set_option maxRecDepth 100000
set_option linter.unusedSimpArgs false
set_option linter.unusedVariables false
mutual
/-- As the mirror's enter; none where the fuel ends. -/
def enterO : Nat → List Stp → Front → Nat → Nat → Nat → Nat → Option Front
  | 0, _, _, _, _, _, _ => none
  | u + 1, l, f, n, begin_, at_, size => if f.old n begin_ then some f else enterAllO u l (f.set n (some begin_)) (goesOn l n at_ size) begin_ at_ size
def enterAllO : Nat → List Stp → Front → List Nat → Nat → Nat → Nat → Option Front
  | _, _, f, [], _, _, _ => some f
  | 0, _, _, _ :: _, _, _, _ => none
  | u + 1, l, f, k :: ks, begin_, at_, size => (enterO u l f k begin_ at_ size).bind fun f1 => enterAllO u l f1 ks begin_ at_ size
end
def fVal : Option Nat → Int | none => -1 | some b => (b : Int)
def frontVals (f : Front) : Array Value := (f.map fun o => Value.int .i64 (fVal o)).toArray
def FA (w : World) (fb : Nat) (f : Front) : Prop := w.heap[fb]? = some (.cells (frontVals f) 3 (0, 0))
theorem frontVals_get (f : Front) (k : Nat) (hk : k < f.length) : (frontVals f)[k]? = some (.int .i64 (fVal (f.getD k none))) := by
  simp [frontVals, hk]
theorem FA.cell {w : World} {fb : Nat} {f : Front} (h : FA w fb f) (k : Nat) (hk : k < f.length) : w.cell? ⟨fb, k, none⟩ = some (.int .i64 (fVal (f.getD k none))) :=
  (cell_of_row w fb k _ 3 (0, 0) h).trans (frontVals_get f k hk)
theorem FA.froz {w : World} {fb : Nat} {f : Front} (h : FA w fb f) (k : Nat) : w.frozen? ⟨fb, k, none⟩ = false := frozen_of_row w fb k _ 3 h
theorem FA.lt {w : World} {fb : Nat} {f : Front} (h : FA w fb f) : fb < w.heap.size := (Array.getElem?_eq_some_iff.1 h).1
theorem FA.set {w : World} {fb : Nat} {f : Front} (h : FA w fb f) (k : Nat) (b : Nat) : FA (w.setCell ⟨fb, k, none⟩ (.int .i64 (b : Nat))) fb (f.set k (some b)) ∧ w.grownBy (w.setCell ⟨fb, k, none⟩ (.int .i64 (b : Nat))) (some fb) := by
  refine ⟨?_, rfl, rfl, rfl, by simp, fun j _ hj => heap_setCell_other w ⟨fb, k, none⟩ j _ (fun e => hj (by simp [e]))⟩
  unfold FA
  rw [heap_setCell_same w fb k _ 3 _ h]
  congr 2
  simp [frontVals, List.map_set, fVal]
theorem grownBy.trans' {a b c : World} {row : Option Nat} (h : a.grownBy b row) (k : b.grownBy c row) : a.grownBy c row :=
  ⟨k.os.trans h.os, k.tape.trans h.tape, k.output.trans h.output, Nat.le_trans h.size k.size, fun i hi hne => (k.block i (Nat.lt_of_lt_of_le hi h.size) hne).trans (h.block i hi hne)⟩
theorem below_grownBy {a b : World} (h : Below a.heap.size a b) (row : Option Nat) : a.grownBy b row := ⟨h.os, h.tape, h.output, h.size, fun k hk _ => h.block k hk⟩
theorem grownBy_below {a b : World} {fb : Nat} (h : a.grownBy b (some fb)) (B : Nat) (hB : B ≤ fb) (hs : B ≤ a.heap.size) : Below B a b :=
  ⟨h.os, h.tape, h.output, h.size, fun k hk => h.block k (by omega) (fun e => by injection e; omega)⟩
theorem goesOn_length (l : List Stp) (n at_ size : Nat) : (goesOn l n at_ size).length ≤ 2 := by
  rw [goesOn_K]; unfold goesK
  repeat (first | (split) | simp)
theorem enterO_length (l : List Stp) (b at_ size : Nat) : ∀ u, (∀ f k f', enterO u l f k b at_ size = some f' → List.length f' = List.length f) ∧ (∀ f ks f', enterAllO u l f ks b at_ size = some f' → List.length f' = List.length f)
  | 0 => ⟨fun f k f' h => by simp [enterO] at h, fun f ks f' h => by
      cases ks with
      | nil => rw [enterAllO] at h; injection h with h; rw [h]
      | cons k ks => simp [enterAllO] at h⟩
  | u + 1 => by
    obtain ⟨h1, h2⟩ := enterO_length l b at_ size u
    refine ⟨fun f k f' h => ?_, fun f ks f' h => ?_⟩
    · rw [enterO] at h
      split at h
      · injection h with h; rw [h]
      · rw [h2 _ _ _ h, List.length_set]
    · cases ks with
      | nil => rw [enterAllO] at h; injection h with h; rw [h]
      | cons k ks =>
        rw [enterAllO] at h
        cases hE : enterO u l f k b at_ size with
        | none => rw [hE] at h; simp at h
        | some f1 =>
          rw [hE] at h
          rw [h2 _ _ _ h, h1 _ _ _ hE]
/-- The steps that may be gone on to are there. -/
structure WF (l : List Stp) : Prop where
  pos : 0 < l.length
  kinds : ∀ k, k < l.length → (l.getD k default).kind ≤ 6
  next : ∀ k, k < l.length → ∀ at_ size, ∀ t ∈ goesOn l k at_ size, t < l.length
  takes : ∀ k, k < l.length → (l.getD k default).kind = 0 → k + 1 < l.length
set_option maxHeartbeats 8000000 in
theorem enter_any (p G : Nat) (l : List Stp) (n g cap : Nat) (hwf : WF l) (hl : l.length ≤ 100000) (at_ size : Nat) (hsz : size ≤ 100000) (u : Nat) : ∀ (w : World) (fb : Nat) (f f' : Front) (k b : Nat), SG w p G l n g cap → G ≤ fb → FA w fb f → f.length = l.length → k < l.length →
    enterO u l f k b at_ size = some f' →
    Calls Try.prog 21 #[.pointer (some ⟨p, 0, none⟩), .slice (some ⟨fb, 0, none⟩) l.length l.length, .int .i64 (k : Nat), .int .i64 (b : Nat), .int .i64 (at_ : Nat), .int .i64 (size : Nat)] w fun e w' => e = .returned (.tuple #[]) ∧ FA w' fb f' ∧ w.grownBy w' (some fb) := by
  induction u using Nat.strongRecOn with
  | _ u ih =>
  intro w fb f f' k b hSG hG hF hfl hk hO
  have hc1 := hF.cell k (by omega)
  have hz1 := hF.froz k
  have hi1 : decide ((0 : Int) ≤ (k : Int)) = true := decide_eq_true (by omega)
  have hi2 : decide ((k : Int) < (l.length : Int)) = true := decide_eq_true (by omega)
  cases u with
  | zero => simp [enterO] at hO
  | succ u =>
  rw [enterO] at hO
  by_cases hold : f.old k b = true
  · rw [if_pos hold] at hO
    injection hO with hO
    subst hO
    obtain ⟨b0, hb0, hle⟩ : ∃ b0, f.getD k none = some b0 ∧ b0 ≤ b := by
      unfold Front.old at hold
      cases h : f.getD k none with
      | none => rw [h] at hold; cases hold
      | some b0 => rw [h] at hold; exact ⟨b0, rfl, of_decide_eq_true hold⟩
    rw [hb0] at hc1
    have hc2 : w.cell? ⟨fb, k, none⟩ = some (.int .i64 (b0 : Nat)) := hc1
    have hd1 : decide ((b0 : Int) ≥ 0) = true := decide_eq_true (by omega)
    have hd2 : decide ((b0 : Int) ≤ (b : Int)) = true := decide_eq_true (by omega)
    have hd3 : decide (b0 ≤ b) = true := decide_eq_true hle
    have HF := Lib.hid hF
    clear hc1 hold hb0 hF ih
    go_enter Try.func21, Try.ntmps21
    go_wp2_with fail
    refine bodyPost_ret (results_none rfl _ _ _) rfl ?_
    exact ⟨rfl, HF.out, World.grownBy.mk rfl rfl rfl (Nat.le_refl _) (fun _ _ _ => rfl)⟩
  · rw [if_neg hold] at hO
    obtain ⟨hF2, hg2⟩ := hF.set k b
    have hSG2 : SG (w.setCell ⟨fb, k, none⟩ (.int .i64 (b : Nat))) p G l n g cap := hSG.below (grownBy_below hg2 G hG (Nat.le_trans hG (Nat.le_of_lt hF.lt)))
    have gG := goesOn_any _ p G l n g cap hSG2 (by have := hg2.size; have := hF.lt; omega) k hk (hwf.kinds k hk) at_ size hl
    have hnext := hwf.next k hk at_ size
    obtain ⟨ks, hks⟩ : ∃ ks, ks = goesOn l k at_ size := ⟨_, rfl⟩
    have hk2 := goesOn_length l k at_ size
    rw [← hks] at gG hO hnext hk2
    have HO := Lib.hid hO
    have HG2 := Lib.hid hg2
    have HF2 := Lib.hid hF2
    have HS2 := Lib.hid hSG2
    have HNX := Lib.hid hnext
    have HIH := Lib.hid ih
    have hlt := hF.lt
    have hfl2 : (f.set k (some b)).length = l.length := by rw [List.length_set]; exact hfl
    obtain ⟨f2, hf2⟩ : ∃ f2, f2 = f.set k (some b) := ⟨_, rfl⟩
    rw [← hf2] at HF2 HO hfl2
    have hcase : f.getD k none = none ∨ ∃ b0, f.getD k none = some b0 ∧ ¬ b0 ≤ b := by
      unfold Front.old at hold
      cases h : f.getD k none with
      | none => exact .inl rfl
      | some b0 => rw [h] at hold; exact .inr ⟨b0, rfl, fun e => hold (decide_eq_true e)⟩
    obtain ⟨q, hq⟩ : ∃ q, q = fVal (f.getD k none) := ⟨_, rfl⟩
    have hqq : decide (q ≥ 0) = false ∨ (decide (q ≥ 0) = true ∧ decide (q ≤ (b : Int)) = false) := by
      rcases hcase with h | ⟨b0, h, hn⟩
      · left; rw [hq, h]; rfl
      · right; rw [hq, h]; exact ⟨decide_eq_true (by show (b0 : Int) ≥ 0; omega), decide_eq_false (by show ¬ (b0 : Int) ≤ b; omega)⟩
    rw [← hq] at hc1
    clear hF2 hg2 hSG2 hks hf2 hnext ih hO hold hcase hq
    go_enter Try.func21, Try.ntmps21
    go_upto_region 0 with fail
    go_cut [26] (fun v wx => v = .bool false ∧ wx = w)
    case first =>
      rcases hqq with h | ⟨h, h2⟩
      · go_wp2_with fail
        go_meet
        exact ⟨rfl, rfl⟩
      · go_wp2_with fail
        go_meet
        exact ⟨rfl, rfl⟩
    case rest =>
      obtain ⟨rfl, rfl⟩ := hcut
      clear hqq
      obtain ⟨W, hW⟩ : ∃ W, W = wc := ⟨_, rfl⟩
      have HWe := Lib.hid hW
      clear hW
      go_upto_region 3 with (go_at_call 28; ((with_reducible refine gG.mono ?_); rintro e w2 ⟨v, rfl, hN, hB2⟩); rcases hN with ⟨hks0, rfl⟩ | ⟨b1, rfl, hb1, hblk⟩)
      · have hgr := grownBy.trans' HG2.out (below_grownBy hB2 (some fb))
        have hFA2 : FA w2 fb f2 := (hB2.block fb (by have := HG2.out.size; omega)).trans HF2.out
        rw [hks0, enterAllO] at HO
        have hf2 : f2 = f' := by injection HO.out
        have HGR := Lib.hid hgr
        have HFA2 := Lib.hid hFA2
        have HFE := Lib.hid hf2
        clear hks0 hgr hFA2 hf2 HO hB2 gG
        go_loopw [13, 37] (fun _ v37 wr => v37 = .int .i64 (0 : Int) ∧ wr = w2) (fun _ _ _ => 0)
        case atStart => exact ⟨rfl, rfl⟩
        case round =>
          obtain ⟨rfl, rfl⟩ := hrel
          go_wp2_with fail
          go_end0
          exact ⟨rfl, by rw [← HFE.out]; exact HFA2.out, HGR.out⟩
      · have hgr := grownBy.trans' HG2.out (below_grownBy hB2 (some fb))
        have hFA2 : FA w2 fb f2 := (hB2.block fb (by have := HG2.out.size; omega)).trans HF2.out
        have hbne : b1 ≠ fb := by have := HG2.out.size; omega
        have HGR := Lib.hid hgr
        have HFA2 := Lib.hid hFA2
        have HBL := Lib.hid hblk
        clear hgr hFA2 hblk hB2 gG
        go_loopw [13, 37] (fun _ v37 wr => ∃ j f1 u1, j ≤ ks.length ∧ v37 = .int .i64 (j : Nat) ∧ FA wr fb f1 ∧ List.length f1 = l.length ∧ wc.grownBy wr (some fb) ∧ Hid (enterAllO u1 l f1 (ks.drop j) b at_ size = some f') ∧ u1 ≤ u ∧ Hid (wr.heap[b1]? = some (.cells (natVals ks) 3 (0, 0)))) (fun _ v37 _ => ks.length - (intOf v37).toNat)
        case atStart => exact ⟨0, f2, u, Nat.zero_le _, rfl, HFA2.out, hfl2, HGR.out, HO.out, Nat.le_refl _, HBL.out⟩
        case round =>
          obtain ⟨j, f1, u1, hj, rfl, hFA, hfl1, hgr, hEO, hu1, hbl⟩ := hrel
          have HFA := Lib.hid hFA
          have HGR2 := Lib.hid hgr
          clear hFA hgr
          by_cases hjk : j < ks.length
          · have hd1 : decide ((j : Int) < (ks.length : Int)) = true := decide_eq_true (by omega)
            have hd2 : decide (j < ks.length) = true := decide_eq_true hjk
            have hi3 : decide ((0 : Int) ≤ (j : Int)) = true := decide_eq_true (by omega)
            obtain ⟨t, ht⟩ : ∃ t, t = ks[j] := ⟨_, rfl⟩
            have hct : wr.cell? ⟨b1, j, none⟩ = some (.int .i64 (t : Nat)) := by
              refine (cell_of_row wr b1 j _ 3 (0, 0) hbl.out).trans ?_
              simp [natVals, hjk, ht]
            have htl : t < l.length := HNX.out t (by rw [ht]; exact List.getElem_mem hjk)
            have hdrop : ks.drop j = t :: ks.drop (j + 1) := by rw [List.drop_eq_getElem_cons hjk, ht]
            obtain ⟨u2, hu2, f3, hE1, hE2⟩ : ∃ u2, u1 = u2 + 1 ∧ ∃ f3, enterO u2 l f1 t b at_ size = some f3 ∧ enterAllO u2 l f3 (ks.drop (j + 1)) b at_ size = some f' := by
              have h := hEO.out
              rw [hdrop] at h
              cases u1 with
              | zero => simp [enterAllO] at h
              | succ u2 =>
                rw [enterAllO] at h
                cases h2 : enterO u2 l f1 t b at_ size with
                | none => rw [h2] at h; simp at h
                | some f3 => rw [h2] at h; exact ⟨u2, rfl, f3, h2, h⟩
            have hSGr : SG wr p G l n g cap := hSG.below (grownBy_below HGR2.out G hG (Nat.le_trans hG (Nat.le_of_lt hlt)))
            have g21 := HIH.out u2 (by omega) wr fb f1 f3 t b hSGr hG HFA.out hfl1 htl hE1
            have hfl3 : List.length f3 = l.length := ((enterO_length l b at_ size u2).1 _ _ _ hE1).trans hfl1
            have HE2 := Lib.hid hE2
            have HU2 := Lib.hid hu2
            have hb1lt : b1 < wr.heap.size := (Array.getElem?_eq_some_iff.1 hbl.out).1
            clear ht hdrop hE1 hE2 hSGr hu2
            go_wp2_with (go_at_call 21; ((with_reducible refine g21.mono ?_); rintro e w4 ⟨rfl, hFA4, hg4⟩))
            go_roundw
            case rel => exact ⟨j + 1, f3, u2, by omega, by go_num, hFA4, hfl3, grownBy.trans' HGR2.out hg4, HE2.out, by have := HU2.out; omega, (hg4.block b1 hb1lt (fun e => by injection e; omega)).trans hbl.out⟩
            case measure => simp [intOf]; omega
          · obtain rfl : j = ks.length := by omega
            have hfe : f1 = f' := by
              have h := hEO.out
              rw [List.drop_length, enterAllO] at h
              injection h
            have HFE := Lib.hid hfe
            clear hfe
            go_wp2_with fail
            go_end0
            exact ⟨rfl, by rw [← HFE.out]; exact HFA.out, HGR2.out⟩
end Go.Proofs.Ytnhlinkkfoojmaa
