/- A group: the walk of group, from that of pieces. -/
import Derived.Test.YtnhlinkkfoojmaaGd
namespace Go.Proofs.Ytnhlinkkfoojmaa
open Go.RowKit
set_option maxRecDepth 100000
set_option linter.unusedSimpArgs false
set_option linter.unusedVariables false
def Post2 (p : Nat) (s : ByteArray) (w : World) : Option (Rdr × Bool) → Ending → World → Prop
  | none, e, w' => e = .panicked wrongs ∧ Below p w w'
  | some (r', b), e, w' => e = .returned (.bool b) ∧ RA w' p s r' ∧ Below p w w'
def Post3 (p : Nat) (s : ByteArray) (w : World) : Option (Rdr × Bool × Bool) → Ending → World → Prop
  | none, e, w' => e = .panicked wrongs ∧ Below p w w'
  | some (r', b, st), e, w' => e = .returned (.tuple #[.bool b, .bool st]) ∧ RA w' p s r' ∧ Below p w w'
def C12 (s : ByteArray) (f : Nat) : Prop := ∀ p w r, RA w p s r → Gd s.size r → 8 + 4 * (s.size - r.i) ≤ f → Calls Try.prog 12 #[.pointer (some ⟨p, 0, none⟩)] w (Post2 p s w (pieces f s.data.toList { r with first := true } true))
def C32 (s : ByteArray) (f : Nat) : Prop := ∀ p w r, RA w p s r → Gd s.size r → r.l.length + 2 ≤ 2 * r.i → r.deep + 2 ≤ r.i → 9 + 4 * (s.size - r.i) ≤ f → Calls Try.prog 32 #[.pointer (some ⟨p, 0, none⟩)] w (Post2 p s w (group f s.data.toList r))
def C26 (s : ByteArray) (f : Nat) : Prop := ∀ p w r, RA w p s r → Gd s.size r → r.l.length + 2 ≤ 2 * r.i → r.deep + 1 ≤ r.i → 6 + 4 * (s.size - r.i) ≤ f → Calls Try.prog 26 #[.pointer (some ⟨p, 0, none⟩)] w (Post2 p s w (stroke f s.data.toList r))
def C17 (s : ByteArray) (f : Nat) : Prop := ∀ p w r, RA w p s r → Gd s.size r → r.i < s.size → 7 + 4 * (s.size - r.i) ≤ f → Calls Try.prog 17 #[.pointer (some ⟨p, 0, none⟩)] w (Post3 p s w (piece f s.data.toList r))
theorem size_list (s : ByteArray) : s.data.toList.length = s.size := by simp
def gTail (L : List UInt8) (n : Nat) : Option (Rdr × Bool) → Option (Rdr × Bool)
  | none => none
  | some (r2, empty) => if r2.at' L [92, 41] = true then some ({ r2 with i := r2.i + 2, deep := r2.deep - 1, l := r2.l ++ [⟨noSet, 5, 2 * n + 1⟩] }, empty) else none
theorem group_eq (f : Nat) (L : List UInt8) (r : Rdr) : group (f + 1) L r = if r.groups + 1 ≤ 9 then
    gTail L (r.groups + 1) (pieces f L { r with groups := r.groups + 1, l := r.l ++ [⟨noSet, 5, 2 * (r.groups + 1)⟩], deep := r.deep + 1, first := true } true) else none := by
  rw [group]
  simp only
  split
  · cases pieces f L { r with groups := r.groups + 1, l := r.l ++ [⟨noSet, 5, 2 * (r.groups + 1)⟩], deep := r.deep + 1, first := true } true <;> rfl
  · rfl
set_option maxHeartbeats 8000000 in
theorem group_step (s : ByteArray) (hs : s.size ≤ 1000) (f : Nat) (h12 : C12 s f) : C32 s (f + 1) := by
  intro p w r hRA hg hl hd hf
  obtain ⟨v, hR⟩ := hRA
  have hgrp := hg.grp
  have hdeep := hg.deep
  have hile := hg.i
  obtain ⟨n, hn⟩ : ∃ n, n = r.groups + 1 := ⟨_, rfl⟩
  obtain ⟨out, hout⟩ : ∃ o, o = group (f + 1) s.data.toList r := ⟨_, rfl⟩
  rw [← hout]
  rw [group_eq] at hout
  rw [← hn] at hout
  have HO := Lib.hid hout
  have hc1 := hR.c1
  have hz1 := hR.froz 1
  have hR1 : RV (w.setCell ⟨p, 1, none⟩ (.int .i64 n)) p s { r with groups := n } v := hR.put1 n
  have hB1 : Below p w (w.setCell ⟨p, 1, none⟩ (.int .i64 n)) := (Below.refl p w).setCell (p := ⟨p, 1, none⟩) (Nat.le_refl _) _
  rw [show ((n : Nat) : Int) = (r.groups : Int) + 1 by omega] at hR1 hB1
  have HR1 := Lib.hid hR1
  have HR := Lib.hid hR
  have HN := Lib.hid hn
  have hni : ((r.groups : Int) + 1) = (n : Int) := by omega
  have HNI := Lib.hid hni
  clear hout hR1 hR hn hni
  go_enter Try.func32, Try.ntmps32
  by_cases h9 : n ≤ 9
  · have hle : decide ((r.groups : Int) + 1 ≤ 9) = true := decide_eq_true (by have := HNI.out; omega)
    go_upto_region 4 with (go_at_call 18; ((with_reducible refine (must_yes _).mono ?_); rintro e w3 ⟨rfl, rfl⟩))
    have hg1 : Gd s.size ({ r with groups := n } : Rdr) := ⟨hile, hg.len, h9, hdeep, hg.tos, hg.sets⟩
    have hgA := hg1.add ⟨noSet, 5, 2 * n⟩ (by show 2 * n ≤ r.l.length + 21; omega) (by rfl) (by show r.l.length + 1 ≤ 2 * r.i; omega)
    have gA := add_any p _ s { r with groups := n } ⟨noSet, 5, 2 * n⟩ (by rfl) HR1.out.ra (by show r.l.length ≤ 100000; omega) _ (List.toList_toArray ..)
    have HGA := Lib.hid hgA
    clear hg1 hgA
    go_upto_region 6 with (first
      | ((with_reducible refine wpList_build_kt rfl 5 (.tmp 24) rfl (2 * n) ?_ ?_); (exact congrArg (Value.int .i64) (by have := HNI.out; omega)))
      | (go_at_call 13; ((with_reducible refine gA.mono ?_); rintro e w3 ⟨rfl, hRA3, hB3⟩); (obtain ⟨v3, hR3⟩ := hRA3); have hc4 : w3.cell? ⟨p, 4, none⟩ = some (.int .i64 (r.deep : Nat)) := hR3.c4; have hz4 := hR3.froz 4; have HR3 := Lib.hid hR3; clear hR3))
    have hR4 := HR3.out.put4 (r.deep + 1)
    have hB4 : Below p w3 (w3.setCell ⟨p, 4, none⟩ (.int .i64 (r.deep + 1 : Nat))) := (Below.refl p w3).setCell (p := ⟨p, 4, none⟩) (Nat.le_refl _) _
    rw [show ((r.deep + 1 : Nat) : Int) = (r.deep : Int) + 1 by omega] at hR4 hB4
    obtain ⟨R3, hR3e⟩ : ∃ R, R = ({ r with groups := n, l := r.l ++ [⟨noSet, 5, 2 * n⟩], deep := r.deep + 1 } : Rdr) := ⟨_, rfl⟩
    have hR5 : RV (w3.setCell ⟨p, 4, none⟩ (.int .i64 ((r.deep : Int) + 1))) p s R3 v3 := by rw [hR3e]; exact hR4
    have hGd3 : Gd s.size R3 := by
      have h := HGA.out
      rw [hR3e]
      exact ⟨h.i, h.len, h.grp, by show r.deep + 1 ≤ r.i; omega, h.tos, h.sets⟩
    have hi3 : R3.i = r.i := by rw [hR3e]
    have hd3 : R3.deep = r.deep + 1 := by rw [hR3e]
    have g12 := h12 p _ R3 hR5.ra hGd3 (by rw [hi3]; omega)
    obtain ⟨o2, ho2⟩ : ∃ o, o = pieces f s.data.toList { R3 with first := true } true := ⟨_, rfl⟩
    rw [← ho2] at g12
    have hout2 : out = gTail s.data.toList n o2 := by
      rw [HO.out, if_pos h9, ho2, hR3e]
    have HO2 := Lib.hid hout2
    have HP := Lib.hid ho2
    have HB := Lib.hid (hB1.trans (hB3.trans hB4))
    have HG3 := Lib.hid hGd3
    have HD3 := Lib.hid hd3
    clear hR4 hR5 hR3e hGd3 hi3 hd3 ho2 hout2 HO hB1 hB3 hB4 hc1 hz1 hc4 hz4 gA
    cases o2 with
    | none =>
      have hon : out = none := HO2.out
      subst hon
      go_wp2_with (go_at_call 12; ((with_reducible refine g12.mono ?_); rintro e w4 ⟨rfl, hB5⟩))
      exact ⟨rfl, rfl, HB.out.trans hB5⟩
    | some x =>
      obtain ⟨r2, b⟩ := x
      have hOn := (allOn s.data.toList f).pieces { R3 with first := true } true r2 b (by rw [size_list]; exact HG3.out.put rfl rfl rfl (Nat.le_refl _) HG3.out.i) HP.out.symm
      rw [size_list] at hOn
      have hi2 : r2.i ≤ s.size := hOn.gd.i
      have hd2 : r2.deep = r.deep + 1 := hOn.deep.trans HD3.out
      have hl2 := hOn.gd.len
      obtain ⟨b2, hb2⟩ : ∃ b2, b2 = r2.at' s.data.toList (⟨#[92, 41]⟩ : ByteArray).data.toList := ⟨_, rfl⟩
      have HB2 := Lib.hid hb2
      clear hb2 hOn
      cases b2 with
      | false =>
        have hon : out = none := by
          rw [HO2.out]
          show (if r2.at' s.data.toList [92, 41] = true then _ else none) = none
          rw [if_neg]
          intro e
          have := HB2.out.trans e
          cases this
        subst hon
        clear HO2
        go_wp2_with (first
          | (go_at_call 12; ((with_reducible refine g12.mono ?_); rintro e w4 ⟨rfl, hR5, hB5⟩); (obtain ⟨v5, hR5⟩ := hR5); (have g16 := at_r hR5 hi2 (by omega) ⟨#[92, 41]⟩ (by decide) false HB2.out); (have HR5 := Lib.hid hR5); (clear hR5))
          | (go_at_call 16; ((with_reducible refine g16.mono ?_); rintro e w5 ⟨rfl, hs5⟩))
          | (go_at_call 18; ((with_reducible refine (must_no _).mono ?_); rintro e w6 ⟨rfl, rfl⟩)))
        exact ⟨rfl, rfl, (HB.out.trans hB5).trans (hs5.below p)⟩
      | true =>
        have hon : out = some ({ r2 with i := r2.i + 2, deep := r2.deep - 1, l := r2.l ++ [⟨noSet, 5, 2 * n + 1⟩] }, b) := by
          rw [HO2.out]
          show (if r2.at' s.data.toList [92, 41] = true then _ else none) = _
          rw [if_pos HB2.out.symm]
        subst hon
        clear HO2
        go_upto_region 8 with (first
          | (go_at_call 12; ((with_reducible refine g12.mono ?_); rintro e w4 ⟨rfl, hR5, hB5⟩); (obtain ⟨v5, hR5⟩ := hR5); (have g16 := at_r hR5 hi2 (by omega) ⟨#[92, 41]⟩ (by decide) true HB2.out); (have HR5 := Lib.hid hR5); (clear hR5))
          | (go_at_call 16; ((with_reducible refine g16.mono ?_); rintro e w5 ⟨rfl, hs5⟩))
          | (go_at_call 18; ((with_reducible refine (must_yes _).mono ?_); rintro e w6 ⟨rfl, rfl⟩)))
        have hR6 := HR5.out.same hs5
        have hc3 := hR6.c3
        have hc4 := hR6.c4
        rw [hd2] at hc4
        have hz3 := hR6.froz 3
        have hz4 := hR6.froz 4
        have hR7 := (hR6.put3 (r2.i + 2)).put4 r.deep
        have hB7 : Below p w ((w6.setCell ⟨p, 3, none⟩ (.int .i64 (r2.i + 2 : Nat))).setCell ⟨p, 4, none⟩ (.int .i64 (r.deep : Nat))) := (((HB.out.trans hB5).trans (hs5.below p)).setCell (p := ⟨p, 3, none⟩) (Nat.le_refl _) _).setCell (p := ⟨p, 4, none⟩) (Nat.le_refl _) _
        rw [show ((r2.i + 2 : Nat) : Int) = (r2.i : Int) + 2 by omega] at hR7 hB7
        have gB := add_any p _ s _ ⟨noSet, 5, 2 * n + 1⟩ (by rfl) hR7.ra (by show r2.l.length ≤ 100000; omega) _ (List.toList_toArray ..)
        have HB7 := Lib.hid hB7
        clear hR7 hR6 hB7
        go_wp2_with (first
          | ((with_reducible refine wpList_build_kt rfl 5 (.tmp 56) rfl (2 * n + 1) ?_ ?_); (exact congrArg (Value.int .i64) (by have := HNI.out; omega)))
          | (go_at_call 13; ((with_reducible refine gB.mono ?_); rintro e w7 ⟨rfl, hR8, hB8⟩)))
        go_ret
        refine ⟨rfl, ?_, HB7.out.trans hB8⟩
        have e : r2.deep - 1 = r.deep := by omega
        rw [e]
        exact hR8
  · have hle : decide ((r.groups : Int) + 1 ≤ 9) = false := decide_eq_false (by have := HNI.out; omega)
    have hon : out = none := by rw [HO.out, if_neg h9]
    subst hon
    clear HO
    go_wp2_with (go_at_call 18; ((with_reducible refine (must_no _).mono ?_); rintro e w3 ⟨rfl, rfl⟩))
    exact ⟨rfl, rfl, hB1⟩
end Go.Proofs.Ytnhlinkkfoojmaa
