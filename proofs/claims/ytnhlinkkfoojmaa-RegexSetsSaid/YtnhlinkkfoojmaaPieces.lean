/- Pieces up to the end: the walk of pieces, from that of piece; and all four, by induction on the fuel. -/
import Derived.Test.YtnhlinkkfoojmaaPiece
import Derived.Deep.LoopGhost
namespace Go.Proofs.Ytnhlinkkfoojmaa
open Go.RowKit
set_option maxRecDepth 100000
set_option linter.unusedSimpArgs false
set_option linter.unusedVariables false
theorem RV.form {w : World} {p : Nat} {s : ByteArray} {r : Rdr} {v : Value} (h : RV w p s r v) : ∃ a cap, v = .slice a r.l.length cap := by
  rcases h.own.2 with ⟨rfl, h0⟩ | ⟨g, cap, cur, rfl, _⟩
  · exact ⟨none, 0, by rw [h0]⟩
  · exact ⟨_, _, rfl⟩
/-- One piece has been read: what then? -/
def pTail (f : Nat) (L : List UInt8) (r : Rdr) (all : Bool) : Option (Rdr × Bool × Bool) → Option (Rdr × Bool)
  | none => none
  | some (r1, empty, star) =>
    if star = true ∧ r1.at' L [42] = true then
      if empty = false ∧ ({ r1 with i := r1.i + 1 } : Rdr).at' L [42] = false then pieces f L { r1 with i := r1.i + 1, l := again r1.l r.l.length } (all && true) else none
    else pieces f L r1 (all && empty)
theorem pieces_eq (f : Nat) (L : List UInt8) (r : Rdr) (all : Bool) : pieces (f + 1) L r all =
    if r.i < L.length ∧ (r.deep = 0 ∨ r.at' L [92, 41] = false) then pTail f L r all (piece f L r) else some ({ r with first := false }, all) := by
  rw [pieces]
  split
  · cases piece f L r with
    | none => rfl
    | some x => rfl
  · rfl
structure PRel (p : Nat) (s : ByteArray) (w : World) (f : Nat) (out : Option (Rdr × Bool)) (k : Nat) (r : Rdr) (all : Bool) (wr : World) : Prop where
  ra : RA wr p s r
  gd : Gd s.size r
  fuel : 8 + 4 * (s.size - r.i) ≤ k
  le : k ≤ f
  is : pieces k s.data.toList r all = out
  bel : Below p w wr
set_option maxHeartbeats 8000000 in
theorem pieces_step (s : ByteArray) (hs : s.size ≤ 1000) (f : Nat) (h17 : ∀ k, k < f → C17 s k) : C12 s f := by
  intro p w r hRA hg hf
  obtain ⟨v, hR⟩ := hRA
  obtain ⟨out, hout⟩ : ∃ o, o = pieces f s.data.toList { r with first := true } true := ⟨_, rfl⟩
  rw [← hout]
  have hc5 := hR.c5
  have hz5 := hR.froz 5
  have hP0 : PRel p s w f out f { r with first := true } true (w.setCell ⟨p, 5, none⟩ (.bool true)) :=
    ⟨(hR.put5 true).ra, hg.put rfl rfl rfl (Nat.le_refl _) hg.i, hf, Nat.le_refl _, hout.symm, (Below.refl p w).setCell (p := ⟨p, 5, none⟩) (Nat.le_refl _) _⟩
  have HP0 := Lib.hid hP0
  clear hout hP0 hR
  go_enter Try.func12, Try.ntmps12
  go_wp2_with fail
  go_loopg [3, 4, 5, 6] f (fun k v3 _ _ _ wr => ∃ R all, v3 = .bool all ∧ PRel p s w f out k R all wr)
  case atStart => exact ⟨_, true, rfl, HP0.out⟩
  case round =>
    clear HP0 hc5 hz5
    obtain ⟨R, all, rfl, hP⟩ := hrel
    obtain ⟨hRA, hgd, hfu, hle, his, hbel⟩ := hP
    obtain ⟨v, hR⟩ := hRA
    obtain ⟨m, rfl⟩ : ∃ m, gk = m + 1 := ⟨gk - 1, by omega⟩
    have hRi := hgd.i
    have hRl := hgd.len
    obtain ⟨tt, htt⟩ : ∃ b, b = decide (R.i < s.size ∧ (R.deep = 0 ∨ R.at' s.data.toList (⟨#[92, 41]⟩ : ByteArray).data.toList = false)) := ⟨_, rfl⟩
    have his2 : out = if tt = true then pTail m s.data.toList R all (piece m s.data.toList R) else some ({ R with first := false }, all) := by
      rw [← his, pieces_eq, htt, size_list]
      simp only [decide_eq_true_eq]
    have HO := Lib.hid his2
    have HT := Lib.hid htt
    have hc2 := hR.c2
    have hc3 := hR.c3
    have hc4 := hR.c4
    have HR := Lib.hid hR
    clear his his2 htt hR
    go_upto_region 3 with fail
    go_cut [31] (fun v31 wx => v31 = .bool tt ∧ Same wr wx)
    case first =>
      by_cases hi : R.i < s.size
      · have hd1 : decide ((R.i : Int) < (s.size : Int)) = true := decide_eq_true (by omega)
        by_cases hd : R.deep = 0
        · have hq : ((R.deep : Int) == 0) = true := by rw [hd]; rfl
          have ht : tt = true := by rw [HT.out]; exact decide_eq_true ⟨hi, .inl hd⟩
          clear hd HT HO
          go_quiet (fail)
          go_wp2_with fail
          go_meet
          exact ⟨by rw [ht], Same.drew _ _⟩
        · have hq : ((R.deep : Int) == 0) = false := by rw [beq_eq_false_iff_ne]; omega
          obtain ⟨b, hb⟩ : ∃ b, b = R.at' s.data.toList (⟨#[92, 41]⟩ : ByteArray).data.toList := ⟨_, rfl⟩
          have ht : tt = !b := by
            rw [HT.out, ← hb]
            cases b with
            | true => exact decide_eq_false (fun e => by rcases e.2 with h | h; exact hd h; cases h)
            | false => exact decide_eq_true ⟨hi, .inr rfl⟩
          have g16 := fun n => at_q HR.out hRi (by omega) ⟨#[92, 41]⟩ (by decide) b hb n
          clear hd HT HO hb
          go_quiet ((go_at_call 16; with_reducible exact (g16 _)))
          go_wp2_with fail
          go_meet
          exact ⟨by rw [ht], Same.drew _ _⟩
      · have hd1 : decide ((R.i : Int) < (s.size : Int)) = false := decide_eq_false (by omega)
        have ht : tt = false := by rw [HT.out]; exact decide_eq_false (fun e => hi e.1)
        clear HT HO
        go_quiet (fail)
        go_wp2_with fail
        go_meet
        exact ⟨by rw [ht], Same.drew _ _⟩
    case rest =>
      obtain ⟨rfl, hsW⟩ := hcut
      have hR2 := HR.out.same hsW
      have hB2 := hbel.trans (hsW.below p)
      have hc0 := hR2.c0
      have hc5 := hR2.c5
      have hz5 := hR2.froz 5
      have HR2 := Lib.hid hR2
      have HB2 := Lib.hid hB2
      obtain ⟨a0, cap0, hv⟩ := hR2.form
      rw [hv] at hc0
      clear HR hR2 hB2 hbel hsW hc2 hc3 hc4 hv
      cases tt with
      | false =>
        have hon : out = some ({ R with first := false }, all) := by rw [HO.out]; rfl
        subst hon
        clear HO HT
        go_wp2_with fail
        go_ret
        exact ⟨rfl, (HR2.out.put5 false).ra, HB2.out.setCell (p := ⟨p, 5, none⟩) (Nat.le_refl _) _⟩
      | true =>
        have hRlt : R.i < s.size := (of_decide_eq_true HT.out.symm).1
        have g17 := h17 m (by omega) p wc R HR2.out.ra hgd hRlt (by omega)
        obtain ⟨o2, ho2⟩ : ∃ o, o = piece m s.data.toList R := ⟨_, rfl⟩
        rw [← ho2] at g17
        have hon : out = pTail m s.data.toList R all o2 := by rw [HO.out, ho2]; rfl
        have HON := Lib.hid hon
        have HP := Lib.hid ho2
        clear ho2 hon HO HT
        cases o2 with
        | none =>
          have hon : out = none := HON.out
          subst hon
          clear HON
          go_wp2_with (go_at_call 17; ((with_reducible refine g17.mono ?_); rintro e w2 ⟨rfl, hB3⟩))
          exact ⟨rfl, rfl, HB2.out.trans hB3⟩
        | some x =>
          obtain ⟨r1, em, st⟩ := x
          have hOn := (allOn s.data.toList m).piece R r1 em st (by rw [size_list]; exact hgd) (by rw [size_list]; exact hRlt) HP.out.symm
          rw [size_list] at hOn
          obtain ⟨hOn, hlt1, hst1⟩ := hOn
          have hi1 : r1.i ≤ s.size := hOn.gd.i
          have hl1 := hOn.gd.len
          have HOn := Lib.hid hOn
          have HST := Lib.hid hst1
          obtain ⟨b, hb⟩ : ∃ b, b = r1.at' s.data.toList (⟨#[42]⟩ : ByteArray).data.toList := ⟨_, rfl⟩
          have HBB := Lib.hid hb
          clear hOn hst1 hb
          go_upto_region 6 with (go_at_call 17; ((with_reducible refine g17.mono ?_); rintro e w2 ⟨rfl, hRA3, hB3⟩))
          obtain ⟨v3, hR3⟩ := hRA3
          have hBw3 := HB2.out.trans hB3
          have g16 := at_r hR3 hi1 (by omega) ⟨#[42]⟩ (by decide) b HBB.out
          have HR3 := Lib.hid hR3
          have HBW3 := Lib.hid hBw3
          clear hR3 hBw3 hB3 g17 HR2 HB2
          cases st with
          | false =>
            clear g16 HBB HST
            cases all with
            | false =>
              go_wp2_with fail
              go_roundg m
              case measure => omega
              case rel => exact ⟨r1, false, rfl, HR3.out.ra, HOn.out.gd, by omega, by omega, by rw [HON.out, pTail, if_neg (fun e => by cases e.1)]; rfl, HBW3.out⟩
            | true =>
              go_wp2_with fail
              go_roundg m
              case measure => omega
              case rel => exact ⟨r1, em, rfl, HR3.out.ra, HOn.out.gd, by omega, by omega, by rw [HON.out, pTail, if_neg (fun e => by cases e.1)]; rfl, HBW3.out⟩
          | true =>
            have hst1 := HST.out rfl
            cases b with
            | false =>
              cases all with
              | false =>
                go_wp2_with (go_at_call 16; ((with_reducible refine g16.mono ?_); rintro e w3 ⟨rfl, hs3⟩))
                go_roundg m
                case measure => omega
                case rel => exact ⟨r1, false, rfl, (HR3.out.same hs3).ra, HOn.out.gd, by omega, by omega, by rw [HON.out, pTail, if_neg (fun e => by have := HBB.out.trans e.2; cases this)]; rfl, (HBW3.out.trans (hs3.below p))⟩
              | true =>
                go_wp2_with (go_at_call 16; ((with_reducible refine g16.mono ?_); rintro e w3 ⟨rfl, hs3⟩))
                go_roundg m
                case measure => omega
                case rel => exact ⟨r1, em, rfl, (HR3.out.same hs3).ra, HOn.out.gd, by omega, by omega, by rw [HON.out, pTail, if_neg (fun e => by have := HBB.out.trans e.2; cases this)]; rfl, (HBW3.out.trans (hs3.below p))⟩
            | true =>
              have hsz := at_le s.data.toList r1 [42] HBB.out.symm (by simp)
              rw [size_list] at hsz
              have hsz2 : r1.i + 1 ≤ s.size := hsz
              have hg1 : Gd s.size ({ r1 with i := r1.i + 1 } : Rdr) := HOn.out.gd.put rfl rfl rfl (by show r1.i ≤ r1.i + 1; omega) hsz2
              have hg2 := hg1.again R.l.length hst1 (by show r1.l.length + 2 ≤ 2 * (r1.i + 1); omega)
              have HG2 := Lib.hid hg2
              have hcond : ∀ x y : Option (Rdr × Bool), (if true = true ∧ r1.at' s.data.toList [42] = true then x else y) = x := fun x y => if_pos ⟨rfl, HBB.out.symm⟩
              have hon2 : out = if em = false ∧ ({ r1 with i := r1.i + 1 } : Rdr).at' s.data.toList [42] = false then pieces m s.data.toList { r1 with i := r1.i + 1, l := again r1.l R.l.length } (all && true) else none := by
                rw [HON.out, pTail, hcond]
              have HON2 := Lib.hid hon2
              clear hcond hon2 HON hg1 hg2 hsz
              go_upto_region 7 with (go_at_call 16; ((with_reducible refine g16.mono ?_); rintro e w3 ⟨rfl, hs3⟩))
              have hR4 := HR3.out.same hs3
              have hc3 := hR4.c3
              have hz3 := hR4.froz 3
              have hR5 := hR4.put3 (r1.i + 1)
              have hB5 : Below p w (w3.setCell ⟨p, 3, none⟩ (.int .i64 (r1.i + 1 : Nat))) := (HBW3.out.trans (hs3.below p)).setCell (p := ⟨p, 3, none⟩) (Nat.le_refl _) _
              rw [show ((r1.i + 1 : Nat) : Int) = (r1.i : Int) + 1 by omega] at hR5 hB5
              obtain ⟨b2, hb2⟩ : ∃ b, b = ({ r1 with i := r1.i + 1 } : Rdr).at' s.data.toList (⟨#[42]⟩ : ByteArray).data.toList := ⟨_, rfl⟩
              have g16b := at_r hR5 hsz2 (by omega) ⟨#[42]⟩ (by decide) b2 hb2
              have HB2' := Lib.hid hb2
              have HR5 := Lib.hid hR5
              have HB5 := Lib.hid hB5
              clear hR4 hR5 hB5 g16 hb2 HR3 HBW3 hs3
              cases em with
              | true =>
                have hon : out = none := by rw [HON2.out, if_neg (fun e => by cases e.1)]
                subst hon
                clear HON2
                go_wp2_with (go_at_call 18; ((with_reducible refine (must_no _).mono ?_); rintro e w4 ⟨rfl, rfl⟩))
                exact ⟨rfl, rfl, HB5.out⟩
              | false =>
                cases b2 with
                | true =>
                  have hon : out = none := by rw [HON2.out, if_neg (fun e => by have := HB2'.out.trans e.2; cases this)]
                  subst hon
                  clear HON2
                  go_wp2_with (first
                    | (go_at_call 16; ((with_reducible refine g16b.mono ?_); rintro e w4 ⟨rfl, hs4⟩))
                    | (go_at_call 18; ((with_reducible refine (must_no _).mono ?_); rintro e w5 ⟨rfl, rfl⟩)))
                  exact ⟨rfl, rfl, HB5.out.trans (hs4.below p)⟩
                | false =>
                  have hon : out = pieces m s.data.toList { r1 with i := r1.i + 1, l := again r1.l R.l.length } (all && true) := by rw [HON2.out, if_pos ⟨rfl, HB2'.out.symm⟩]
                  have HON3 := Lib.hid hon
                  have g19 := fun wx hRx => again_any p wx s { r1 with i := r1.i + 1 } R.l.length hRx hst1 (by show r1.l.length ≤ 10000; omega) (fun x hx => by have := HOn.out.gd.tos x hx; omega)
                  clear hon HON2
                  go_upto_region 9 with (first
                    | (go_at_call 16; ((with_reducible refine g16b.mono ?_); rintro e w4 ⟨rfl, hs4⟩))
                    | (go_at_call 18; ((with_reducible refine (must_yes _).mono ?_); rintro e w5 ⟨rfl, rfl⟩)))
                  have g19b := g19 _ (HR5.out.same hs4).ra
                  clear g19 g16b
                  cases all with
                  | false =>
                    go_wp2_with (go_at_call 19; ((with_reducible refine g19b.mono ?_); rintro e w6 ⟨rfl, hRA6, hB6⟩))
                    go_roundg m
                    case measure => omega
                    case rel => exact ⟨_, false, rfl, hRA6, HG2.out, by show 8 + 4 * (s.size - (r1.i + 1)) ≤ m; omega, by omega, HON3.out.symm, (HB5.out.trans (hs4.below p)).trans hB6⟩
                  | true =>
                    go_wp2_with (go_at_call 19; ((with_reducible refine g19b.mono ?_); rintro e w6 ⟨rfl, hRA6, hB6⟩))
                    go_roundg m
                    case measure => omega
                    case rel => exact ⟨_, true, rfl, hRA6, HG2.out, by show 8 + 4 * (s.size - (r1.i + 1)) ≤ m; omega, by omega, HON3.out.symm, (HB5.out.trans (hs4.below p)).trans hB6⟩
/-- All four, at whatever fuel. -/
structure AllC (s : ByteArray) (f : Nat) : Prop where
  c12 : C12 s f
  c17 : C17 s f
  c26 : C26 s f
  c32 : C32 s f
theorem allC (s : ByteArray) (hs : s.size ≤ 1000) (f : Nat) : AllC s f := by
  induction f using Nat.strongRecOn with
  | _ f ih =>
    cases f with
    | zero => exact ⟨fun _ _ _ _ _ h => by omega, fun _ _ _ _ _ _ h => by omega, fun _ _ _ _ _ _ _ h => by omega, fun _ _ _ _ _ _ _ h => by omega⟩
    | succ m => exact ⟨pieces_step s hs (m + 1) (fun k hk => (ih k hk).c17), piece_step s hs m (ih m (Nat.lt_succ_self m)).c26, stroke_step s hs m (ih m (Nat.lt_succ_self m)).c32, group_step s hs m (ih m (Nat.lt_succ_self m)).c12⟩
end Go.Proofs.Ytnhlinkkfoojmaa
