/- The whole part that is found: the walk of whole. -/
import Derived.Test.YtnhlinkkfoojmaaTotal
import Derived.Laws.ResultCell
import Derived.Deep.CutRange
import Derived.Deep.LoopGhost
namespace Go.Proofs.Ytnhlinkkfoojmaa
open Go.RowKit
set_option maxRecDepth 100000
set_option linter.unusedSimpArgs false
set_option linter.unusedVariables false
def takesB (l : List Stp) (c : UInt8) (n : Nat) (o : Option Nat) : Bool := match o with | some b => decide ((l.getD n default).kind = 0 ∧ (l.getD n default).has.getD c.toNat false = true) | none => false
def stepN (l : List Stp) (f : Front) (c : UInt8) (at_ size : Nat) (x : Front × Bool) (n : Nat) : Front × Bool :=
  if takesB l c n (f.getD n none) then (enter (fuelOf l) l x.1 (n + 1) ((f.getD n none).getD 0) (at_ + 1) size, true) else x
def nextN (l : List Stp) (f : Front) (c : UInt8) (at_ size i : Nat) : Front × Bool := (List.range i).foldl (stepN l f c at_ size) (blank l, false)
theorem nextN_succ (l : List Stp) (f : Front) (c : UInt8) (at_ size i : Nat) : nextN l f c at_ size (i + 1) = stepN l f c at_ size (nextN l f c at_ size i) i := by
  unfold nextN
  rw [List.range_succ, List.foldl_append]
  rfl
theorem nextFront_N (l : List Stp) (f : Front) (c : UInt8) (at_ size : Nat) : nextFront l f c at_ size = nextN l f c at_ size l.length := by
  unfold nextFront nextN
  congr 1
  funext x n
  unfold stepN takesB
  cases f.getD n none with
  | none => rfl
  | some b =>
    simp only [decide_eq_true_eq]
    rfl
/-- Two numbers in a block of their own. -/
def Span (w : World) (sb : Nat) (sp : Option (Nat × Nat)) : Prop := ∃ x y : Int, w.heap[sb]? = some (.cells #[.int .i64 x, .int .i64 y] 30 (0, 0)) ∧ ∀ b e, sp = some (b, e) → x = (b : Nat) ∧ y = (e : Nat)
structure WRel (w : World) (p G : Nat) (l : List Stp) (n g cap H : Nat) (f : Front) (fb : Nat) (sp : Option (Nat × Nat)) (wr : World) : Prop where
  sg : SG wr p G l n g cap
  fa : FA wr fb f
  len : List.length f = l.length
  hfb : H < fb
  span : Span wr H sp
  bel : Below H w wr
theorem WRel.put {w wr : World} {p G : Nat} {l : List Stp} {n g cap H : Nat} {f : Front} {fb : Nat} {sp : Option (Nat × Nat)} (h : WRel w p G l n g cap H f fb sp wr) (hG : G ≤ H) (b a : Nat) :
    WRel w p G l n g cap H f fb (some (b, a)) ((wr.setCell ⟨H, 0, none⟩ (.int .i64 (b : Nat))).setCell ⟨H, 1, none⟩ (.int .i64 (a : Nat))) := by
  obtain ⟨x, y, hsp, _⟩ := h.span
  have hB : Below H wr ((wr.setCell ⟨H, 0, none⟩ (.int .i64 (b : Nat))).setCell ⟨H, 1, none⟩ (.int .i64 (a : Nat))) :=
    ((Below.refl H wr).setCell (p := ⟨H, 0, none⟩) (Nat.le_refl _) _).setCell (p := ⟨H, 1, none⟩) (Nat.le_refl _) _
  refine ⟨h.sg.below (hB.mono hG), ?_, h.len, h.hfb, ⟨b, a, ?_, fun b' e' e => by injection e with e; injection e with e1 e2; subst e1 e2; exact ⟨rfl, rfl⟩⟩, h.bel.trans hB⟩
  · have := h.hfb
    unfold FA
    rw [heap_setCell_other _ _ _ _ (by show fb ≠ H; omega), heap_setCell_other _ _ _ _ (by show fb ≠ H; omega)]
    exact h.fa
  · have h1 := heap_setCell_same wr H 0 _ 30 (.int .i64 (b : Nat)) hsp
    exact (heap_setCell_same _ H 1 _ 30 (.int .i64 (a : Nat)) h1).trans rfl
def spStep (l : List Stp) (f1 : Front) (at_ : Nat) (sp : Option (Nat × Nat)) : Option (Nat × Nat) :=
  match f1.getD (l.length - 1) none with
  | some b => (match sp with | none => some (b, at_) | some (b0, _) => if b ≤ b0 then some (b, at_) else sp)
  | none => sp
theorem wholeLoop_eq (u : Nat) (l : List Stp) (L : List UInt8) (f : Front) (a : Nat) (sp : Option (Nat × Nat)) (f1 : Front) (hf1 : f1 = if sp.isNone then enter (fuelOf l) l f 0 a a L.length else f) (sp1 : Option (Nat × Nat)) (hsp : sp1 = spStep l f1 a sp) :
    wholeLoop (u + 1) l L f a sp = if a = L.length then sp1 else
      if ((nextFront l f1 (L.getD a 0) a L.length).2 || sp1.isNone) = true then wholeLoop u l L (nextFront l f1 (L.getD a 0) a L.length).1 (a + 1) sp1 else sp1 := by
  subst hf1 hsp
  rw [wholeLoop]
  rfl
theorem size30 : (Try.prog.info? 30).map (·.size) = some 2 := by kernel_rfl
theorem results14 (tmps : Array Value) (H : Nat) (b : Bool) (w : World) (x y : Int) (hp : tmps.getD 6 undef = .pointer (some ⟨H, 0, none⟩)) (hb : tmps.getD 7 undef = .bool b) (hw : w.heap[H]? = some (.cells #[.int .i64 x, .int .i64 y] 30 (0, 0))) :
    (results Try.f14 tmps).run Try.prog w = .ok (.tuple #[.agg #[.int .i64 x, .int .i64 y], .bool b]) w := by
  have hl : (loadVar 30 ⟨H, 0, none⟩).run Try.prog w = .ok (.agg #[.int .i64 x, .int .i64 y]) w := run_loadVar_row w H 30 30 _ (0, 0) _ hw Try.underlying30 rfl (size30.trans rfl)
  have hp' : tmps[6]?.getD undef = .pointer (some ⟨H, 0, none⟩) := by simpa using hp
  have hb' : tmps[7]?.getD undef = .bool b := by simpa using hb
  simp [results, Try.results14, hp', hb', asAddr, hl]
def WholePost (w : World) (H : Nat) (out : Option (Nat × Nat)) (e : Ending) (w' : World) : Prop := ∃ x y : Int, e = .returned (.tuple #[.agg #[.int .i64 x, .int .i64 y], .bool (Option.isSome out)]) ∧
      (∀ b e, out = some (b, e) → x = (b : Nat) ∧ y = (e : Nat)) ∧ Below H w w'
theorem tail14 {w wc : World} {p G : Nat} {l : List Stp} {n g cap H : Nat} {f1 : Front} {fb : Nat} {sp1 out : Option (Nat × Nat)} (hW : WRel w p G l n g cap H f1 fb sp1 wc) (x1 y1 : Int)
    (hspb : wc.heap[H]? = some (.cells #[.int .i64 x1, .int .i64 y1] 30 (0, 0))) (hxy : ∀ b e, sp1 = some (b, e) → x1 = (b : Nat) ∧ y1 = (e : Nat)) (hon : out = sp1) (a : Act)
    (h6 : a.tmps.getD 6 undef = .pointer (some ⟨H, 0, none⟩)) (h7 : a.tmps.getD 7 undef = .bool (Option.isSome sp1)) (hd : a.defers = []) :
    bodyPost Try.prog Try.f14 (WholePost w H out) .ret a ((wc.setCell ⟨H, 0, none⟩ (.int .i64 x1)).setCell ⟨H, 1, none⟩ (.int .i64 y1)) := by
  subst hon
  have h1 := heap_setCell_same wc H 0 _ 30 (.int .i64 x1) hspb
  have h2 := heap_setCell_same _ H 1 _ 30 (.int .i64 y1) h1
  refine bodyPost_ret (results14 a.tmps H (Option.isSome out) _ x1 y1 h6 h7 h2) hd ?_
  exact ⟨x1, y1, rfl, hxy, (hW.bel.setCell (p := ⟨H, 0, none⟩) (Nat.le_refl _) _).setCell (p := ⟨H, 1, none⟩) (Nat.le_refl _) _⟩
theorem WRel.grow {w wr w' : World} {p G : Nat} {l : List Stp} {n g cap H : Nat} {f : Front} {fb : Nat} {sp : Option (Nat × Nat)} (h : WRel w p G l n g cap H f fb sp wr) (hG : G ≤ H) (nb : Nat) (hnb : H < nb) (hne : nb ≠ fb) (hg : wr.grownBy w' (some nb)) :
    WRel w p G l n g cap H f fb sp w' := by
  have hlt := h.fa.lt
  have hB : Below (H + 1) wr w' := grownBy_below hg (H + 1) hnb (by have := h.hfb; omega)
  obtain ⟨x, y, hsp, hxy⟩ := h.span
  exact ⟨h.sg.below (hB.mono (by omega)), (hg.block fb hlt (fun e => by injection e; omega)).trans h.fa, h.len, h.hfb, ⟨x, y, (hB.block H (by omega)).trans hsp, hxy⟩, h.bel.trans (hB.mono (by omega))⟩
theorem WRel.over {w wr w' : World} {p G : Nat} {l : List Stp} {n g cap H : Nat} {f : Front} {fb : Nat} {sp : Option (Nat × Nat)} (h : WRel w p G l n g cap H f fb sp wr) (hG : G ≤ H) (hB : Below wr.heap.size wr w') :
    WRel w p G l n g cap H f fb sp w' := by
  have hlt := h.fa.lt
  have hfb := h.hfb
  obtain ⟨x, y, hsp, hxy⟩ := h.span
  exact ⟨h.sg.below (hB.mono (by omega)), (hB.block fb hlt).trans h.fa, h.len, h.hfb, ⟨x, y, (hB.block H (by omega)).trans hsp, hxy⟩, h.bel.trans (hB.mono (by omega))⟩
structure NRel (l : List Stp) (f1 : Front) (c : UInt8) (a size i nb : Nat) (wr : World) : Prop where
  fa : FA wr nb (nextN l f1 c a size i).1
  len : List.length (nextN l f1 c a size i).1 = l.length
set_option maxHeartbeats 8000000 in
theorem whole_any (w : World) (p G : Nat) (l : List Stp) (n g cap : Nat) (hSG : SG w p G l n g cap) (hwf : WF l) (hl : l.length ≤ 100000) (hG : G ≤ w.heap.size) (s : ByteArray) (hs : s.size ≤ 1000) (fr : Nat) (hfr : fr ≤ s.size) :
    Calls Try.prog 14 #[.pointer (some ⟨p, 0, none⟩), .string s, .int .i64 (fr : Nat)] w (WholePost w w.heap.size (whole l s.data.toList fr)) := by
  obtain ⟨out, hout⟩ : ∃ o, o = whole l s.data.toList fr := ⟨_, rfl⟩
  rw [← hout]
  unfold whole at hout
  rw [size_list] at hout
  obtain ⟨H, hH⟩ : ∃ H, H = w.heap.size := ⟨_, rfl⟩
  rw [← hH]
  have HO := Lib.hid hout
  have HH := Lib.hid hH
  have g20 : ∀ wx, SG wx p G l n g cap → G ≤ wx.heap.size → _ := fun wx h1 h2 => blank_any wx p G l n g cap h1 hl h2
  have hSGH := hSG.mono hG
  rw [← hH] at hSGH hG
  have hB0 : Below H w (w.alloc (.cells #[.int .i64 0, .int .i64 0] 30)) := (Below.refl H w).alloc (by omega) _
  have g20a := g20 _ (hSGH.below hB0 |>.mono (Nat.le_refl _) |> fun h => (hSG.below (hB0.mono hG))) (by simp; omega)
  have hsb : (w.alloc (.cells #[.int .i64 0, .int .i64 0] 30)).heap[H]? = some (.cells #[.int .i64 0, .int .i64 0] 30 (0, 0)) := by rw [hH]; exact heap_alloc_new w _
  have hsz0 : (w.alloc (.cells #[.int .i64 0, .int .i64 0] 30)).heap.size = H + 1 := by simp [hH]
  rw [hsz0] at g20a
  have HB0 := Lib.hid hB0
  have HSB := Lib.hid hsb
  have HSG0 := Lib.hid hSG
  clear hout hH hB0 hsb hsz0 hSG hSGH g20
  go_enter Try.func14, Try.ntmps14
  go_upto_region 3 with (go_at_call 20; ((with_reducible refine g20a.mono ?_); rintro e w2 ⟨fb, rfl, hfb, hFA, hB2⟩))
  have hSG2 : SG w2 p G l n g cap := HSG0.out.below ((HB0.out.mono hG).trans (hB2.mono (by omega)))
  have hW0 : WRel w p G l n g cap H (blank l) fb none w2 :=
    ⟨hSG2, hFA, by simp [blank], by omega, ⟨0, 0, (hB2.block H (by omega)).trans HSB.out, fun b e h => by cases h⟩, HB0.out.trans (hB2.mono (by omega))⟩
  have HW0 := Lib.hid hW0
  clear hSG2 hW0 hFA hB2 g20a hfb
  rw [← HH.out]
  go_loopg [7, 8, 9, 10, 11, 12, 13, 14] (s.size + 2) (fun k v7 v8 v9 _ _ _ _ _ wr => ∃ a f fb sp, v7 = .bool (Option.isSome sp) ∧ v8 = .slice (some ⟨fb, 0, none⟩) l.length l.length ∧ v9 = .int .i64 (a : Nat) ∧ a ≤ s.size ∧ s.size < k + a ∧ WRel w p G l n g cap H f fb sp wr ∧ Hid (out = wholeLoop k l s.data.toList f a sp))
  case atStart => exact ⟨fr, blank l, fb, none, rfl, rfl, rfl, hfr, by omega, HW0.out, HO.out⟩
  case round =>
    clear HW0 HO HSB HB0
    obtain ⟨a, f, fb, sp, rfl, rfl, rfl, hale, hk, hW, hO⟩ := hrel
    obtain ⟨u, rfl⟩ : ∃ u, gk = u + 1 := ⟨gk - 1, by omega⟩
    have hd1 : decide ((a : Int) ≤ (s.size : Int)) = true := decide_eq_true (by omega)
    have hd1' : decide (a ≤ s.size) = true := decide_eq_true hale
    obtain ⟨f1, hf1⟩ : ∃ f1, f1 = if sp.isNone then enter (fuelOf l) l f 0 a a s.data.toList.length else f := ⟨_, rfl⟩
    obtain ⟨sp1, hsp1⟩ : ∃ sp1, sp1 = spStep l f1 a sp := ⟨_, rfl⟩
    have hO2 := hO.out.trans (wholeLoop_eq u l s.data.toList f a sp f1 hf1 sp1 hsp1)
    rw [size_list] at hO2 hf1
    have HO2 := Lib.hid hO2
    have HF1 := Lib.hid hf1
    have HSP1 := Lib.hid hsp1
    have HW := Lib.hid hW
    have g21 : Calls Try.prog 21 #[.pointer (some ⟨p, 0, none⟩), .slice (some ⟨fb, 0, none⟩) l.length l.length, .int .i64 0, .int .i64 (a : Nat), .int .i64 (a : Nat), .int .i64 (s.size : Nat)] wr (fun e w' => e = .returned (.tuple #[]) ∧ FA w' fb (enter (fuelOf l) l f 0 a a s.size) ∧ wr.grownBy w' (some fb)) := enter_any p G l n g cap hwf hl a s.size (by omega) (fuelOf l) wr fb f (enter (fuelOf l) l f 0 a a s.size) 0 a hW.sg (by have := hW.hfb; omega) hW.fa hW.len hwf.pos (enterO_enter l hwf f 0 a a s.size hW.len hwf.pos)
    clear hO hO2 hf1 hsp1 hW
    go_upto_region 5 with fail
    go_upto_if 25 with fail
    go_cut [] (fun wx => WRel w p G l n g cap H f1 fb sp wx)
    case first =>
      cases sp with
      | none =>
        have hf1 : f1 = enter (fuelOf l) l f 0 a a s.size := HF1.out
        go_wp2_with (go_at_call 21; ((with_reducible refine g21.mono ?_); rintro e w3 ⟨rfl, hFA3, hg3⟩))
        go_meet
        case rel =>
          have hB : Below (H + 1) wr w3 := grownBy_below hg3 (H + 1) HW.out.hfb (by have := HW.out.fa.lt; have := HW.out.hfb; omega)
          have hBG : Below G wr w3 := hB.mono (by omega)
          have hlen := enter_length l hwf f 0 a a s.size HW.out.len hwf.pos
          rw [← hf1] at hFA3 hlen
          obtain ⟨x, y, hsp, hxy⟩ := HW.out.span
          exact ⟨HW.out.sg.below hBG, hFA3, hlen, HW.out.hfb, ⟨x, y, (hB.block H (by omega)).trans hsp, hxy⟩, HW.out.bel.trans (hB.mono (by omega))⟩
      | some q =>
        have hf1 : f1 = f := HF1.out
        go_wp2_with fail
        go_meet
        case rel => rw [hf1]; exact HW.out
    case rest =>
      clear HW HF1 g21 hd1 hd1'
      have hW := hcut
      obtain ⟨x, y, hsp, hxy⟩ := hW.span
      have hc0 := hW.sg.c0
      have hlm : l.length - 1 < List.length f1 := by rw [hW.len]; have := hwf.pos; omega
      have hcb := hW.fa.cell (l.length - 1) hlm
      have hcx : wc.cell? ⟨H, 0, none⟩ = some (.int .i64 x) := cell_of_row wc H 0 _ 30 (0, 0) hsp
      have hcy : wc.cell? ⟨H, 1, none⟩ = some (.int .i64 y) := cell_of_row wc H 1 _ 30 (0, 0) hsp
      have hzx : wc.frozen? ⟨H, 0, none⟩ = false := frozen_of_row wc H 0 _ 30 hsp
      have hzy : wc.frozen? ⟨H, 1, none⟩ = false := frozen_of_row wc H 1 _ 30 hsp
      obtain ⟨q, hq⟩ : ∃ q, q = fVal (f1.getD (l.length - 1) none) := ⟨_, rfl⟩
      rw [← hq] at hcb
      have hpos := hwf.pos
      obtain ⟨m, hm⟩ : ∃ m, l.length = m + 1 := ⟨l.length - 1, by omega⟩
      have em : l.length - 1 = m := by omega
      rw [em] at hcb hq hlm
      have hi1 : decide ((0 : Int) ≤ (m : Int)) = true := decide_eq_true (by omega)
      have hi2 : decide ((m : Int) < (l.length : Int)) = true := decide_eq_true (by omega)
      have hwm : IntKind.i64.wrap ((l.length : Int) - 1) = (m : Int) := by rw [IntWalk.i64_in _ (by omega)]; omega
      have hmm : ((l.length : Int) - 1) = (m : Int) := by omega
      have HW := Lib.hid hW
      have HQ := Lib.hid hq
      have HXY := Lib.hid hxy
      have HSPB := Lib.hid hsp
      have HM := Lib.hid hm
      obtain ⟨tt, htt⟩ : ∃ tt, tt = (decide (q ≥ 0) && (!Option.isSome sp || decide (q ≤ x))) := ⟨_, rfl⟩
      have hsp1 : if tt = true then ∃ b : Nat, q = (b : Int) ∧ sp1 = some (b, a) else sp1 = sp := by
        rw [HSP1.out]
        unfold spStep
        rw [em]
        cases hb : f1.getD m none with
        | none =>
          have hq0 : q = -1 := by rw [hq, hb]; rfl
          have : tt = false := by rw [htt, hq0]; rfl
          rw [this]; simp
        | some b =>
          have hq0 : q = (b : Int) := by rw [hq, hb]; rfl
          have hge : decide (q ≥ 0) = true := decide_eq_true (by omega)
          cases sp with
          | none =>
            have : tt = true := by rw [htt, hge]; rfl
            rw [this]; simp [hq0]
          | some bb =>
            obtain ⟨b0, e0⟩ := bb
            have hx := (hxy b0 e0 rfl).1
            by_cases hle : b ≤ b0
            · have : tt = true := by rw [htt, hge, decide_eq_true (show q ≤ x by omega)]; rfl
              rw [this]; simp [hq0, hle]
            · have : tt = false := by rw [htt, hge, decide_eq_false (show ¬ q ≤ x by omega)]; rfl
              rw [this]; simp [hle]
      have HSTEP := Lib.hid hsp1
      have HTT := Lib.hid htt
      clear hcut hW hq hxy hsp hm em hsp1 htt HSP1
      go_upto_region 8 with fail
      go_cut [53] (fun v wx => v = .bool tt ∧ wx = wc)
      case first =>
        cases hge : decide (q ≥ 0) with
        | false =>
          have ht : tt = false := by rw [HTT.out, hge]; rfl
          clear HTT
          go_wp2_with fail
          go_meet
          exact ⟨by rw [ht], rfl⟩
        | true =>
          cases sp with
          | none =>
            have ht : tt = true := by rw [HTT.out, hge]; rfl
            clear HTT
            go_wp2_with fail
            go_meet
            exact ⟨by rw [ht], rfl⟩
          | some bb =>
            have ht : tt = decide (q ≤ x) := by rw [HTT.out, hge]; rfl
            clear HTT
            go_wp2_with fail
            go_meet
            exact ⟨by rw [ht], rfl⟩
      case rest =>
        obtain ⟨rfl, rfl⟩ := hcut
        clear HTT
        go_upto_if 53 with fail
        go_cut [7] (fun v7 wx => v7 = .bool (Option.isSome sp1) ∧ WRel w p G l n g cap H f1 fb sp1 wx)
        case first =>
          cases tt with
          | true =>
            obtain ⟨b, hqb, hs1⟩ := HSTEP.out
            have HS1 := Lib.hid hs1
            have HQB := Lib.hid hqb
            clear hs1 hqb HSTEP
            go_wp2_with fail
            go_meet
            case rel =>
              refine ⟨by rw [HS1.out]; rfl, ?_⟩
              have := HW.out.put hG b a
              rw [← HS1.out, ← HQB.out] at this
              exact this
          | false =>
            have hs1 : sp1 = sp := HSTEP.out
            have HS1 := Lib.hid hs1
            clear hs1 HSTEP
            go_wp2_with fail
            go_meet
            exact ⟨by rw [HS1.out], by rw [HS1.out]; exact HW.out⟩
        case rest =>
          obtain ⟨rfl, hW1⟩ := hcut
          clear HSTEP HW hc0 hcx hcy hzx hzy hcb HSPB HXY
          obtain ⟨x1, y1, hsp1, hxy1⟩ := hW1.span
          have hc0 := hW1.sg.c0
          have hcx : wc.cell? ⟨H, 0, none⟩ = some (.int .i64 x1) := cell_of_row wc H 0 _ 30 (0, 0) hsp1
          have hcy : wc.cell? ⟨H, 1, none⟩ = some (.int .i64 y1) := cell_of_row wc H 1 _ 30 (0, 0) hsp1
          have hzx : wc.frozen? ⟨H, 0, none⟩ = false := frozen_of_row wc H 0 _ 30 hsp1
          have hzy : wc.frozen? ⟨H, 1, none⟩ = false := frozen_of_row wc H 1 _ 30 hsp1
          have HW1 := Lib.hid hW1
          have HXY1 := Lib.hid hxy1
          have HSPB := Lib.hid hsp1
          clear hW1 hxy1 hsp1
          by_cases hae : a = s.size
          · have hon : out = sp1 := by rw [HO2.out, if_pos hae]
            have hqe : ((a : Int) == (s.size : Int)) = true := by rw [beq_iff_eq]; omega
            have HON := Lib.hid hon
            clear hon HO2 hae
            go_wp2_with fail
            exact tail14 HW1.out x1 y1 HSPB.out HXY1.out HON.out _ rfl rfl rfl
          · have halt : a < s.size := by omega
            have hqe : ((a : Int) == (s.size : Int)) = false := by rw [beq_eq_false_iff_ne]; intro e; exact hae (by omega)
            obtain ⟨c, hc⟩ : ∃ c, c = s.data.toList.getD a 0 := ⟨_, rfl⟩
            have hic := fun wx => idx_run s a halt (a : Int) rfl c hc wx
            have hO3 : out = if ((nextN l f1 c a s.size l.length).2 || sp1.isNone) = true then wholeLoop u l s.data.toList (nextN l f1 c a s.size l.length).1 (a + 1) sp1 else sp1 := by
              rw [HO2.out, if_neg hae, ← hc, nextFront_N]
            have HO3 := Lib.hid hO3
            have g20 := blank_any wc p G l n g cap HW1.out.sg hl (by have := HW1.out.fa.lt; have := HW1.out.hfb; omega)
            have hic2 := Lib.hid hic
            clear hic
            clear hO3 HO2 hc hae
            go_upto_region 13 with (go_at_call 20; ((with_reducible refine g20.mono ?_); rintro e w3 ⟨nb, rfl, hnb, hFN, hB3⟩))
            have hW3 := HW1.out.over hG hB3
            have hnb1 : H < nb := by have := HW1.out.fa.lt; have := HW1.out.hfb; omega
            have hnb2 : nb ≠ fb := by have := HW1.out.fa.lt; omega
            have HW3 := Lib.hid hW3
            have HFN := Lib.hid hFN
            clear hW3 hB3 g20 hFN hc0 hcx hcy hzx hzy HSPB HXY1 HW1 hnb
            have hnlen0 : List.length (nextN l f1 c a s.size 0).1 = l.length := by simp [nextN, blank]
            go_loopg [12, 13, 14, 67] l.length (fun k v12 _ _ v67 wr => ∃ i : Nat, i + k = l.length ∧ v67 = .int .i64 (i : Nat) ∧ v12 = .bool ((nextN l f1 c a s.size i).2 || sp1.isNone) ∧ WRel w p G l n g cap H f1 fb sp1 wr ∧ NRel l f1 c a s.size i nb wr)
            case atStart => exact ⟨0, by omega, rfl, rfl, HW3.out, ⟨HFN.out, hnlen0⟩⟩
            case round =>
              clear HW3 HFN hnlen0
              obtain ⟨i, hik, rfl, rfl, hW4, hN4⟩ := hrel
              by_cases hil : i < l.length
              · obtain ⟨k2, rfl⟩ : ∃ k2, gk = k2 + 1 := ⟨gk - 1, by omega⟩
                have hlt1 : decide ((i : Int) < (l.length : Int)) = true := decide_eq_true (by omega)
                have hlt2 : decide (i < l.length) = true := decide_eq_true hil
                have hi3 : decide ((0 : Int) ≤ (i : Int)) = true := decide_eq_true (by omega)
                have hc0 := hW4.sg.c0
                have hcf := hW4.fa.cell i (by rw [hW4.len]; exact hil)
                obtain ⟨o, ho⟩ : ∃ o, o = f1.getD i none := ⟨_, rfl⟩
                rw [← ho] at hcf
                obtain ⟨tk, htk⟩ : ∃ tk, tk = takesB l c i o := ⟨_, rfl⟩
                have HTK := Lib.hid htk
                have HOO := Lib.hid ho
                have hck := hW4.sg.kind i hil
                have hcc : c.toNat < 256 := c.toNat_lt
                have hcbit := hW4.sg.bit i c.toNat hil hcc
                obtain ⟨kd, hkd⟩ : ∃ kd, kd = (l.getD i default).kind := ⟨_, rfl⟩
                obtain ⟨bt, hbt⟩ : ∃ bt, bt = (l.getD i default).has.getD c.toNat false := ⟨_, rfl⟩
                rw [← hkd] at hck
                rw [← hbt] at hcbit
                have HKD := Lib.hid hkd
                have HBT := Lib.hid hbt
                have HW4 := Lib.hid hW4
                have HN4 := Lib.hid hN4
                have hi5 : decide ((0 : Int) ≤ (c.toNat : Int)) = true := decide_eq_true (by omega)
                have hi6 : decide ((c.toNat : Int) < 256) = true := decide_eq_true (by omega)
                clear htk ho hkd hbt hW4 hN4
                go_upto_region 15 with fail
                go_cut [99] (fun v wx => v = .bool tk ∧ Same wr wx)
                case first =>
                  have hic := hic2.out
                  cases o with
                  | none =>
                    have ht : tk = false := HTK.out
                    have hcf2 : wr.cell? ⟨fb, i, none⟩ = some (.int .i64 (-1)) := hcf
                    have hdn : decide ((-1 : Int) ≥ 0) = false := by decide
                    have hfv : fVal none = -1 := rfl
                    clear hcf HTK
                    go_quiet (fail)
                    go_wp2_with fail
                    go_meet
                    exact ⟨by rw [ht], Same.drew _ _⟩
                  | some b =>
                    have hcf2 : wr.cell? ⟨fb, i, none⟩ = some (.int .i64 (b : Nat)) := hcf
                    have hdn : decide ((b : Int) ≥ 0) = true := decide_eq_true (by omega)
                    have hfv : fVal (some b) = (b : Int) := rfl
                    by_cases hk0 : kd = 0
                    · have hq0 : ((kd : Int) == 0) = true := by rw [hk0]; rfl
                      have ht : tk = bt := by
                        rw [HTK.out]
                        unfold takesB
                        simp only
                        rw [← HKD.out, ← HBT.out, hk0]
                        cases bt <;> simp
                      clear hcf HTK hk0
                      go_quiet (fail)
                      go_wp2_with fail
                      go_meet
                      exact ⟨by rw [ht], Same.drew _ _⟩
                    · have hq0 : ((kd : Int) == 0) = false := by rw [beq_eq_false_iff_ne]; omega
                      have ht : tk = false := by
                        rw [HTK.out]
                        unfold takesB
                        simp only
                        rw [← HKD.out]
                        exact decide_eq_false (fun e => hk0 e.1)
                      clear hcf HTK hk0
                      go_quiet (fail)
                      go_wp2_with fail
                      go_meet
                      exact ⟨by rw [ht], Same.drew _ _⟩
                case rest =>
                  obtain ⟨rfl, hsW⟩ := hcut
                  have hW5 := HW4.out.over hG (hsW.below _)
                  have hF5 : FA wc nb (nextN l f1 c a s.size i).1 := by
                    have h := HN4.out.fa
                    unfold FA at h ⊢
                    rw [hsW.heap]; exact h
                  have HW5 := Lib.hid hW5
                  have HF5 := Lib.hid hF5
                  clear hW5 hF5 hsW HW4 hc0 hck hcbit hi5 hi6
                  cases tk with
                  | false =>
                    have hst : nextN l f1 c a s.size (i + 1) = nextN l f1 c a s.size i := by
                      rw [nextN_succ, stepN, ← HOO.out, ← HTK.out]
                      rfl
                    have HST := Lib.hid hst
                    clear hst
                    go_wp2_with fail
                    go_roundg k2
                    case measure => omega
                    case rel => exact ⟨i + 1, by omega, by go_num, by rw [HST.out], HW5.out, ⟨by rw [HST.out]; exact HF5.out, by rw [HST.out]; exact HN4.out.len⟩⟩
                  | true =>
                    obtain ⟨b, hob, hk0⟩ : ∃ b, o = some b ∧ kd = 0 := by
                      have h := HTK.out
                      cases o with
                      | none => cases h
                      | some b =>
                        refine ⟨b, rfl, ?_⟩
                        have := of_decide_eq_true h.symm
                        rw [HKD.out]; exact this.1
                    have hi1 : i + 1 < l.length := hwf.takes i hil (by rw [← HKD.out]; exact hk0)
                    subst hob
                    have hst : nextN l f1 c a s.size (i + 1) = (enter (fuelOf l) l (nextN l f1 c a s.size i).1 (i + 1) b (a + 1) s.size, true) := by
                      rw [nextN_succ, stepN, ← HOO.out, ← HTK.out]
                      rfl
                    have hlenN : List.length (enter (fuelOf l) l (nextN l f1 c a s.size i).1 (i + 1) b (a + 1) s.size) = l.length := enter_length l hwf _ (i + 1) b (a + 1) s.size HN4.out.len hi1
                    have g21 := enter_any p G l n g cap hwf hl (a + 1) s.size (by omega) (fuelOf l) wc nb (nextN l f1 c a s.size i).1 _ (i + 1) b HW5.out.sg (by omega) HF5.out HN4.out.len hi1 (enterO_enter l hwf _ (i + 1) b (a + 1) s.size HN4.out.len hi1)
                    have ei : ((i + 1 : Nat) : Int) = (i : Int) + 1 := by omega
                    have ea : ((a + 1 : Nat) : Int) = (a : Int) + 1 := by omega
                    rw [ei, ea] at g21
                    have hcf2 : fVal (some b) = (b : Int) := rfl
                    have HST := Lib.hid hst
                    have HLN := Lib.hid hlenN
                    clear hst ei ea hk0 hlenN
                    go_wp2_with (go_at_call 21; ((with_reducible refine g21.mono ?_); rintro e w6 ⟨rfl, hF6, hg6⟩))
                    go_roundg k2
                    case measure => omega
                    case rel => exact ⟨i + 1, by omega, by go_num, by rw [HST.out]; rfl, HW5.out.grow hG nb hnb1 hnb2 hg6, ⟨by rw [HST.out]; exact hF6, by rw [HST.out]; exact HLN.out⟩⟩
              · obtain rfl : i = l.length := by omega
                obtain ⟨nx, hnx⟩ : ∃ nx, nx = nextN l f1 c a s.size l.length := ⟨_, rfl⟩
                rw [← hnx] at HO3
                have hN5 := hN4
                have hFN5 : FA wr nb nx.1 := by rw [hnx]; exact hN4.fa
                have hLN5 : List.length nx.1 = l.length := by rw [hnx]; exact hN4.len
                obtain ⟨lv, hlv⟩ : ∃ lv, lv = nx.2 := ⟨_, rfl⟩
                rw [← hnx, ← hlv]
                have HNX := Lib.hid hlv
                have HW4 := Lib.hid hW4
                have HFN5 := Lib.hid hFN5
                have hdl : decide ((l.length : Int) < (l.length : Int)) = false := decide_eq_false (by omega)
                clear hnx hlv hN4 hN5 hW4 hFN5
                cases hlive : (lv || sp1.isNone) with
                | true =>
                  have hon : out = wholeLoop u l s.data.toList nx.1 (a + 1) sp1 := by rw [HO3.out, ← HNX.out, if_pos hlive]
                  have HON := Lib.hid hon
                  clear hon HO3
                  go_wp2_with fail
                  go_roundg u
                  case measure => omega
                  case rel => exact ⟨a + 1, nx.1, nb, sp1, rfl, rfl, by go_num, by omega, by omega, ⟨HW4.out.sg, HFN5.out, hLN5, hnb1, HW4.out.span, HW4.out.bel⟩, HON.out⟩
                | false =>
                  have hon : out = sp1 := by rw [HO3.out, ← HNX.out, if_neg (by rw [hlive]; exact Bool.false_ne_true)]
                  obtain ⟨x1, y1, hsp1, hxy1⟩ := HW4.out.span
                  have hcx : wr.cell? ⟨H, 0, none⟩ = some (.int .i64 x1) := cell_of_row wr H 0 _ 30 (0, 0) hsp1
                  have hcy : wr.cell? ⟨H, 1, none⟩ = some (.int .i64 y1) := cell_of_row wr H 1 _ 30 (0, 0) hsp1
                  have hzx : wr.frozen? ⟨H, 0, none⟩ = false := frozen_of_row wr H 0 _ 30 hsp1
                  have hzy : wr.frozen? ⟨H, 1, none⟩ = false := frozen_of_row wr H 1 _ 30 hsp1
                  have HON := Lib.hid hon
                  have HXY1 := Lib.hid hxy1
                  have HSPB := Lib.hid hsp1
                  clear hon HO3 hxy1 hsp1
                  go_wp2_with fail
                  exact tail14 HW4.out x1 y1 HSPB.out HXY1.out HON.out _ rfl rfl rfl
end Go.Proofs.Ytnhlinkkfoojmaa
