/- The places of the groups: the walk of places. -/
import Derived.Test.YtnhlinkkfoojmaaReach
import Derived.Deep.RegionHeld
namespace Go.Proofs.Ytnhlinkkfoojmaa
open Go.RowKit
set_option maxRecDepth 100000
set_option linter.unusedSimpArgs false
set_option linter.unusedVariables false
/-- As the mirror's places; none where an index is out or the fuel ends. -/
def placesO : Nat → List Stp → Nat → Nat → (Nat → List Bool) → Nat → Nat → List (Int × Int) → Option (List (Int × Int))
  | 0, _, _, _, _, _, _, _ => none
  | u + 1, l, lo, hi, row, n, at_, out =>
    if n < l.length ∧ lo ≤ at_ ∧ at_ ≤ hi then
      let x := l.getD n default
      if x.kind = 6 then some out
      else if x.kind = 0 then placesO u l lo hi row (n + 1) (at_ + 1) out
      else if x.kind = 5 then
        if x.to / 2 < out.length then
          let o := out.getD (x.to / 2) (-1, -1)
          placesO u l lo hi row (n + 1) at_ (out.set (x.to / 2) (if x.to % 2 = 0 then ((at_ : Int), o.2) else (o.1, (at_ : Int))))
        else none
      else if x.kind = 3 then
        if n + 1 < l.length then (if (row at_).getD (n + 1) false then placesO u l lo hi row (n + 1) at_ out else placesO u l lo hi row x.to at_ out) else none
      else if x.kind = 4 then placesO u l lo hi row x.to at_ out
      else placesO u l lo hi row (n + 1) at_ out
    else none
def placesStep (u : Nat) (l : List Stp) (lo hi : Nat) (row : Nat → List Bool) (n at_ : Nat) (out : List (Int × Int)) (x : Stp) : Option (List (Int × Int)) :=
  if x.kind = 6 then some out
  else if x.kind = 0 then placesO u l lo hi row (n + 1) (at_ + 1) out
  else if x.kind = 5 then
    if x.to / 2 < out.length then
      placesO u l lo hi row (n + 1) at_ (out.set (x.to / 2) (if x.to % 2 = 0 then ((at_ : Int), (out.getD (x.to / 2) (-1, -1)).2) else ((out.getD (x.to / 2) (-1, -1)).1, (at_ : Int))))
    else none
  else if x.kind = 3 then
    if n + 1 < l.length then (if (row at_).getD (n + 1) false then placesO u l lo hi row (n + 1) at_ out else placesO u l lo hi row x.to at_ out) else none
  else if x.kind = 4 then placesO u l lo hi row x.to at_ out
  else placesO u l lo hi row (n + 1) at_ out
theorem placesO_succ (u : Nat) (l : List Stp) (lo hi : Nat) (row : Nat → List Bool) (n at_ : Nat) (out : List (Int × Int)) :
    placesO (u + 1) l lo hi row n at_ out = if n < l.length ∧ lo ≤ at_ ∧ at_ ≤ hi then placesStep u l lo hi row n at_ out (l.getD n default) else none := rfl
def pairVals (out : List (Int × Int)) : List Value := out.flatMap fun q => [.int .i64 q.1, .int .i64 q.2]
def PA (w : World) (ob : Nat) (out : List (Int × Int)) : Prop := w.heap[ob]? = some (.cells (pairVals out).toArray 30 (0, 0))
theorem pairVals_get : ∀ (out : List (Int × Int)) (k : Nat) (hk : k < out.length), (pairVals out)[k * 2]? = some (.int .i64 (out.getD k (-1, -1)).1) ∧ (pairVals out)[k * 2 + 1]? = some (.int .i64 (out.getD k (-1, -1)).2)
  | q :: out, 0, _ => ⟨rfl, rfl⟩
  | q :: out, k + 1, hk => by
    have := pairVals_get out k (by simpa using hk)
    rw [show (k + 1) * 2 = k * 2 + 1 + 1 by omega]
    exact this
theorem pairVals_set0 : ∀ (out : List (Int × Int)) (k : Nat) (hk : k < out.length) (x : Int), (pairVals out).set (k * 2) (.int .i64 x) = pairVals (out.set k (x, (out.getD k (-1, -1)).2))
  | q :: out, 0, _, x => rfl
  | q :: out, k + 1, hk, x => by
    have := pairVals_set0 out k (by simpa using hk) x
    rw [show (k + 1) * 2 = k * 2 + 1 + 1 by omega]
    show _ :: _ :: (pairVals out).set (k * 2) _ = _
    rw [this]; rfl
theorem pairVals_set1 : ∀ (out : List (Int × Int)) (k : Nat) (hk : k < out.length) (x : Int), (pairVals out).set (k * 2 + 1) (.int .i64 x) = pairVals (out.set k ((out.getD k (-1, -1)).1, x))
  | q :: out, 0, _, x => rfl
  | q :: out, k + 1, hk, x => by
    have := pairVals_set1 out k (by simpa using hk) x
    rw [show (k + 1) * 2 + 1 = (k * 2 + 1) + 1 + 1 by omega]
    show _ :: _ :: (pairVals out).set (k * 2 + 1) _ = _
    rw [this]; rfl
theorem pairVals_length (out : List (Int × Int)) : (pairVals out).length = out.length * 2 := by
  induction out with
  | nil => rfl
  | cons q out ih =>
    rw [show pairVals (q :: out) = .int .i64 q.1 :: .int .i64 q.2 :: pairVals out from rfl, List.length_cons, List.length_cons, ih, List.length_cons]
    omega
theorem PA.cell0 {w : World} {ob : Nat} {out : List (Int × Int)} (h : PA w ob out) (k : Nat) (hk : k < out.length) : w.cell? ⟨ob, k * 2, none⟩ = some (.int .i64 (out.getD k (-1, -1)).1) ∧ w.cell? ⟨ob, k * 2 + 1, none⟩ = some (.int .i64 (out.getD k (-1, -1)).2) := by
  obtain ⟨h1, h2⟩ := pairVals_get out k hk
  exact ⟨(cell_of_row w ob _ _ 30 (0, 0) h).trans (by rw [List.getElem?_toArray]; exact h1), (cell_of_row w ob _ _ 30 (0, 0) h).trans (by rw [List.getElem?_toArray]; exact h2)⟩
theorem PA.froz {w : World} {ob : Nat} {out : List (Int × Int)} (h : PA w ob out) (j : Nat) : w.frozen? ⟨ob, j, none⟩ = false := frozen_of_row w ob j _ 30 h
theorem PA.set0 {w : World} {ob : Nat} {out : List (Int × Int)} (h : PA w ob out) (k : Nat) (hk : k < out.length) (x : Int) : PA (w.setCell ⟨ob, k * 2, none⟩ (.int .i64 x)) ob (out.set k (x, (out.getD k (-1, -1)).2)) ∧ w.grownBy (w.setCell ⟨ob, k * 2, none⟩ (.int .i64 x)) (some ob) := by
  refine ⟨?_, rfl, rfl, rfl, by simp, fun j _ hj => heap_setCell_other w ⟨ob, k * 2, none⟩ j _ (fun e => hj (by simp [e]))⟩
  unfold PA
  rw [heap_setCell_same w ob _ _ 30 _ h, ← pairVals_set0 out k hk x]
  simp
theorem PA.set1 {w : World} {ob : Nat} {out : List (Int × Int)} (h : PA w ob out) (k : Nat) (hk : k < out.length) (x : Int) : PA (w.setCell ⟨ob, k * 2 + 1, none⟩ (.int .i64 x)) ob (out.set k ((out.getD k (-1, -1)).1, x)) ∧ w.grownBy (w.setCell ⟨ob, k * 2 + 1, none⟩ (.int .i64 x)) (some ob) := by
  refine ⟨?_, rfl, rfl, rfl, by simp, fun j _ hj => heap_setCell_other w ⟨ob, k * 2 + 1, none⟩ j _ (fun e => hj (by simp [e]))⟩
  unfold PA
  rw [heap_setCell_same w ob _ _ 30 _ h, ← pairVals_set1 out k hk x]
  simp
theorem PA.both {w : World} {ob : Nat} {out : List (Int × Int)} (h : PA w ob out) (k : Nat) (hk : k < out.length) (x y : Int) : PA ((w.setCell ⟨ob, k * 2, none⟩ (.int .i64 x)).setCell ⟨ob, k * 2 + 1, none⟩ (.int .i64 y)) ob (out.set k (x, y)) ∧ w.grownBy ((w.setCell ⟨ob, k * 2, none⟩ (.int .i64 x)).setCell ⟨ob, k * 2 + 1, none⟩ (.int .i64 y)) (some ob) := by
  obtain ⟨h1, g1⟩ := h.set0 k hk x
  obtain ⟨h2, g2⟩ := h1.set1 k (by rw [List.length_set]; exact hk) y
  refine ⟨?_, grownBy.trans' g1 g2⟩
  have e : (out.set k (x, (out.getD k (-1, -1)).2)).set k (((out.set k (x, (out.getD k (-1, -1)).2)).getD k (-1, -1)).1, y) = out.set k (x, y) := by
    rw [List.set_set]
    congr 1
    simp [hk]
  rwa [e] at h2
structure PRl (w0 : World) (p G : Nat) (l : List Stp) (n g cap : Nat) (L : List UInt8) (lo hi H ob tk : Nat) (out : List (Int × Int)) (wr : World) : Prop where
  sg : SG wr p G l n g cap
  span : wr.heap[H]? = some (.cells #[.int .i64 (lo : Nat), .int .i64 (hi : Nat)] 30 (0, 0))
  tab : Table wr tk l L lo hi
  tkh : tk < wr.heap.size
  pa : PA wr ob out
  bel : Below H w0 wr
  hob : H < ob
  htk : ob < tk
section
variable {w0 wr w' : World} {p G : Nat} {l : List Stp} {n g cap : Nat} {L : List UInt8} {lo hi H ob tk : Nat} {out out' : List (Int × Int)}
theorem PRl.over (h : PRl w0 p G l n g cap L lo hi H ob tk out wr) (hG : G ≤ H) (hb : Below wr.heap.size wr w') : PRl w0 p G l n g cap L lo hi H ob tk out w' := by
  have h1 := h.hob
  have h2 := h.htk
  have h3 := h.tkh
  refine ⟨h.sg.below (hb.mono (by omega)), (hb.block _ (by omega)).trans h.span, ⟨fun a ha hb' => ?_⟩, Nat.lt_of_lt_of_le h3 hb.size, (hb.block _ (by omega)).trans h.pa, h.bel.trans (hb.mono (by omega)), h1, h2⟩
  obtain ⟨rb, k1, k2, k3⟩ := h.tab.rows a ha hb'
  exact ⟨rb, (World.cell?_of_block (hb.block tk h3)).trans k1, (hb.block rb (Array.getElem?_eq_some_iff.1 k2).1).trans k2, k3⟩
theorem PRl.put (h : PRl w0 p G l n g cap L lo hi H ob tk out wr) (hG : G ≤ H) (hpa : PA w' ob out') (hb : wr.grownBy w' (some ob)) : PRl w0 p G l n g cap L lo hi H ob tk out' w' := by
  have h1 := h.hob
  have h2 := h.htk
  have h3 := h.tkh
  have k : ∀ i, i < wr.heap.size → i ≠ ob → w'.heap[i]? = wr.heap[i]? := fun i hi hne => hb.block i hi (fun e => by injection e; omega)
  have hB : Below (H + 1) wr w' := ⟨hb.os, hb.tape, hb.output, hb.size, fun i hi => k i (by omega) (by omega)⟩
  refine ⟨h.sg.below (hB.mono (by omega)), (k _ (by omega) (by omega)).trans h.span, ⟨fun a ha hb' => ?_⟩, Nat.lt_of_lt_of_le h3 hb.size, hpa, h.bel.trans (hB.mono (by omega)), h1, h2⟩
  obtain ⟨rb, k1, k2, k3⟩ := h.tab.rows a ha hb'
  exact ⟨rb, (World.cell?_of_block (k tk h3 (by omega))).trans k1, (k rb (Array.getElem?_eq_some_iff.1 k2).1 (by omega)).trans k2, k3⟩
end
theorem info30 : (Try.prog.info? 30).map (fun i => (i.zero, i.size, i.bytes)) = some (some (.agg #[.int .i64 0, .int .i64 0]), 2, 16) := by kernel_rfl
theorem pair_zero (n : Nat) : (pairVals (List.replicate n ((0 : Int), (0 : Int)))).toArray = madeCells (Value.agg #[.int .i64 0, .int .i64 0]).cells (n * 2) := by
  apply Array.toList_inj.1
  apply List.ext_getElem?
  intro j
  have hl : (pairVals (List.replicate n ((0 : Int), (0 : Int)))).length = n * 2 := by rw [pairVals_length, List.length_replicate]
  by_cases hj : j < n * 2
  · have e : (pairVals (List.replicate n ((0 : Int), (0 : Int))))[j]? = some (.int .i64 0) := by
      obtain ⟨h1, h2⟩ := pairVals_get (List.replicate n ((0 : Int), (0 : Int))) (j / 2) (by rw [List.length_replicate]; omega)
      have hz : (List.replicate n ((0 : Int), (0 : Int))).getD (j / 2) (-1, -1) = (0, 0) := by
        rw [List.getD_eq_getElem?_getD, List.getElem?_replicate, if_pos (by omega)]; rfl
      rw [hz] at h1 h2
      rcases Nat.mod_two_eq_zero_or_one j with h | h
      · rwa [show j / 2 * 2 = j by omega] at h1
      · rwa [show j / 2 * 2 + 1 = j by omega] at h2
    rw [List.toList_toArray, e]
    simp only [madeCells, Value.cells, Array.toList_map, Array.toList_range, List.getElem?_map, List.getElem?_range hj, Option.map_some]
    rcases Nat.mod_two_eq_zero_or_one j with h | h <;> simp [h]
  · rw [List.toList_toArray, List.getElem?_eq_none (by omega), List.getElem?_eq_none (by simp [madeCells]; omega)]
def pfill (n i : Nat) : List (Int × Int) := List.replicate i (-1, -1) ++ List.replicate (n - i) (0, 0)
theorem pfill_length (n i : Nat) (h : i ≤ n) : (pfill n i).length = n := by simp [pfill]; omega
theorem pfill_set (n i : Nat) (h : i < n) : (pfill n i).set i (-1, -1) = pfill n (i + 1) := by
  unfold pfill
  rw [List.set_append_right _ _ (by simp)]
  simp only [List.length_replicate, Nat.sub_self]
  rw [show n - i = (n - (i + 1)) + 1 by omega, List.replicate_succ, List.set_cons_zero, List.replicate_succ', List.append_assoc]
  rfl
set_option maxHeartbeats 8000000 in
theorem places_any (w : World) (p G : Nat) (l : List Stp) (n g cap : Nat) (hSG : SG w p G l n g cap) (hwf : WF l) (hl : l.length ≤ 100000) (hn : n ≤ 1000) (htos : ∀ x ∈ l, x.to ≤ 1000000) (hG : G ≤ w.heap.size) (s : ByteArray) (hs : s.size ≤ 1000) (lo hi : Nat) (hlo : lo ≤ hi) (hhi : hi ≤ s.size)
    (u : Nat) (fin : List (Int × Int)) (hfin : placesO u l lo hi (fun a => rowAt l s.data.toList hi (hi - a)) 0 lo ((List.replicate (n + 1) ((-1 : Int), (-1 : Int))).set 0 ((lo : Int), (hi : Int))) = some fin) :
    Calls Try.prog 15 #[.pointer (some ⟨p, 0, none⟩), .string s, .agg #[.int .i64 (lo : Nat), .int .i64 (hi : Nat)]] w fun e w' => ∃ ob, e = .returned (.slice (some ⟨ob, 0, none⟩) (n + 1) (n + 1)) ∧ PA w' ob fin ∧ w.heap.size ≤ ob ∧ Below w.heap.size w w' := by
  obtain ⟨i0, ki, kz0, kz1, kz2⟩ := info_parts info30
  obtain ⟨H, hH⟩ : ∃ H, H = w.heap.size := ⟨_, rfl⟩
  have HH := Lib.hid hH
  rw [← hH] at hG
  have hbA : Below H w (w.alloc (.cells #[.int .i64 (lo : Nat), .int .i64 (hi : Nat)] 30)) := (Below.refl H w).alloc (by omega) _
  have hA : (w.alloc (.cells #[.int .i64 (lo : Nat), .int .i64 (hi : Nat)] 30)).heap[H]? = some (.cells #[.int .i64 (lo : Nat), .int .i64 (hi : Nat)] 30 (0, 0)) := by rw [hH]; exact heap_alloc_new w _
  have hszA : (w.alloc (.cells #[.int .i64 (lo : Nat), .int .i64 (hi : Nat)] 30)).heap.size = H + 1 := by simp [hH]
  have hS1 := hSG.below (hbA.mono hG)
  have c1 := hS1.c1
  have HS := Lib.hid hSG
  have HF := Lib.hid hfin
  have HBA := Lib.hid hbA
  have HA := Lib.hid hA
  have HSZ := Lib.hid hszA
  clear hH hSG hfin hbA hA hszA hS1
  go_enter Try.func15, Try.ntmps15
  go_upto_region 3 with ((with_reducible refine wpList_make_full _ rfl (.tmp 17) (.tmp 17) 27 rfl H 30 i0 (.agg #[.int .i64 0, .int .i64 0]) 2 Try.underlying27 ki kz0 kz1 .i64 .i64 ((n : Int) + 1) ((n : Int) + 1) (n + 1) ?_ ?_ (by omega) (by omega) ?_ ?_ ?_ ?_); (rfl); (rfl); (rw [kz2]; omega); (simp only [maxLen]; omega); (simp; rw [HH.out]; omega); intro w1 hown1 hg1)
  have hb1 := own_full hown1
  rw [HSZ.out] at hb1
  rw [← HH.out]
  obtain ⟨ob, hob⟩ : ∃ ob, ob = H + 1 := ⟨_, rfl⟩
  rw [← hob] at hb1 ⊢
  have hbel1 : Below ob (w.alloc (.cells #[.int .i64 (lo : Nat), .int .i64 (hi : Nat)] 30)) w1 := ⟨hg1.os, hg1.tape, hg1.output, hg1.size, fun k hk => hg1.block k (by rw [HSZ.out]; omega) (fun e => by cases e)⟩
  have hPA0 : PA w1 ob (pfill (n + 1) 0) := by
    unfold PA
    rw [hb1, Array.toArray_toList, ← pair_zero]
    simp [pfill]
  have hsp1 : w1.heap[H]? = some (.cells #[.int .i64 (lo : Nat), .int .i64 (hi : Nat)] 30 (0, 0)) := (hbel1.block H (by omega)).trans HA.out
  have hbw1 : Below H w w1 := HBA.out.trans (hbel1.mono (by omega))
  have HPA0 := Lib.hid hPA0
  have HSP1 := Lib.hid hsp1
  have HBW1 := Lib.hid hbw1
  have HOB := Lib.hid hob
  have hHob : H < ob := by omega
  clear hown1 hg1 hb1 hbel1 hPA0 hsp1 hbw1 hob HA HBA HSZ c1
  go_loopw [8, 21] (fun _ v21 wr => ∃ i : Nat, i ≤ n + 1 ∧ v21 = .int .i64 (i : Nat) ∧ PA wr ob (pfill (n + 1) i) ∧ Hid (wr.heap[H]? = some (.cells #[.int .i64 (lo : Nat), .int .i64 (hi : Nat)] 30 (0, 0))) ∧ Below H w wr) (fun _ v21 _ => n + 1 - (intOf v21).toNat)
  case atStart => exact ⟨0, Nat.zero_le _, rfl, HPA0.out, HSP1.out, HBW1.out⟩
  case round =>
    clear HPA0 HSP1 HBW1
    obtain ⟨i, hin, rfl, hPA, hsp, hbel⟩ := hrel
    by_cases hi1 : i < n + 1
    · have hlt1 : decide ((i : Int) < (n : Int) + 1) = true := decide_eq_true (by omega)
      have hlt2 : decide (i < n + 1) = true := decide_eq_true hi1
      have hi3 : decide ((0 : Int) ≤ (i : Int)) = true := decide_eq_true (by omega)
      have hi4 : decide ((i : Int) < ((n + 1 : Nat) : Int)) = true := decide_eq_true (by omega)
      have hi5 : ¬ n + 1 ≤ i := by omega
      have hil : i < (pfill (n + 1) i).length := by rw [pfill_length _ _ hin]; exact hi1
      obtain ⟨hcx, hcy⟩ := hPA.cell0 i hil
      have hzx := hPA.froz (i * 2)
      have hzy := hPA.froz (i * 2 + 1)
      obtain ⟨hPA2, hg2⟩ := hPA.both i hil (-1) (-1)
      rw [pfill_set _ _ hi1] at hPA2
      have hb2 := grownBy_below hg2 (H + 1) hHob (by have := (Array.getElem?_eq_some_iff.1 hsp.out).1; omega)
      have HPA2 := Lib.hid hPA2
      have HB2 := Lib.hid hb2
      clear hPA hPA2 hg2 hb2
      go_wp2_with fail
      go_roundw
      case rel => exact ⟨i + 1, by omega, by go_num, HPA2.out, (HB2.out.block H (by omega)).trans hsp.out, hbel.trans (HB2.out.mono (by omega))⟩
      case measure => simp [intOf]; omega
    · obtain rfl : i = n + 1 := by omega
      have hlt1 : decide (((n + 1 : Nat) : Int) < (n : Int) + 1) = false := decide_eq_false (by omega)
      have hfull : pfill (n + 1) (n + 1) = List.replicate (n + 1) (-1, -1) := by simp [pfill]
      rw [hfull] at hPA
      obtain ⟨hcx, hcy⟩ := hPA.cell0 0 (by simp)
      have hzx := hPA.froz (0 * 2)
      have hzy := hPA.froz (0 * 2 + 1)
      rw [Nat.zero_mul] at hcx hcy hzx hzy
      have clo := cell_of_row wr H 0 _ 30 (0, 0) hsp.out
      have chi := cell_of_row wr H 1 _ 30 (0, 0) hsp.out
      have clo2 : wr.cell? ⟨H, 0, none⟩ = some (.int .i64 (lo : Nat)) := clo
      have chi2 : wr.cell? ⟨H, 1, none⟩ = some (.int .i64 (hi : Nat)) := chi
      obtain ⟨hPA2, hg2⟩ := hPA.both 0 (by simp) (lo : Int) (hi : Int)
      rw [Nat.zero_mul] at hPA2 hg2
      have hb2 := grownBy_below hg2 (H + 1) hHob (by have := (Array.getElem?_eq_some_iff.1 hsp.out).1; omega)
      have HPA2 := Lib.hid hPA2
      have HB2 := Lib.hid hb2
      have HSP := Lib.hid hsp
      clear hPA hPA2 hg2 hb2 clo chi hfull
      go_upto_region 8 with fail
      generalize (wr.setCell ⟨ob, 0, none⟩ (.int .i64 (lo : Int))).setCell ⟨ob, 0 + 1, none⟩ (.int .i64 (hi : Int)) = W2 at HPA2 HB2
      have hobl : ob < wr.heap.size := by
        have h := (Array.getElem?_eq_some_iff.1 HPA2.out).1
        have hx := hcx
        exact block_lt_of_cell hx
      have hbW : Below H w W2 := hbel.trans (HB2.out.mono (by omega))
      have hsW : W2.heap[H]? = some (.cells #[.int .i64 (lo : Nat), .int .i64 (hi : Nat)] 30 (0, 0)) := (HB2.out.block H (by omega)).trans HSP.out
      have hSGW : SG W2 p G l n g cap := HS.out.below (hbW.mono hG)
      have hszW : ob < W2.heap.size := (Array.getElem?_eq_some_iff.1 HPA2.out).1
      have g22 := reach_any W2 p G l n g cap hSGW hwf hl (by omega) s hs lo hi hlo hhi
      have cloW : W2.cell? ⟨H, 0, none⟩ = some (.int .i64 (lo : Nat)) := cell_of_row W2 H 0 _ 30 (0, 0) hsW
      have chiW : W2.cell? ⟨H, 1, none⟩ = some (.int .i64 (hi : Nat)) := cell_of_row W2 H 1 _ 30 (0, 0) hsW
      have HSW := Lib.hid hsW
      have HBW := Lib.hid hbW
      have HSGW := Lib.hid hSGW
      clear hcx hcy hzx hzy clo2 chi2 HB2 HSP hsp hbel hsW hbW hSGW
      go_upto_region 9 with (go_at_call 22; ((with_reducible refine g22.mono ?_); rintro e w3 ⟨tk, rfl, htk, hTab, hB3⟩))
      have hPR : PRl w p G l n g cap s.data.toList lo hi H ob tk ((List.replicate (n + 1) ((-1 : Int), (-1 : Int))).set 0 ((lo : Int), (hi : Int))) w3 := by
        obtain ⟨rb, _, hrb, hrk⟩ := hTab.rows lo (Nat.le_refl _) hlo
        have hrl := (Array.getElem?_eq_some_iff.1 hrb).1
        exact ⟨HSGW.out.below (hB3.mono (by omega)), (hB3.block H (by omega)).trans HSW.out, hTab, by omega, (hB3.block ob hszW).trans HPA2.out, HBW.out.trans (hB3.mono (by omega)), hHob, by omega⟩
      have hclo := cell_of_row w3 H 0 _ 30 (0, 0) hPR.span
      have hclo2 : w3.cell? ⟨H, 0, none⟩ = some (.int .i64 (lo : Nat)) := hclo
      have HPR := Lib.hid hPR
      clear hTab hB3 hPR hclo g22 cloW chiW HSW HBW HSGW HPA2
      go_quiet (fail)
      have hPR2 := HPR.out.over hG ((Same.drew w3 nq).below _)
      generalize w3.drewN nq = w4 at hPR2 ⊢
      have HPR2 := Lib.hid hPR2
      clear hPR2 HPR hclo2
      go_upto_region 10 with fail
      go_loopg [10, 11, 12] u (fun k v10 v11 _ wr => ∃ m a o, v10 = .int .i64 (m : Nat) ∧ v11 = .int .i64 (a : Nat) ∧ PRl w p G l n g cap s.data.toList lo hi H ob tk o wr ∧ Hid (placesO k l lo hi (fun a => rowAt l s.data.toList hi (hi - a)) m a o = some fin) ∧ o.length = n + 1)
      case atStart => exact ⟨0, lo, _, rfl, rfl, HPR2.out, HF.out, by simp⟩
      case round =>
        clear HPR2 HF
        obtain ⟨m, a, o, rfl, rfl, hP, hO, hol⟩ := hrel
        obtain ⟨k, rfl⟩ : ∃ k, gk = k + 1 := by
          cases gk with
          | zero => have h := hO.out; simp [placesO] at h
          | succ k => exact ⟨k, rfl⟩
        have hO1 : placesO (k + 1) l lo hi (fun a => rowAt l s.data.toList hi (hi - a)) m a o = some fin := hO.out
        rw [placesO_succ] at hO1
        have hcond : m < l.length ∧ lo ≤ a ∧ a ≤ hi := by
          by_cases h : m < l.length ∧ lo ≤ a ∧ a ≤ hi
          · exact h
          · rw [if_neg h] at hO1; cases hO1
        rw [if_pos hcond] at hO1
        obtain ⟨hml, hloa, hahi⟩ := hcond
        have hst := hP.sg.has m hml
        have hrun := hP.sg.get m hml
        have hck := hP.sg.kind m hml
        have c0 := hP.sg.c0
        have hto1 : (l.getD m default).to ≤ 1000000 := by
          have e1 : l.getD m default = l[m] := by simp [hml]
          rw [e1]; exact htos _ (List.getElem_mem hml)
        have hkd6 := hwf.kinds m hml
        have hnext := hwf.next m hml a (hi + 1)
        obtain ⟨x, hx⟩ : ∃ x, x = l.getD m default := ⟨_, rfl⟩
        rw [← hx] at hst hrun hck hto1 hkd6 hO1
        unfold placesStep at hO1
        obtain ⟨kd, hkd⟩ : ∃ kd, kd = x.kind := ⟨_, rfl⟩
        rw [← hkd] at hck hkd6 hO1
        obtain ⟨tt, htt⟩ : ∃ t, t = x.to := ⟨_, rfl⟩
        rw [← htt] at hto1 hO1
        have HX := Lib.hid hx
        have HKD := Lib.hid hkd
        have HTT := Lib.hid htt
        have HO1 := Lib.hid hO1
        have HP := Lib.hid hP
        have HRUN := Lib.hid hrun
        have hi1 : decide ((0 : Int) ≤ (m : Int)) = true := decide_eq_true (by omega)
        have hi2 : decide ((m : Int) < (l.length : Int)) = true := decide_eq_true (by omega)
        have hmn : ¬ l.length ≤ m := by omega
        clear hO hO1 hx hkd htt hP hrun hnext
        by_cases hk6 : kd = 6
        · have hq : ((kd : Int) != 6) = false := by rw [hk6]; rfl
          have hfe : o = fin := by
            have h := HO1.out
            simp only [hk6, if_true] at h
            injection h
          subst hfe
          clear HO1 hk6
          go_wp2_with fail
          go_ret
          exact ⟨ob, rfl, HP.out.pa, by rw [← HH.out]; omega, by rw [← HH.out]; exact HP.out.bel⟩
        · have hq : ((kd : Int) != 6) = true := by
            rw [bne_iff_ne]; intro e; exact hk6 (by omega)
          obtain ⟨Z, hZ⟩ : ∃ Z, Z = wr.heap.size := ⟨_, rfl⟩
          have HZ := Lib.hid hZ
          clear hZ
          go_upto_region 12 with (((with_reducible refine wpList_take50 rfl rfl rfl 53 12 (.tmp 52) rfl rfl rfl rfl rfl rfl ⟨g, m * 258, none⟩ ?_ x hst HRUN.out ?_ ?_ ?_ ?_); (rfl); (simp); (simp); (decide); intro w5 V0 hV0 hb5 hB5; rw [← HZ.out] at hb5 hB5 ⊢))
          have hck5 : w5.cell? ⟨Z, 256, none⟩ = some (.int .i64 (kd : Nat)) := by rw [HKD.out]; exact (cell_of_row w5 Z 256 _ 50 _ hb5.out).trans (x.arr_kind hst)
          have hct5 : w5.cell? ⟨Z, 257, none⟩ = some (.int .i64 (tt : Nat)) := by rw [HTT.out]; exact (cell_of_row w5 Z 257 _ 50 _ hb5.out).trans (x.arr_to hst)
          have hP5 := HP.out.over hG (by rw [← HZ.out]; exact hB5)
          have HP5 := Lib.hid hP5
          clear hb5 hB5 hV0 hP5 HP HRUN c0 hck
          have hal : a ≤ 1000 := by omega
          have hcase : kd = 0 ∨ kd = 1 ∨ kd = 2 ∨ kd = 3 ∨ kd = 4 ∨ kd = 5 := by omega
          have hll : m ≤ 100000 := by omega
          rcases hcase with rfl | rfl | rfl | rfl | rfl | rfl
          · have hO2 : placesO k l lo hi (fun a => rowAt l s.data.toList hi (hi - a)) (m + 1) (a + 1) o = some fin := by
              have h := HO1.out; simpa using h
            have HO2 := Lib.hid hO2
            clear hO2 HO1
            go_wp2_with fail
            go_roundg k
            case measure => omega
            case rel => exact ⟨m + 1, a + 1, o, by go_num, by go_num, HP5.out, HO2.out, hol⟩
          · have hO2 : placesO k l lo hi (fun a => rowAt l s.data.toList hi (hi - a)) (m + 1) a o = some fin := by
              have h := HO1.out; simpa using h
            have HO2 := Lib.hid hO2
            clear hO2 HO1
            go_wp2_with fail
            go_roundg k
            case measure => omega
            case rel => exact ⟨m + 1, a, o, by go_num, rfl, HP5.out, HO2.out, hol⟩
          · have hO2 : placesO k l lo hi (fun a => rowAt l s.data.toList hi (hi - a)) (m + 1) a o = some fin := by
              have h := HO1.out; simpa using h
            have HO2 := Lib.hid hO2
            clear hO2 HO1
            go_wp2_with fail
            go_roundg k
            case measure => omega
            case rel => exact ⟨m + 1, a, o, by go_num, rfl, HP5.out, HO2.out, hol⟩
          · have hm1 : m + 1 < l.length := by
              by_cases h : m + 1 < l.length
              · exact h
              · have h2 := HO1.out; simp [h] at h2
            obtain ⟨rb, ct1, ct2, _⟩ := HP5.out.tab.rows a hloa hahi
            have cb := ct2.cell (m + 1) (by rw [rowAt_length]; exact hm1)
            obtain ⟨y, hy⟩ : ∃ y, y = (rowAt l s.data.toList hi (hi - a)).getD (m + 1) false := ⟨_, rfl⟩
            rw [← hy] at cb
            have hO2 : placesO k l lo hi (fun a => rowAt l s.data.toList hi (hi - a)) (if y = true then m + 1 else tt) a o = some fin := by
              have h := HO1.out
              simp only [hm1, if_true, ← hy] at h
              cases y <;> simpa using h
            have clo5 : w5.cell? ⟨H, 0, none⟩ = some (.int .i64 (lo : Nat)) := cell_of_row w5 H 0 _ 30 (0, 0) HP5.out.span
            obtain ⟨e, he⟩ : ∃ e, e = a - lo := ⟨_, rfl⟩
            rw [← he] at ct1
            have hei : (a : Int) - (lo : Int) = (e : Int) := by omega
            have hwe : IntKind.i64.wrap ((a : Int) - (lo : Int)) = (e : Int) := by rw [IntWalk.i64_in _ (by omega)]; exact hei
            have hwm : IntKind.i64.wrap ((m : Int) + 1) = ((m + 1 : Nat) : Int) := by rw [IntWalk.i64_in _ (by omega)]; omega
            have hmi : (m : Int) + 1 = ((m + 1 : Nat) : Int) := by omega
            have hj1 : decide ((0 : Int) ≤ (e : Int)) = true := decide_eq_true (by omega)
            have hj2 : decide ((e : Int) < ((hi - lo + 1 : Nat) : Int)) = true := decide_eq_true (by omega)
            have hj3 : ¬ hi - lo + 1 ≤ e := by omega
            have hj4 : decide ((0 : Int) ≤ ((m + 1 : Nat) : Int)) = true := decide_eq_true (by omega)
            have hj5 : decide (((m + 1 : Nat) : Int) < (l.length : Int)) = true := decide_eq_true (by omega)
            have hj6 : ¬ l.length ≤ m + 1 := by omega
            have HO2 := Lib.hid hO2
            clear hO2 HO1 hy he ct2 hmi hei
            cases y with
            | true =>
              go_wp2_with fail
              go_roundg k
              case measure => omega
              case rel => exact ⟨m + 1, a, o, rfl, rfl, HP5.out, HO2.out, hol⟩
            | false =>
              go_wp2_with fail
              go_roundg k
              case measure => omega
              case rel => exact ⟨tt, a, o, rfl, rfl, HP5.out, HO2.out, hol⟩
          · have hO2 : placesO k l lo hi (fun a => rowAt l s.data.toList hi (hi - a)) tt a o = some fin := by
              have h := HO1.out; simpa using h
            have HO2 := Lib.hid hO2
            clear hO2 HO1
            go_wp2_with fail
            go_roundg k
            case measure => omega
            case rel => exact ⟨tt, a, o, rfl, rfl, HP5.out, HO2.out, hol⟩
          · have htl : tt / 2 < o.length := by
              by_cases h : tt / 2 < o.length
              · exact h
              · have h2 := HO1.out; simp [h] at h2
            obtain ⟨d, hd⟩ : ∃ d, d = tt / 2 := ⟨_, rfl⟩
            have hdo : d < o.length := by rw [hd]; exact htl
            have hdi : (tt : Int) / 2 = (d : Int) := by omega
            have hj1 : decide ((0 : Int) ≤ (d : Int)) = true := decide_eq_true (by omega)
            have hj2 : decide ((d : Int) < ((n + 1 : Nat) : Int)) = true := decide_eq_true (by omega)
            have hj2' : decide ((d : Int) < (n : Int) + 1) = true := decide_eq_true (by omega)
            have hj3 : ¬ n + 1 ≤ d := by omega
            rcases Nat.mod_two_eq_zero_or_one tt with hm2 | hm2
            · have hri : (tt : Int) % 2 = 0 := by omega
              have hO2 : placesO k l lo hi (fun a => rowAt l s.data.toList hi (hi - a)) (m + 1) a (o.set d ((a : Int), (o.getD d (-1, -1)).2)) = some fin := by
                have h := HO1.out
                have hmod : tt % 2 = 0 := by omega
                simp only [htl, if_true, ← hd, hmod] at h
                simp only [hdo, if_true] at h
                simpa using h
              have HO2 := Lib.hid hO2
              have hcx := (HP5.out.pa.cell0 d hdo).1
              have hzx := HP5.out.pa.froz (d * 2)
              clear hO2 HO1 hd htl
              go_upto_region 18 with fail
              refine wp_region_quiet_tail 10 (by kernel_rfl) (by kernel_rfl) ?_
              simp only [List.take_succ_cons, List.take_zero, List.drop_succ_cons, List.drop_zero]
              iterate 10 (go_big_quiet_step (fail))
              refine wpQuiet_nil ?_
              intro _ hw'
              obtain ⟨nq2, hw''⟩ := hw'
              subst hw''
              have hP7 := HP5.out.over hG ((Same.drew w5 nq2).below _)
              obtain ⟨hpa8, hg8⟩ := hP7.pa.set0 d hdo (a : Int)
              have hP8 := hP7.put hG hpa8 hg8
              have HP8 := Lib.hid hP8
              clear hP7 hpa8 hg8 hP8
              go_wp2_with fail
              go_roundg k
              case measure => omega
              case rel => exact ⟨m + 1, a, o.set d ((a : Int), (o.getD d (-1, -1)).2), by go_num, rfl, HP8.out, HO2.out, by rw [List.length_set]; exact hol⟩
            · have hri : (tt : Int) % 2 = 1 := by omega
              have hO2 : placesO k l lo hi (fun a => rowAt l s.data.toList hi (hi - a)) (m + 1) a (o.set d ((o.getD d (-1, -1)).1, (a : Int))) = some fin := by
                have h := HO1.out
                have hmod : tt % 2 = 1 := by omega
                simp only [htl, if_true, ← hd, hmod] at h
                simp only [hdo, if_true] at h
                simpa using h
              have HO2 := Lib.hid hO2
              have hcx := (HP5.out.pa.cell0 d hdo).2
              have hzx := HP5.out.pa.froz (d * 2 + 1)
              clear hO2 HO1 hd htl
              go_upto_region 18 with fail
              refine wp_region_quiet_tail 10 (by kernel_rfl) (by kernel_rfl) ?_
              simp only [List.take_succ_cons, List.take_zero, List.drop_succ_cons, List.drop_zero]
              iterate 10 (go_big_quiet_step (fail))
              refine wpQuiet_nil ?_
              intro _ hw'
              obtain ⟨nq2, hw''⟩ := hw'
              subst hw''
              have hP7 := HP5.out.over hG ((Same.drew w5 nq2).below _)
              obtain ⟨hpa8, hg8⟩ := hP7.pa.set1 d hdo (a : Int)
              have hP8 := hP7.put hG hpa8 hg8
              have HP8 := Lib.hid hP8
              clear hP7 hpa8 hg8 hP8
              go_wp2_with fail
              go_roundg k
              case measure => omega
              case rel => exact ⟨m + 1, a, o.set d ((o.getD d (-1, -1)).1, (a : Int)), by go_num, rfl, HP8.out, HO2.out, by rw [List.length_set]; exact hol⟩
end Go.Proofs.Ytnhlinkkfoojmaa
