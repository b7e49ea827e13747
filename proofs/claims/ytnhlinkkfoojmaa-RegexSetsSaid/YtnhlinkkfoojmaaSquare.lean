/- A set in brackets is read: the walk of square. -/
import Derived.Test.YtnhlinkkfoojmaaTools
import Derived.Test.YtnhlinkkfoojmaaQTail
namespace Go.Proofs.Ytnhlinkkfoojmaa
open Go.RowKit
set_option maxRecDepth 100000
set_option linter.unusedSimpArgs false
set_option linter.unusedVariables false
theorem must_b (b : Bool) (w : World) : Calls Try.prog 18 #[.bool b] w fun e w' => (e = if b then .returned (.tuple #[]) else .panicked wrongs) ∧ w' = w := by
  cases b with
  | true => exact must_yes w
  | false => exact must_no w
def idxVal : Option Nat → Int | none => -1 | some j => (j : Int)
theorem indexByte_find (l : List UInt8) (c : UInt8) : Lib.indexByte l c = idxVal (l.findIdx? (· == c)) := by
  induction l with
  | nil => rfl
  | cons b l ih =>
    rw [Lib.indexByte, List.findIdx?_cons, ih]
    cases h : (b == c) with
    | true => simp [idxVal]
    | false => cases hf : List.findIdx? (fun x => x == c) l <;> simp [idxVal] <;> omega
theorem at_lt (s : List UInt8) (r : Rdr) (c : UInt8) (t : List UInt8) (h : r.at' s (c :: t) = true) : r.i < s.length := by
  unfold Rdr.at' at h
  rcases Nat.lt_or_ge r.i s.length with h1 | h1
  · exact h1
  · rw [List.drop_of_length_le h1] at h; cases h
/-- In the midst of a set: the reader, the step that is being laid. -/
structure SQ (w0 : World) (p G : Nat) (s : ByteArray) (r : Rdr) (v : Value) (h : List Bool) (wr : World) : Prop where
  rl : RL wr p G s r v
  blk : wr.heap[G]? = some (.cells (Stp.mk h 0 0).vals.toArray 50 (0, 0))
  bel : Below p w0 wr
  len : h.length = 256
section
variable {w0 wr wc : World} {p G : Nat} {s : ByteArray} {r : Rdr} {v : Value} {h : List Bool}
theorem SQ.set (q : SQ w0 p G s r v h wr) (k : Nat) (hk : k < 256) (b : Bool) : SQ w0 p G s r v (h.set k b) (wr.setCell ⟨G, k, none⟩ (.bool b)) := by
  obtain ⟨h1, h2⟩ := set_own (st := ⟨h, 0, 0⟩) q.len q.blk (Below.refl G wr) k hk b
  exact ⟨q.rl.below h2, h1, q.bel.trans (h2.mono (Nat.le_of_lt q.rl.lt)), by rw [List.length_set]; exact q.len⟩
theorem SQ.cell (q : SQ w0 p G s r v h wr) (k : Nat) (hk : k < 256) : wr.cell? ⟨G, k, none⟩ = some (.bool (h.getD k false)) := (cell_of_row wr G k _ 50 _ q.blk).trans (Stp.vals_at _ q.len k hk)
theorem SQ.froz (q : SQ w0 p G s r v h wr) (k : Nat) : wr.frozen? ⟨G, k, none⟩ = false := frozen_of_row wr G k _ 50 q.blk
theorem SQ.same (q : SQ w0 p G s r v h wr) {w' : World} (k : Same wr w') : SQ w0 p G s r v h w' := ⟨q.rl.below (k.below G), by rw [k.heap]; exact q.blk, q.bel.trans (k.below p), q.len⟩
theorem sq_start (hc : RL wc p G s r v) (hb : Hid (wc.heap[G]? = some (.cells (Stp.mk noSet 0 0).vals.toArray 50 (0, 0)))) (hB : Below p w0 wc) (n i' : Nat) (x : Int) (hx : x = (i' : Nat)) :
    SQ w0 p G s { r with i := i' } v noSet ((wc.drewN n).setCell ⟨p, 3, none⟩ (.int .i64 x)) := by
  subst hx
  refine ⟨⟨(hc.below ((Same.drew wc n).below G)).rv.put3 i', hc.lt, hc.own⟩, ?_, (hB.trans ((Same.drew wc n).below p)).setCell (p := ⟨p, 3, none⟩) (Nat.le_refl _) _, by rfl⟩
  rw [heap_setCell_other _ _ _ _ (by show G ≠ p; have := hc.lt; omega)]; exact hb.out
end
theorem byte_getD (s : ByteArray) (j : Nat) (hj : j < s.size) : s.data.toList.getD j 0 = s[j] := by
  have hl : j < s.data.toList.length := by simpa using hj
  rw [List.getD_eq_getElem?_getD, List.getElem?_eq_getElem hl]
  simp
  rfl
theorem idx_run (L : ByteArray) (k : Nat) (hk : k < L.size) (x : Int) (hx : x = (k : Nat)) (c : UInt8) (hc : c = L.data.toList.getD k 0) (wx : World) :
    (Instr.index 9 (.string L) (.int .i64 x)).run Try.prog wx = .ok (.int .u8 (c.toNat : Nat)) wx := by
  subst hx hc
  rw [run_index_string wx 9 L .i64 k Try.underlying9, dif_pos (by omega), byte_getD L k hk]
  rfl
/-- The bytes from a up to q, q itself not. -/
def addTo (a q : Nat) (h : List Bool) : List Bool := (List.range (q - a)).foldl (fun h k => h.set (a + k) true) h
theorem addTo_start (a : Nat) (h : List Bool) : addTo a a h = h := by simp [addTo]
theorem addTo_step (a q : Nat) (h : List Bool) (hq : a ≤ q) : (addTo a q h).set q true = addTo a (q + 1) h := by
  unfold addTo
  rw [show q + 1 - a = (q - a) + 1 by omega, List.range_succ, List.foldl_append]
  simp only [List.foldl_cons, List.foldl_nil]
  rw [show a + (q - a) = q by omega]
theorem addTo_one (a : Nat) (h : List Bool) : addTo a (a + 1) h = h.set a true := by rw [← addTo_step a a h (Nat.le_refl _), addTo_start]
theorem addTo_range (a b : UInt8) (h : List Bool) : addTo a.toNat (b.toNat + 1) h = addRange a b h := rfl
/-- The first n bytes of a set, turned or not. -/
def flipTo (n : Nat) (neg : Bool) (h : List Bool) : List Bool := (h.take n).map (· != neg) ++ h.drop n
theorem flipTo_get (n : Nat) (neg : Bool) (h : List Bool) (hn : n < h.length) : (flipTo n neg h).getD n false = h.getD n false := by
  unfold flipTo
  rw [List.getD_eq_getElem?_getD, List.getElem?_append_right (by simp; omega)]
  simp [List.length_take, Nat.min_eq_left (Nat.le_of_lt hn)]
theorem flipTo_step (n : Nat) (neg : Bool) (h : List Bool) (hn : n < h.length) : (flipTo n neg h).set n (h.getD n false != neg) = flipTo (n + 1) neg h := by
  unfold flipTo
  rw [List.set_append_right _ _ (by simp; omega)]
  simp only [List.length_map, List.length_take, Nat.min_eq_left (Nat.le_of_lt hn), Nat.sub_self]
  rw [List.drop_eq_getElem_cons hn, List.set_cons_zero, List.take_succ_eq_append_getElem hn, List.map_append, List.append_assoc]
  simp [hn]
theorem flipTo_all (neg : Bool) (h : List Bool) (hl : h.length = 256) : flipTo 256 neg h = h.map (· != neg) := by
  unfold flipTo
  rw [List.take_of_length_le (by omega), List.drop_of_length_le (by omega), List.append_nil]
theorem setOf_range (a b : UInt8) (rest : List UInt8) (h : List Bool) : setOf (a :: 45 :: b :: rest) h = if a ≤ b then setOf rest (addRange a b h) else none := by rw [setOf]
theorem setOf_one (a : UInt8) (rest : List UInt8) (h : List Bool) (hr : ¬ (2 ≤ rest.length ∧ rest.getD 0 0 = 45)) : setOf (a :: rest) h = setOf rest (h.set a.toNat true) := by
  rw [setOf]
  intro b rest' e
  subst e
  exact hr ⟨by simp, rfl⟩
theorem setOf_nil (h : List Bool) : setOf [] h = some h := by rw [setOf]
set_option maxHeartbeats 8000000 in
theorem square_any (p : Nat) (w : World) (s : ByteArray) (R : Rdr) (v : Value) (hR : RV w p s R v) (hi : R.i ≤ s.size) (hs : s.size ≤ 1000) (hnn : R.l.length ≤ 100000) :
    Calls Try.prog 25 #[.pointer (some ⟨p, 0, none⟩)] w fun e w' => match R.square s.data.toList with
      | none => e = .panicked wrongs ∧ Below p w w'
      | some r' => e = .returned (.bool false) ∧ RA w' p s r' ∧ Below p w w' := by
  have hp := hR.lt
  obtain ⟨G, hG⟩ : ∃ G, G = w.heap.size := ⟨_, rfl⟩
  have HRL := Lib.hid (hG ▸ hR.rl : RL w p G s R v)
  have HG := Lib.hid hG
  have hlen : s.data.toList.length = s.size := by simp
  have HL := Lib.hid hlen
  obtain ⟨neg, hneg⟩ : ∃ b, b = R.at' s.data.toList (⟨#[94]⟩ : ByteArray).data.toList := ⟨_, rfl⟩
  have HN := Lib.hid hneg
  obtain ⟨out, hout⟩ : ∃ o, o = R.square s.data.toList := ⟨_, rfl⟩
  rw [← hout]
  have HO := Lib.hid hout
  clear hG hlen hneg hR hout
  go_enter Try.func25, Try.ntmps25
  go_upto_if 14 with (first
    | ((with_reducible refine wpList_fresh rfl rfl rfl 11 3 rfl rfl rfl rfl rfl rfl ?_ ?_ ?_ ?_);
       (simp); (simp); (decide);
       intro w1 V0 hV0 hb1 hB1; rw [← HG.out] at hb1 hB1 ⊢;
       have hR1 := HRL.out.below hB1)
    | (go_at_call 16; ((with_reducible refine (at_r hR1.rv hi (Nat.le_trans hs (by decide)) _ (by decide) neg HN.out).mono ?_); rintro e w2 ⟨rfl, hs2⟩)))
  have hRL2 := hR1.below (hs2.below G)
  have hB2 : Below G w w2 := hB1.trans (hs2.below G)
  have hb2 : Hid (w2.heap[G]? = some (.cells (Stp.mk noSet 0 0).vals.toArray 50 (0, 0))) := by rw [hs2.heap]; exact hb1
  obtain ⟨i, hie⟩ : ∃ i, i = if neg then R.i + 1 else R.i := ⟨_, rfl⟩
  have HI := Lib.hid hie
  have c3 := hRL2.rv.c3
  have z3 := hRL2.rv.froz 3
  have H2 := Lib.hid hRL2
  clear hRL2 hR1 hs2 hie hb1 hB1
  go_cut [] (fun wx => RL wx p G s { R with i := i } v ∧ Hid (wx.heap[G]? = some (.cells (Stp.mk noSet 0 0).vals.toArray 50 (0, 0))) ∧ Below p w wx)
  case first =>
    cases neg with
    | true =>
      go_wp2_with fail
      go_meet
      case rel =>
        have e : i = R.i + 1 := HI.out
        refine ⟨?_, ?_, ?_⟩
        · rw [e]; exact ⟨H2.out.rv.put3 (R.i + 1), H2.out.lt, H2.out.own⟩
        · show (World.setCell _ _ _).heap[G]? = _
          rw [heap_setCell_other _ _ _ _ (by show G ≠ p; have := H2.out.lt; omega)]; exact hb2.out
        · exact (hB2.mono (Nat.le_of_lt H2.out.lt)).setCell (p := ⟨p, 3, none⟩) (Nat.le_refl _) _
    | false =>
      go_wp2_with fail
      go_meet
      case rel =>
        have e : i = R.i := HI.out
        subst e
        exact ⟨H2.out, hb2, hB2.mono (Nat.le_of_lt H2.out.lt)⟩
  case rest =>
    clear H2 hB2 hb2 c3 z3 hV0 V0
    obtain ⟨hRc, hbc, hBc⟩ := hcut
    have hile : i ≤ s.size := by
      rw [HI.out]
      cases hn : neg with
      | false => simpa using hi
      | true =>
        have := at_lt _ _ _ _ (HN.out.symm.trans hn)
        rw [HL.out] at this
        simp; omega
    have hout2 : out = if i < s.data.toList.length then
        match (s.data.toList.drop (i + 1)).findIdx? (· == 93) with
        | none => none
        | some j => match setOf ((s.data.toList.drop i).take (j + 1)) noSet with
          | none => none
          | some h => some (({ R with i := i + (j + 1) + 1 } : Rdr).add ⟨h.map (· != neg), 0, 0⟩)
        else none := by
      rw [HO.out, HI.out, HN.out]; rfl
    have HO2 := Lib.hid hout2
    have c2 := hRc.rv.c2
    have c3 : wc.cell? ⟨p, 3, none⟩ = some (.int .i64 (i : Nat)) := hRc.rv.c3
    have hc := Lib.hid hRc
    clear hout2 hRc HO HI HN
    by_cases hlt : i < s.size
    · have hd : decide ((i : Int) < (s.size : Int)) = true := decide_eq_true (by omega)
      have hw1 : IntKind.i64.wrap ((i : Int) + 1) = (i : Int) + 1 := IntWalk.i64_in _ (by omega)
      obtain ⟨X, hX⟩ : ∃ X, X = s.extract (i + 1) s.size := ⟨_, rfl⟩
      have hXd : X.data.toList = s.data.toList.drop (i + 1) := by
        rw [hX, ext_data]
        exact List.take_of_length_le (by rw [List.length_drop, HL.out]; omega)
      have hsl : ∀ wx, (Instr.slice 9 (.string s) (some (.int .i64 ((i : Int) + 1))) none none).run Try.prog wx = .ok (.string X) wx := fun wx => by
        rw [hX]
        have := run_slice_string_l (P := Try.prog) wx 9 s Try.underlying9 .i64 ((i : Int) + 1) (by omega) (by omega)
        simpa using this
      obtain ⟨x, hx⟩ : ∃ x, x = (s.data.toList.drop (i + 1)).findIdx? (· == 93) := ⟨_, rfl⟩
      have hib : ∀ (W : World) (n : Nat), Calls Try.prog 31 #[.string X, .int .u8 93] (W.drewN n) fun e w'' => e = .returned (.int .i64 (idxVal x)) ∧ w'' = W.drewN n := fun W n => by
        rw [hx, ← hXd, ← indexByte_find]
        exact Try.strings_IndexByte X 93 (W.drewN n)
      have HX := Lib.hid hx
      clear hX hXd hx
      cases x with
      | none =>
        have hout3 : out = none := by rw [HO2.out, if_pos (by rw [HL.out]; exact hlt), ← HX.out]
        have HO3 := Lib.hid hout3
        clear hout3
        have hib2 : ∀ (W : World) (n : Nat), Calls Try.prog 31 #[.string X, .int .u8 93] (W.drewN n) fun e w'' => e = .returned (.int .i64 (-1)) ∧ w'' = W.drewN n := by simpa only [idxVal] using hib
        clear hib
        go_wp2_with fail
        go_quiet (fail)
        go_wp2_with fail
        go_quiet ((go_at_call 31; with_reducible exact (hib2 _ _).mono (fun _ _ h => ⟨h.1, _, h.2⟩)))
        go_wp2_with (go_at_call 18; ((with_reducible refine (must_no _).mono ?_); rintro e w3 ⟨rfl, rfl⟩))
        exact ⟨rfl, rfl, hBc.trans ((Same.drew _ _).below p)⟩
      | some j =>
        have hj : i + 1 + j < s.size := by
          have h := HX.out
          obtain ⟨h, _⟩ := List.findIdx?_eq_some_iff_getElem.1 h.symm
          rw [List.length_drop, HL.out] at h
          omega
        have hib2 : ∀ (W : World) (n : Nat), Calls Try.prog 31 #[.string X, .int .u8 93] (W.drewN n) fun e w'' => e = .returned (.int .i64 (j : Int)) ∧ w'' = W.drewN n := by simpa only [idxVal] using hib
        clear hib
        obtain ⟨L, hL⟩ : ∃ L, L = s.extract i (i + (j + 1)) := ⟨_, rfl⟩
        have hLd : L.data.toList = (s.data.toList.drop i).take (j + 1) := by
          rw [hL, ext_data]
          congr 1
          omega
        have hLs : L.size = j + 1 := by rw [hL, ByteArray.size_extract]; omega
        have hsl2 : ∀ wx, (Instr.slice 9 (.string s) (some (.int .i64 (i : Int))) (some (.int .i64 ((i : Int) + ((j : Int) + 1)))) none).run Try.prog wx = .ok (.string L) wx := fun wx => by
          rw [hL, run_slice_string (P := Try.prog) wx 9 s .i64 .i64 _ _ Try.underlying9 (by omega) (by omega) (by omega)]
          have e1 : (i : Int).toNat = i := by omega
          have e2 : ((i : Int) + ((j : Int) + 1)).toNat = i + (j + 1) := by omega
          rw [e1, e2]
        have hw2 : IntKind.i64.wrap ((j : Int) + 1) = (j : Int) + 1 := IntWalk.i64_in _ (by omega)
        have hw3 : IntKind.i64.wrap ((i : Int) + ((j : Int) + 1)) = (i : Int) + ((j : Int) + 1) := IntWalk.i64_in _ (by omega)
        have hd2 : decide (0 < (j : Int) + 1) = true := decide_eq_true (by omega)
        have hout3 : out = match setOf L.data.toList noSet with
          | none => none
          | some h => some (({ R with i := i + (j + 1) + 1 } : Rdr).add ⟨h.map (· != neg), 0, 0⟩) := by
          rw [HO2.out, if_pos (by rw [HL.out]; exact hlt), ← HX.out, hLd]
        have HO3 := Lib.hid hout3
        have z3 : ∀ n, (wc.drewN n).frozen? ⟨p, 3, none⟩ = false := fun n => hc.out.rv.froz 3
        clear hout3 hLd hL HO2 HX
        go_wp2_with fail
        go_quiet (fail)
        go_wp2_with fail
        go_quiet ((go_at_call 31; with_reducible exact (hib2 _ _).mono (fun _ _ h => ⟨h.1, _, h.2⟩)))
        go_wp2_with (go_at_call 18; ((with_reducible refine (must_yes _).mono ?_); rintro e w3 ⟨rfl, rfl⟩))
        go_quiet (fail)
        go_wp2_with fail
        have hST := sq_start (w0 := w) hc.out hbc hBc
        clear hsl hsl2 hib2 hw1 hw2 hw3 hd hd2 c2 c3 z3
        go_loopw [7, 8, 9] (fun v7 _ _ wr => ∃ k h, k ≤ j + 1 ∧ v7 = .int .i64 (k : Nat) ∧ SQ w p G s { R with i := i + (j + 1) + 1 } v h wr ∧ Hid (setOf (L.data.toList.drop k) h = setOf L.data.toList noSet)) (fun v7 _ _ _ => (j + 1) - (intOf v7).toNat)
        case atStart => exact ⟨0, noSet, by omega, rfl, hST _ (i + (j + 1) + 1) _ (by omega), rfl⟩
        case round =>
          obtain ⟨k, h, hk, rfl, hQ, hT⟩ := hrel
          by_cases hkj : k < j + 1
          · obtain ⟨a, ha⟩ : ∃ a, a = L.data.toList.getD k 0 := ⟨_, rfl⟩
            have ha256 := a.toNat_lt
            have hia := fun wx => idx_run L k (by omega) (k : Int) rfl a ha wx
            have hdk : decide ((k : Int) < (L.size : Int)) = true := decide_eq_true (by omega)
            have hLl : L.data.toList.length = j + 1 := by rw [← hLs]; simp
            have hdrop : L.data.toList.drop k = a :: L.data.toList.drop (k + 1) := by
              rw [List.drop_eq_getElem_cons (by omega), ha]
              congr 1
              simp [List.getD_eq_getElem?_getD, hLl, hkj]
            have hw1 : IntKind.i64.wrap ((k : Int) + 2) = (k : Int) + 2 := IntWalk.i64_in _ (by omega)
            have hw2 : IntKind.i64.wrap ((k : Int) + 1) = (k : Int) + 1 := IntWalk.i64_in _ (by omega)
            have HA := Lib.hid ha
            have HD := Lib.hid hdrop
            have HLL := Lib.hid hLl
            have hQ0 := hQ
            clear ha hdrop hLl
            by_cases hr : k + 2 < j + 1 ∧ L.data.toList.getD (k + 1) 0 = 45
            · obtain ⟨hr1, hr2⟩ := hr
              obtain ⟨b, hb⟩ : ∃ b, b = L.data.toList.getD (k + 2) 0 := ⟨_, rfl⟩
              have hb256 := b.toNat_lt
              have hib := fun wx => idx_run L (k + 2) (by omega) ((k : Int) + 2) (by omega) b hb wx
              have hi45 := fun wx => idx_run L (k + 1) (by omega) ((k : Int) + 1) (by omega) 45 hr2.symm wx
              have hd2 : decide ((k : Int) + 2 < (L.size : Int)) = true := decide_eq_true (by omega)
              have hdrop2 : L.data.toList.drop (k + 1) = 45 :: b :: L.data.toList.drop (k + 3) := by
                rw [List.drop_eq_getElem_cons (by rw [HLL.out]; omega), List.drop_eq_getElem_cons (by rw [HLL.out]; omega), hb]
                congr 1
                · rw [← hr2]; simp [List.getD_eq_getElem?_getD, HLL.out, (by omega : k + 1 < j + 1)]
                · congr 1
                  simp [List.getD_eq_getElem?_getD, HLL.out, (by omega : k + 2 < j + 1)]
              have hset : setOf (L.data.toList.drop k) h = if a ≤ b then setOf (L.data.toList.drop (k + 3)) (addRange a b h) else none := by
                rw [HD.out, hdrop2, setOf_range]
              have HSET := Lib.hid hset
              clear hb hr2 hdrop2 hset
              by_cases hab : a ≤ b
              · have hle : decide ((a.toNat : Int) ≤ (b.toNat : Int)) = true := decide_eq_true (by have : a.toNat ≤ b.toNat := hab; omega)
                have hle2 : decide (a.toNat ≤ b.toNat) = true := decide_eq_true hab
                have HAB : Hid (a.toNat ≤ b.toNat) := hab
                clear hab
                go_upto_region 16 with fail
                refine wp_region_quiet_tail 8 (by kernel_rfl) (by kernel_rfl) ?_
                simp only [List.take_succ_cons, List.take_zero, List.drop_succ_cons, List.drop_zero]
                repeat (go_big_quiet_step (fail))
                refine wpQuiet_nil ?_
                intro _ hw'
                obtain ⟨nq2, hw''⟩ := hw'
                subst hw''
                go_wp2_with (go_at_call 18; ((with_reducible refine (must_yes _).mono ?_); rintro e w3 ⟨rfl, rfl⟩))
                have hQ1 := hQ.same (Same.drew wr nq2)
                go_loopw [9] (fun v9 wx => ∃ q : Nat, a.toNat ≤ q ∧ q ≤ b.toNat + 1 ∧ v9 = .int .i64 (q : Nat) ∧ SQ w p G s { R with i := i + (j + 1) + 1 } v (addTo a.toNat q h) wx) (fun v9 _ => b.toNat + 1 - (intOf v9).toNat)
                case atStart => exact ⟨a.toNat, Nat.le_refl _, by have := HAB.out; omega, rfl, by rw [addTo_start]; exact hQ1⟩
                case round =>
                  obtain ⟨q, hq1, hq2, rfl, hQ2⟩ := hrel
                  by_cases hqb : q ≤ b.toNat
                  · have hi1 : decide ((0 : Int) ≤ (q : Int)) = true := decide_eq_true (by omega)
                    have hi2 : decide ((q : Int) < 256) = true := decide_eq_true (by omega)
                    have hi3 : decide ((q : Int) ≤ (b.toNat : Int)) = true := decide_eq_true (by omega)
                    have hi4 : decide (q ≤ b.toNat) = true := decide_eq_true hqb
                    have hc1 := hQ2.cell q (by omega)
                    have hz1 := hQ2.froz q
                    go_wp2_with fail
                    go_roundw
                    case rel => exact ⟨q + 1, by omega, by omega, by go_num, by rw [← addTo_step a.toNat q h hq1]; exact hQ2.set q (by omega) true⟩
                    case measure => simp [intOf]; omega
                  · have hqe : q = b.toNat + 1 := by omega
                    have hi3 : decide ((q : Int) ≤ (b.toNat : Int)) = false := decide_eq_false (by omega)
                    have hi4 : decide (q ≤ b.toNat) = false := decide_eq_false hqb
                    have HQE := Lib.hid hqe
                    clear hqe
                    go_wp2_with fail
                    go_roundw
                    case rel =>
                      rw [HQE.out] at hQ2
                      refine ⟨k + 3, addRange a b h, by omega, by go_num, hQ2, ?_⟩
                      show _ = _
                      rw [← hT.out, HSET.out, if_pos (show a ≤ b from HAB.out)]
                    case measure => simp [intOf]; omega
              · have hle : decide ((a.toNat : Int) ≤ (b.toNat : Int)) = false := decide_eq_false (by have : ¬ a.toNat ≤ b.toNat := hab; omega)
                have hle2 : decide (a.toNat ≤ b.toNat) = false := decide_eq_false hab
                have hon : out = none := by
                  rw [HO3.out, ← hT.out, HSET.out, if_neg hab]
                have HON := Lib.hid hon
                clear hab hon HO3
                go_upto_region 16 with fail
                refine wp_region_quiet_tail 8 (by kernel_rfl) (by kernel_rfl) ?_
                simp only [List.take_succ_cons, List.take_zero, List.drop_succ_cons, List.drop_zero]
                repeat (go_big_quiet_step (fail))
                refine wpQuiet_nil ?_
                intro _ hw'
                obtain ⟨nq2, hw''⟩ := hw'
                subst hw''
                go_wp2_with (go_at_call 18; ((with_reducible refine (must_no _).mono ?_); rintro e w3 ⟨rfl, rfl⟩))
                have hon := HON.out
                go_wp2_with fail
                exact ⟨rfl, rfl, hQ.bel.trans ((Same.drew _ _).below p)⟩
            · have hset : setOf (L.data.toList.drop k) h = setOf (L.data.toList.drop (k + 1)) (h.set a.toNat true) := by
                rw [HD.out, setOf_one]
                rintro ⟨h1, h2⟩
                rw [List.length_drop, HLL.out] at h1
                refine hr ⟨by omega, ?_⟩
                rw [← h2]
                simp [List.getD_eq_getElem?_getD]
              have HSET := Lib.hid hset
              clear hset
              by_cases hr1 : k + 2 < j + 1
              · obtain ⟨y, hy⟩ : ∃ y, y = L.data.toList.getD (k + 1) 0 := ⟨_, rfl⟩
                have hiy := fun wx => idx_run L (k + 1) (by omega) ((k : Int) + 1) (by omega) y hy wx
                have hy45 : ¬ y = 45 := fun e => hr ⟨hr1, by rw [← hy, e]⟩
                have hye : ((y.toNat : Int) == 45) = false := by
                  rw [beq_eq_false_iff_ne]
                  intro e
                  exact hy45 (UInt8.toNat_inj.1 (by show y.toNat = 45; omega))
                have hd2 : decide ((k : Int) + 2 < (L.size : Int)) = true := decide_eq_true (by omega)
                clear hy hy45 hr
                go_wp2_with fail
                go_loopw [9] (fun v9 wx => ∃ q : Nat, a.toNat ≤ q ∧ q ≤ a.toNat + 1 ∧ v9 = .int .i64 (q : Nat) ∧ SQ w p G s { R with i := i + (j + 1) + 1 } v (addTo a.toNat q h) wx) (fun v9 _ => a.toNat + 1 - (intOf v9).toNat)
                case atStart => exact ⟨a.toNat, Nat.le_refl _, by omega, rfl, by rw [addTo_start]; exact hQ⟩
                case round =>
                  obtain ⟨q, hq1, hq2, rfl, hQ2⟩ := hrel
                  by_cases hqb : q ≤ a.toNat
                  · have hi1 : decide ((0 : Int) ≤ (q : Int)) = true := decide_eq_true (by omega)
                    have hi2 : decide ((q : Int) < 256) = true := decide_eq_true (by omega)
                    have hi3 : decide ((q : Int) ≤ (a.toNat : Int)) = true := decide_eq_true (by omega)
                    have hi4 : decide (q ≤ a.toNat) = true := decide_eq_true hqb
                    have hc1 := hQ2.cell q (by omega)
                    have hz1 := hQ2.froz q
                    go_wp2_with fail
                    go_roundw
                    case rel => exact ⟨q + 1, by omega, by omega, by go_num, by rw [← addTo_step a.toNat q h hq1]; exact hQ2.set q (by omega) true⟩
                    case measure => simp [intOf]; omega
                  · have hqe : q = a.toNat + 1 := by omega
                    have hi3 : decide ((q : Int) ≤ (a.toNat : Int)) = false := decide_eq_false (by omega)
                    have hi4 : decide (q ≤ a.toNat) = false := decide_eq_false hqb
                    have HQE := Lib.hid hqe
                    clear hqe
                    go_wp2_with fail
                    go_roundw
                    case rel =>
                      rw [HQE.out] at hQ2
                      refine ⟨k + 1, h.set a.toNat true, by omega, by go_num, by rw [← addTo_one]; exact hQ2, ?_⟩
                      show _ = _
                      rw [← hT.out, HSET.out]
                    case measure => simp [intOf]; omega
              · have hd2 : decide ((k : Int) + 2 < (L.size : Int)) = false := decide_eq_false (by omega)
                clear hr
                go_wp2_with fail
                go_loopw [9] (fun v9 wx => ∃ q : Nat, a.toNat ≤ q ∧ q ≤ a.toNat + 1 ∧ v9 = .int .i64 (q : Nat) ∧ SQ w p G s { R with i := i + (j + 1) + 1 } v (addTo a.toNat q h) wx) (fun v9 _ => a.toNat + 1 - (intOf v9).toNat)
                case atStart => exact ⟨a.toNat, Nat.le_refl _, by omega, rfl, by rw [addTo_start]; exact hQ⟩
                case round =>
                  obtain ⟨q, hq1, hq2, rfl, hQ2⟩ := hrel
                  by_cases hqb : q ≤ a.toNat
                  · have hi1 : decide ((0 : Int) ≤ (q : Int)) = true := decide_eq_true (by omega)
                    have hi2 : decide ((q : Int) < 256) = true := decide_eq_true (by omega)
                    have hi3 : decide ((q : Int) ≤ (a.toNat : Int)) = true := decide_eq_true (by omega)
                    have hi4 : decide (q ≤ a.toNat) = true := decide_eq_true hqb
                    have hc1 := hQ2.cell q (by omega)
                    have hz1 := hQ2.froz q
                    go_wp2_with fail
                    go_roundw
                    case rel => exact ⟨q + 1, by omega, by omega, by go_num, by rw [← addTo_step a.toNat q h hq1]; exact hQ2.set q (by omega) true⟩
                    case measure => simp [intOf]; omega
                  · have hqe : q = a.toNat + 1 := by omega
                    have hi3 : decide ((q : Int) ≤ (a.toNat : Int)) = false := decide_eq_false (by omega)
                    have hi4 : decide (q ≤ a.toNat) = false := decide_eq_false hqb
                    have HQE := Lib.hid hqe
                    clear hqe
                    go_wp2_with fail
                    go_roundw
                    case rel =>
                      rw [HQE.out] at hQ2
                      refine ⟨k + 1, h.set a.toNat true, by omega, by go_num, by rw [← addTo_one]; exact hQ2, ?_⟩
                      show _ = _
                      rw [← hT.out, HSET.out]
                    case measure => simp [intOf]; omega
          · obtain rfl : k = j + 1 := by omega
            have hend : setOf L.data.toList noSet = some h := by
              rw [← hT.out, List.drop_of_length_le (by have : L.data.toList.length = L.size := by simp
                                                       omega), setOf_nil]
            have hon : out = some (({ R with i := i + (j + 1) + 1 } : Rdr).add ⟨h.map (· != neg), 0, 0⟩) := by rw [HO3.out, hend]
            have hdk : decide (((j + 1 : Nat) : Int) < (L.size : Int)) = false := decide_eq_false (by omega)
            subst hon
            clear hend HO3 hT
            go_wp2_with fail
            go_loopw [10, 133] (fun _ v133 wx => ∃ n : Nat, n ≤ 256 ∧ v133 = .int .i64 (n : Nat) ∧ SQ w p G s { R with i := i + (j + 1) + 1 } v (flipTo n neg h) wx) (fun _ v133 _ => 256 - (intOf v133).toNat)
            case atStart => exact ⟨0, by omega, rfl, hQ⟩
            case round =>
              obtain ⟨n, hn, rfl, hQ2⟩ := hrel
              by_cases hn2 : n < 256
              · have hi1 : decide ((0 : Int) ≤ (n : Int)) = true := decide_eq_true (by omega)
                have hi2 : decide ((n : Int) < 256) = true := decide_eq_true (by omega)
                have hlen256 := hQ.len
                have hc1 := hQ2.cell n hn2
                have hz1 := hQ2.froz n
                rw [flipTo_get n neg h (by omega)] at hc1
                obtain ⟨g, hg⟩ : ∃ g, g = h.getD n false := ⟨_, rfl⟩
                rw [← hg] at hc1
                have HG2 := Lib.hid hg
                clear hg
                go_wp2_with fail
                go_roundw
                case rel =>
                  refine ⟨n + 1, by omega, by go_num, ?_⟩
                  rw [← flipTo_step n neg h (by omega), ← HG2.out]
                  exact hQ2.set n hn2 _
                case measure => simp [intOf]; omega
              · obtain rfl : n = 256 := by omega
                have hlen256 := hQ.len
                rw [flipTo_all neg h hlen256] at hQ2
                have hl : (h.map (· != neg)).length = 256 := by rw [List.length_map]; exact hlen256
                have g := add_any p wr s { R with i := i + (j + 1) + 1 } ⟨h.map (· != neg), 0, 0⟩ hl hQ2.rl.rv.ra hnn _ (List.toList_toArray ..)
                have hnd : decide ((256 : Int) < 256) = false := by decide
                go_wp2_with (first
                  | ((with_reducible refine wpList_load50 rfl (.tmp 3) rfl G ?_ ⟨h.map (· != neg), 0, 0⟩ ?_ ?_ ?_); (rfl); (exact hl); (exact hQ2.blk))
                  | (go_at_call 13; ((with_reducible refine g.mono ?_); rintro e w2 ⟨rfl, hR2, hB2⟩)))
                go_ret
                exact ⟨rfl, hR2, hQ2.bel.trans hB2⟩
    · have hd : decide ((i : Int) < (s.size : Int)) = false := decide_eq_false (by omega)
      have hon : out = none := by rw [HO2.out, if_neg (by rw [HL.out]; exact hlt)]
      have HON := Lib.hid hon
      clear hon HO2
      go_wp2_with fail
      go_quiet (fail)
      go_wp2_with (go_at_call 18; ((with_reducible refine (must_no _).mono ?_); rintro e w3 ⟨rfl, rfl⟩))
      have hon := HON.out
      go_wp2_with fail
      exact ⟨rfl, rfl, hBc.trans ((Same.drew _ _).below p)⟩
theorem square_ra (p : Nat) (w : World) (s : ByteArray) (R : Rdr) (hR : RA w p s R) (hi : R.i ≤ s.size) (hs : s.size ≤ 1000) (hnn : R.l.length ≤ 100000) :
    Calls Try.prog 25 #[.pointer (some ⟨p, 0, none⟩)] w fun e w' => match R.square s.data.toList with
      | none => e = .panicked wrongs ∧ Below p w w'
      | some r' => e = .returned (.bool false) ∧ RA w' p s r' ∧ Below p w w' := by
  obtain ⟨v, hR⟩ := hR
  exact square_any p w s R v hR hi hs hnn
end Go.Proofs.Ytnhlinkkfoojmaa
