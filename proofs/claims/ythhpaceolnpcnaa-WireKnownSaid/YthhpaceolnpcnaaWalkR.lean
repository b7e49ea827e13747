/- The walks of the reference of layer 1. -/
import Derived.Test.YthhpaceolnpcnaaWalkC
import Derived.Lib.Strings
namespace Go.Proofs.Ythhpaceolnpcnaa
open Go.RowKit
set_option maxRecDepth 100000
set_option linter.unusedSimpArgs false
set_option linter.unusedVariables false

theorem conv_one (w : World) (m : Nat) (x : Int) (hm : m < 256) (hx : x = (m : Int)) : (convert 27 9 (.slice (some ⟨w.heap.size, 0, none⟩) 1 1)).run Try.prog (w.alloc (.cells #[.int .u8 x] 5)) = .ok (.string ⟨#[UInt8.ofNat m]⟩) (w.alloc (.cells #[.int .u8 x] 5)) := by
  subst hx
  have ha : ArrAt (w.alloc (.cells #[.int .u8 m] 5)) w.heap.size 5 (u8s [UInt8.ofNat m]) := arrAt_alloc _ _ _ _ (by simp [u8s]; omega)
  exact run_conv_str (P := Try.prog) 27 5 9 Try.underlying27 Try.underlying5 Try.underlying9 ha.bytes 1 1 rfl

theorem refPutNum_any (s : ByteArray) (n : Nat) (w : World) (hn : n < 18446744073709551616) (hs : s.size ≤ 140737488351232) :
    Calls Try.prog 10 #[.string s, .int .u64 n] w fun e w' => e = .returned (.string (s ++ ⟨(enc n).toArray⟩)) ∧ Below w.heap.size w w' := by
  have hcv := conv_one w (n % 128) ((n : Int) % 128) (by omega) (by omega)
  go_enter Try.func10, Try.ntmps10
  go_wp2
  go_loopw [1, 5] (fun v i wr => ∃ (m : Nat) (sfx : List UInt8), m * 128 ^ sfx.length < 18446744073709551616 ∧ 0 < sfx.length ∧ sfx.length ≤ 10 ∧ v = .int .u64 m ∧ i = .string ⟨sfx.toArray⟩ ∧
      Hid (encHi m ++ sfx = enc n) ∧ Below w.heap.size w wr) (fun v _ _ => (intOf v).toNat)
  case atStart => exact ⟨n / 128, [UInt8.ofNat (n % 128)], by simp; omega, by simp, by simp, by go_num, rfl, rfl, (Below.refl _ _).alloc (Nat.le_refl _) _⟩
  case round =>
    obtain ⟨m, sfx, hm, hs0, hs10, rfl, rfl, he, hb⟩ := hrel
    by_cases hm0 : 0 < m
    · have hmb : m < 18446744073709551616 := Nat.lt_of_le_of_lt (Nat.le_mul_of_pos_right _ (Nat.pow_pos (by omega))) hm
      have hs9 : sfx.length < 10 := by
        have : 128 ^ sfx.length < 18446744073709551616 := Nat.lt_of_le_of_lt (Nat.le_mul_of_pos_left _ hm0) hm
        rcases Nat.lt_or_ge sfx.length 10 with h | h
        · exact h
        · have := Nat.pow_le_pow_right (show 0 < 128 by omega) h; omega
      have HM := Lib.hid hm
      clear hm hcv
      have hcv := conv_one wr (m % 128 + 128) ((m : Int) % 128 + 128) (by omega) (by omega)
      go_wp2
      go_roundw
      case rel =>
        refine ⟨m / 128, UInt8.ofNat (m % 128 + 128) :: sfx, ?_, by simp, by simp; omega, by go_num, ?_, ?_, hb.alloc hb.size _⟩
        · have := HM.out
          rw [List.length_cons, Nat.pow_succ, Nat.mul_comm (128 ^ sfx.length), ← Nat.mul_assoc]
          exact Nat.lt_of_le_of_lt (Nat.mul_le_mul_right _ (Nat.div_mul_le_self _ _)) this
        · congr 1
          apply ByteArray.ext
          simp
        · show encHi (m / 128) ++ _ = _
          rw [← he.out, encHi_pos m hm0]; simp
      case measure => simp [intOf]; omega
    · obtain rfl : m = 0 := by omega
      have hsf : sfx = enc n := by simpa [Hid, encHi_zero] using he
      subst hsf
      clear hm
      go_wp2
      go_ret
      exact ⟨rfl, hb⟩

theorem refPutText_any (s t : ByteArray) (w : World) (hs : s.size ≤ 140737488351232) (ht : t.size ≤ 140737488351232) :
    Calls Try.prog 12 #[.string s, .string t] w fun e w' => e = .returned (.string (s ++ ⟨(enc t.size).toArray⟩ ++ t)) ∧ Below w.heap.size w w' := by
  have hlen : s.size + (enc t.size).length + t.size ≤ 9223372036854775807 := by have := enc_len t.size (by omega); omega
  go_enter Try.func12, Try.ntmps12
  go_wp2_with (go_at_call 10; refine (refPutNum_any s t.size _ (by omega) hs).mono ?_; rintro e w' ⟨rfl, hb⟩)
  go_ret
  exact ⟨rfl, hb⟩

/-- The reference's reader. -/
def DAt (w : World) (p : Nat) (s : ByteArray) (lost : Bool) : Prop := ArrAt w p 32 [.string s, .bool lost]

def LoseOut (w : World) (p : Nat) (e : Ending) (w' : World) : Prop := e = .returned (.tuple #[]) ∧ DAt w' p ByteArray.empty true ∧ w.grownBy w' (some p)

theorem lose_any (p : Nat) (s : ByteArray) (lost : Bool) (w : World) (h : DAt w p s lost) :
    Calls Try.prog 25 #[.pointer (some ⟨p, 0, none⟩)] w (LoseOut w p) := by
  have c0 := h.cell (v := .string s) 0 rfl
  have c1 := h.cell (v := .bool lost) 1 rfl
  have f0 := h.free 0
  have f1 := h.free 1
  have c1' : (w.setCell ⟨p, 0, none⟩ (.string ⟨#[]⟩)).cell? ⟨p, 1, none⟩ = some (.bool lost) := (h.set 0 _).cell 1 rfl
  go_enter Try.func25, Try.ntmps25
  go_wp2
  go_end0
  exact ⟨rfl, (h.set 0 (.string ⟨#[]⟩)).set 1 (.bool true), World.grownBy_trans (grownBy_setCell _ _ _ _) (grownBy_setCell _ _ _ _)⟩

theorem refOK_any (p : Nat) (s : ByteArray) (lost : Bool) (w : World) (h : DAt w p s lost) :
    Calls Try.prog 20 #[.pointer (some ⟨p, 0, none⟩)] w (BoolIs (!lost) w) := by
  have c1 := h.cell (v := .bool lost) 1 rfl
  go_enter Try.func20, Try.ntmps20
  go_wp2
  go_ret
  exact ⟨rfl, rfl⟩

theorem refEnd_any (p : Nat) (s : ByteArray) (lost : Bool) (w : World) (h : DAt w p s lost) :
    Calls Try.prog 22 #[.pointer (some ⟨p, 0, none⟩)] w (BoolIs (!lost && s.toList.isEmpty) w) := by
  have c0 := h.cell (v := .string s) 0 rfl
  have c1 := h.cell (v := .bool lost) 1 rfl
  cases lost
  · go_enter Try.func22, Try.ntmps22
    go_wp2
    go_ret
    exact ⟨rfl, rfl⟩
  · go_enter Try.func22, Try.ntmps22
    go_wp2
    go_ret
    exact ⟨rfl, rfl⟩

def DOut (w : World) (p : Nat) (n : Nat) (l : List UInt8) (lost : Bool) (e : Ending) (w' : World) : Prop :=
  e = .returned (.int .u64 n) ∧ (∃ s, s.data.toList = l ∧ DAt w' p s lost) ∧ w.grownBy w' (some p)

theorem dout_lose {w w' : World} {p n : Nat} {l : List UInt8} {lost b : Bool} {e : Ending} (hr : rd l = none) (he : e = .returned (.int .u64 n)) (hn : n = 0) (hd : DAt w' p ByteArray.empty true) (hg : w.grownBy w' (some p)) : DOut w p (numOf l lost).1 (numOf l lost).2.1 (numOf l lost).2.2 e w' := by
  subst hn
  simp only [numOf, hr]
  exact ⟨he, ⟨_, rfl, hd⟩, hg⟩

theorem cmp_true (F k : Nat) (s : ByteArray) (he : enc F = s.data.toList.take (k + 1)) : (({ data := #[] } ++ { data := (enc F).toArray } : ByteArray).toList == (s.extract 0 (k + 1)).toList) = true := by
  rw [Lib.extract_toList, Lib.toList_data, he]; simp
theorem cmp_false (F k : Nat) (s : ByteArray) (he : ¬ enc F = s.data.toList.take (k + 1)) : (({ data := #[] } ++ { data := (enc F).toArray } : ByteArray).toList == (s.extract 0 (k + 1)).toList) = false := by
  rw [Lib.extract_toList, Lib.toList_data]; simpa using he
theorem dAt_below {w w' : World} {p : Nat} {s : ByteArray} {lost : Bool} (hb : Below w.drew.heap.size w.drew w') (h : DAt w p s lost) : DAt w' p s lost := by
  unfold DAt ArrAt; rw [hb.block p h.lt]; exact h
theorem below_grown {w w' : World} (hb : Below w.drew.heap.size w.drew w') (row : Option Nat) : w.grownBy w' row :=
  ⟨hb.os, hb.tape, hb.output, hb.size, fun k hk _ => hb.block k hk⟩
theorem dout_got {w w' : World} {p n k : Nat} {s : ByteArray} {lost : Bool} {e : Ending} (hr : rd s.data.toList = some (n, s.data.toList.drop (k + 1))) (he : e = .returned (.int .u64 n)) (hd : DAt w' p s lost) (hg : w.grownBy w' (some p)) :
    DOut w p (numOf s.data.toList lost).1 (numOf s.data.toList lost).2.1 (numOf s.data.toList lost).2.2 e (w'.setCell ⟨p, 0, none⟩ (.string (s.extract (k + 1) s.size))) := by
  simp only [numOf, hr]
  refine ⟨he, ⟨s.extract (k + 1) s.size, ?_, hd.set 0 _⟩, World.grownBy_trans hg (grownBy_setCell _ _ _ _)⟩
  rw [Lib.extract_data, List.take_of_length_le (by simp)]

set_option maxHeartbeats 2000000 in
theorem refNum_any (p : Nat) (s : ByteArray) (lost : Bool) (w : World) (h : DAt w p s lost) (hs : s.size ≤ 140737488351232) :
    Calls Try.prog 16 #[.pointer (some ⟨p, 0, none⟩)] w (DOut w p (numOf s.data.toList lost).1 (numOf s.data.toList lost).2.1 (numOf s.data.toList lost).2.2) := by
  have c0 := h.cell (v := .string s) 0 rfl
  have c1 := h.cell (v := .bool lost) 1 rfl
  have hlose := lose_any p s lost w h
  unfold LoseOut at hlose
  have hsz : s.data.toList.length = s.size := by simp
  have hget : ∀ j (hj : j < s.size), s[j].toNat = (s.data.toList.getD j 0).toNat := byte_get s
  have HG := Lib.hid hget
  have HZ := Lib.hid hsz
  clear hget hsz
  go_enter Try.func16, Try.ntmps16
  go_wp2
  go_loop [3] (fun i => ∃ k : Nat, k ≤ s.size ∧ i = .int .i64 k ∧ Hid (∀ j, j < k → 128 ≤ (s.data.toList.getD j 0).toNat)) (fun i => s.size - (intOf i).toNat)
  case atStart => exact ⟨0, Nat.zero_le _, rfl, fun j hj => absurd hj (by omega)⟩
  case round =>
    obtain ⟨k, hk, rfl, hhi⟩ := hrel
    by_cases hlt : k < s.size
    · by_cases hc : 128 ≤ s[k].toNat
      · go_wp2
        go_round
        case rel =>
          refine ⟨k + 1, by omega, by go_num, fun j hj => ?_⟩
          by_cases e : j = k
          · subst e; rw [← HG.out j hlt]; exact hc
          · exact hhi.out j (by omega)
        case measure => simp [intOf]; omega
      · have hlow : (s.data.toList.getD k 0).toNat < 128 := by rw [← HG.out k hlt]; omega
        have HL := Lib.hid hlow
        clear hlow
        by_cases h9 : 9 < k
        · have hr := ref_long (by rw [HZ.out]; exact hlt) hhi.out HL.out h9
          have HR := Lib.hid hr
          clear hr
          go_wp2_with (go_at_call 25; refine hlose.mono ?_; rintro e w' ⟨rfl, hd, hg⟩)
          go_ret
          exact dout_lose (b := lost) HR.out rfl rfl hd hg
        · go_wp2_with (go_at_call 25; refine hlose.mono ?_; rintro e w' ⟨rfl, hd, hg⟩)
          have hkc : (k : Int) ≤ 9 := by omega
          go_loop [4, 5] (fun n i => ∃ m : Nat, m ≤ k + 1 ∧ i = .int .i64 m ∧ n = .int .u64 (foldW 0 (s.data.toList.take m))) (fun _ i => k + 1 - (intOf i).toNat)
          case atStart => exact ⟨0, Nat.zero_le _, rfl, rfl⟩
          case round =>
            obtain ⟨m, hm, rfl, rfl⟩ := hrel
            have hfl := foldW_lt (s.data.toList.take m)
            obtain ⟨F, hF⟩ : ∃ F, F = foldW 0 (s.data.toList.take m) := ⟨_, rfl⟩
            rw [← hF] at hfl ⊢
            by_cases hmk : m ≤ k
            · have hmlt : m < s.size := by omega
              have hst : foldW 0 (s.data.toList.take (m + 1)) = (F * 128 + s[m].toNat % 128) % 18446744073709551616 := by
                rw [List.take_succ_eq_append_getElem (by rw [HZ.out]; exact hmlt), foldW_snoc, ← hF, byte_elem s m (by rw [HZ.out]; exact hmlt) hmlt]
              have HS := Lib.hid hst
              clear hst hF
              go_wp2
              go_round
              case rel => exact ⟨m + 1, by omega, by go_num, by rw [HS.out, ← wrap_step, Int.mul_comm]⟩
              case measure => simp [intOf]; omega
            · obtain rfl : m = k + 1 := by omega
              have HF := Lib.hid hF
              clear hF
              have hput := fun wx => refPutNum_any ⟨#[]⟩ F wx hfl (Nat.zero_le _)
              have hcc : ∀ w', Below w.heap.size w.drew w' → w'.cell? ⟨p, 0, none⟩ = some (.string s) := fun w' hb => (hb.cell (p := ⟨p, 0, none⟩) h.lt).trans c0
              have HL1 : k < s.data.toList.length := by rw [HZ.out]; exact hlt
              have HR2 : s.data.toList.length - (k + 1) = s.size - (k + 1) := by rw [HZ.out]
              by_cases he : enc F = s.data.toList.take (k + 1)
              · have hr := ref_same HL1 hfl he
                have hx := cmp_true F k s he
                have HR := Lib.hid hr
                clear hr he HL1 HR2
                go_wp2
                have hk1 : (k : Int) + 1 ≤ (s.size : Int) := by omega
                have hk0 : (0 : Int) ≤ (k : Int) + 1 := by omega
                have hkn : ((k : Int) + 1).toNat = k + 1 := by omega
                have hkw : IntKind.i64.wrap ((k : Int) + 1) = (k : Int) + 1 := IntWalk.i64_in _ (by omega)
                go_region_with (go_at_call 10; refine (hput _).mono ?_; rintro e w' ⟨rfl, hb⟩; have c0' := hcc _ hb)
                all_goals
                  have hd := dAt_below hb h
                  have f0 := hd.free 0
                  have hg := below_grown hb (some p)
                  clear hput hcc hlose
                  go_wp2
                  go_ret
                  exact dout_got HR.out rfl hd hg
              · have hr := ref_other (l := s.data.toList) HL1 hhi.out HL.out (by rw [← HF.out]; exact he)
                have hx := cmp_false F k s he
                have HR := Lib.hid hr
                clear hr he HL1 HR2
                go_wp2
                have hk1 : (k : Int) + 1 ≤ (s.size : Int) := by omega
                have hk0 : (0 : Int) ≤ (k : Int) + 1 := by omega
                have hkn : ((k : Int) + 1).toNat = k + 1 := by omega
                have hkw : IntKind.i64.wrap ((k : Int) + 1) = (k : Int) + 1 := IntWalk.i64_in _ (by omega)
                go_region_with (go_at_call 10; refine (hput _).mono ?_; rintro e w' ⟨rfl, hb⟩; have c0' := hcc _ hb)
                all_goals
                  have hd := dAt_below hb h
                  have hl2 := lose_any p s lost _ hd
                  have hg := below_grown hb (some p)
                  unfold LoseOut at hl2
                  clear hput hcc hlose
                  go_wp2_with (go_at_call 25; refine hl2.mono ?_; rintro e w2 ⟨rfl, hd2, hg2⟩)
                  go_ret
                  exact dout_lose (b := lost) HR.out rfl rfl hd2 (World.grownBy_trans hg hg2)
    · have hr : rd s.data.toList = none := ref_all (fun j hj => hhi.out j (by rw [HZ.out] at hj; omega))
      have HR := Lib.hid hr
      clear hr
      go_wp2_with (go_at_call 25; refine hlose.mono ?_; rintro e w' ⟨rfl, hd, hg⟩)
      go_ret
      exact dout_lose (b := lost) HR.out rfl rfl hd hg

def DTextOut (w : World) (p : Nat) (t : List UInt8) (l : List UInt8) (lost : Bool) (e : Ending) (w' : World) : Prop :=
  (∃ s : ByteArray, s.data.toList = t ∧ e = .returned (.string s)) ∧ (∃ s, s.data.toList = l ∧ DAt w' p s lost) ∧ w.grownBy w' (some p)

theorem sz_of {s : ByteArray} {l : List UInt8} (h : s.data.toList = l) (hl : l.length ≤ 140737488351232) : s.size ≤ 140737488351232 := by
  have : s.data.toList.length = s.size := by simp
  rw [← this, h]; exact hl
theorem sz_eq {s : ByteArray} {l : List UInt8} (h : s.data.toList = l) : s.size = l.length := by
  have : s.data.toList.length = s.size := by simp
  rw [← this, h]

theorem dtext_mk {w w' : World} {p n : Nat} {s : ByteArray} {l : List UInt8} {lost : Bool} {e : Ending} (hs : s.data.toList = l) (hd : DAt w' p s lost) (hg : w.grownBy w' (some p)) (hle : n ≤ l.length) (he : e = .returned (.string (s.extract 0 n))) :
    DTextOut w p (l.take n) (l.drop n) lost e (w'.setCell ⟨p, 0, none⟩ (.string (s.extract n s.size))) := by
  refine ⟨⟨_, ?_, he⟩, ⟨_, ?_, hd.set 0 _⟩, World.grownBy_trans hg (grownBy_setCell _ _ _ _)⟩
  · rw [Lib.extract_data, hs]; simp
  · rw [Lib.extract_data, hs, List.take_of_length_le (by rw [sz_eq hs]; simp)]

theorem rd_short {l : List UInt8} {n : Nat} {r : List UInt8} (h : rd l = some (n, r)) : r.length ≤ l.length := by
  rw [(rd_inv h).2]; simp

set_option maxHeartbeats 2000000 in
theorem refText_any (p : Nat) (s : ByteArray) (lost : Bool) (w : World) (h : DAt w p s lost) (hs : s.size ≤ 140737488351232) :
    Calls Try.prog 18 #[.pointer (some ⟨p, 0, none⟩)] w (DTextOut w p (textOf s.data.toList lost).1 (textOf s.data.toList lost).2.1 (textOf s.data.toList lost).2.2) := by
  have hn := refNum_any p s lost w h hs
  have hss : s.data.toList.length = s.size := by simp
  clear h
  cases hrd : rd s.data.toList with
  | none =>
    have e : textOf s.data.toList lost = ([], [], true) := by simp [textOf, rdText, hrd]
    rw [e]
    simp only [numOf, hrd] at hn
    unfold DOut at hn
    clear hrd e hss
    go_enter Try.func18, Try.ntmps18
    go_wp2_with (go_at_call 16; refine hn.mono ?_; rintro e w' ⟨rfl, ⟨s', hs', hd⟩, hg⟩; have c0 := hd.cell (v := .string s') 0 rfl; have f0 := hd.free 0; have hsz : s'.size ≤ 0 := Nat.le_of_eq (sz_eq hs'); have HS := Lib.hid hs'; clear hs')
    go_ret
    refine ⟨⟨_, ?_, rfl⟩, ⟨_, ?_, hd.set 0 _⟩, World.grownBy_trans hg (grownBy_setCell _ _ _ _)⟩
    · simp
    · have := HS.out
      simp [this]
  | some x =>
    obtain ⟨n, r⟩ := x
    have hnlt := (rd_inv hrd).1
    have hlen : r.length ≤ 140737488351232 := by have := rd_short hrd; omega
    by_cases hle : n ≤ r.length
    · have e : textOf s.data.toList lost = (r.take n, r.drop n, lost) := by simp [textOf, rdText, hrd, hle]
      rw [e]
      simp only [numOf, hrd] at hn
      unfold DOut at hn
      clear hrd e hss
      go_enter Try.func18, Try.ntmps18
      go_wp2_with (go_at_call 16; refine hn.mono ?_; rintro e w' ⟨rfl, ⟨s', hs', hd⟩, hg⟩; have c0 := hd.cell (v := .string s') 0 rfl; have f0 := hd.free 0; have hsz : s'.size ≤ 140737488351232 := sz_of hs' hlen; have hz2 : n ≤ s'.size := Nat.le_trans hle (Nat.le_of_eq (sz_eq hs').symm); have HS := Lib.hid hs'; clear hs')
      go_ret
      exact dtext_mk HS.out hd hg hle rfl
    · have e : textOf s.data.toList lost = ([], [], true) := by simp [textOf, rdText, hrd, hle]
      rw [e]
      simp only [numOf, hrd] at hn
      unfold DOut at hn
      clear hrd e hss
      go_enter Try.func18, Try.ntmps18
      go_wp2_with (first | (go_at_call 16; refine hn.mono ?_; rintro e w' ⟨rfl, ⟨s', hs', hd⟩, hg⟩; have c0 := hd.cell (v := .string s') 0 rfl; have hsz : s'.size ≤ 140737488351232 := sz_of hs' hlen; have hz2 : s'.size < n := Nat.lt_of_le_of_lt (Nat.le_of_eq (sz_eq hs')) (Nat.lt_of_not_le hle); have hl2 := lose_any p s' lost _ hd; clear hs') | (go_at_call 25; unfold LoseOut at hl2; refine hl2.mono ?_; rintro e w2 ⟨rfl, hd2, hg2⟩))
      go_ret
      exact ⟨⟨_, rfl, rfl⟩, ⟨_, rfl, hd2⟩, World.grownBy_trans hg hg2⟩

end Go.Proofs.Ythhpaceolnpcnaa
