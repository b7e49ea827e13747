/- The walk of the law RegexSets. -/
import Derived.Test.YtnhlinkkfoojmaaSetsL
import Derived.Test.YtnhlinkkfoojmaaWorks
namespace Go.Proofs.Ytnhlinkkfoojmaa
open Go.RowKit
set_option maxRecDepth 100000
set_option linter.unusedSimpArgs false
set_option linter.unusedVariables false

/-- The bytes that came in: those that count. -/
def BsAt (w : World) (a : Option Addr) (L : List UInt8) : Prop :=
  ∀ j, j < L.length → ∃ b o, a = some ⟨b, o, none⟩ ∧ b < w.heap.size ∧ w.cell? ⟨b, o + j, none⟩ = some (.int .u8 ((L.getD j 0).toNat : Nat))
def skipB (x : UInt8) : Bool := x == 45 || x == 93 || x == 94
def kept (L : List UInt8) : List UInt8 := L.filter fun x => !skipB x
theorem kept_step (L : List UInt8) (k : Nat) (h : k < L.length) : kept (L.take (k + 1)) = if skipB (L.getD k 0) = true then kept (L.take k) else kept (L.take k) ++ [L.getD k 0] := by
  have e : L.take (k + 1) = L.take k ++ [L.getD k 0] := by
    rw [List.take_add_one]; simp [List.getD, h]
  rw [e]; unfold kept; rw [List.filter_append]
  cases hs : skipB (L.getD k 0) <;> (rw [List.getD_eq_getElem?_getD] at hs; simp [hs])
theorem kept_ok (L : List UInt8) : ∀ x ∈ kept L, x ≠ 45 ∧ x ≠ 93 ∧ x ≠ 94 := by
  intro x hx
  have := (List.mem_filter.1 hx).2
  unfold skipB at this
  simp at this
  exact ⟨this.1.1, this.1.2, this.2⟩
theorem kept_len (L : List UInt8) : (kept L).length ≤ L.length := List.length_filter_le _ _
theorem conv_at (w : World) (b o cap : Nat) (c : UInt8) (hc : w.cell? ⟨b, o, none⟩ = some (.int .u8 (c.toNat : Nat))) : (convert 32 9 (.slice (some ⟨b, o, none⟩) 1 cap)).run Try.prog w = .ok (.string ⟨#[c]⟩) w := by
  have := run_convert_bytes_arg (P := Try.prog) w 32 5 Try.underlying32 Try.underlying5 b o 1 cap [(c.toNat : Int)] rfl (fun i hi => by
    obtain rfl : i = 0 := by omega
    rw [Nat.add_zero, hc]; rfl) 9 Try.underlying9
  rw [this]
  simp [strOfNums]

theorem row_get {k : IntKind} {w : World} {x : Addr} {zs : List Int} (hcell : ∀ i, i < zs.length → w.cell? (x.add i) = some (.int k (zs.getD i 0))) (j : Nat) (hj : j < zs.length) :
    ∃ b o, x = ⟨b, o, none⟩ ∧ b < w.heap.size ∧ w.cell? ⟨b, o + j, none⟩ = some (.int k (zs.getD j 0)) := by
  obtain ⟨b, o, spot⟩ := x
  have h0 := hcell 0 (by omega)
  have hspot : spot = none := by simpa [Addr.add] using World.cell?_spot h0
  subst hspot
  have hj' := hcell j hj
  rw [Addr.add_lit] at h0 hj'
  exact ⟨b, o, rfl, World.block_lt_of_cell? _ _ h0, hj'⟩

set_option maxHeartbeats 8000000 in
theorem regexSets_walk (a : Option Addr) (L : List UInt8) (cap : Nat) (c : UInt8) (w : World) (hL : L.length ≤ 9223372036854775807) (hcap : L.length ≤ cap) (hcm : cap ≤ 9223372036854775807) (ha : BsAt w a L) :
    Calls Try.prog 4 #[.slice a L.length cap, .int .u8 (c.toNat : Nat)] w fun e w' => e = .returned (.bool true) ∧ Below w.heap.size w w' := by
  go_enter Try.func4, Try.ntmps4
  go_wp2_with fail
  go_loopw [5, 6, 7] (fun s t i wr => ∃ (k : Nat) (S : ByteArray), k ≤ L.length ∧ k ≤ 12 ∧ i = .int .i64 k ∧ s = .string S ∧ Hid (S.data.toList = kept (L.take k)) ∧ t = .bool (decide (c ∈ kept (L.take k))) ∧ Below w.heap.size w wr) (fun _ _ i _ => 12 - (intOf i).toNat)
  case atStart => exact ⟨0, _, by omega, by omega, rfl, rfl, Lib.hid rfl, by simp [kept], Below.refl _ _⟩
  case round =>
    obtain ⟨k, S, hk, hk12, rfl, rfl, hS, rfl, hB⟩ := hrel
    have hSz12 : S.size ≤ 12 := by
      have h1 := congrArg List.length hS.out
      have h2 := kept_len (L.take k)
      simp at h1 h2
      omega
    by_cases hlt : k < L.length ∧ k < 12
    · obtain ⟨hlt, h12⟩ := hlt
      obtain ⟨b, o, rfl, hbw, hcell⟩ := ha k hlt
      have hc1 : wr.cell? ⟨b, o + k, none⟩ = some (.int .u8 ((L.getD k 0).toNat : Nat)) := (hB.cell (p := ⟨b, o + k, none⟩) hbw).trans hcell
      have hd1 : decide ((k : Int) < (L.length : Int)) = true := decide_eq_true (by omega)
      have hd2 : decide ((k : Int) < 12) = true := decide_eq_true (by omega)
      have hst := kept_step L k hlt
      have hsub : (k : Int) + 1 ≤ (cap : Int) := by omega
      obtain ⟨x, hx⟩ : ∃ x, x = L.getD k 0 := ⟨_, rfl⟩
      rw [← hx] at hst hc1
      have hcv := conv_at wr b (o + k) (cap - k) x hc1
      obtain ⟨T, hT⟩ : ∃ T, T = decide (c ∈ kept (L.take k)) := ⟨_, rfl⟩
      rw [← hT]
      have HT := Lib.hid hT
      have HST := Lib.hid hst
      clear hst hx hT hcell
      have fin : ∀ (b1 b2 b3 : Bool), ((x.toNat : Int) == 45) = b1 → ((x.toNat : Int) == 93) = b2 → ((x.toNat : Int) == 94) = b3 → skipB x = (b1 || b2 || b3) := by
        intro b1 b2 b3 h1 h2 h3
        have e : ∀ n : UInt8, ((x.toNat : Int) == (n.toNat : Int)) = (x == n) := by
          intro n
          by_cases hn : x = n
          · subst hn; simp
          · have : x.toNat ≠ n.toNat := fun h => hn (UInt8.toNat_inj.1 h)
            rw [beq_eq_false_iff_ne.2 hn, beq_eq_false_iff_ne]; omega
        have e1 := e 45
        have e2 := e 93
        have e3 := e 94
        unfold skipB
        rw [← h1, ← h2, ← h3, ← e1, ← e2, ← e3]; rfl
      by_cases hskip : skipB x = true
      · rw [hskip] at fin
        have HST2 : Hid (kept (L.take (k + 1)) = kept (L.take k)) := Lib.hid (by rw [HST.out, if_pos hskip])
        have FIN := Lib.hid fin
        have HSK := Lib.hid hskip
        clear HST fin hskip
        go_upto_region 6 with fail
        rcases h1 : ((x.toNat : Int) == 45) with _ | _ <;> rcases h2 : ((x.toNat : Int) == 93) with _ | _ <;> rcases h3 : ((x.toNat : Int) == 94) with _ | _
        case false.false.false => exact absurd (FIN.out _ _ _ h1 h2 h3) (by decide)
        all_goals
          go_wp2_with fail
          go_roundw
          case rel => exact ⟨k + 1, S, by omega, by omega, by go_num, rfl, Lib.hid (by rw [hS.out, HST2.out]), by rw [HT.out, HST2.out], hB⟩
          case measure => simp [intOf]; omega
      · have h123 : ((x.toNat : Int) == 45) = false ∧ ((x.toNat : Int) == 93) = false ∧ ((x.toNat : Int) == 94) = false := by
          have := fin _ _ _ rfl rfl rfl
          rw [Bool.not_eq_true] at hskip
          rw [hskip] at this
          have := this.symm
          simp only [Bool.or_eq_false_iff] at this
          exact ⟨this.1.1, this.1.2, this.2⟩
        obtain ⟨h1, h2, h3⟩ := h123
        have HST2 : Hid (kept (L.take (k + 1)) = kept (L.take k) ++ [x]) := Lib.hid (by rw [HST.out, if_neg hskip])
        clear fin hskip HST
        go_upto_region 7 with fail
        go_upto_region 8 with fail
        have hxc : ((x.toNat : Int) == (c.toNat : Int)) = decide (c = x) := by
          by_cases hn : c = x
          · subst hn; simp
          · have : x.toNat ≠ c.toNat := fun h => hn (UInt8.toNat_inj.1 h).symm
            rw [decide_eq_false hn, beq_eq_false_iff_ne]; omega
        have HXC := Lib.hid hxc
        clear hxc
        cases T with
        | true =>
          go_wp2_with fail
          go_roundw
          case rel =>
            refine ⟨k + 1, _, by omega, by omega, by go_num, rfl, Lib.hid ?_, ?_, hB⟩
            · rw [HST2.out, ← hS.out]; simp
            · rw [HST2.out]
              have : c ∈ kept (L.take k) := of_decide_eq_true HT.out.symm
              simp [this]
          case measure => simp [intOf]; omega
        | false =>
          go_wp2_with fail
          go_roundw
          case rel =>
            refine ⟨k + 1, _, by omega, by omega, by go_num, rfl, Lib.hid ?_, ?_, hB⟩
            · rw [HST2.out, ← hS.out]; simp
            · rw [HST2.out, HXC.out]
              have : c ∉ kept (L.take k) := of_decide_eq_false HT.out.symm
              simp [this]
          case measure => simp [intOf]; omega
    · have hk' : k = L.length ∨ k = 12 := by omega
      obtain ⟨R, hR⟩ : ∃ R, R = kept (L.take k) := ⟨_, rfl⟩
      have hRl : R.length ≤ 12 := by
        rw [hR]; exact Nat.le_trans (kept_len _) (by simp; omega)
      have hRok := kept_ok (L.take k)
      rw [← hR] at hRok ⊢ hS
      clear hR hlt ha hcap hcm
      have hSz : S.size = R.length := by
        have := congrArg List.length hS.out
        simpa using this
      have hconv := conv_one (wr.alloc (.cells #[.int .u8 (c.toNat : Nat)] 5)) wr.heap.size c (by
        rw [cell_of_row _ _ 0 _ 5 (0, 0) (heap_alloc_new wr _)]
        simp)
      have hbA : Below w.heap.size w (wr.alloc (.cells #[.int .u8 (c.toNat : Nat)] 5)) := hB.trans ((Below.refl _ wr).alloc hB.size _)
      have HBA := Lib.hid hbA
      have HROK := Lib.hid hRok
      have HSR := Lib.hid (show S = ⟨R.toArray⟩ by apply ByteArray.ext; apply Array.toList_inj.1; exact hS.out)
      have gP : ∀ wx, Calls Try.prog 9 #[.string { data := #[46] }, .string { data := #[c] }, .int .i64 0] wx fun e w' => e = .returned (.string { data := #[48, 49] }) ∧ Below wx.heap.size wx w' := fun wx =>
        found_any wx ⟨#[46]⟩ ⟨#[c]⟩ 0 (by decide) (by show 1 ≤ 1000; decide) (Nat.zero_le _) 100 [48, 49] (found_point c)
      have gW := works_any
      clear hB hbA hRok
      by_cases hR0 : R = []
      · have he : S.toList.isEmpty = true := by rw [HSR.out, hR0, Lib.toList_data]; rfl
        clear hSz hS hSz12 hRl
        go_upto_region 9 with fail
        all_goals
          go_wp2_with (first
            | (go_at_call 9; ((with_reducible refine (gP _).mono ?_); rintro e w1 ⟨rfl, hb1⟩))
            | (go_at_call 6; ((with_reducible refine (gW _).mono ?_); rintro e w2 ⟨rfl, hb2⟩)))
          go_ret
          exact ⟨rfl, (HBA.out.trans (hb1.mono HBA.out.size)).trans (hb2.mono (Nat.le_trans HBA.out.size hb1.size))⟩
      · have he : S.toList.isEmpty = false := by
          rw [HSR.out, Lib.toList_data]
          cases R with
          | nil => exact absurd rfl hR0
          | cons _ _ => rfl
        obtain ⟨d, hd⟩ : ∃ d, d = decide (c ∈ R) := ⟨_, rfl⟩
        have hS1 : (({ data := #[91] } : ByteArray) ++ S ++ ({ data := #[93] } : ByteArray)).data.toList = setExpr false R := by rw [HSR.out]; simp [setExpr]
        have hS2 : (({ data := #[91, 94] } : ByteArray) ++ S ++ ({ data := #[93] } : ByteArray)).data.toList = setExpr true R := by rw [HSR.out]; simp [setExpr]
        have hz1 : (({ data := #[91] } : ByteArray) ++ S ++ ({ data := #[93] } : ByteArray)).size ≤ 255 := by
          refine Nat.le_trans (Nat.le_of_eq (congrArg List.length hS1)) ?_
          simp [setExpr]; omega
        have hz2 : (({ data := #[91, 94] } : ByteArray) ++ S ++ ({ data := #[93] } : ByteArray)).size ≤ 255 := by
          refine Nat.le_trans (Nat.le_of_eq (congrArg List.length hS2)) ?_
          simp [setExpr]; omega
        have gA : ∀ wx, Calls Try.prog 9 #[.string (({ data := #[91] } : ByteArray) ++ S ++ ({ data := #[93] } : ByteArray)), .string { data := #[c] }, .int .i64 0] wx fun e w' => e = .returned (.string { data := (if d = true then [48, 49] else [110, 111] : List UInt8).toArray }) ∧ Below wx.heap.size wx w' := fun wx =>
          found_any wx _ ⟨#[c]⟩ 0 hz1 (by show 1 ≤ 1000; decide) (Nat.zero_le _) 100 _ (by rw [hS1, hd, found_set false R hR0 HROK.out c]; cases decide (c ∈ R) <;> rfl)
        have gB : ∀ wx, Calls Try.prog 9 #[.string (({ data := #[91, 94] } : ByteArray) ++ S ++ ({ data := #[93] } : ByteArray)), .string { data := #[c] }, .int .i64 0] wx fun e w' => e = .returned (.string { data := (if d = true then [110, 111] else [48, 49] : List UInt8).toArray }) ∧ Below wx.heap.size wx w' := fun wx =>
          found_any wx _ ⟨#[c]⟩ 0 hz2 (by show 1 ≤ 1000; decide) (Nat.zero_le _) 100 _ (by rw [hS2, hd, found_set true R hR0 HROK.out c]; cases decide (c ∈ R) <;> rfl)
        rw [← hd]
        clear hS1 hS2 hz1 hz2 hd hR0
        have fin2 : ∀ w1 w2 w3 w4 : World, Below (wr.alloc (.cells #[.int .u8 (c.toNat : Nat)] 5)).heap.size (wr.alloc (.cells #[.int .u8 (c.toNat : Nat)] 5)) w1 → Below w1.heap.size w1 w2 → Below w2.heap.size w2 w3 → Below w3.heap.size w3 w4 → Below w.heap.size w w4 := fun w1 w2 w3 w4 h1 h2 h3 h4 =>
          (((HBA.out.trans (h1.mono HBA.out.size)).trans (h2.mono (Nat.le_trans HBA.out.size h1.size))).trans (h3.mono (Nat.le_trans (Nat.le_trans HBA.out.size h1.size) h2.size))).trans (h4.mono (Nat.le_trans (Nat.le_trans (Nat.le_trans HBA.out.size h1.size) h2.size) h3.size))
        have FIN2 := Lib.hid fin2
        clear fin2
        cases d <;> go_upto_region 9 with fail
        all_goals
          go_upto_region 12 with fail
          go_wp2_with (first
            | (go_at_call 9; ((with_reducible refine (gA _).mono ?_); rintro e w1 ⟨rfl, hb1⟩))
            | (go_at_call 9; ((with_reducible refine (gB _).mono ?_); rintro e w2 ⟨rfl, hb2⟩))
            | (go_at_call 9; ((with_reducible refine (gP _).mono ?_); rintro e w3 ⟨rfl, hb3⟩))
            | (go_at_call 6; ((with_reducible refine (gW _).mono ?_); rintro e w4 ⟨rfl, hb4⟩)))
          go_ret
          exact ⟨rfl, FIN2.out _ _ _ _ hb1 hb2 hb3 hb4⟩
end Go.Proofs.Ytnhlinkkfoojmaa
