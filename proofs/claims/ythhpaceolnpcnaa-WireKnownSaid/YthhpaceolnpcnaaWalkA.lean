/- The walks of package wire: row, PutNum, PutText, NewReader, take, Num, Text, OK, End. -/
import Derived.Test.YthhpaceolnpcnaaProg
import Derived.Test.YthhpaceolnpcnaaPlain
import Derived.Test.YthhpaceolnpcnaaLaws
import Derived.Deep.QuietTactic
import Derived.BigQuiet
import Derived.StillTailTactics
namespace Go.Proofs.Ythhpaceolnpcnaa
open Go.RowKit
set_option maxRecDepth 100000
set_option linter.unusedSimpArgs false
set_option linter.unusedVariables false

theorem info5 : (Try.prog.info? 5).map (fun i => (i.zero, i.size, i.bytes)) = some (some (.int .u8 0), 1, 1) := by kernel_rfl

theorem run_slice_row (w : World) (b k : Nat) (hk : k < 10) :
    (Instr.sliceAt 43 (.pointer (some ⟨b, 0, none⟩)) (some (.int .i64 k)) none none).run Try.prog w = .ok (.slice (some ⟨b, k, none⟩) (10 - k) (10 - k)) w := by
  have hu : Try.prog.underlying 43 = some (.array (Try.prog.arrayLen 43) (Try.prog.elem 43)) := by kernel_rfl
  have ha : Try.prog.arrayLen 43 = 10 := by kernel_rfl
  have he : Try.prog.elem 43 = 5 := by kernel_rfl
  have hsz : (sizeOf 5).run Try.prog w = .ok 1 w := by kernel_rfl
  rw [run_sliceAt_array_l w 43 ⟨b, 0, none⟩ hu .i64 k (by omega) (by rw [ha]; omega), he, hsz]
  have h10 : ¬ 10 = k := by omega
  rcases Nat.eq_zero_or_pos k with rfl | hk0 <;> simp [Result.andThen, slicedAt, ha, h10, Addr.add] <;> omega

set_option maxHeartbeats 2000000 in
theorem putNum_any (s : ByteArray) (n : Nat) (w : World) (hn : n < 18446744073709551616) (hs : s.size ≤ 140737488351232) :
    Calls Try.prog 9 #[.string s, .int .u64 n] w fun e w' => e = .returned (.string (s ++ ⟨(enc n).toArray⟩)) ∧ Below w.heap.size w w' := by
  obtain ⟨i5, hi5, hz5, hs5, hb5⟩ := info_parts info5
  go_enter Try.func9, Try.ntmps9
  go_wp2
  go_loopw [1, 6] (fun v i wr => ∃ (m k : Nat) (sfx : List UInt8), sfx.length + k = 10 ∧ 0 < sfx.length ∧ m * 128 ^ sfx.length < 18446744073709551616 ∧ v = .int .u64 m ∧ i = .int .i64 k ∧
      Hid (encHi m ++ sfx = enc n) ∧ ArrAt wr w.heap.size 43 (List.replicate k (.int .u8 0) ++ u8s sfx) ∧ Below w.heap.size w wr) (fun v _ _ => (intOf v).toNat)
  case atStart => exact ⟨n / 128, 9, [UInt8.ofNat (n % 128)], rfl, by simp, by simp; omega, by go_num, rfl, rfl, arrAt_alloc _ _ _ _ (by simp [u8s]; omega), (Below.refl _ _).alloc (Nat.le_refl _) _⟩
  case round =>
    obtain ⟨m, k, sfx, hk, hs0, hm, rfl, rfl, he, ha, hb⟩ := hrel
    by_cases hm0 : 0 < m
    · have hmb : m < 18446744073709551616 := Nat.lt_of_le_of_lt (Nat.le_mul_of_pos_right _ (Nat.pow_pos (by omega))) hm
      obtain ⟨j, rfl⟩ : ∃ j, k = j + 1 := ⟨k - 1, by
        have : 128 ^ sfx.length < 18446744073709551616 := Nat.lt_of_le_of_lt (Nat.le_mul_of_pos_left _ hm0) hm
        have : sfx.length < 10 := by
          rcases Nat.lt_or_ge sfx.length 10 with h | h
          · exact h
          · have := Nat.pow_le_pow_right (show 0 < 128 by omega) h; omega
        omega⟩
      have hc := ha.cell (v := .int .u8 0) j (by rw [List.getElem?_append_left (by simp)]; simp)
      have hf := ha.free j
      have hj : j < 10 := by omega
      have HK := Lib.hid hk
      have HM := Lib.hid hm
      clear hk hm
      go_wp2
      go_roundw
      case rel =>
        refine ⟨m / 128, j, UInt8.ofNat (m % 128 + 128) :: sfx, by have := HK.out; simp; omega, by simp, ?_, by go_num, rfl, ?_, ?_, hb.setCell (by simp) _⟩
        · have := HM.out
          rw [List.length_cons, Nat.pow_succ, Nat.mul_comm (128 ^ sfx.length), ← Nat.mul_assoc]
          exact Nat.lt_of_le_of_lt (Nat.mul_le_mul_right _ (Nat.div_mul_le_self _ _)) this
        · show encHi (m / 128) ++ _ = _
          rw [← he.out, encHi_pos m hm0]; simp
        · have := ha.set j (.int .u8 (m % 128 + 128))
          rw [List.replicate_succ', List.append_assoc, List.set_append_right _ _ (by simp)] at this
          have e : (UInt8.ofNat (m % 128 + 128)).toNat = m % 128 + 128 := by simp; omega
          have e2 : ((m : Int) % 128 + 128) = (((m % 128 + 128 : Nat)) : Int) := by omega
          rw [e2] at this ⊢
          have e3 : (((m % 128 + 128 : Nat)) : Int) % 256 = ((m % 128 + 128 : Nat) : Int) := by omega
          simpa [-Int.natCast_add, u8s, e, e3] using this
      case measure => simp [intOf]; omega
    · obtain rfl : m = 0 := by omega
      have hsf : sfx = enc n := by simpa [Hid, encHi_zero] using he
      subst hsf
      obtain ⟨E, hE⟩ : ∃ E, E = enc n := ⟨_, rfl⟩
      rw [← hE] at hk hs0 ha
      have HE := Lib.hid hE
      clear he hm hE hm0
      have hlt := ha.lt
      have hlen : (u8s E).length = E.length := u8s_length _
      go_wp2_with (at_make; refine wpList_make_arr rfl _ _ 27 rfl 5 i5 (.int .u8 0) Try.underlying27 hi5 hz5 hs5 rfl _ _ _ _ (s.size + E.length) rfl rfl ?c1 ?c2 ?c3 ?c4 ?c5)
      case c1 => omega
      case c2 => omega
      case c3 => rw [hb5]; omega
      case c4 => omega
      case c5 =>
        intro w1 hz1 ho1 hg1
        have ha1 := ha.grown hg1 (by simp)
        have hb1 := hb.grown hg1 hb.size (by simp)
        have hBg := hb.size
        clear ha hb hg1
        obtain ⟨O, hO⟩ : ∃ O, O = wr.heap.size := ⟨_, rfl⟩
        rw [← hO] at ho1 hBg hz1 hlt ⊢
        clear hO
        go_wp2_with (refine wpList_copy_str (o := ⟨some 35, _, _, _, _, _⟩) rfl (.tmp 33) (.tmp 34) 27 9 rfl 5 Try.underlying27 (by kernel_rfl) O _ _ s rfl rfl _ 5 ho1 ?d1 ?d2 ?d3)
        case d1 => omega
        case d2 => simp
        case d3 =>
          intro w2 hz2 ho2 hg2
          have hne : w.heap.size ≠ O := by omega
          have ha2 := ha1.grown hg2 (by simpa using hne)
          have hb2 := hb1.grown hg2 (by omega) (by simp; omega)
          clear ha1 hb1 hg2 ho1
          go_wp2_with fail
          have hE0 : ¬ E = [] := by intro h; simp [h] at hs0
          have h10 : ¬ 10 = k := by omega
          have hsl := fun wx => run_slice_row wx w.heap.size k (by omega)
          have hle : (s.size : Int) ≤ s.size + E.length := by omega
          go_still_tail 6, (by kernel_rfl)
          refine wpList_copy_arr rfl (.tmp 39) (.tmp 41) 27 27 rfl 5 Try.underlying27 (by kernel_rfl) O s.size E.length E.length w.heap.size k (10 - k) (10 - k) rfl rfl (u8s s.data.toList ++ List.replicate E.length (Value.int .u8 0)) 5 ho2 (u8s E) ?f1 ?f2 ?f3 (u8s_one E) ?f4
          case f1 => rw [hlen]; exact (Nat.min_eq_right (by omega)).symm
          case f2 =>
            intro j v hj
            exact ha2.cell (k + j) (by rw [List.getElem?_append_right (by simp)]; simpa using hj)
          case f3 => rw [List.length_append, u8s_length, u8s_length, List.length_replicate, Array.length_toList, ByteArray.size_data]; exact Nat.le_refl _
          case f4 =>
            intro w3 hz3 ho3 hg3
            have hb3 := hb2.drew.grown hg3 (by simp; omega) (by simp; omega)
            have ho4 : ArrAt w3 O 5 (u8s (s.data.toList ++ E)) := by
              rw [List.take_left' (by simp [u8s_length]), List.drop_eq_nil_of_le (by simp [u8s_length]), List.append_nil, ← u8s_append] at ho3
              exact ho3
            clear ho3 hg3
            have hcv := run_conv_str (P := Try.prog) 27 5 9 Try.underlying27 Try.underlying5 Try.underlying9 ho4.bytes (s.size + E.length) (s.size + E.length) (by simp)
            rw [mk_append] at hcv
            go_wp2
            go_ret
            have h2 := HE.out; subst h2; exact ⟨rfl, hb3⟩

/-- One byte on: the facts that a round of 'row' wants. -/
theorem rowGo_step (b0 k : Nat) (l : List UInt8) (c : Nat) (hk : k < l.length) (hc : (l.getD k 0).toNat = c) :
    rowGo b0 k (l.drop k) = if (k = 0 ∧ c = 128) ∨ (k = 9 ∧ 129 < b0) ∨ k = 10 then 0 else if c < 128 then k + 1 else rowGo b0 (k + 1) (l.drop (k + 1)) := by
  rw [List.drop_eq_getElem_cons hk, rowGo]
  have : l[k].toNat = c := by rw [← hc]; simp [List.getD, hk]
  rw [this]

def RowIs (b0 k : Nat) (l : List UInt8) (r : Nat) : Prop := rowGo b0 k (l.drop k) = r
theorem RowIs.zero {b0 k c r : Nat} {l : List UInt8} (h : RowIs b0 k l r) (hk : k < l.length) (hc : (l.getD k 0).toNat = c) (hz : (k = 0 ∧ c = 128) ∨ (k = 9 ∧ 129 < b0) ∨ k = 10) : r = 0 := by
  rw [← h, rowGo_step b0 k l c hk hc, if_pos hz]
theorem RowIs.found {b0 k c r : Nat} {l : List UInt8} (h : RowIs b0 k l r) (hk : k < l.length) (hc : (l.getD k 0).toNat = c) (hz : ¬ ((k = 0 ∧ c = 128) ∨ (k = 9 ∧ 129 < b0) ∨ k = 10)) (h1 : c < 128) : r = k + 1 := by
  rw [← h, rowGo_step b0 k l c hk hc, if_neg hz, if_pos h1]
theorem RowIs.next {b0 k c r : Nat} {l : List UInt8} (h : RowIs b0 k l r) (hk : k < l.length) (hc : (l.getD k 0).toNat = c) (hz : ¬ ((k = 0 ∧ c = 128) ∨ (k = 9 ∧ 129 < b0) ∨ k = 10)) (h1 : ¬ c < 128) : RowIs b0 (k + 1) l r := by
  unfold RowIs
  rw [← h, rowGo_step b0 k l c hk hc, if_neg hz, if_neg h1]

def RowEnd (r : Nat) (w : World) (e : Ending) (w' : World) : Prop := e = .returned (.int .i64 r) ∧ w = w'

set_option maxHeartbeats 1000000 in
theorem row_any (w : World) (b off cap : Nat) (l : List UInt8) (hl : l.length ≤ 140737488351232) (hb : BytesAt w b off l) :
    Calls Try.prog 24 #[.slice (some ⟨b, off, none⟩) l.length cap] w (RowEnd (rowLen l) w) := by
  obtain ⟨r, hr⟩ : ∃ r, r = rowLen l := ⟨_, rfl⟩
  rw [← hr]
  obtain ⟨b0, hb0⟩ : ∃ b0, b0 = (l.getD 0 0).toNat := ⟨_, rfl⟩
  have H0 : RowIs b0 0 l r := by unfold RowIs; rw [hr, hb0]; rfl
  have HB0 := Lib.hid hb0
  clear hr hb0
  go_enter Try.func24, Try.ntmps24
  go_wp2
  go_loop [7] (fun i => ∃ k : Nat, k ≤ l.length ∧ i = .int .i64 k ∧ RowIs b0 k l r) (fun i => l.length - (intOf i).toNat)
  case atStart => exact ⟨0, Nat.zero_le _, rfl, H0⟩
  case round =>
    clear H0
    obtain ⟨k, hk, rfl, hr⟩ := hrel
    by_cases hlt : k < l.length
    · obtain ⟨c, hc1, hc2, hc⟩ := hb.get k hlt
      obtain ⟨c0, hc01, hc02, hc0⟩ := hb.get 0 (by omega)
      obtain rfl : b0 = c0 := by rw [HB0.out, hc02]
      simp only [Nat.add_zero] at hc0
      have H2 := Lib.hid hc2
      have e02 : k = 0 → c = b0 := by rintro rfl; rw [← hc2, hc02]
      clear hc2 hc02 hb
      by_cases hz : (k = 0 ∧ c = 128) ∨ (k = 9 ∧ 129 < b0) ∨ k = 10
      · have e := hr.zero hlt H2.out hz
        subst e
        clear hr
        rcases hz with ⟨rfl, rfl⟩ | ⟨rfl, h129⟩ | rfl
        · obtain rfl := e02 rfl
          clear e02
          go_wp2
          go_ret
          exact ⟨rfl, rfl⟩
        · clear e02
          go_wp2
          go_ret
          exact ⟨rfl, rfl⟩
        · clear e02
          go_wp2
          go_ret
          exact ⟨rfl, rfl⟩
      · have hk10 : ((k : Int) == 10) = false := by simp; omega
        by_cases h128 : c < 128
        · have e := hr.found hlt H2.out hz h128
          subst e
          clear hr
          by_cases hk0 : k = 0
          · subst hk0
            obtain rfl := e02 rfl
            have hb128 : ((c : Int) == 128) = false := by simp; omega
            clear e02
            go_wp2
            go_ret
            exact ⟨rfl, rfl⟩
          · clear e02
            by_cases hk9 : k = 9
            · subst hk9
              have h129 : b0 ≤ 129 := by omega
              go_wp2
              go_ret
              exact ⟨rfl, rfl⟩
            · go_wp2
              go_ret
              exact ⟨rfl, rfl⟩
        · have hr' := hr.next hlt H2.out hz h128
          by_cases hk0 : k = 0
          · subst hk0
            obtain rfl := e02 rfl
            have hb128 : ((c : Int) == 128) = false := by simp; omega
            clear e02
            go_wp2
            go_round
            case rel => exact ⟨1, by omega, by go_num, hr'⟩
            case measure => simp [intOf]; omega
          · clear e02
            by_cases hk9 : k = 9
            · subst hk9
              have h129 : b0 ≤ 129 := by omega
              go_wp2
              go_round
              case rel => exact ⟨10, by omega, by go_num, hr'⟩
              case measure => simp [intOf]; omega
            · go_wp2
              go_round
              case rel => exact ⟨k + 1, by omega, by go_num, hr'⟩
              case measure => simp [intOf]; omega
    · have e : r = 0 := by rw [← show rowGo b0 k (l.drop k) = r from hr, List.drop_of_length_le (by omega)]; rfl
      subst e
      go_wp2
      go_ret
      exact ⟨rfl, rfl⟩

theorem row_empty (a : Option Addr) (cap : Nat) (w : World) : Calls Try.prog 24 #[.slice a 0 cap] w (RowEnd 0 w) := by
  go_enter Try.func24, Try.ntmps24
  go_wp2
  refine wp_loop_rounds 1 ?_
  rw [rounds_succ]
  go_wp2
  go_ret
  exact ⟨rfl, rfl⟩

end Go.Proofs.Ythhpaceolnpcnaa
