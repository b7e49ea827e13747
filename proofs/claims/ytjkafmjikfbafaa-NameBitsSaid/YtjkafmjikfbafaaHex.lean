/- The walks of the laws' own hex and works. -/
import Derived.Test.YtjkafmjikfbafaaSumW
import Derived.Deep.AppendLies
import Derived.KernelRfl
namespace Go.Proofs.Ytjkafmjikfbafaa
open Go.RowKit
set_option maxRecDepth 100000
set_option linter.unusedSimpArgs false
set_option linter.unusedVariables false

def digits16 : ByteArray := ⟨#[48, 49, 50, 51, 52, 53, 54, 55, 56, 57, 97, 98, 99, 100, 101, 102]⟩
def hexD (m : Nat) : UInt8 := digits16.data.toList.getD m 0
def hexB (b : UInt8) : List UInt8 := [hexD (b.toNat / 16), hexD (b.toNat % 16)]
/-- Bytes, to the base 16. -/
def hexF (l : List UInt8) : List UInt8 := l.flatMap hexB
theorem hexF_snoc (l : List UInt8) (x : UInt8) : hexF (l ++ [x]) = hexF l ++ hexB x := by simp [hexF]
theorem hexF_length (l : List UInt8) : (hexF l).length = 2 * l.length := by
  induction l with
  | nil => rfl
  | cons x l ih =>
    show (hexB x ++ hexF l).length = _
    rw [List.length_append, ih, List.length_cons]
    show 2 + _ = _
    omega
theorem u8s_hexB (x : UInt8) : u8s (hexB x) = [.int .u8 (hexD (x.toNat / 16)).toNat, .int .u8 (hexD (x.toNat % 16)).toNat] := rfl
theorem and15 (x : Nat) (hx : x < 256) : bits .and .u8 (x : Int) 15 = ((x % 16 : Nat) : Int) := by
  have : ∀ m : Fin 256, bits .and .u8 (m.val : Int) 15 = ((m.val % 16 : Nat) : Int) := by decide
  exact this ⟨x, hx⟩
theorem index_digit (m : Nat) (hm : m < 16) (w : World) : (Instr.index 9 (.string digits16) (.int .u8 m)).run Try.prog w = .ok (.int .u8 (hexD m).toNat) w := by
  have hs : digits16.size = 16 := rfl
  rw [run_index_string w 9 digits16 .u8 m Try.underlying9, dif_pos (by omega)]
  rw [byte_get digits16 _ (by omega)]
  rfl
theorem two_new (w : World) (v1 v2 : Value) (t : TypeId) : ∀ (j : Nat) (u : Value), [v1, v2][j]? = some u → (w.alloc (Obj.cells #[v1, v2] t)).cell? ((⟨w.heap.size, 0, none⟩ : Addr).add j) = some u := by
  intro j u hu
  rw [Addr.add_lit, Nat.zero_add]
  exact (arrAt_alloc w _ t [v1, v2] rfl).cell j hu

def HexRel (w : World) (l : List UInt8) (v : Value) (n : Nat) (wr : World) : Prop :=
  Below w.heap.size w wr ∧ wr.ownsRow w.heap.size 5 1 v (2 * n) (u8s (hexF (l.take n)))
theorem HexRel.next {w wr w5 : World} {l : List UInt8} {v v' : Value} {n : Nat} {x : UInt8} (h : HexRel w l v n wr) (hn : n < l.length) (hx : l.getD n 0 = x) (o : Obj) (hg : (wr.alloc o).grownBy w5 v.ownBlock)
    (hown : w5.ownsRow w.heap.size 5 1 v' (2 * n + 2) (u8s (hexF (l.take n)) ++ [.int .u8 (hexD (x.toNat / 16)).toNat, .int .u8 (hexD (x.toNat % 16)).toNat])) : HexRel w l v' (n + 1) w5 := by
  obtain ⟨h1, h2⟩ := h
  refine ⟨(h1.alloc h1.size _).grown hg (by rw [World.size_alloc]; have := h1.size; omega) (fun k hk => (h2.lt k hk).1), ?_⟩
  rw [← u8s_hexB, ← u8s_append, ← hexF_snoc, ← hx] at hown
  rw [List.take_succ_eq_append_getElem hn]
  rw [List.getD_eq_getElem?_getD, List.getElem?_eq_getElem hn] at hown
  exact hown

set_option maxHeartbeats 2000000 in
theorem hex_any (s : ByteArray) (w : World) (hs : s.size ≤ 1099511627776) (h0 : 0 < s.size) :
    Calls Try.prog 16 #[.string s] w fun e w' => e = .returned (.string ⟨(hexF s.data.toList).toArray⟩) ∧ Below w.heap.size w w' := by
  obtain ⟨i0, hi, hz0, hz1, hz2⟩ := info_parts info5
  have hlen : s.data.toList.length = s.size := by simp
  have hget : ∀ j (hj : j < s.size), s[j] = s.data.toList.getD j 0 := fun j hj => (byte_getD s j hj).symm
  obtain ⟨l, hl⟩ : ∃ l, l = s.data.toList := ⟨_, rfl⟩
  rw [← hl] at hlen hget ⊢
  have HLEN := Lib.hid hlen
  have HGET := Lib.hid hget
  clear hl hlen hget
  have hd16 : ({ data := #[48, 49, 50, 51, 52, 53, 54, 55, 56, 57, 97, 98, 99, 100, 101, 102] } : ByteArray) = digits16 := rfl
  have HD16 := Lib.hid hd16
  clear hd16
  have hn2 : IntKind.i64.wrap (2 * (s.size : Int)) = ((2 * s.size : Nat) : Int) := by
    rw [IntWalk.i64_in _ (by omega)]; omega
  go_enter Try.func16, Try.ntmps16
  rw [HD16.out]
  go_wp2_with (refine wpList_make_own _ rfl _ _ 27 rfl w.heap.size 5 i0 (.int .u8 0) 1 Try.underlying27 hi hz0 hz1 .i64 .i64 _ (2 * s.size) rfl rfl ?e1 ?e2 ?e3 (Nat.le_refl _) (fun w4 hown hg => ?_))
  case e1 => omega
  case e2 => rw [hz2]; omega
  case e3 => simp only [maxLen]; omega
  have hR0 : HexRel w l (.slice (some ⟨w.heap.size, 0, none⟩) 0 (2 * s.size)) 0 w4 := ⟨(Below.refl _ _).grown hg (Nat.le_refl _) (fun k hk => by cases hk), hown⟩
  have HR0 := Lib.hid hR0
  clear hR0 hown hg hn2
  go_loopw [4, 5] (fun v i wx => ∃ n : Nat, n ≤ s.size ∧ i = .int .i64 n ∧ HexRel w l v n wx) (fun _ i _ => s.size - (intOf i).toNat)
  case atStart => exact ⟨0, by omega, rfl, HR0.out⟩
  case round =>
    clear HR0
    obtain ⟨n, hn, rfl, hR⟩ := hrel
    by_cases hns : n < s.size
    · have hi1 := fun w => index_digit (s[n].toNat / 16) (by have := s[n].toNat_lt; omega) w
      have hi2 := fun w => index_digit (s[n].toNat % 16) (by omega) w
      have ha := and15 s[n].toNat s[n].toNat_lt
      have e1 : ((s[n].toNat / 16 : Nat) : Int) = (s[n].toNat : Int) / 16 := Int.natCast_ediv _ _
      have e2 : ((s[n].toNat % 16 : Nat) : Int) = (s[n].toNat : Int) % 16 := Int.natCast_emod _ _
      rw [e1] at hi1
      rw [e2] at hi2 ha
      have hx := HGET.out n hns
      have HX := Lib.hid hx
      have hown := hR.2
      have HO := Lib.hid hown
      have hle := hR.1.size
      clear e1 e2 hx hown
      go_wp2_with fail
      go_region_held3 (fun wx => True) (exact trivial)
        ((refine step_append_lies _ (by rfl) _ _ 27 (by rfl) w.heap.size 5 i0 (.int .u8 0) 1 1 Try.underlying27 hi hz0 hz1 hz2 rfl (by decide) _ _ _ (by rfl) (own_drew (HO.out.alloc _))
           ⟨wr.heap.size, 0, none⟩ 2 2 [.int .u8 (hexD (s[n].toNat / 16)).toNat, .int .u8 (hexD (s[n].toNat % 16)).toNat] (by rfl) (by rfl)
           (World.news_of_block (cs := #[.int .u8 (hexD (s[n].toNat / 16)).toNat, .int .u8 (hexD (s[n].toNat % 16)).toNat]) (t := 5) (fr := (0, 0)) (heap_alloc_new wr _))
           (by simp [Value.oneCell']) (by omega) (by simp only [maxLen]; omega) (by omega) (by simp; omega) (wr.heap.size + 1) (by simp) ?_; intro gg cap2 w5 hown' hgrow hat hlt5))
      all_goals
        have hN := hR.next (by rw [HLEN.out]; exact hns) HX.out.symm _ (grown_drew hgrow) hown'
        have HN := Lib.hid hN
        clear hN hown' hgrow hat hlt5
        go_wp2_with fail
        go_roundw
        case rel => exact ⟨n + 1, by omega, by go_num, HN.out⟩
        case measure => simp [intOf]; omega
    · obtain rfl : n = s.size := by omega
      obtain ⟨hB, hown⟩ := hR
      rw [List.take_of_length_le (by rw [HLEN.out]; omega)] at hown
      obtain ⟨g, cap2, rfl, hgc⟩ := own_bytes hown (by rw [hexF_length, HLEN.out]) (by omega)
      have hconv := run_conv_str (P := Try.prog) 27 5 9 Try.underlying27 Try.underlying5 Try.underlying9 hgc (2 * s.size) cap2 (by rw [hexF_length, HLEN.out])
      clear hown hgc
      go_wp2_with fail
      go_ret
      exact ⟨rfl, hB⟩

def sumE : ByteArray := ⟨#[227, 176, 196, 66, 152, 252, 28, 20, 154, 251, 244, 200, 153, 111, 185, 36, 39, 174, 65, 228, 100, 155, 147, 76, 164, 149, 153, 27, 120, 82, 184, 85]⟩
def sumA : ByteArray := ⟨#[186, 120, 22, 191, 143, 1, 207, 234, 65, 65, 64, 222, 93, 174, 34, 35, 176, 3, 97, 163, 150, 23, 122, 156, 180, 16, 255, 97, 242, 0, 21, 173]⟩
def hexE : ByteArray := ⟨#[101, 51, 98, 48, 99, 52, 52, 50, 57, 56, 102, 99, 49, 99, 49, 52, 57, 97, 102, 98, 102, 52, 99, 56, 57, 57, 54, 102, 98, 57, 50, 52, 50, 55, 97, 101, 52, 49, 101, 52, 54, 52, 57, 98, 57, 51, 52, 99, 97, 52, 57, 53, 57, 57, 49, 98, 55, 56, 53, 50, 98, 56, 53, 53]⟩
def hexA : ByteArray := ⟨#[98, 97, 55, 56, 49, 54, 98, 102, 56, 102, 48, 49, 99, 102, 101, 97, 52, 49, 52, 49, 52, 48, 100, 101, 53, 100, 97, 101, 50, 50, 50, 51, 98, 48, 48, 51, 54, 49, 97, 51, 57, 54, 49, 55, 55, 97, 57, 99, 98, 52, 49, 48, 102, 102, 54, 49, 102, 50, 48, 48, 49, 53, 97, 100]⟩
theorem sumE_eq : shaSum [] = sumE.data.toList := by decide +kernel
theorem sumA_eq : shaSum [97, 98, 99] = sumA.data.toList := by decide +kernel
theorem hexE_eq : hexF sumE.data.toList = hexE.data.toList := by decide +kernel
theorem hexA_eq : hexF sumA.data.toList = hexA.data.toList := by decide +kernel
theorem sum_at (s : ByteArray) (S : ByteArray) (h : shaSum s.data.toList = S.data.toList) (w : World) (hs : s.size ≤ 1099511627776) :
    Calls Try.prog 13 #[.string s] w fun e w' => e = .returned (.string S) ∧ Below w.heap.size w w' := by
  have := sum_any s w hs
  rw [h] at this
  exact this
theorem hex_at (s : ByteArray) (S : ByteArray) (h : hexF s.data.toList = S.data.toList) (w : World) (hs : s.size ≤ 1099511627776) (h0 : 0 < s.size) :
    Calls Try.prog 16 #[.string s] w fun e w' => e = .returned (.string S) ∧ Below w.heap.size w w' := by
  have := hex_any s w hs h0
  rw [h] at this
  exact this
def TrueOut (w : World) (e : Ending) (w' : World) : Prop := e = .returned (.bool true) ∧ Below w.heap.size w w'
theorem below_of_drew {w w' : World} {n : Nat} (h : Below (w.drewN n).heap.size (w.drewN n) w') : Below w.heap.size w w' := ⟨h.os, h.tape, h.output, h.size, h.block⟩
theorem below_next {w w1 w2 : World} (h : Below w.heap.size w w1) (k : Below w1.heap.size w1 w2) : Below w.heap.size w w2 := h.trans (k.mono h.size)

set_option maxHeartbeats 1000000 in
theorem works_any (w : World) : Calls Try.prog 15 #[] w (TrueOut w) := by
  have k1 : ({ data := #[101, 51, 98, 48, 99, 52, 52, 50, 57, 56, 102, 99, 49, 99, 49, 52, 57, 97, 102, 98, 102, 52, 99, 56, 57, 57, 54, 102, 98, 57, 50, 52, 50, 55, 97, 101, 52, 49, 101, 52, 54, 52, 57, 98, 57, 51, 52, 99, 97, 52, 57, 53, 57, 57, 49, 98, 55, 56, 53, 50, 98, 56, 53, 53] } : ByteArray) = hexE := rfl
  have k2 : ({ data := #[98, 97, 55, 56, 49, 54, 98, 102, 56, 102, 48, 49, 99, 102, 101, 97, 52, 49, 52, 49, 52, 48, 100, 101, 53, 100, 97, 101, 50, 50, 50, 51, 98, 48, 48, 51, 54, 49, 97, 51, 57, 54, 49, 55, 55, 97, 57, 99, 98, 52, 49, 48, 102, 102, 54, 49, 102, 50, 48, 48, 49, 53, 97, 100] } : ByteArray) = hexA := rfl
  have K1 := Lib.hid k1
  have K2 := Lib.hid k2
  clear k1 k2
  go_enter Try.func15, Try.ntmps15
  rw [K1.out, K2.out]
  go_wp2_with (first
    | (go_at_call 13; ((with_reducible refine (sum_at ⟨#[]⟩ sumE sumE_eq _ (by decide)).mono ?_); rintro e w1 ⟨rfl, hb1⟩))
    | (go_at_call 16; ((with_reducible refine (hex_at sumE hexE hexE_eq _ (by decide) (by decide)).mono ?_); rintro e w2 ⟨rfl, hb2⟩))
    | (go_at_call 13; ((with_reducible refine (sum_at ⟨#[97, 98, 99]⟩ sumA sumA_eq _ (by decide)).mono ?_); rintro e w3 ⟨rfl, hb3⟩))
    | (go_at_call 16; ((with_reducible refine (hex_at sumA hexA hexA_eq _ (by decide) (by decide)).mono ?_); rintro e w4 ⟨rfl, hb4⟩)))
  go_ret
  exact ⟨rfl, below_next (below_next (below_next hb1 hb2) hb3) hb4⟩

end Go.Proofs.Ytjkafmjikfbafaa
