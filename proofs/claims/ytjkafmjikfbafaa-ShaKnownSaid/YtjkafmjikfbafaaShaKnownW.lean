/- The walk of the law ShaKnown. -/
import Derived.Test.YtjkafmjikfbafaaMil
import Derived.Test.YtjkafmjikfbafaaShaIsW
namespace Go.Proofs.Ytjkafmjikfbafaa
open Go.RowKit Go.Lib
set_option maxRecDepth 100000
set_option linter.unusedSimpArgs false
set_option linter.unusedVariables false

def textQ : ByteArray := ⟨#[97, 98, 99, 100, 98, 99, 100, 101, 99, 100, 101, 102, 100, 101, 102, 103, 101, 102, 103, 104, 102, 103, 104, 105, 103, 104, 105, 106, 104, 105, 106, 107, 105, 106, 107, 108, 106, 107, 108, 109, 107, 108, 109, 110, 108, 109, 110, 111, 109, 110, 111, 112, 110, 111, 112, 113]⟩
def sumQ : ByteArray := ⟨#[36, 141, 106, 97, 210, 6, 56, 184, 229, 192, 38, 147, 12, 62, 96, 57, 163, 60, 228, 89, 100, 255, 33, 103, 246, 236, 237, 212, 25, 219, 6, 193]⟩
def hexQ : ByteArray := ⟨#[50, 52, 56, 100, 54, 97, 54, 49, 100, 50, 48, 54, 51, 56, 98, 56, 101, 53, 99, 48, 50, 54, 57, 51, 48, 99, 51, 101, 54, 48, 51, 57, 97, 51, 51, 99, 101, 52, 53, 57, 54, 52, 102, 102, 50, 49, 54, 55, 102, 54, 101, 99, 101, 100, 100, 52, 49, 57, 100, 98, 48, 54, 99, 49]⟩
def sumM : ByteArray := ⟨#[205, 199, 110, 92, 153, 20, 251, 146, 129, 161, 199, 226, 132, 215, 62, 103, 241, 128, 154, 72, 164, 151, 32, 14, 4, 109, 57, 204, 199, 17, 44, 208]⟩
def hexM : ByteArray := ⟨#[99, 100, 99, 55, 54, 101, 53, 99, 57, 57, 49, 52, 102, 98, 57, 50, 56, 49, 97, 49, 99, 55, 101, 50, 56, 52, 100, 55, 51, 101, 54, 55, 102, 49, 56, 48, 57, 97, 52, 56, 97, 52, 57, 55, 50, 48, 48, 101, 48, 52, 54, 100, 51, 57, 99, 99, 99, 55, 49, 49, 50, 99, 100, 48]⟩
def textM : ByteArray := ⟨millionA.toArray⟩
theorem sumQ_eq : shaSum textQ.data.toList = sumQ.data.toList := by decide +kernel
theorem hexQ_eq : hexF sumQ.data.toList = hexQ.data.toList := by decide +kernel
theorem hexM_eq : hexF sumM.data.toList = hexM.data.toList := by decide +kernel
theorem textM_list : textM.data.toList = millionA := by unfold textM; rw [List.toList_toArray]
theorem textM_size : textM.size = 1000000 := by unfold textM; rw [mk_size, millionA, List.length_replicate]
theorem sumM_eq : shaSum textM.data.toList = sumM.data.toList := by rw [textM_list, million_sum]; rfl

/-- The row while it is filled. -/
def MilAt (w : World) (b k : Nat) : Prop := ArrAt w b 5 (u8s (List.replicate k 97 ++ List.replicate (1000000 - k) 0))
theorem MilAt.start {w : World} {b : Nat} (h : ArrAt w b 5 (List.replicate 1000000 (.int .u8 0))) : MilAt w b 0 := by
  unfold MilAt u8s
  rw [List.replicate_zero, List.nil_append, List.map_replicate]
  exact h
theorem MilAt.cell {w : World} {b k : Nat} (h : MilAt w b k) (hk : k < 1000000) : w.cell? ⟨b, k, none⟩ = some (.int .u8 0) ∧ w.frozen? ⟨b, k, none⟩ = false ∧ b < w.heap.size := by
  refine ⟨?_, ArrAt.free h k, ArrAt.lt h⟩
  rw [ArrAt.cell h k (u8s_get _ k (by rw [List.length_append, List.length_replicate, List.length_replicate]; omega))]
  rw [List.getD_eq_getElem?_getD, List.getElem?_append_right (by rw [List.length_replicate]; omega), List.length_replicate, List.getElem?_replicate, if_pos (by omega)]
  rfl
theorem MilAt.next {w : World} {b k : Nat} (h : MilAt w b k) (hk : k < 1000000) : MilAt (w.setCell ⟨b, k, none⟩ (.int .u8 97)) b (k + 1) := by
  have h2 := ArrAt.set h k (.int .u8 97)
  have e : (u8s (List.replicate k 97 ++ List.replicate (1000000 - k) 0)).set k (.int .u8 97) = u8s (List.replicate (k + 1) 97 ++ List.replicate (1000000 - (k + 1)) 0) := by
    obtain ⟨d, hd⟩ : ∃ d, 1000000 - k = d + 1 := ⟨1000000 - k - 1, by omega⟩
    rw [hd, show 1000000 - (k + 1) = d by omega, List.replicate_succ, u8s_append, List.set_append_right _ _ (by rw [u8s_length, List.length_replicate]; exact Nat.le_refl _), u8s_length, List.length_replicate, Nat.sub_self]
    rw [List.replicate_succ' (n := k), List.append_assoc, u8s_append]
    rfl
  rw [e] at h2
  exact h2
theorem MilAt.bytes {w : World} {b : Nat} (h : MilAt w b 1000000) : BytesAt w b 0 millionA := by
  unfold MilAt at h
  rw [Nat.sub_self, List.replicate_zero, List.append_nil] at h
  exact ArrAt.bytes h
theorem MilAt.below {w w' : World} {b k : Nat} (h : MilAt w b k) (hb : Below w.heap.size w w') : MilAt w' b k := by
  unfold MilAt ArrAt at *
  rw [hb.block b (Array.getElem?_eq_some_iff.1 h).1]; exact h
theorem conv_million {w : World} {b : Nat} (h : MilAt w b 1000000) : (convert 27 9 (.slice (some ⟨b, 0, none⟩) 1000000 1000000)).run Try.prog w = .ok (.string textM) w := by
  have := run_conv_str (P := Try.prog) 27 5 9 Try.underlying27 Try.underlying5 Try.underlying9 h.bytes 1000000 1000000 (by rw [millionA, List.length_replicate])
  exact this

set_option maxHeartbeats 4000000 in
theorem shaKnown_walk (w : World) : Calls Try.prog 7 #[] w (TrueOut w) := by
  obtain ⟨i0, hi, hz0, hz1, hz2⟩ := info_parts info5
  have k1 : ({ data := #[97, 98, 99, 100, 98, 99, 100, 101, 99, 100, 101, 102, 100, 101, 102, 103, 101, 102, 103, 104, 102, 103, 104, 105, 103, 104, 105, 106, 104, 105, 106, 107, 105, 106, 107, 108, 106, 107, 108, 109, 107, 108, 109, 110, 108, 109, 110, 111, 109, 110, 111, 112, 110, 111, 112, 113] } : ByteArray) = textQ := rfl
  have k2 : ({ data := #[50, 52, 56, 100, 54, 97, 54, 49, 100, 50, 48, 54, 51, 56, 98, 56, 101, 53, 99, 48, 50, 54, 57, 51, 48, 99, 51, 101, 54, 48, 51, 57, 97, 51, 51, 99, 101, 52, 53, 57, 54, 52, 102, 102, 50, 49, 54, 55, 102, 54, 101, 99, 101, 100, 100, 52, 49, 57, 100, 98, 48, 54, 99, 49] } : ByteArray) = hexQ := rfl
  have k3 : ({ data := #[99, 100, 99, 55, 54, 101, 53, 99, 57, 57, 49, 52, 102, 98, 57, 50, 56, 49, 97, 49, 99, 55, 101, 50, 56, 52, 100, 55, 51, 101, 54, 55, 102, 49, 56, 48, 57, 97, 52, 56, 97, 52, 57, 55, 50, 48, 48, 101, 48, 52, 54, 100, 51, 57, 99, 99, 99, 55, 49, 49, 50, 99, 100, 48] } : ByteArray) = hexM := rfl
  have K1 := Lib.hid k1
  have K2 := Lib.hid k2
  have K3 := Lib.hid k3
  clear k1 k2 k3
  go_enter Try.func7, Try.ntmps7
  rw [K1.out, K2.out, K3.out]
  obtain ⟨N, hN⟩ : ∃ N : Nat, N = 1000000 := ⟨_, rfl⟩
  have hNb : N ≤ 1099511627776 := by omega
  have HN := Lib.hid hN
  clear hN
  go_wp2_with (refine wpList_make_arr rfl _ _ 27 rfl 5 i0 (.int .u8 0) Try.underlying27 hi hz0 hz1 rfl .i64 .i64 1000000 1000000 N rfl rfl (by have := HN.out; omega) (by have := HN.out; omega) (by rw [hz2]; omega) (by omega) (fun w1 hsz harr hg => ?_))
  have hM0 : MilAt w1 w.heap.size 0 := MilAt.start (by rw [← HN.out]; exact harr)
  have hB0 : Below w.heap.size w w1 := (Below.refl _ _).grown hg (Nat.le_refl _) (fun r hr => by cases hr)
  have HM0 := Lib.hid hM0
  clear hM0 harr hg hsz
  go_loopw [2] (fun i wx => ∃ k : Nat, k ≤ N ∧ i = .int .i64 k ∧ MilAt wx w.heap.size k ∧ Below w.heap.size w wx) (fun i _ => N - (intOf i).toNat)
  case atStart => exact ⟨0, by omega, rfl, HM0.out, hB0⟩
  case round =>
    clear HM0 hB0
    obtain ⟨k, hk, rfl, hM, hB⟩ := hrel
    by_cases hk1 : k < N
    · obtain ⟨c1, c2, c3⟩ := hM.cell (by rw [← HN.out]; exact hk1)
      have hNx := hM.next (by rw [← HN.out]; exact hk1)
      have HNX := Lib.hid hNx
      have HM := Lib.hid hM
      clear hNx hM
      go_wp2_with fail
      go_roundw
      case rel => exact ⟨k + 1, by omega, by go_num, HNX.out, hB.setCell (by simp) _⟩
      case measure => simp [intOf]; omega
    · have hM2 : MilAt wr w.heap.size 1000000 := by rw [← HN.out, show N = k by omega]; exact hM
      have HM := Lib.hid hM2
      have hcv := fun (wx : World) (h : MilAt wx w.heap.size 1000000) => conv_million h
      rw [← HN.out] at hcv
      have HCV := Lib.hid hcv
      clear hM hM2 hcv
      go_wp2_with (first
        | (go_at_call 15; ((with_reducible refine (works_any _).mono ?_); rintro e w2 ⟨rfl, hb2⟩))
        | (go_at_call 13; ((with_reducible refine (sum_at textQ sumQ sumQ_eq _ (by decide)).mono ?_); rintro e w3 ⟨rfl, hb3⟩))
        | (go_at_call 16; ((with_reducible refine (hex_at sumQ hexQ hexQ_eq _ (by decide) (by decide)).mono ?_); rintro e w4 ⟨rfl, hb4⟩; have hcm := HCV.out _ (HN.out ▸ (((HM.out.below hb2).below hb3).below hb4))))
        | (go_at_call 13; ((with_reducible refine (sum_at textM sumM sumM_eq _ (by rw [textM_size]; decide)).mono ?_); rintro e w5 ⟨rfl, hb5⟩))
        | (go_at_call 16; ((with_reducible refine (hex_at sumM hexM hexM_eq _ (by decide) (by decide)).mono ?_); rintro e w6 ⟨rfl, hb6⟩)))
      go_ret
      exact ⟨rfl, below_next (below_next (below_next (below_next (below_next hB hb2) hb3) hb4) hb5) hb6⟩
end Go.Proofs.Ytjkafmjikfbafaa
