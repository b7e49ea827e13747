/- Padding: what both texts lay behind the bytes. No program in sight; then the walk of the reference's padded. -/
import Derived.Test.YtjkafmjikfbafaaRefBlock
namespace Go.Proofs.Ytjkafmjikfbafaa
open Go.RowKit
set_option maxRecDepth 100000
set_option linter.unusedSimpArgs false
set_option linter.unusedVariables false

/-- How many zeros follow the 0x80 behind n bytes. -/
def zeros (n : Nat) : Nat := (119 - n % 64) % 64
theorem zeros_mod (n j : Nat) (hj : j ≤ zeros n) : (n + 1 + j) % 64 = 56 ↔ j = zeros n := by unfold zeros at *; omega
theorem zeros_lt (n : Nat) : zeros n < 64 := by unfold zeros; omega
/-- The last k of the eight bytes of eight times n, the highest first. -/
def lenB (n : Nat) (k : Nat) : List UInt8 := (List.range k).map fun i => UInt8.ofNat (n * 8 / 2 ^ (8 * (7 - i)))
theorem lenB_succ (n k : Nat) : lenB n (k + 1) = lenB n k ++ [UInt8.ofNat (n * 8 / 2 ^ (8 * (7 - k)))] := by
  simp [lenB, List.range_succ]
theorem lenB_length (n k : Nat) : (lenB n k).length = k := by simp [lenB]
def pad1 (l : List UInt8) (j : Nat) : List UInt8 := l ++ [128] ++ List.replicate j 0
theorem pad1_length (l : List UInt8) (j : Nat) : (pad1 l j).length = l.length + 1 + j := by simp [pad1]; omega
theorem pad1_succ (l : List UInt8) (j : Nat) : pad1 l (j + 1) = pad1 l j ++ [0] := by simp [pad1, List.replicate_succ']
def pad2 (l : List UInt8) (k : Nat) : List UInt8 := pad1 l (zeros l.length) ++ lenB l.length k
def padF (l : List UInt8) : List UInt8 := pad2 l 8
theorem pad2_length (l : List UInt8) (k : Nat) : (pad2 l k).length = l.length + 1 + zeros l.length + k := by simp [pad2, pad1_length, lenB_length]
theorem padF_mod (l : List UInt8) : (padF l).length % 64 = 0 := by
  unfold padF; rw [pad2_length]; unfold zeros; omega

theorem conv_one (w : World) (m : Nat) (x : Int) (hx : x = (m : Int) % 256) : (convert 27 9 (.slice (some ⟨w.heap.size, 0, none⟩) 1 1)).run Try.prog (w.alloc (.cells #[.int .u8 x] 5)) = .ok (.string ⟨#[UInt8.ofNat m]⟩) (w.alloc (.cells #[.int .u8 x] 5)) := by
  subst hx
  have ha : ArrAt (w.alloc (.cells #[.int .u8 ((m : Int) % 256)] 5)) w.heap.size 5 (u8s [UInt8.ofNat m]) := arrAt_alloc _ _ _ _ (by simp [u8s])
  exact run_conv_str (P := Try.prog) 27 5 9 Try.underlying27 Try.underlying5 Try.underlying9 ha.bytes 1 1 rfl

def strLen (v : Value) : Nat := match v with | .string b => b.size | _ => 0

theorem mk_app (l k : List UInt8) : (⟨l.toArray⟩ : ByteArray) ++ ⟨k.toArray⟩ = ⟨(l ++ k).toArray⟩ := by
  apply ByteArray.ext
  simp
theorem mk_size (l : List UInt8) : (⟨l.toArray⟩ : ByteArray).size = l.length := by
  show l.toArray.size = _
  simp
theorem padded_any (s : ByteArray) (w : World) (hs : s.size ≤ 1099511627776) :
    Calls Try.prog 34 #[.string s] w fun e w' => e = .returned (.string ⟨(padF s.data.toList).toArray⟩) ∧ Below w.heap.size w w' := by
  obtain ⟨l, hl⟩ : ∃ l, l = s.data.toList := ⟨_, rfl⟩
  have hsl : l.length = s.size := by rw [hl]; simp
  have es : s = ⟨l.toArray⟩ := by rw [hl]
  rw [← hl]
  have HE := Lib.hid es
  have HSL := Lib.hid hsl
  clear hl es hsl
  go_enter Try.func34, Try.ntmps34
  go_wp2_with fail
  go_loopw [0] (fun v wr => ∃ j : Nat, j ≤ zeros s.size ∧ v = .string ⟨(pad1 l j).toArray⟩ ∧ wr = w) (fun v _ => s.size + 65 - strLen v)
  case atStart => 
    refine ⟨0, by omega, ?_, rfl⟩
    rw [HE.out, pad1]
    rw [List.replicate_zero, List.append_nil]
    exact congrArg Value.string (mk_app _ _)
  case round =>
    obtain ⟨j, hj, rfl, rfl⟩ := hrel
    obtain ⟨w, rfl⟩ : ∃ w, w = wr := ⟨_, rfl⟩
    have hz := zeros_lt s.size
    have hp : ({ data := (pad1 l j).toArray } : ByteArray).size = s.size + 1 + j := by
      have := pad1_length l j
      have h2 := HSL.out
      show (pad1 l j).toArray.size = _
      rw [List.size_toArray]; omega
    obtain ⟨b, hb⟩ : ∃ b, b = ({ data := (pad1 l j).toArray } : ByteArray) := ⟨_, rfl⟩
    rw [← hb] at hp ⊢
    have HB := Lib.hid hb
    clear hb
    by_cases hjz : j = zeros s.size
    · have hm := (zeros_mod s.size j hj).2 hjz
      have hm2 : ((b.size : Int) % 64 != 56) = false := by rw [bne_eq_false_iff_eq]; omega
      have hb2 : b = ⟨(pad2 l 0).toArray⟩ := by rw [HB.out, hjz, pad2, HSL.out]; simp [lenB]
      have HB2 := Lib.hid hb2
      clear hb2 hjz HB
      go_wp2_with fail
      go_loopw [0, 4] (fun v i wx => ∃ k : Nat, k ≤ 8 ∧ i = .int .i64 (7 - (k : Int)) ∧ v = .string ⟨(pad2 l k).toArray⟩ ∧ Below w.heap.size w wx) (fun _ i _ => (1 + intOf i).toNat)
      case atStart => exact ⟨0, by omega, by go_num, by rw [HB2.out], Below.refl _ _⟩
      case round =>
        clear hp hm hm2 HB2
        obtain ⟨k, hk, rfl, rfl, hB⟩ := hrel
        have hp : ({ data := (pad2 l k).toArray } : ByteArray).size = s.size + 1 + zeros s.size + k := by
          rw [mk_size, pad2_length, HSL.out]
        obtain ⟨b, hb⟩ : ∃ b, b = ({ data := (pad2 l k).toArray } : ByteArray) := ⟨_, rfl⟩
        rw [← hb] at hp ⊢
        have HB := Lib.hid hb
        clear hb
        obtain ⟨wx, rfl⟩ : ∃ wx, wx = wr := ⟨_, rfl⟩
        by_cases hk8 : k < 8
        · have a1 : (0 : Int) ≤ 7 - (k : Int) := by omega
          have a1' : (k : Int) ≤ 7 := by omega
          have a2 : (0 : Int) ≤ 8 * (7 - (k : Int)) := by omega
          have a3 : (8 * (7 - (k : Int))).toNat = 8 * (7 - k) := by omega
          have a4 : min (8 * (7 - k)) 64 = 8 * (7 - k) := by omega
          have hb2 : b.size ≤ 1099511628000 := by omega
          have hx : ((s.size : Int) * 8 / 2 ^ (8 * (7 - k)) % 256) = ((s.size * 8 / 2 ^ (8 * (7 - k)) : Nat) : Int) % 256 := by
            rw [Int.natCast_ediv]; simp
          have hcv := conv_one wx (s.size * 8 / 2 ^ (8 * (7 - k))) _ hx
          have HX := Lib.hid hx
          clear hx
          have e9 : (7 - (k : Int) - 1) = 7 - ((k + 1 : Nat) : Int) := by omega
          have HE9 := Lib.hid e9
          clear e9
          go_wp2_with fail
          go_roundw
          case rel =>
            refine ⟨k + 1, by omega, congrArg (Value.int .i64) HE9.out, ?_, hB.alloc hB.size _⟩
            rw [HB.out, pad2, pad2, lenB_succ, ← List.append_assoc, HSL.out]
            exact congrArg Value.string (mk_app _ [_])
          case measure => simp [intOf]; omega
        · obtain rfl : k = 8 := by omega
          go_wp2_with fail
          go_ret
          exact ⟨by rw [HB.out]; rfl, hB⟩
    · have hm : ¬ (s.size + 1 + j) % 64 = 56 := fun h => hjz ((zeros_mod s.size j hj).1 h)
      have hm2 : ((b.size : Int) % 64 != 56) = true := by rw [bne_iff_ne]; omega
      have hb2 : b.size ≤ 1099511628000 := by omega
      go_wp2_with fail
      go_roundw
      case rel => exact ⟨j + 1, by omega, by rw [HB.out, pad1_succ]; exact congrArg Value.string (mk_app _ _), trivial⟩
      case measure => 
        simp only [strLen, ByteArray.size_append]
        show _ - (_ + 1) < _
        omega
end Go.Proofs.Ytjkafmjikfbafaa
