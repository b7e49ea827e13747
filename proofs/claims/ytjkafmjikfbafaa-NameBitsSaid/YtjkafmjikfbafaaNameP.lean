/- Which names, hashes, paths may be: plain; and the walks of the reference's letter, Is, Check, Path, Split. -/
import Derived.Test.YtjkafmjikfbafaaNameRH
namespace Go.Proofs.Ytjkafmjikfbafaa
open Go.RowKit
set_option maxRecDepth 100000
set_option linter.unusedSimpArgs false
set_option linter.unusedVariables false

def inB (c : UInt8) (l : List UInt8) : Bool := l.any fun x => x == c
def isHashB (l : List UInt8) : Bool := (l.all fun c => inB c letters32.data.toList) && l.length == 32
def signs4 : ByteArray := ⟨#[43, 45, 46, 95]⟩
def goodB (c : UInt8) : Bool := (97 ≤ c && c ≤ 122) || (65 ≤ c && c ≤ 90) || (48 ≤ c && c ≤ 57) || inB c signs4.data.toList
/-- Too long: 3; a byte that may not be, none, or a point ahead: 2; else 0. -/
def checkN (l : List UInt8) : Nat := if 20 < l.length then 3 else if l.all goodB then (if l = [] then 2 else if l.getD 0 0 = 46 then 2 else 0) else 2

theorem inB_true {c : UInt8} {s : ByteArray} {k : Nat} (hk : k < s.size) (h : s[k] = c) : inB c s.data.toList = true := by
  rw [inB, List.any_eq_true]
  refine ⟨s[k], ?_, by simp [h]⟩
  rw [← byte_elem s k (by simpa using hk) hk]
  exact List.getElem_mem _
theorem inB_false {c : UInt8} {s : ByteArray} (h : ∀ k (hk : k < s.size), s[k] ≠ c) : inB c s.data.toList = false := by
  rw [inB, List.any_eq_false]
  intro x hx
  obtain ⟨k, hk, rfl⟩ := List.getElem_of_mem hx
  have hk' : k < s.size := by simpa using hk
  rw [byte_elem s k hk hk']
  simpa using h k hk'

theorem letter_any (c : UInt8) (s : ByteArray) (w : World) (hs : s.size ≤ 1000) :
    Calls Try.prog 48 #[.int .u8 c.toNat, .string s] w fun e w' => e = .returned (.bool (inB c s.data.toList)) ∧ w = w' := by
  obtain ⟨b, hb⟩ : ∃ b, b = inB c s.data.toList := ⟨_, rfl⟩
  rw [← hb]
  have HB := Lib.hid hb
  clear hb
  go_enter Try.func48, Try.ntmps48
  go_wp2_with fail
  go_loop [5] (fun i => ∃ k : Nat, k ≤ s.size ∧ i = .int .i64 k ∧ Hid (∀ j (hj : j < s.size), j < k → s[j] ≠ c)) (fun i => s.size - (intOf i).toNat)
  case atStart => exact ⟨0, by omega, rfl, fun j hj h => absurd h (by omega)⟩
  case round =>
    obtain ⟨k, hk, rfl, hno⟩ := hrel
    by_cases hks : k < s.size
    · by_cases hit : s[k] = c
      · have ht : ((s[k].toNat : Int) == (c.toNat : Int)) = true := by rw [hit]; simp
        have hbt : b = true := by rw [HB.out]; exact inB_true hks hit
        have HBT := Lib.hid hbt
        clear hit hbt
        go_wp2_with fail
        go_ret
        exact ⟨by rw [HBT.out]; rfl, rfl⟩
      · have ht : ((s[k].toNat : Int) == (c.toNat : Int)) = false := by
          rw [beq_eq_false_iff_ne]
          intro e
          exact hit (UInt8.toNat_inj.1 (by omega))
        have HIT := Lib.hid hit
        clear hit
        go_wp2_with fail
        go_round
        case rel =>
          refine ⟨k + 1, by omega, by go_num, fun j hj h => ?_⟩
          by_cases e : j = k
          · subst e; exact HIT.out
          · exact hno.out j hj (by omega)
        case measure => simp [intOf]; omega
    · obtain rfl : k = s.size := by omega
      have hbf : b = false := by rw [HB.out]; exact inB_false fun j hj => hno.out j hj hj
      have HBF := Lib.hid hbf
      clear hbf
      go_wp2_with fail
      go_ret
      exact ⟨by rw [HBF.out]; rfl, rfl⟩
end Go.Proofs.Ytjkafmjikfbafaa
