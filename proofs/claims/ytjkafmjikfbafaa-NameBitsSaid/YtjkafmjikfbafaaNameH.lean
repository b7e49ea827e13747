/- The walk of name.Hash. -/
import Derived.Test.YtjkafmjikfbafaaNameL
import Derived.Test.YtjkafmjikfbafaaWB
import Derived.Test.YtjkafmjikfbafaaShelf
import Derived.Test.YtjkafmjikfbafaaShaIsW
namespace Go.Proofs.Ytjkafmjikfbafaa
open Go.RowKit
set_option maxRecDepth 100000
set_option linter.unusedSimpArgs false
set_option linter.unusedVariables false

theorem index_letter (m : Nat) (hm : m < 32) (w : World) : (Instr.index 9 (.string letters32) (.int .u64 m)).run Try.prog w = .ok (.int .u8 (let32 m).toNat) w := by
  have hs : letters32.size = 32 := rfl
  rw [run_index_string w 9 letters32 .u64 m Try.underlying9, dif_pos (by omega)]
  rw [byte_get letters32 _ (by omega)]
  rfl
theorem u8s_byteCells (l : List UInt8) : u8s l = Lib.byteCells l := rfl

/-- What Hash's loops keep: the builder, the letters so far. -/
def HashRel (w : World) (H : Nat) (l : List UInt8) (c : Nat) (wr : World) : Prop :=
  w.heap.size ≤ H ∧ Lib.IsBuilder 60 5 H H (u8s (hashF l c)) wr ∧ Below w.heap.size w wr ∧ H ≤ wr.heap.size
theorem HashRel.write {w wr : World} {H c : Nat} {l : List UInt8} (h : HashRel w H l c wr) (hc : c < 32) :
    Calls Try.prog 36 #[.pointer (some ⟨H, 0, none⟩), .int .u8 (let32 (pre l (5 * (c + 1)) % 32)).toNat] wr fun e w' => e = .returned .nilIface ∧ HashRel w H l (c + 1) w' := by
  obtain ⟨h1, h2, h3, h4⟩ := h
  refine (writeByte_any H H _ _ wr h2 (by rw [u8s_length, hashF_length]; omega) h4).mono ?_
  rintro e w' ⟨rfl, hb, hB⟩
  refine ⟨rfl, h1, .inr ?_, h3.trans (hB.mono h1), Nat.le_trans h4 hB.size⟩
  rw [hashF_succ, u8s_append]
  exact hb
theorem pow_lt16 (b : Nat) (hb : b < 5) : 2 ^ b ≤ 16 := by
  have := Nat.pow_le_pow_right (n := 2) (by omega) (show b ≤ 4 by omega)
  exact this

set_option maxHeartbeats 4000000 in
theorem hash_any (s : ByteArray) (w : World) (hs : s.size ≤ 1099511627776) :
    Calls Try.prog 17 #[.string s] w fun e w' => e = .returned (.string ⟨(hashF (shaSum s.data.toList) 32).toArray⟩) ∧ Below w.heap.size w w' := by
  have k1 : ({ data := #[48, 49, 50, 51, 52, 53, 54, 55, 56, 57, 97, 98, 99, 100, 102, 103, 104, 105, 106, 107, 108, 109, 110, 112, 113, 114, 115, 118, 119, 120, 121, 122] } : ByteArray) = letters32 := rfl
  have K1 := Lib.hid k1
  clear k1
  obtain ⟨l, hl⟩ : ∃ l, l = shaSum s.data.toList := ⟨_, rfl⟩
  have hl32 : l.length = 32 := by rw [hl, shaSum_length]
  have hsz : (sumB s).size = 32 := by unfold sumB; rw [mk_size, shaSum_length]
  have hget : ∀ j (hj : j < (sumB s).size), (sumB s)[j] = l.getD j 0 := fun j hj => by
    rw [← byte_getD (sumB s) j hj, hl]
    unfold sumB; rw [List.toList_toArray]
  rw [← hl]
  have HL := Lib.hid hl
  have HL32 := Lib.hid hl32
  have HSZ := Lib.hid hsz
  have HG := Lib.hid hget
  have hszb : (sumB s).size ≤ 32 := by omega
  have hmin20 : min (32 : Int) 20 = 20 := by decide
  clear hl hl32 hget
  go_enter Try.func17, Try.ntmps17
  rw [K1.out]
  go_wp2_with (go_at_call 13; ((with_reducible refine (sumB_any s _ hs).mono ?_); rintro e w1 ⟨rfl, hb1⟩))
  obtain ⟨X, hX⟩ : ∃ X, X = sumB s := ⟨_, rfl⟩
  have h20 : 32 ≤ X.size := by rw [hX]; omega
  rw [← hX]
  have HX := Lib.hid hX
  have hHl : Below w.heap.size w w1 := hb1
  have R0 : HashRel w w1.heap.size l 0 (w1.alloc (Obj.cells #[Value.pointer none, Value.slice none 0 0] 60)) := by
    refine ⟨hb1.size, .inl ⟨Nat.le_refl _, .slice none 0 0, heap_alloc_new w1 _, World.ownsRow_nil _ _ _ _, by simp [Value.ownBlock]⟩, hb1.alloc hb1.size _, by rw [World.size_alloc]; omega⟩
  have HR0 := Lib.hid R0
  clear hsz hszb hX R0 hb1 hHl
  obtain ⟨H, hH⟩ : ∃ H, H = w1.heap.size := ⟨_, rfl⟩
  rw [← hH] at HR0 ⊢
  have HH := Lib.hid hH
  clear hH
  go_loopw [5, 6, 13] (fun hv bv iv wr => ∃ i c b h : Nat, i ≤ 20 ∧ 5 * c + b = 8 * i ∧ b < 5 ∧ Hid (h = pre l (8 * i) % 2 ^ b) ∧ hv = .int .u64 (h : Nat) ∧ bv = .int .i64 (b : Nat) ∧ iv = .int .i64 i ∧ HashRel w H l c wr) (fun _ _ iv _ => 20 - (intOf iv).toNat)
  case atStart => exact ⟨0, 0, 0, 0, by omega, by omega, by omega, by have := HL32.out; rw [Hid, Nat.mul_zero, pre_zero l (by omega)], rfl, rfl, rfl, HR0.out⟩
  case round =>
    clear HR0
    obtain ⟨i, c, b, h, hi, hcb, hb5, HhE, rfl, rfl, rfl, hR⟩ := hrel
    have HR := Lib.hid hR
    by_cases hi20 : i < 20
    · have hx := X[i].toNat_lt
      have hlt : h < 16 := by
        rw [HhE.out]
        exact Nat.lt_of_lt_of_le (Nat.mod_lt _ (Nat.pow_pos (by omega))) (pow_lt16 b hb5)
      have hor := or_256 h X[i].toNat (by omega) hx
      rw [show ((h * 256 : Nat) : Int) = (h : Int) * 256 by simp] at hor
      obtain ⟨G, hG⟩ : ∃ G, G = h * 256 + X[i].toNat := ⟨_, rfl⟩
      rw [← hG] at hor
      have HGE : Hid (G = pre l (8 * (i + 1)) % 2 ^ (b + 8)) := by
        have hl := HL32.out
        show G = _
        rw [hG, HhE.out, pre_byte l (by omega) i hi20, ← more_bits _ _ _ (by exact UInt8.toNat_lt _)]
        congr 1
        have := HG.out i (by rw [← HX.out]; omega)
        rw [← this]
        congr 1
        have e := HX.out
        subst e
        rfl
      have hGb : G < 8192 := by omega
      have hiX : i < X.size := by omega
      have hi20i : decide ((i : Int) < 20) = true := by simp; omega
      clear hG hR
      go_wp2_with fail
      go_loopw [6] (fun bv wx => ∃ c2 b2 : Nat, 5 * c2 + b2 = 8 * (i + 1) ∧ b2 ≤ b + 8 ∧ bv = .int .i64 (b2 : Nat) ∧ HashRel w H l c2 wx) (fun bv _ => (intOf bv).toNat)
      case atStart => exact ⟨c, b + 8, by omega, by omega, by go_num, HR.out⟩
      case round =>
        clear HR
        obtain ⟨c2, b2, hcb2, hb2, rfl, hR⟩ := hrel
        by_cases hb5' : 5 ≤ b2
        · obtain ⟨d, rfl⟩ : ∃ d, b2 = d + 5 := ⟨b2 - 5, by omega⟩
          have hidx : G / 2 ^ d % 32 = pre l (5 * (c2 + 1)) % 32 := by
            rw [HGE.out, digit32 _ _ _ (by omega), pre_div l (5 * (c2 + 1)) (8 * (i + 1)) (by omega) (by omega), show 8 * (i + 1) - 5 * (c2 + 1) = d by omega]
          have hand := and_pow (G / 2 ^ d) 5 (Nat.lt_of_le_of_lt (Nat.div_le_self _ _) (by omega)) (by omega)
          rw [show (2 : Nat) ^ 5 = 32 by rfl, hidx] at hand
          have e31 : ((32 - 1 : Nat) : Int) = 31 := rfl
          rw [e31, Int.natCast_ediv] at hand
          have e2 : ((2 ^ d : Nat) : Int) = (2 : Int) ^ d := by simp
          rw [e2] at hand
          have hwr := hR.write (by omega)
          have hix := index_letter (pre l (5 * (c2 + 1)) % 32) (Nat.mod_lt _ (by omega))
          obtain ⟨m, hm⟩ : ∃ m, m = pre l (5 * (c2 + 1)) % 32 := ⟨_, rfl⟩
          rw [← hm] at hand hwr hix
          have a1 : (0 : Int) ≤ ((d + 5 : Nat) : Int) - 5 := by omega
          have a2 : ((d + 5 : Nat) : Int) - 5 = (d : Int) := by omega
          have a3 : ((d : Nat) : Int).toNat = d := by omega
          have a4 : min d 64 = d := by omega
          clear hm hidx e31 e2 hR
          go_wp2_with (go_at_call 36; ((with_reducible refine hwr.mono ?_); rintro e w2 ⟨rfl, hR2⟩))
          go_roundw
          case rel => exact ⟨c2 + 1, d, by omega, by omega, rfl, hR2⟩
          case measure => simp [intOf]; omega
        · have hp : (2 : Nat) ^ b2 ≤ 16 := pow_lt16 b2 (by omega)
          have hand := and_pow G b2 (by omega) (by omega)
          obtain ⟨p, hpe⟩ : ∃ p, p = (2 : Nat) ^ b2 := ⟨_, rfl⟩
          have hp1 : 1 ≤ p := by rw [hpe]; exact Nat.pow_pos (by omega)
          have hpi : (2 : Int) ^ b2 = (p : Int) := by rw [hpe]; simp
          have hnew : G % 2 ^ b2 = pre l (8 * (i + 1)) % 2 ^ b2 := by rw [HGE.out, low_bits _ _ _ hb2]
          rw [← hpe] at hand hp hnew
          rw [show ((p - 1 : Nat) : Int) = (p : Int) - 1 by omega] at hand
          obtain ⟨h', hh'⟩ : ∃ h', h' = G % p := ⟨_, rfl⟩
          rw [← hh'] at hand hnew
          have hw1 : IntKind.u64.wrap (p : Int) = (p : Int) := by rw [IntKind.wrap_u64]; omega
          have a4 : min b2 64 = b2 := by omega
          have a5 : ((b2 : Nat) : Int).toNat = b2 := by omega
          have HNEW := Lib.hid hnew
          have HPE := Lib.hid hpe
          clear hnew hpe hh'
          go_wp2_with fail
          go_roundw
          case rel =>
            refine ⟨i + 1, c2, b2, h', by omega, by omega, by omega, ?_, ?_, rfl, by go_num, hR⟩
            · show h' = _
              rw [HNEW.out, HPE.out]
            · rfl
          case measure => simp [intOf]; omega
    · obtain rfl : i = 20 := by omega
      obtain ⟨rfl, rfl⟩ : c = 32 ∧ b = 0 := by omega
      obtain ⟨h1, h2, h3, h4⟩ := hR
      rw [u8s_byteCells] at h2
      have hne : hashF l 32 ≠ [] := by
        intro e
        have := hashF_length l 32
        rw [e] at this
        cases this
      have HS := fun (wx : World) (h : Lib.IsBuilder 60 5 H H (Lib.byteCells (hashF l 32)) wx) => Try.Builder_String H H (hashF l 32) wx h hne
      have HS2 := HS wr h2
      clear HS hne h2
      go_wp2_with (go_at_call 37; ((with_reducible refine HS2.mono ?_); rintro e w2 ⟨rfl, hB2⟩))
      go_ret
      exact ⟨rfl, h3.trans (hB2.mono h1)⟩
end Go.Proofs.Ytjkafmjikfbafaa
