/- The sum, plain: the state behind blocks, the bytes of the words. And what the walks of both Sums keep. -/
import Derived.Test.YtjkafmjikfbafaaPad
import Derived.Test.YtjkafmjikfbafaaConstants
import Derived.Test.YtjkafmjikfbafaaBlock
namespace Go.Proofs.Ytjkafmjikfbafaa
open Go.RowKit
set_option maxRecDepth 100000
set_option linter.unusedSimpArgs false
set_option linter.unusedVariables false

def h0 : St := ⟨hRoot 2, hRoot 3, hRoot 5, hRoot 7, hRoot 11, hRoot 13, hRoot 17, hRoot 19⟩
theorem h0_list : h0.list = hAll := rfl
def chunk (t : List UInt8) (j : Nat) : List UInt8 := (t.drop (64 * j)).take 64
/-- The words behind the first j blocks. -/
def sumSt (t : List UInt8) : Nat → St
  | 0 => h0
  | j + 1 => blockF (sumSt t j) (chunk t j) kAll
def be4 (x : UInt32) : List UInt8 := [UInt8.ofNat (x.toNat / 16777216), UInt8.ofNat (x.toNat / 65536), UInt8.ofNat (x.toNat / 256), UInt8.ofNat x.toNat]
def wordsB (l : List UInt32) : List UInt8 := l.flatMap be4
theorem wordsB_snoc (l : List UInt32) (x : UInt32) : wordsB (l ++ [x]) = wordsB l ++ be4 x := by simp [wordsB]
theorem wordsB_length (l : List UInt32) : (wordsB l).length = 4 * l.length := by
  induction l with
  | nil => rfl
  | cons x l ih =>
    show (be4 x ++ wordsB l).length = _
    rw [List.length_append, ih, List.length_cons]
    show 4 + _ = _
    omega
/-- The sum of bytes. -/
def shaSum (l : List UInt8) : List UInt8 := wordsB (sumSt (padF l) ((padF l).length / 64)).list
theorem shaSum_length (l : List UInt8) : (shaSum l).length = 32 := by
  unfold shaSum; rw [wordsB_length]; rfl
theorem st_list_length (s : St) : s.list.length = 8 := rfl

theorem take_next8 (L : List UInt32) (n m : Nat) (hL : L.length = m) (hn : n < m) :
    (u32s (L.take n ++ List.replicate (m - n) 0)).set n (.int .u32 (L.getD n 0).toNat) = u32s (L.take (n + 1) ++ List.replicate (m - (n + 1)) 0) := take_next L n m hL hn

theorem u8_val (x : UInt32) (d : Nat) : (x.toNat : Int) / (d : Int) % 256 = ((UInt8.ofNat (x.toNat / d)).toNat : Int) := by
  rw [UInt8.toNat_ofNat']; omega
theorem u8s_be4 (x : UInt32) : u8s (be4 x) = [.int .u8 ((x.toNat : Int) / 16777216 % 256), .int .u8 ((x.toNat : Int) / 65536 % 256), .int .u8 ((x.toNat : Int) / 256 % 256), .int .u8 ((x.toNat : Int) % 256)] := by
  have h1 := u8_val x 16777216
  have h2 := u8_val x 65536
  have h3 := u8_val x 256
  have h4 := u8_val x 1
  simp only [Int.natCast_one, Int.ediv_one, Nat.div_one] at h4
  have h1' : (x.toNat : Int) / 16777216 % 256 = ((UInt8.ofNat (x.toNat / 16777216)).toNat : Int) := h1
  have h2' : (x.toNat : Int) / 65536 % 256 = ((UInt8.ofNat (x.toNat / 65536)).toNat : Int) := h2
  have h3' : (x.toNat : Int) / 256 % 256 = ((UInt8.ofNat (x.toNat / 256)).toNat : Int) := h3
  rw [h1', h2', h3', h4]
  rfl

theorem still_load_row {P : Program} {o : Oper} {a : Act} {w : World} {K : Act → Prop} (ty : TypeId) (x : Operand) (ho : o.op = .load ty x)
    (g : Nat) (hx : a.eval x = .pointer (some ⟨g, 0, none⟩)) (t : TypeId) (cs : Array Value) (fr : Nat × Nat) (d : TypeDesc) (hg : w.heap[g]? = some (.cells cs t fr))
    (hu : P.underlying ty = some d) (hd : (match d with | .struct _ | .array _ _ => true | _ => false) = true) (hi : (P.info? ty).map (·.size) = some cs.size)
    (h : K (a.put o.dst (.agg cs))) : o.still P a w K := by
  unfold Oper.still execOp
  simp only [ho, hx, Instr.loadAt, Instr.sureAddr, Sem.run_bind, Sem.run_pure, Result.andThen_ok, run_loadVar_row w g t ty cs fr d hg hu hd hi]
  exact ⟨rfl, h⟩

theorem chunk_extract (t : ByteArray) (j : Nat) (h : 64 * j + 64 ≤ t.size) : (t.extract (64 * j) (64 * j + 64)).data.toList = chunk t.data.toList j ∧ (t.extract (64 * j) (64 * j + 64)).size = 64 := by
  constructor
  · rw [Lib.extract_data]
    unfold chunk
    congr 1
    omega
  · rw [ByteArray.size_extract]; omega

end Go.Proofs.Ytjkafmjikfbafaa
