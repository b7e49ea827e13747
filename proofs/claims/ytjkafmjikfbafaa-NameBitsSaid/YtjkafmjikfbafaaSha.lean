/- SHA-256 on lists of words: what both texts compute. No program in sight. -/
import Derived.Test.YtjkafmjikfbafaaTurn
namespace Go.Proofs.Ytjkafmjikfbafaa
set_option linter.unusedVariables false
set_option linter.unusedSimpArgs false

/-- Words as values. -/
def u32s (l : List UInt32) : List Value := l.map fun x => .int .u32 x.toNat

theorem u32s_length (l : List UInt32) : (u32s l).length = l.length := by simp [u32s]
theorem u32s_append (l k : List UInt32) : u32s (l ++ k) = u32s l ++ u32s k := by simp [u32s]
theorem u32s_get (l : List UInt32) (j : Nat) (h : j < l.length) : (u32s l)[j]? = some (.int .u32 (l.getD j 0).toNat) := by
  simp [u32s, List.getD, h]

/-- Four bytes as a word, the highest first. -/
def be32 (a b c d : UInt32) : UInt32 := ((a <<< 24 ||| b <<< 16) ||| c <<< 8) ||| d
def wordAt (l : List UInt8) (i : Nat) : UInt32 := be32 (l.getD (4 * i) 0).toUInt32 (l.getD (4 * i + 1) 0).toUInt32 (l.getD (4 * i + 2) 0).toUInt32 (l.getD (4 * i + 3) 0).toUInt32

/-- A further word of a block. -/
def more (a b c d : UInt32) : UInt32 := a + (turns b [7, 18] ^^^ b >>> 3) + c + (turns d [17, 19] ^^^ d >>> 10)

/-- The first n words of a block. -/
def sched (l : List UInt8) : Nat → List UInt32
  | 0 => []
  | n + 1 => sched l n ++ [if n < 16 then wordAt l n else more ((sched l n).getD (n - 16) 0) ((sched l n).getD (n - 15) 0) ((sched l n).getD (n - 7) 0) ((sched l n).getD (n - 2) 0)]

theorem sched_length (l : List UInt8) (n : Nat) : (sched l n).length = n := by
  induction n with
  | zero => rfl
  | succ n ih => simp [sched, ih]

/-- One round. -/
def tx (e f g h k w : UInt32) : UInt32 := h + turns e [6, 11, 25] + (e &&& f ^^^ ~~~e &&& g) + k + w
def ty (a b c : UInt32) : UInt32 := turns a [2, 13, 22] + (a &&& b ^^^ a &&& c ^^^ b &&& c)

structure St where
  (a b c d e f g h : UInt32)

def St.list (s : St) : List UInt32 := [s.a, s.b, s.c, s.d, s.e, s.f, s.g, s.h]

def St.step (s : St) (k w : UInt32) : St :=
  { a := tx s.e s.f s.g s.h k w + ty s.a s.b s.c, b := s.a, c := s.b, d := s.c, e := s.d + tx s.e s.f s.g s.h k w, f := s.e, g := s.f, h := s.g }

def rounds (s : St) (ks ws : List UInt32) : Nat → St
  | 0 => s
  | n + 1 => (rounds s ks ws n).step (ks.getD n 0) (ws.getD n 0)

def St.plus (s t : St) : St := ⟨s.a + t.a, s.b + t.b, s.c + t.c, s.d + t.d, s.e + t.e, s.f + t.f, s.g + t.g, s.h + t.h⟩

/-- The words behind a block. -/
def blockF (s : St) (l : List UInt8) (ks : List UInt32) : St := s.plus (rounds s ks (sched l 64) 64)

end Go.Proofs.Ytjkafmjikfbafaa
