/- Laws of the walk for blocks that are known whole: make, copy out of a string; and small facts on such blocks. They speak of no program. -/
import Derived.WalkKit
import Derived.WalkLawsBesides
import Derived.WalkSpells
import Derived.Lib.BufferWrite
import Derived.Laws.CopyOwn
import Derived.Lib.Hide
import Derived.Lib.ConvBytes
namespace Go.Proofs.Ytjkafmjikfbafaa
open Go.RowKit
set_option linter.unusedSimpArgs false
set_option linter.unusedVariables false

/-- Bytes as values. -/
def u8s (l : List UInt8) : List Value := l.map fun c => .int .u8 c.toNat

theorem u8s_length (l : List UInt8) : (u8s l).length = l.length := by simp [u8s]
theorem u8s_append (l k : List UInt8) : u8s (l ++ k) = u8s l ++ u8s k := by simp [u8s]
theorem u8s_get (l : List UInt8) (j : Nat) (h : j < l.length) : (u8s l)[j]? = some (.int .u8 (l.getD j 0).toNat) := by
  simp [u8s, List.getD, h]
theorem u8s_one (l : List UInt8) : ∀ v ∈ u8s l, v.oneCell' = true := by
  intro v hv
  simp only [u8s, List.mem_map] at hv
  obtain ⟨b, _, rfl⟩ := hv
  rfl

/-- Block b is the row l of type t's elements, not frozen. -/
def ArrAt (w : World) (b : Nat) (t : TypeId) (l : List Value) : Prop := w.heap[b]? = some (.cells l.toArray t (0, 0))

theorem ArrAt.cell {w : World} {b t : Nat} {l : List Value} (h : ArrAt w b t l) (j : Nat) {v : Value} (hj : l[j]? = some v) : w.cell? ⟨b, j, none⟩ = some v := by
  rw [cell_of_row w b j _ t (0, 0) h]; simpa using hj
theorem ArrAt.free {w : World} {b t : Nat} {l : List Value} (h : ArrAt w b t l) (j : Nat) : w.frozen? ⟨b, j, none⟩ = false := frozen_of_row w b j _ t h
theorem ArrAt.set {w : World} {b t : Nat} {l : List Value} (h : ArrAt w b t l) (j : Nat) (v : Value) : ArrAt (w.setCell ⟨b, j, none⟩ v) b t (l.set j v) := by
  have := heap_setCell_same w b j _ t v h
  simpa [ArrAt] using this
theorem ArrAt.setCell_other {w : World} {b t : Nat} {l : List Value} (h : ArrAt w b t l) {a : Addr} (ha : b ≠ a.block) (v : Value) : ArrAt (w.setCell a v) b t l := by
  unfold ArrAt; rw [heap_setCell_other w a b v ha]; exact h
theorem ArrAt.lt {w : World} {b t : Nat} {l : List Value} (h : ArrAt w b t l) : b < w.heap.size := lt_of_block h
theorem ArrAt.grown {w w' : World} {b t : Nat} {l : List Value} {row : Option Nat} (h : ArrAt w b t l) (hg : w.grownBy w' row) (hr : some b ≠ row) : ArrAt w' b t l := by
  unfold ArrAt; rw [hg.block b h.lt hr]; exact h
theorem ArrAt.alloc {w : World} {b t : Nat} {l : List Value} (h : ArrAt w b t l) (o : Obj) : ArrAt (w.alloc o) b t l := by
  unfold ArrAt; rw [Below.heap_alloc w o b h.lt]; exact h
theorem arrAt_alloc (w : World) (c : Array Value) (t : TypeId) (l : List Value) (h : c = l.toArray) : ArrAt (w.alloc (.cells c t)) w.heap.size t l := by
  subst h; exact heap_alloc_new w _

theorem madeCells_one (z : Value) (n : Nat) : madeCells #[z] n = (List.replicate n z).toArray := by
  apply Array.ext
  · simp [madeCells]
  · intro i h1 h2
    simp only [madeCells, Array.getElem_map, List.getElem_toArray, List.getElem_replicate, List.size_toArray, List.length_cons, List.length_nil, Nat.zero_add, Nat.mod_one]
    rfl

/-- 'make([]T, n)', T of one cell. -/
theorem wpList_make_arr {P : Program} {w : World} {ops : Array Oper} {rest : List Oper} {o : Oper} {a : Act} {Q : Exit → Act → World → Prop}
    (hg : o.guard = none) (l c : Operand) (t : TypeId) (hop : o.op = Op.makeSlice t l c)
    (e : TypeId) (i : TypeInfo) (z : Value) (h1 : P.underlying t = some (.slice e)) (h2 : P.info? e = some i) (h3 : i.zero = some z) (h4 : i.size = 1) (hzc : z.cells = #[z])
    (kl kc : IntKind) (L C : Int) (n : Nat) (hl : a.eval l = .int kl L) (hc : a.eval c = .int kc C) (hL : L = (n : Int)) (hC : C = (n : Int)) (b2 : i.bytes * n ≤ 281474976710656)
    (b3 : n ≤ 9223372036854775807)
    (hK : ∀ w', w'.heap.size = w.heap.size + 1 → ArrAt w' w.heap.size e (List.replicate n z) → w.grownBy w' none → wpList P ops Q rest (a.put o.dst (.slice (some ⟨w.heap.size, 0, none⟩) n n)) w') :
    wpList P ops Q (o :: rest) a w := by
  refine wpList_plain hg fun K hK' => ?_
  subst hL
  subst hC
  have hb' : (i.bytes : Int) * (n : Int) ≤ 281474976710656 := by
    have h : ((i.bytes * n : Nat) : Int) ≤ 281474976710656 := by omega
    rwa [Int.natCast_mul] at h
  have hrun := run_make (P := P) w t e i z h1 h2 h3 kl kc n n (by omega) (Int.le_refl _) hb' (by omega)
  simp only [Int.toNat_natCast, h4, Nat.mul_one, hzc, madeCells_one] at hrun
  unfold Oper.wp
  simp [execOp, hop, hl, hc, hrun, Result.andThen]
  exact hK' _ _ (hK _ (by simp) (arrAt_alloc w _ e _ rfl) (World.grownBy_alloc w _ none))

theorem wpList_copy_str {P : Program} {w : World} {ops : Array Oper} {rest : List Oper} {o : Oper} {a : Act} {Q : Exit → Act → World → Prop} (hgd : o.guard = none) (d s : Operand) (dT sT : TypeId)
    (ho : o.op = .call { callee := .builtin .copy, args := #[d, s], argTypes := #[dT, sT] }) (elem : TypeId) (hu : P.underlying dT = some (.slice elem)) (hsz : (P.info? elem).map (·.size) = some 1)
    (g dLen dCap : Nat) (x : ByteArray) (hd : a.eval d = .slice (some ⟨g, 0, none⟩) dLen dCap) (hs : a.eval s = .string x)
    (cur : List Value) (t : TypeId) (hg : ArrAt w g t cur) (hle : x.size ≤ dLen) (hfit : x.size ≤ cur.length)
    (h : ∀ w', w'.heap.size = w.heap.size → ArrAt w' g t (u8s x.data.toList ++ cur.drop x.size) → w.grownBy w' (some g) → wpList P ops Q rest (a.put o.dst (goInt x.size)) w') :
    wpList P ops Q (o :: rest) a w := by
  refine wpList_plain hgd fun K hK => ?_
  have hrun := Lib.run_copy_row_string (P := P) w dT sT o.type elem g 0 dLen dCap x cur.toArray t hu hsz hg hle (by simpa using hfit)
  unfold Oper.wp
  simp [execOp, ho, resolve, invoke, builtin, hd, hs, hrun, Result.andThen]
  refine hK _ _ (h _ (by simp) ?_ ⟨rfl, rfl, rfl, by simp, fun k hk hne => setRow_other w g k _ (fun e => hne (by rw [e]))⟩)
  have := setRow_heap w g _ (u8s x.data.toList ++ cur.drop x.size).toArray t (0, 0) hg
  simpa [ArrAt, u8s, Lib.byteCells] using this

theorem wpList_copy_arr {P : Program} {w : World} {ops : Array Oper} {rest : List Oper} {o : Oper} {a : Act} {Q : Exit → Act → World → Prop} (hgd : o.guard = none) (d s : Operand) (dT sT : TypeId)
    (ho : o.op = .call { callee := .builtin .copy, args := #[d, s], argTypes := #[dT, sT] }) (elem : TypeId) (hu : P.underlying dT = some (.slice elem)) (hsz : (P.info? elem).map (·.size) = some 1)
    (g off dLen dCap h so sLen sCap : Nat) (hd : a.eval d = .slice (some ⟨g, off, none⟩) dLen dCap) (hs : a.eval s = .slice (some ⟨h, so, none⟩) sLen sCap)
    (cur : List Value) (t : TypeId) (hg : ArrAt w g t cur) (cs : List Value) (hn : cs.length = Nat.min sLen dLen)
    (hsrc : ∀ j v, cs[j]? = some v → w.cell? ⟨h, so + j, none⟩ = some v) (hfit : off + cs.length ≤ cur.length) (h1 : ∀ v ∈ cs, v.oneCell' = true)
    (hK : ∀ w', w'.heap.size = w.heap.size → ArrAt w' g t (cur.take off ++ (cs ++ cur.drop (off + cs.length))) → w.grownBy w' (some g) → wpList P ops Q rest (a.put o.dst (goInt cs.length)) w') :
    wpList P ops Q (o :: rest) a w := by
  refine wpList_copy_own hgd d s dT sT ho elem hu hsz g off dLen dCap ⟨h, so, none⟩ sLen sCap hd hs cur.toArray t hg cs hn (fun j v hj => by rw [Addr.add_lit]; exact hsrc j v hj) (by simpa using hfit) h1 ?_
  refine hK _ (by simp) ?_ ⟨rfl, rfl, rfl, by simp, fun k hk hne => setRow_other w g k _ (fun e => hne (by rw [e]))⟩
  exact setRow_heap w g _ _ t (0, 0) hg

/-- From place off of block b on lie the bytes l. -/
def BytesAt (w : World) (b off : Nat) (l : List UInt8) : Prop := ∀ j, j < l.length → w.cell? ⟨b, off + j, none⟩ = some (.int .u8 (l.getD j 0).toNat)

theorem BytesAt.get {w : World} {b off : Nat} {l : List UInt8} (h : BytesAt w b off l) (j : Nat) (hj : j < l.length) : ∃ c : Nat, c < 256 ∧ (l.getD j 0).toNat = c ∧ w.cell? ⟨b, off + j, none⟩ = some (.int .u8 c) :=
  ⟨_, UInt8.toNat_lt _, rfl, h j hj⟩

theorem ArrAt.bytes {w : World} {b t : Nat} {l : List UInt8} (h : ArrAt w b t (u8s l)) : BytesAt w b 0 l := by
  intro j hj
  rw [Nat.zero_add]
  exact h.cell j (u8s_get l j hj)

theorem BytesAt.drop {w : World} {b off : Nat} {l : List UInt8} (h : BytesAt w b off l) (n : Nat) : BytesAt w b (off + n) (l.drop n) := by
  intro j hj
  have := h (n + j) (by simp at hj; omega)
  rw [← Nat.add_assoc] at this
  rw [this]
  simp [List.getD]

theorem BytesAt.take {w : World} {b off : Nat} {l : List UInt8} (h : BytesAt w b off l) (n : Nat) : BytesAt w b off (l.take n) := by
  intro j hj
  simp at hj
  rw [h j (by omega)]
  simp [List.getD, List.getElem?_take, show j < n by omega]

theorem BytesAt.same {w w' : World} {b off : Nat} {l : List UInt8} (h : BytesAt w b off l) (hs : w'.heap[b]? = w.heap[b]?) : BytesAt w' b off l := by
  intro j hj
  rw [World.cell?_of_block (w := w) (a := ⟨b, off + j, none⟩) hs]
  exact h j hj

theorem run_conv_str {P : Program} {w : World} {b off : Nat} {l : List UInt8} (src e dst : TypeId) (hs : P.underlying src = some (.slice e)) (he : P.underlying e = some (.int .u8)) (hd : P.underlying dst = some .string)
    (hb : BytesAt w b off l) (len cap : Nat) (hlen : l.length = len) :
    (convert src dst (.slice (some ⟨b, off, none⟩) len cap)).run P w = .ok (.string ⟨l.toArray⟩) w := by
  have := run_convert_bytes_arg (P := P) w src e hs he b off len cap (l.map fun c => (c.toNat : Int)) (by simpa using hlen) (fun i hi => by
    rw [hb i (by omega)]
    simp [List.getD, show i < l.length by omega]) dst hd
  rw [this]
  simp [strOfNums, Function.comp_def]

/-- '[]byte(s)': a new block with the bytes at its head. -/
theorem run_conv_bytes {P : Program} (w : World) (src dst e : TypeId) (s : ByteArray) (hs : P.underlying src = some .string) (hd : P.underlying dst = some (.slice e)) (he : P.underlying e = some (.int .u8)) :
    ∃ cap w1, s.size ≤ cap ∧ (convert src dst (.string s)).run P w = .ok (.slice (some ⟨w.heap.size, 0, none⟩) s.size cap) w1 ∧ w1.heap.size = w.heap.size + 1 ∧ BytesAt w1 w.heap.size 0 s.data.toList ∧ w.grownBy w1 none := by
  refine ⟨_, _, grownCap_ge w s.size 0 e, Lib.run_convert_string_bytes w src dst e s hs hd he, Lib.bytesWorld_size w e s, ?_, ⟨rfl, rfl, rfl, ?_, ?_⟩⟩
  · intro j hj
    rw [Nat.zero_add]
    exact Lib.bytesWorld_cell w e s j (by simpa using hj)
  · rw [Lib.bytesWorld_size]; omega
  · intro k hk _
    exact Lib.bytesWorld_at_old w e s k hk

theorem byte_getD (s : ByteArray) (j : Nat) (hj : j < s.size) : s.data.toList.getD j 0 = s[j] := by
  have h2 : j < s.data.size := hj
  rw [List.getD_eq_getElem?_getD, Array.getElem?_toList, Array.getElem?_eq_getElem h2]
  rfl
theorem byte_get (s : ByteArray) (j : Nat) (hj : j < s.size) : s[j].toNat = (s.data.toList.getD j 0).toNat := by rw [byte_getD s j hj]
theorem byte_elem (s : ByteArray) (j : Nat) (hj : j < s.data.toList.length) (hj2 : j < s.size): s.data.toList[j] = s[j] := by
  rw [← byte_getD s j hj2]; simp only [List.getD_eq_getElem?_getD, List.getElem?_eq_getElem hj]; rfl

theorem mk_append (s : ByteArray) (l : List UInt8) : (⟨(s.data.toList ++ l).toArray⟩ : ByteArray) = s ++ ⟨l.toArray⟩ := by
  apply ByteArray.ext
  simp

end Go.Proofs.Ytjkafmjikfbafaa
