/- What the walk of sha.block keeps, and the words that its steps make. -/
import Derived.Test.YtjkafmjikfbafaaSha
import Derived.Deep.RegionHeld3
import Derived.Deep.DeepCutAuto
import Derived.Deep.CutRange
import Derived.Laws.ResultCell
namespace Go.Proofs.Ytjkafmjikfbafaa
open Go.RowKit
set_option maxRecDepth 100000
set_option linter.unusedSimpArgs false
set_option linter.unusedVariables false

def SchedRel (w : World) (l : List UInt8) (s : St) (n : Nat) (wr : World) : Prop :=
  ArrAt wr w.heap.size 43 (u32s s.list) ∧ ArrAt wr (w.heap.size + 1) 43 (u32s (List.replicate 8 0)) ∧ ArrAt wr (w.heap.size + 1 + 1) 44 (u32s (sched l n ++ List.replicate (64 - n) 0)) ∧ Below w.heap.size w wr

theorem bytes_word (b0 b1 b2 b3 : UInt8) : bits BinOp.or IntKind.u32
                  (bits BinOp.or IntKind.u32
                    (bits BinOp.or IntKind.u32 ((b0.toNat : Int) % 4294967296 * 16777216 % 4294967296)
                      ((b1.toNat : Int) % 4294967296 * 65536 % 4294967296)) ((b2.toNat : Int) % 4294967296 * 256 % 4294967296)) ((b3.toNat : Int) % 4294967296) = ((be32 b0.toUInt32 b1.toUInt32 b2.toUInt32 b3.toUInt32).toNat : Int) := by
  have e : ∀ b : UInt8, (b.toNat : Int) % 4294967296 = (b.toUInt32.toNat : Int) := by
    intro b; have := b.toNat_lt; rw [UInt8.toNat_toUInt32]; omega
  rw [e, e, e, e]
  have m1 := mul_shl b0.toUInt32 24 (by omega)
  have m2 := mul_shl b1.toUInt32 16 (by omega)
  have m3 := mul_shl b2.toUInt32 8 (by omega)
  rw [IntKind.wrap_u32] at m1 m2 m3
  have r1 : ((b0.toUInt32.toNat : Int) * (16777216 : Int)) % (4294967296 : Int) = ((b0.toUInt32 <<< 24).toNat : Int) := m1
  have r2 : ((b1.toUInt32.toNat : Int) * (65536 : Int)) % (4294967296 : Int) = ((b1.toUInt32 <<< 16).toNat : Int) := m2
  have r3 : ((b2.toUInt32.toNat : Int) * (256 : Int)) % (4294967296 : Int) = ((b2.toUInt32 <<< 8).toNat : Int) := m3
  rw [r1, r2, r3, bits_or, bits_or, bits_or]
  rfl

theorem more_eq (x1 x2 x3 x4 : UInt32) : IntKind.u32.wrap
        (IntKind.u32.wrap
            (IntKind.u32.wrap ((x1.toNat : Int) + bits BinOp.xor IntKind.u32 ((turns x2 [7, 18]).toNat : Int) ((x2.toNat : Int) / 8)) + (x3.toNat : Int)) +
          bits BinOp.xor IntKind.u32 ((turns x4 [17, 19]).toNat : Int) ((x4.toNat : Int) / 1024)) = ((more x1 x2 x3 x4).toNat : Int) := by
  have d1 := div_shr x2 3 (by omega)
  have d2 := div_shr x4 10 (by omega)
  have r1 : (x2.toNat : Int) / (8 : Int) = ((x2 >>> 3).toNat : Int) := d1
  have r2 : (x4.toNat : Int) / (1024 : Int) = ((x4 >>> 10).toNat : Int) := d2
  rw [r1, r2, bits_xor, bits_xor, wrap_add, wrap_add, wrap_add]
  rfl

theorem set_next (l : List UInt32) (n m : Nat) (hn : l.length = n) (hm : n < m) (x : UInt32) :
    (u32s (l ++ List.replicate (m - n) 0)).set n (.int .u32 x.toNat) = u32s ((l ++ [x]) ++ List.replicate (m - (n + 1)) 0) := by
  subst hn
  obtain ⟨d, hd⟩ : ∃ d, m - l.length = d + 1 := ⟨m - l.length - 1, by omega⟩
  have : m - (l.length + 1) = d := by omega
  rw [hd, this, List.replicate_succ, u32s_append, List.set_append_right _ _ (by simp [u32s_length])]
  simp [u32s]

theorem SchedRel.next {w wr : World} {l : List UInt8} {s : St} {k : Nat} {x : UInt32}
    (h1 : ArrAt wr w.heap.size 43 (u32s s.list)) (h2 : ArrAt wr (w.heap.size + 1) 43 (u32s (List.replicate 8 0))) (h3 : ArrAt wr (w.heap.size + 1 + 1) 44 (u32s (sched l k ++ List.replicate (64 - k) 0)))
    (h4 : Below w.heap.size w wr) (hk : k < 64)
    (hx : x = if k < 16 then wordAt l k else more ((sched l k).getD (k - 16) 0) ((sched l k).getD (k - 15) 0) ((sched l k).getD (k - 7) 0) ((sched l k).getD (k - 2) 0)) :
    SchedRel w l s (k + 1) (wr.setCell ⟨w.heap.size + 1 + 1, k, none⟩ (.int .u32 x.toNat)) := by
  refine ⟨h1.setCell_other (by simp; omega) _, h2.setCell_other (by simp) _, ?_, h4.setCell (by simp; omega) _⟩
  have := h3.set k (.int .u32 x.toNat)
  rw [set_next _ k 64 (sched_length l k) hk] at this
  rw [show sched l (k + 1) = sched l k ++ [x] by rw [hx]; rfl]
  exact this

theorem SchedRel.drew {w wr : World} {l : List UInt8} {s : St} {k : Nat} (h : SchedRel w l s k wr) : SchedRel w l s k wr.drew := ⟨h.1, h.2.1, h.2.2.1, h.2.2.2.drew⟩
theorem row_zero {l : List UInt32} {k m : Nat} (hl : l.length = k) (hk : k < m) : (u32s (l ++ List.replicate (m - k) 0))[k]? = some (.int .u32 0) := by
  subst hl
  rw [u32s_get _ _ (by simp; omega)]
  simp [List.getD, List.getElem?_append_right, List.getElem?_replicate, show 0 < m - l.length by omega]
theorem row_old {l : List UInt32} {k m j : Nat} (hl : l.length = k) (hj : j < k) : (u32s (l ++ List.replicate (m - k) 0))[j]? = some (.int .u32 (l.getD j 0).toNat) := by
  subst hl
  rw [u32s_get _ _ (by simp; omega)]
  simp [List.getD, List.getElem?_append_left hj, hj]

/-- What a round of the first loop keeps while it makes its word. -/
def KeepS (w : World) (s : St) (k : Nat) (row : List Value) (wx : World) : Prop :=
  Below w.heap.size w wx ∧ ArrAt wx w.heap.size 43 (u32s s.list) ∧ ArrAt wx (w.heap.size + 1) 43 (u32s (List.replicate 8 0)) ∧ ∃ r, ArrAt wx (w.heap.size + 1 + 1) 44 r ∧ ∀ v, r.set k v = row.set k v
theorem keepS_drew {w wx : World} {s : St} {k : Nat} {row : List Value} (h : KeepS w s k row wx) : KeepS w s k row wx.drew := by
  obtain ⟨h1, h2, h3, h4⟩ := h
  exact ⟨h1.drew, h2, h3, h4⟩
theorem keepS_alloc {w wx : World} {s : St} {k : Nat} {row : List Value} (h : KeepS w s k row wx) (o : Obj) : KeepS w s k row (wx.alloc o) := by
  obtain ⟨h1, h2, h3, r, h4, h5⟩ := h
  exact ⟨h1.alloc (by have := h2.lt; omega) _, h2.alloc _, h3.alloc _, r, h4.alloc _, h5⟩
theorem keepS_set {w wx : World} {s : St} {k : Nat} {row : List Value} (h : KeepS w s k row wx) (v : Value) : KeepS w s k row (wx.setCell ⟨w.heap.size + 1 + 1, k, none⟩ v) := by
  obtain ⟨h1, h2, h3, r, h4, h5⟩ := h
  exact ⟨h1.setCell (by simp; omega) _, h2.setCell_other (by simp; omega) _, h3.setCell_other (by simp) _, r.set k v, h4.set k v, fun v' => by rw [List.set_set]; exact h5 v'⟩
def heldCell (wx : World) (a : Addr) : Value := (wx.cell? a).getD (.int .i64 0)
theorem KeepS.three {w wx : World} {s : St} {k : Nat} {row : List Value} (h : KeepS w s k row wx) (hk : k < row.length) :
    wx.cell? ⟨w.heap.size + 1 + 1, k, none⟩ = some (heldCell wx ⟨w.heap.size + 1 + 1, k, none⟩) ∧ wx.frozen? ⟨w.heap.size + 1 + 1, k, none⟩ = false ∧ KeepS w s k row wx := by
  have h0 := h
  obtain ⟨h1, h2, h3, r, h4, h5⟩ := h
  have hl : r.length = row.length := by have := congrArg List.length (h5 (.int .i64 0)); simpa using this
  refine ⟨?_, h4.free k, h0⟩
  have := h4.cell k (List.getElem?_eq_getElem (by omega))
  rw [heldCell, this]; rfl
theorem KeepS.load {w wx : World} {s : St} {k j : Nat} {row : List Value} {v : Value} (h : KeepS w s k row wx) (hj : row[j]? = some v) (hne : k ≠ j) : wx.cell? ⟨w.heap.size + 1 + 1, j, none⟩ = some v := by
  obtain ⟨h1, h2, h3, r, h4, h5⟩ := h
  refine h4.cell j ?_
  have := congrArg (fun l => l[j]?) (h5 (.int .i64 0))
  simp only [List.getElem?_set_ne hne] at this
  rw [this, hj]
theorem KeepS.all {w wx : World} {s : St} {k : Nat} {row : List Value} {v1 v2 v3 v4 : Value} (h : KeepS w s k row wx) (hk : k < row.length) (h16 : 16 ≤ k) (h1 : row[k - 16]? = some v1) (h2 : row[k - 15]? = some v2) (h3 : row[k - 7]? = some v3) (h4 : row[k - 2]? = some v4) :
    wx.cell? ⟨w.heap.size + 1 + 1, k - 16, none⟩ = some v1 ∧ wx.cell? ⟨w.heap.size + 1 + 1, k - 15, none⟩ = some v2 ∧ wx.cell? ⟨w.heap.size + 1 + 1, k - 7, none⟩ = some v3 ∧ wx.cell? ⟨w.heap.size + 1 + 1, k - 2, none⟩ = some v4 ∧
    wx.cell? ⟨w.heap.size + 1 + 1, k, none⟩ = some (heldCell wx ⟨w.heap.size + 1 + 1, k, none⟩) ∧ wx.frozen? ⟨w.heap.size + 1 + 1, k, none⟩ = false ∧ KeepS w s k row wx :=
  ⟨h.load h1 (by omega), h.load h2 (by omega), h.load h3 (by omega), h.load h4 (by omega), h.three hk⟩
theorem KeepS.next {w wx : World} {l : List UInt8} {s : St} {k : Nat} {x : UInt32} (h : KeepS w s k (u32s (sched l k ++ List.replicate (64 - k) 0)) wx) (hk : k < 64)
    (hx : x = if k < 16 then wordAt l k else more ((sched l k).getD (k - 16) 0) ((sched l k).getD (k - 15) 0) ((sched l k).getD (k - 7) 0) ((sched l k).getD (k - 2) 0)) :
    SchedRel w l s (k + 1) (wx.setCell ⟨w.heap.size + 1 + 1, k, none⟩ (.int .u32 x.toNat)) := by
  obtain ⟨h1, h2, h3, r, h4, h5⟩ := h
  refine ⟨h2.setCell_other (by simp; omega) _, h3.setCell_other (by simp) _, ?_, h1.setCell (by simp; omega) _⟩
  have := h4.set k (.int .u32 x.toNat)
  rw [h5, set_next _ k 64 (sched_length l k) hk] at this
  rw [show sched l (k + 1) = sched l k ++ [x] by rw [hx]; rfl]
  exact this

theorem right2 (x : UInt32) (a c b : Nat) (w : World) (h1 : 0 < a ∧ a < 32) (h2 : 0 < c ∧ c < 32) (ha : w.cell? ⟨b, 0, none⟩ = some (.int .i64 (a : Int))) (hc : w.cell? ⟨b, 1, none⟩ = some (.int .i64 (c : Int))) :
    Calls Try.prog 53 #[.int .u32 x.toNat, .slice (some ⟨b, 0, none⟩) 2 2] w fun e w' => e = .returned (.int .u32 (turns x [a, c]).toNat) ∧ w = w' := by
  refine right_any x [a, c] b w (by simp [h1, h2]) (by simp) ?_
  intro j hj
  match j, hj with
  | 0, _ => exact ha
  | 1, _ => exact hc
  | n + 2, h => simp at h; omega

theorem arrAt_alloc2 (w : World) (o : Obj) (c : Array Value) (t : TypeId) (l : List Value) (h : c = l.toArray) : ArrAt ((w.alloc o).alloc (.cells c t)) (w.heap.size + 1) t l := by
  have := arrAt_alloc (w.alloc o) c t l h
  rw [World.size_alloc] at this
  exact this


theorem bits_not (e : UInt32) : bits .xor .u32 IntKind.u32.max (e.toNat : Int) = ((~~~e).toNat : Int) := by
  have h := bits_xor 0xFFFFFFFF e
  have h2 : ((0xFFFFFFFF : UInt32) ^^^ e) = ~~~e := by
    apply UInt32.eq_of_toBitVec_eq
    rw [UInt32.toBitVec_xor, UInt32.toBitVec_not]
    exact BitVec.allOnes_xor
  rw [h2] at h
  exact h

theorem tx_eq (d e f g h k w : UInt32) :
    ((d.toNat : Int) + ((h.toNat : Int) + ((turns e [6, 11, 25]).toNat : Int) + bits BinOp.xor IntKind.u32 (bits BinOp.and IntKind.u32 (e.toNat : Int) (f.toNat : Int)) (bits BinOp.and IntKind.u32 (bits BinOp.xor IntKind.u32 IntKind.u32.max (e.toNat : Int)) (g.toNat : Int)) +
        (k.toNat : Int) + (w.toNat : Int))) % 4294967296 = ((d + tx e f g h k w).toNat : Int) := by
  rw [bits_not, bits_and, bits_and, bits_xor, tx]
  generalize (e &&& f) ^^^ (~~~e &&& g) = B
  generalize turns e [6, 11, 25] = T
  simp only [UInt32.toNat_add]
  omega

theorem txy_eq (a b c e f g h k w : UInt32) :
    ((h.toNat : Int) + ((turns e [6, 11, 25]).toNat : Int) + bits BinOp.xor IntKind.u32 (bits BinOp.and IntKind.u32 (e.toNat : Int) (f.toNat : Int)) (bits BinOp.and IntKind.u32 (bits BinOp.xor IntKind.u32 IntKind.u32.max (e.toNat : Int)) (g.toNat : Int)) +
        (k.toNat : Int) + (w.toNat : Int) + (((turns a [2, 13, 22]).toNat : Int) + bits BinOp.xor IntKind.u32 (bits BinOp.xor IntKind.u32 (bits BinOp.and IntKind.u32 (a.toNat : Int) (b.toNat : Int)) (bits BinOp.and IntKind.u32 (a.toNat : Int) (c.toNat : Int))) (bits BinOp.and IntKind.u32 (b.toNat : Int) (c.toNat : Int)))) % 4294967296 =
      ((tx e f g h k w + ty a b c).toNat : Int) := by
  rw [bits_not, bits_and, bits_and, bits_xor, bits_and, bits_and, bits_and, bits_xor, bits_xor, tx, ty]
  generalize (e &&& f) ^^^ (~~~e &&& g) = B
  generalize turns e [6, 11, 25] = T
  generalize (a &&& b) ^^^ (a &&& c) ^^^ (b &&& c) = C
  generalize turns a [2, 13, 22] = U
  simp only [UInt32.toNat_add]
  omega

/-- What the rounds keep: h, the result's cell, the schedule, and v at V. -/
def KeepR (w : World) (s : St) (ws : List UInt32) (V : Nat) (t : St) (wx : World) : Prop :=
  Below w.heap.size w wx ∧ ArrAt wx w.heap.size 43 (u32s s.list) ∧ ArrAt wx (w.heap.size + 1) 43 (u32s (List.replicate 8 0)) ∧ ArrAt wx (w.heap.size + 1 + 1) 44 (u32s ws) ∧ ArrAt wx V 43 (u32s t.list) ∧ w.heap.size + 1 + 1 < V

theorem KeepR.set8 {w wx : World} {s t : St} {ws : List UInt32} {V : Nat} (h : KeepR w s ws V t wx) (r : St) :
    KeepR w s ws V r ((((((((wx.setCell ⟨V, 0, none⟩ (.int .u32 r.a.toNat)).setCell ⟨V, 1, none⟩ (.int .u32 r.b.toNat)).setCell ⟨V, 2, none⟩ (.int .u32 r.c.toNat)).setCell ⟨V, 3, none⟩ (.int .u32 r.d.toNat)).setCell ⟨V, 4, none⟩ (.int .u32 r.e.toNat)).setCell ⟨V, 5, none⟩ (.int .u32 r.f.toNat)).setCell ⟨V, 6, none⟩ (.int .u32 r.g.toNat)).setCell ⟨V, 7, none⟩ (.int .u32 r.h.toNat)) := by
  obtain ⟨h1, h2, h3, h4, h5, h6⟩ := h
  refine ⟨?_, ?_, ?_, ?_, ?_, h6⟩
  · exact (((((((h1.setCell (by simp; omega) _).setCell (by simp; omega) _).setCell (by simp; omega) _).setCell (by simp; omega) _).setCell (by simp; omega) _).setCell (by simp; omega) _).setCell (by simp; omega) _).setCell (by simp; omega) _
  · exact (((((((h2.setCell_other (by simp; omega) _).setCell_other (by simp; omega) _).setCell_other (by simp; omega) _).setCell_other (by simp; omega) _).setCell_other (by simp; omega) _).setCell_other (by simp; omega) _).setCell_other (by simp; omega) _).setCell_other (by simp; omega) _
  · exact (((((((h3.setCell_other (by simp; omega) _).setCell_other (by simp; omega) _).setCell_other (by simp; omega) _).setCell_other (by simp; omega) _).setCell_other (by simp; omega) _).setCell_other (by simp; omega) _).setCell_other (by simp; omega) _).setCell_other (by simp; omega) _
  · exact (((((((h4.setCell_other (by simp; omega) _).setCell_other (by simp; omega) _).setCell_other (by simp; omega) _).setCell_other (by simp; omega) _).setCell_other (by simp; omega) _).setCell_other (by simp; omega) _).setCell_other (by simp; omega) _).setCell_other (by simp; omega) _
  · exact ((((((((h5.set 0 _).set 1 _).set 2 _).set 3 _).set 4 _).set 5 _).set 6 _).set 7 _)

theorem st_cells {w : World} {b : Nat} {s : St} (h : ArrAt w b 43 (u32s s.list)) :
    w.cell? ⟨b, 0, none⟩ = some (.int .u32 s.a.toNat) ∧ w.cell? ⟨b, 1, none⟩ = some (.int .u32 s.b.toNat) ∧ w.cell? ⟨b, 2, none⟩ = some (.int .u32 s.c.toNat) ∧ w.cell? ⟨b, 3, none⟩ = some (.int .u32 s.d.toNat) ∧
    w.cell? ⟨b, 4, none⟩ = some (.int .u32 s.e.toNat) ∧ w.cell? ⟨b, 5, none⟩ = some (.int .u32 s.f.toNat) ∧ w.cell? ⟨b, 6, none⟩ = some (.int .u32 s.g.toNat) ∧ w.cell? ⟨b, 7, none⟩ = some (.int .u32 s.h.toNat) :=
  ⟨h.cell 0 rfl, h.cell 1 rfl, h.cell 2 rfl, h.cell 3 rfl, h.cell 4 rfl, h.cell 5 rfl, h.cell 6 rfl, h.cell 7 rfl⟩

theorem keepR_drew {w wx : World} {s t : St} {ws : List UInt32} {V : Nat} (h : KeepR w s ws V t wx) : KeepR w s ws V t wx.drew := ⟨h.1.drew, h.2⟩
theorem keepR_alloc {w wx : World} {s t : St} {ws : List UInt32} {V : Nat} (h : KeepR w s ws V t wx) (o : Obj) : KeepR w s ws V t (wx.alloc o) := by
  obtain ⟨h1, h2, h3, h4, h5, h6⟩ := h
  exact ⟨h1.alloc (by have := h2.lt; omega) _, h2.alloc _, h3.alloc _, h4.alloc _, h5.alloc _, h6⟩
theorem KeepR.all {w wx : World} {s t : St} {ws ks : List UInt32} {V kb k : Nat} {v1 v2 : Value} (h : KeepR w s ws V t wx) (hka : ArrAt w kb 44 (u32s ks)) (h1 : (u32s ks)[k]? = some v1) (h2 : (u32s ws)[k]? = some v2) :
    (wx.cell? ⟨V, 0, none⟩ = some (.int .u32 t.a.toNat) ∧ wx.cell? ⟨V, 1, none⟩ = some (.int .u32 t.b.toNat) ∧ wx.cell? ⟨V, 2, none⟩ = some (.int .u32 t.c.toNat) ∧ wx.cell? ⟨V, 3, none⟩ = some (.int .u32 t.d.toNat) ∧
    wx.cell? ⟨V, 4, none⟩ = some (.int .u32 t.e.toNat) ∧ wx.cell? ⟨V, 5, none⟩ = some (.int .u32 t.f.toNat) ∧ wx.cell? ⟨V, 6, none⟩ = some (.int .u32 t.g.toNat) ∧ wx.cell? ⟨V, 7, none⟩ = some (.int .u32 t.h.toNat)) ∧
    wx.cell? ⟨kb, k, none⟩ = some v1 ∧ wx.cell? ⟨w.heap.size + 1 + 1, k, none⟩ = some v2 ∧ (wx.frozen? ⟨V, 0, none⟩ = false ∧ wx.frozen? ⟨V, 1, none⟩ = false ∧ wx.frozen? ⟨V, 2, none⟩ = false ∧ wx.frozen? ⟨V, 3, none⟩ = false ∧ wx.frozen? ⟨V, 4, none⟩ = false ∧ wx.frozen? ⟨V, 5, none⟩ = false ∧ wx.frozen? ⟨V, 6, none⟩ = false ∧ wx.frozen? ⟨V, 7, none⟩ = false) ∧ KeepR w s ws V t wx := by
  have hf := h.2.2.2.2.1
  refine ⟨st_cells hf, ?_, h.2.2.2.1.cell k h2, ⟨hf.free 0, hf.free 1, hf.free 2, hf.free 3, hf.free 4, hf.free 5, hf.free 6, hf.free 7⟩, h⟩
  rw [World.cell?_of_block (w := w) (h.1.block _ hka.lt)]
  exact hka.cell k h1
theorem right3 (x : UInt32) (a c d b : Nat) (w : World) (h1 : (0 < a ∧ a < 32) ∧ (0 < c ∧ c < 32) ∧ (0 < d ∧ d < 32)) (ha : w.cell? ⟨b, 0, none⟩ = some (.int .i64 (a : Int))) (hc : w.cell? ⟨b, 1, none⟩ = some (.int .i64 (c : Int))) (hd : w.cell? ⟨b, 2, none⟩ = some (.int .i64 (d : Int))) :
    Calls Try.prog 53 #[.int .u32 x.toNat, .slice (some ⟨b, 0, none⟩) 3 3] w fun e w' => e = .returned (.int .u32 (turns x [a, c, d]).toNat) ∧ w = w' := by
  refine right_any x [a, c, d] b w (by simp [h1]) (by simp) ?_
  intro j hj
  match j, hj with
  | 0, _ => exact ha
  | 1, _ => exact hc
  | 2, _ => exact hd
  | n + 3, h => simp at h; omega


/-- What the last loop keeps: h's first k words have theirs of v added. -/
def KeepP (w : World) (s : St) (V : Nat) (t : St) (k : Nat) (wx : World) : Prop :=
  Below w.heap.size w wx ∧ ArrAt wx w.heap.size 43 ((u32s (s.plus t).list).take k ++ (u32s s.list).drop k) ∧ ArrAt wx (w.heap.size + 1) 43 (u32s (List.replicate 8 0)) ∧ ArrAt wx V 43 (u32s t.list) ∧ w.heap.size + 1 + 1 < V
theorem plus_get (s t : St) (k : Nat) (hk : k < 8) : (s.plus t).list.getD k 0 = s.list.getD k 0 + t.list.getD k 0 := by
  match k, hk with
  | 0, _ => rfl
  | 1, _ => rfl
  | 2, _ => rfl
  | 3, _ => rfl
  | 4, _ => rfl
  | 5, _ => rfl
  | 6, _ => rfl
  | 7, _ => rfl
  | n + 8, h => omega
theorem mixed_set (A B : List Value) (k : Nat) (v : Value) (h : A[k]? = some v) (hB : k < B.length) : (A.take k ++ B.drop k).set k v = A.take (k + 1) ++ B.drop (k + 1) := by
  have hA : k < A.length := by
    rcases Nat.lt_or_ge k A.length with h1 | h1
    · exact h1
    · rw [List.getElem?_eq_none h1] at h; cases h
  rw [List.set_append_right _ _ (by simp; omega)]
  have : k - (A.take k).length = 0 := by simp; omega
  rw [this, List.drop_eq_getElem_cons hB, List.set_cons_zero, List.take_add_one, h, Option.toList_some, List.append_assoc]
  rfl
theorem KeepP.next {w wx : World} {s t : St} {V k : Nat} (h : KeepP w s V t k wx) (hk : k < 8) :
    KeepP w s V t (k + 1) (wx.setCell ⟨w.heap.size, k, none⟩ (.int .u32 ((((s.list.getD k 0).toNat : Int) + ((t.list.getD k 0).toNat : Int)) % 4294967296))) := by
  obtain ⟨h1, h2, h3, h4, h5⟩ := h
  have e := wrap_add (s.list.getD k 0) (t.list.getD k 0)
  rw [IntKind.wrap_u32] at e
  rw [e, ← plus_get s t k hk]
  refine ⟨h1.setCell (by simp) _, ?_, h3.setCell_other (by simp) _, h4.setCell_other (by simp; omega) _, h5⟩
  have := h2.set k (.int .u32 ((s.plus t).list.getD k 0).toNat)
  rwa [mixed_set _ _ _ _ (u32s_get _ _ hk) (by rw [u32s_length]; exact hk)] at this
theorem KeepP.cells {w wx : World} {s t : St} {V k : Nat} (h : KeepP w s V t k wx) (hk : k < 8) :
    wx.cell? ⟨w.heap.size, k, none⟩ = some (.int .u32 (s.list.getD k 0).toNat) ∧ wx.cell? ⟨V, k, none⟩ = some (.int .u32 (t.list.getD k 0).toNat) ∧ wx.frozen? ⟨w.heap.size, k, none⟩ = false := by
  obtain ⟨h1, h2, h3, h4, h5⟩ := h
  refine ⟨h2.cell k ?_, h4.cell k (u32s_get _ _ hk), h2.free k⟩
  have hl : ((u32s (s.plus t).list).take k).length = k := by rw [List.length_take, u32s_length]; exact Nat.min_eq_left (Nat.le_of_lt hk)
  rw [List.getElem?_append_right (by omega), hl, Nat.sub_self, List.getElem?_drop, Nat.add_zero]
  exact u32s_get _ _ hk
theorem KeepP.drew {w wx : World} {s t : St} {V k : Nat} (h : KeepP w s V t k wx) : KeepP w s V t k wx.drew := ⟨h.1.drew, h.2⟩

end Go.Proofs.Ytjkafmjikfbafaa
