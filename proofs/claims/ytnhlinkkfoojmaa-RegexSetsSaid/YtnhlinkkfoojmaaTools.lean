/- The reader's cells as they turn, and what the small readers do to it. -/
import Derived.Test.YtnhlinkkfoojmaaPoint
import Derived.Test.YtnhlinkkfoojmaaShelf
import Derived.Deep.DeepCutAuto
namespace Go.Proofs.Ytnhlinkkfoojmaa
open Go.RowKit
set_option maxRecDepth 100000
set_option linter.unusedSimpArgs false
set_option linter.unusedVariables false
/-- The same memory (draws apart). -/
structure Same (w w' : World) : Prop where
  heap : w'.heap = w.heap
  os : w'.os = w.os
  tape : w'.tape = w.tape
  output : w'.output = w.output
theorem Same.refl (w : World) : Same w w := ⟨rfl, rfl, rfl, rfl⟩
theorem Same.trans {a b c : World} (h : Same a b) (k : Same b c) : Same a c := ⟨k.heap.trans h.heap, k.os.trans h.os, k.tape.trans h.tape, k.output.trans h.output⟩
theorem Same.drew (w : World) (n : Nat) : Same w (w.drewN n) := ⟨rfl, rfl, rfl, rfl⟩
theorem Same.drew1 (w : World) : Same w w.drew := ⟨rfl, rfl, rfl, rfl⟩
theorem Same.below {w w' : World} (h : Same w w') (B : Nat) : Below B w w' := ⟨h.os, h.tape, h.output, by rw [h.heap]; exact Nat.le_refl _, fun k _ => by rw [h.heap]⟩
section
variable {w w' : World} {p : Nat} {s : ByteArray} {r : Rdr} {v : Value}
theorem RV.same (h : RV w p s r v) (k : Same w w') : RV w' p s r v := h.grown fun k' _ _ => by rw [k.heap]
theorem RV.c0 (h : RV w p s r v) : w.cell? ⟨p, 0, none⟩ = some v := h.cell 0
theorem RV.c1 (h : RV w p s r v) : w.cell? ⟨p, 1, none⟩ = some (.int .i64 r.groups) := h.cell 1
theorem RV.c2 (h : RV w p s r v) : w.cell? ⟨p, 2, none⟩ = some (.string s) := h.cell 2
theorem RV.c3 (h : RV w p s r v) : w.cell? ⟨p, 3, none⟩ = some (.int .i64 r.i) := h.cell 3
theorem RV.c4 (h : RV w p s r v) : w.cell? ⟨p, 4, none⟩ = some (.int .i64 r.deep) := h.cell 4
theorem RV.c5 (h : RV w p s r v) : w.cell? ⟨p, 5, none⟩ = some (.bool r.first) := h.cell 5
theorem RV.put (h : RV w p s r v) (j : Nat) (u : Value) (r' : Rdr) (hl : r'.l = r.l) (hc : (r.cellsOf s v).setIfInBounds j u = r'.cellsOf s v) : RV (w.setCell ⟨p, j, none⟩ u) p s r' v := by
  refine ⟨?_, ?_, by rw [hl]; exact h.len⟩
  · rw [heap_setCell_same w p j _ 44 u h.blk, hc]
  · rw [hl]
    exact ownsRow_setCell_below h.own (by show p < p + 1; omega) _
theorem RV.put1 (h : RV w p s r v) (n : Nat) : RV (w.setCell ⟨p, 1, none⟩ (.int .i64 n)) p s { r with groups := n } v := h.put 1 _ _ rfl rfl
theorem RV.put3 (h : RV w p s r v) (n : Nat) : RV (w.setCell ⟨p, 3, none⟩ (.int .i64 n)) p s { r with i := n } v := h.put 3 _ _ rfl rfl
theorem RV.put4 (h : RV w p s r v) (n : Nat) : RV (w.setCell ⟨p, 4, none⟩ (.int .i64 n)) p s { r with deep := n } v := h.put 4 _ _ rfl rfl
theorem RV.put5 (h : RV w p s r v) (b : Bool) : RV (w.setCell ⟨p, 5, none⟩ (.bool b)) p s { r with first := b } v := h.put 5 _ _ rfl rfl
/-- .. where all the reader has lies below G. -/
structure RL (w : World) (p G : Nat) (s : ByteArray) (r : Rdr) (v : Value) : Prop where
  rv : RV w p s r v
  lt : p < G
  own : ∀ k, v.ownBlock = some k → k < G
theorem RL.below {G : Nat} (h : RL w p G s r v) (hB : Below G w w') : RL w' p G s r v :=
  ⟨h.rv.grown fun k _ hk => hB.block k (hk.elim (fun e => e ▸ h.lt) (h.own k)), h.lt, h.own⟩
theorem RV.rl (h : RV w p s r v) : RL w p w.heap.size s r v := ⟨h, h.lt, fun k hk => (h.own.lt k hk).2⟩
end
theorem at_r {w : World} {p : Nat} {s : ByteArray} {r : Rdr} {v : Value} (h : RV w p s r v) (hi : r.i ≤ s.size) (hs : s.size ≤ 100000) (t : ByteArray) (ht : t.size ≤ 100000) (b : Bool) (hb : b = r.at' s.data.toList t.data.toList) :
    Calls Try.prog 16 #[.pointer (some ⟨p, 0, none⟩), .string t] w fun e w' => e = .returned (.bool b) ∧ Same w w' := by
  refine (at_any p s t r.i w hi (by omega) (by omega) h.c2 h.c3).mono ?_
  rintro e w' ⟨rfl, n, rfl⟩
  exact ⟨by rw [hb]; rfl, Same.drew w n⟩
abbrev wrongs : List PanicEntry := [{ v := .iface 37 (.agg #[]), recovered := false }]
end Go.Proofs.Ytnhlinkkfoojmaa
