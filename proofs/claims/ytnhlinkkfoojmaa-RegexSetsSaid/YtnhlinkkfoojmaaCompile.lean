/- Compile: its deferred closure, and the walk. -/
import Derived.Test.YtnhlinkkfoojmaaPieces
import Derived.Defers
import Derived.Recover
import Derived.Laws.Pointers
namespace Go.Proofs.Ytnhlinkkfoojmaa
open Go.RowKit
set_option maxRecDepth 100000
set_option linter.unusedSimpArgs false
set_option linter.unusedVariables false
theorem catch_idle (a b : Value) (w : World) :
    CallsD Try.prog 11 #[a, b] .returning w fun e u' w' => e = .returned (.tuple #[]) ∧ u' = .returning ∧ w' = w := by
  refine callsD_of_wpS Try.func11 rfl fun c₀ cs hu => ?_
  apply wpS_seq
  apply wpS_region
  simp [wpOpsS, go_sem, recoverD, hu, Try.ntmps11, Exit.thenS]
  refine wpS_of_wp ?_
  go_wp2
  cases c₀
  simp_all [bodyPostS, results, Try.results11]
set_option maxHeartbeats 4000000 in
theorem catch_wrong (p q : Nat) (x y : Value) (w : World) (hcp : w.cell? ⟨p, 0, none⟩ = some x) (hcq : w.cell? ⟨q, 0, none⟩ = some y) (hzp : w.frozen? ⟨p, 0, none⟩ = false) (hzq : w.frozen? ⟨q, 0, none⟩ = false) (hpq : p ≠ q) :
    CallsD Try.prog 11 #[.pointer (some ⟨p, 0, none⟩), .pointer (some ⟨q, 0, none⟩)] (.panicking wrongs) w fun e u' w' =>
      e = .returned (.tuple #[]) ∧ u' = .panicking [{ v := .iface 37 (.agg #[]), recovered := true }] ∧ w' = ((w.setCell ⟨p, 0, none⟩ (.pointer none)).setCell ⟨q, 0, none⟩ (.int .i64 4)).alloc (.cells #[] 37) := by
  refine callsD_of_wpS Try.func11 rfl fun c₀ cs hu => ?_
  show Code.wpS _ _ _ { tmps := #[.pointer (some ⟨p, 0, none⟩), .pointer (some ⟨q, 0, none⟩), undef, undef, undef, undef, undef, undef, undef, undef, undef, undef, undef, undef, undef, undef], defers := [] } _ _
  apply wpS_seq
  apply wpS_region
  simp [wpOpsS, go_sem, recoverD, hu, Exit.thenS]
  refine wpS_of_wp ?_
  have hlp := block_lt_of_cell hcp
  have hlq := block_lt_of_cell hcq
  have hta : ∀ wx, (Instr.typeAssert (.iface 37 (.agg #[])) 20 37 true).run Try.prog wx = .ok (.tuple #[.agg #[], .bool true]) wx := fun wx => by kernel_rfl
  go_wp2
  cases c₀
  simp_all [bodyPostS, results, Try.results11]
/-- An expression that was compiled: its steps in a row of its own, behind G. -/
structure RX (w : World) (G p : Nat) (l : List Stp) (n : Nat) : Prop where
  ra : ∃ s r v, RV w p s r v ∧ r.l = l ∧ r.groups = n
  ge : G ≤ p
def CompPost (w : World) : Option (List Stp × Nat) → Ending → World → Prop
  | none, e, w' => e = .returned (.tuple #[.pointer none, .int .i64 4]) ∧ Below w.heap.size w w'
  | some (l, n), e, w' => ∃ p, e = .returned (.tuple #[.pointer (some ⟨p, 0, none⟩), .int .i64 0]) ∧ RX w' w.heap.size p l n ∧ Below w.heap.size w w'
def compOf : Option (Rdr × Bool) → Option (List Stp × Nat)
  | none => none
  | some (r, _) => some (r.l ++ [⟨noSet, 6, 0⟩], r.groups)
theorem compile_eq (L : List UInt8) : compile L = compOf (pieces (4 * L.length + 8) L ⟨[], 0, 0, 0, true⟩ true) := by
  unfold compile
  cases pieces (4 * L.length + 8) L ⟨[], 0, 0, 0, true⟩ true <;> rfl
set_option maxHeartbeats 8000000 in
theorem compile_any (s : ByteArray) (w : World) (hs : s.size ≤ 255) : Calls Try.prog 7 #[.string s] w (CompPost w (compile s.data.toList)) := by
  have hmf : ∀ (fn : Fn) (first cap : Array Value) (w : World), (Instr.makeFunc fn first cap).run Try.prog w = .ok (.func fn first cap) w := fun _ _ _ _ => rfl
  obtain ⟨out, hout⟩ : ∃ o, o = pieces (4 * s.size + 8) s.data.toList ⟨[], 0, 0, 0, true⟩ true := ⟨_, rfl⟩
  have hcomp : compile s.data.toList = compOf out := by rw [compile_eq, size_list, hout]
  rw [hcomp]
  have HO := Lib.hid hout
  have hd : decide ((s.size : Int) > 255) = false := decide_eq_false (by omega)
  clear hcomp hout
  go_enter_defers Try.func7, Try.ntmps7
  go_upto_region 5 with fail
  obtain ⟨H, hH⟩ : ∃ H, H = w.heap.size := ⟨_, rfl⟩
  have hb1 : (((w.alloc (Obj.cells #[Value.pointer none] 23)).alloc (Obj.cells #[Value.int IntKind.i64 0] 24)).alloc (Obj.cells #[Value.slice none 0 0, Value.int IntKind.i64 0, Value.string s, Value.int IntKind.i64 0, Value.int IntKind.i64 0, Value.bool false] 44)).heap[H]? = some (.cells #[Value.pointer none] 23 (0, 0)) := by
    rw [heap_alloc_old _ _ (by simp; omega), heap_alloc_old _ _ (by simp; omega), hH]
    exact heap_alloc_new w _
  have hb2 : (((w.alloc (Obj.cells #[Value.pointer none] 23)).alloc (Obj.cells #[Value.int IntKind.i64 0] 24)).alloc (Obj.cells #[Value.slice none 0 0, Value.int IntKind.i64 0, Value.string s, Value.int IntKind.i64 0, Value.int IntKind.i64 0, Value.bool false] 44)).heap[H + 1]? = some (.cells #[Value.int .i64 0] 24 (0, 0)) := by
    rw [heap_alloc_old _ _ (by simp; omega)]
    have := heap_alloc_new (w.alloc (Obj.cells #[Value.pointer none] 23)) (Obj.cells #[Value.int IntKind.i64 0] 24)
    rwa [show (w.alloc (Obj.cells #[Value.pointer none] 23)).heap.size = H + 1 by simp [hH]] at this
  have hb3 : (((w.alloc (Obj.cells #[Value.pointer none] 23)).alloc (Obj.cells #[Value.int IntKind.i64 0] 24)).alloc (Obj.cells #[Value.slice none 0 0, Value.int IntKind.i64 0, Value.string s, Value.int IntKind.i64 0, Value.int IntKind.i64 0, Value.bool false] 44)).heap[H + 1 + 1]? = some (.cells #[Value.slice none 0 0, Value.int IntKind.i64 0, Value.string s, Value.int IntKind.i64 0, Value.int IntKind.i64 0, Value.bool false] 44 (0, 0)) := by
    have := heap_alloc_new ((w.alloc (Obj.cells #[Value.pointer none] 23)).alloc (Obj.cells #[Value.int IntKind.i64 0] 24)) (Obj.cells #[Value.slice none 0 0, Value.int IntKind.i64 0, Value.string s, Value.int IntKind.i64 0, Value.int IntKind.i64 0, Value.bool false] 44)
    rwa [show ((w.alloc (Obj.cells #[Value.pointer none] 23)).alloc (Obj.cells #[Value.int IntKind.i64 0] 24)).heap.size = H + 1 + 1 by simp [hH]] at this
  have hB0 : Below H w (((w.alloc (Obj.cells #[Value.pointer none] 23)).alloc (Obj.cells #[Value.int IntKind.i64 0] 24)).alloc (Obj.cells #[Value.slice none 0 0, Value.int IntKind.i64 0, Value.string s, Value.int IntKind.i64 0, Value.int IntKind.i64 0, Value.bool false] 44)) :=
    (((Below.refl H w).alloc (by omega) _).alloc (by simp; omega) _).alloc (by simp; omega) _
  rw [← hH]
  generalize (((w.alloc (Obj.cells #[Value.pointer none] 23)).alloc (Obj.cells #[Value.int IntKind.i64 0] 24)).alloc (Obj.cells #[Value.slice none 0 0, Value.int IntKind.i64 0, Value.string s, Value.int IntKind.i64 0, Value.int IntKind.i64 0, Value.bool false] 44)) = W at hb1 hb2 hb3 hB0 ⊢
  have hR0 : RV W (H + 1 + 1) s ⟨[], 0, 0, 0, false⟩ (.slice none 0 0) := ⟨hb3, World.ownsRow_nil _ _ _ _, fun x hx => by cases hx⟩
  have g12 := (allC s (by omega) (4 * s.size + 8)).c12 (H + 1 + 1) W _ hR0.ra ⟨Nat.zero_le _, Nat.le_refl _, Nat.zero_le _, Nat.le_refl _, fun x hx => by (cases hx), fun x hx => by (cases hx)⟩ (by show 8 + 4 * (s.size - 0) ≤ _; omega)
  rw [show pieces (4 * s.size + 8) s.data.toList { (⟨[], 0, 0, 0, false⟩ : Rdr) with first := true } true = out from HO.out.symm] at g12
  have HB1 := Lib.hid hb1
  have HB2 := Lib.hid hb2
  have HB0 := Lib.hid hB0
  have HH := Lib.hid hH
  have cellOf : ∀ {w2 : World} (k : Nat) (u : Value) (t : TypeId), W.heap[k]? = some (.cells #[u] t (0, 0)) → k < H + 1 + 1 → Below (H + 1 + 1) W w2 → w2.cell? ⟨k, 0, none⟩ = some u ∧ w2.frozen? ⟨k, 0, none⟩ = false := fun k u t hk hlt hb => by
    have e := (hb.block k hlt).trans hk
    exact ⟨cell_of_row _ k 0 #[u] t (0, 0) e, frozen_of_row _ k 0 #[u] t e⟩
  have HCO : Hid (∀ {w2 : World} (k : Nat) (u : Value) (t : TypeId), W.heap[k]? = some (.cells #[u] t (0, 0)) → k < H + 1 + 1 → Below (H + 1 + 1) W w2 → w2.cell? ⟨k, 0, none⟩ = some u ∧ w2.frozen? ⟨k, 0, none⟩ = false) := @cellOf
  clear hb1 hb2 hb3 hB0 hH cellOf hR0
  cases out with
  | none =>
    go_wp2_with (go_at_call 12; ((with_reducible refine g12.mono ?_); rintro e w2 ⟨rfl, hB3⟩))
    obtain ⟨hcp, hzp⟩ := HCO.out H _ 23 HB1.out (by omega) hB3
    obtain ⟨hcq, hzq⟩ := HCO.out (H + 1) _ 24 HB2.out (by omega) hB3
    have hlt1 := block_lt_of_cell hcp
    have hlt2 := block_lt_of_cell hcq
    have hbel : Below H w (((w2.setCell ⟨H, 0, none⟩ (.pointer none)).setCell ⟨H + 1, 0, none⟩ (.int .i64 4)).alloc (.cells #[] 37)) :=
      (((HB0.out.trans (hB3.mono (by omega))).setCell (p := ⟨H, 0, none⟩) (Nat.le_refl _) _).setCell (p := ⟨H + 1, 0, none⟩) (by show H ≤ H + 1; omega) _).alloc (by simp [World.setCell]; have : H < w2.heap.size := hlt1; omega) _
    have hbH : w2.heap[H]? = some (.cells #[Value.pointer none] 23 (0, 0)) := (hB3.block H (by omega)).trans HB1.out
    have hbQ : w2.heap[H + 1]? = some (.cells #[Value.int .i64 0] 24 (0, 0)) := (hB3.block (H + 1) (by omega)).trans HB2.out
    have hf1 : (((w2.setCell ⟨H, 0, none⟩ (.pointer none)).setCell ⟨H + 1, 0, none⟩ (.int .i64 4)).alloc (.cells #[] 37)).cell? ⟨H, 0, none⟩ = some (.pointer none) := by
      refine cell_of_row _ H 0 #[Value.pointer none] 23 (0, 0) ?_
      rw [heap_alloc_old _ _ (by simp [World.setCell]; exact hlt1), heap_setCell_other _ _ _ _ (by show H ≠ H + 1; omega)]
      have := heap_setCell_same w2 H 0 _ 23 (.pointer none) hbH
      exact this.trans rfl
    have hf2 : (((w2.setCell ⟨H, 0, none⟩ (.pointer none)).setCell ⟨H + 1, 0, none⟩ (.int .i64 4)).alloc (.cells #[] 37)).cell? ⟨H + 1, 0, none⟩ = some (.int .i64 4) := by
      refine cell_of_row _ (H + 1) 0 #[Value.int .i64 4] 24 (0, 0) ?_
      rw [heap_alloc_old _ _ (by simp [World.setCell]; exact hlt2)]
      refine (heap_setCell_same _ (H + 1) 0 #[Value.int .i64 0] 24 _ ?_).trans rfl
      rw [heap_setCell_other _ _ _ _ (by show H + 1 ≠ H; omega)]
      exact hbQ
    refine leaves_cons (f := 11) (args := #[.pointer (some ⟨H, 0, none⟩), .pointer (some ⟨H + 1, 0, none⟩)]) (by simp) (by simp [go_sem]) ?_
    refine (catch_wrong H (H + 1) _ _ _ hcp hcq hzp hzq (by omega)).mono ?_
    rintro e u' w3 ⟨rfl, rfl, rfl⟩
    generalize (((w2.setCell ⟨H, 0, none⟩ (.pointer none)).setCell ⟨H + 1, 0, none⟩ (.int .i64 4)).alloc (.cells #[] 37)) = w4 at hbel hf1 hf2 ⊢
    clear hcp hzp hcq hzq
    simp [Leaves, settle, results, Try.results7, go_sem, hf1, hf2, CompPost, compOf]
    rw [← HH.out]
    exact hbel
  | some x =>
    obtain ⟨r, b⟩ := x
    have hOn := (allOn s.data.toList (4 * s.size + 8)).pieces ⟨[], 0, 0, 0, true⟩ true r b ⟨Nat.zero_le _, Nat.le_refl _, Nat.zero_le _, Nat.le_refl _, fun x hx => by (cases hx), fun x hx => by (cases hx)⟩ HO.out.symm
    have hl := hOn.gd.len
    have hi := hOn.gd.i
    rw [size_list] at hi
    clear hOn
    go_upto_region 7 with (first
      | (go_at_call 12; ((with_reducible refine g12.mono ?_); rintro e w2 ⟨rfl, hRA2, hB3⟩); (have g13 := add_any (H + 1 + 1) w2 s r ⟨noSet, 6, 0⟩ (by rfl) hRA2 (by omega) _ (List.toList_toArray ..)))
      | (with_reducible refine wpList_build_k rfl 6 rfl ?_)
      | (go_at_call 13; ((with_reducible refine g13.mono ?_); rintro e w3 ⟨rfl, hRA3, hB4⟩)))
    have hB5 := hB3.trans hB4
    obtain ⟨hcp, hzp⟩ := HCO.out H _ 23 HB1.out (by omega) hB5
    obtain ⟨hcq, hzq⟩ := HCO.out (H + 1) _ 24 HB2.out (by omega) hB5
    obtain ⟨v3, hR3⟩ := hRA3
    have hbH : w3.heap[H]? = some (.cells #[Value.pointer none] 23 (0, 0)) := (hB5.block H (by omega)).trans HB1.out
    have hbQ : w3.heap[H + 1]? = some (.cells #[Value.int .i64 0] 24 (0, 0)) := (hB5.block (H + 1) (by omega)).trans HB2.out
    have hbel : Below H w ((w3.setCell ⟨H, 0, none⟩ (.pointer (some ⟨H + 1 + 1, 0, none⟩))).setCell ⟨H + 1, 0, none⟩ (.int .i64 0)) :=
      (((HB0.out.trans (hB5.mono (by omega))).setCell (p := ⟨H, 0, none⟩) (Nat.le_refl _) _).setCell (p := ⟨H + 1, 0, none⟩) (by show H ≤ H + 1; omega) _)
    have hf1 : ((w3.setCell ⟨H, 0, none⟩ (.pointer (some ⟨H + 1 + 1, 0, none⟩))).setCell ⟨H + 1, 0, none⟩ (.int .i64 0)).cell? ⟨H, 0, none⟩ = some (.pointer (some ⟨H + 1 + 1, 0, none⟩)) := by
      refine cell_of_row _ H 0 #[Value.pointer (some ⟨H + 1 + 1, 0, none⟩)] 23 (0, 0) ?_
      rw [heap_setCell_other _ _ _ _ (by show H ≠ H + 1; omega)]
      have := heap_setCell_same w3 H 0 _ 23 (.pointer (some ⟨H + 1 + 1, 0, none⟩)) hbH
      exact this.trans rfl
    have hf2 : ((w3.setCell ⟨H, 0, none⟩ (.pointer (some ⟨H + 1 + 1, 0, none⟩))).setCell ⟨H + 1, 0, none⟩ (.int .i64 0)).cell? ⟨H + 1, 0, none⟩ = some (.int .i64 0) := by
      refine cell_of_row _ (H + 1) 0 #[Value.int .i64 0] 24 (0, 0) ?_
      refine (heap_setCell_same _ (H + 1) 0 #[Value.int .i64 0] 24 _ ?_).trans rfl
      rw [heap_setCell_other _ _ _ _ (by show H + 1 ≠ H; omega)]
      exact hbQ
    have hRf : RV ((w3.setCell ⟨H, 0, none⟩ (.pointer (some ⟨H + 1 + 1, 0, none⟩))).setCell ⟨H + 1, 0, none⟩ (.int .i64 0)) (H + 1 + 1) s (r.add ⟨noSet, 6, 0⟩) v3 := by
      refine hR3.grown fun k hk hor => ?_
      have hk2 : H + 1 < k := by
        rcases hor with rfl | hown
        · omega
        · have := (hR3.own.lt k hown).1; omega
      rw [heap_setCell_other _ _ _ _ (by show k ≠ H + 1; omega), heap_setCell_other _ _ _ _ (by show k ≠ H; omega)]
    have HRF := Lib.hid hRf
    have HBEL := Lib.hid hbel
    have HF1 := Lib.hid hf1
    have HF2 := Lib.hid hf2
    clear hRf hbel hf1 hf2 hbH hbQ hR3 hB5 hB3 hB4
    go_wp2_with fail
    generalize (w3.setCell ⟨H, 0, none⟩ (.pointer (some ⟨H + 1 + 1, 0, none⟩))).setCell ⟨H + 1, 0, none⟩ (.int .i64 0) = w4 at HRF HBEL HF1 HF2 ⊢
    refine leaves_cons (f := 11) (args := #[.pointer (some ⟨H, 0, none⟩), .pointer (some ⟨H + 1, 0, none⟩)]) (by simp) (by simp [go_sem]) ?_
    refine (catch_idle _ _ _).mono ?_
    rintro e u' w5 ⟨rfl, rfl, rfl⟩
    have hf1 := HF1.out
    have hf2 := HF2.out
    clear hcp hzp hcq hzq HF1 HF2
    simp [Leaves, settle, results, Try.results7, go_sem, hf1, hf2, CompPost, compOf]
    rw [← HH.out]
    exact ⟨⟨⟨s, _, _, HRF.out, rfl, rfl⟩, by omega⟩, HBEL.out⟩
end Go.Proofs.Ytnhlinkkfoojmaa
