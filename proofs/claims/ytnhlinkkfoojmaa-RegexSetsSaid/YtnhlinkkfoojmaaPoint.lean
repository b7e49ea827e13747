/- The small writers: a byte of its own, a point. -/
import Derived.Test.YtnhlinkkfoojmaaAdd
import Derived.Great.Frames
import Derived.Great.Walk
import Derived.Laws.CopyOwn
namespace Go.Proofs.Ytnhlinkkfoojmaa
open Go.RowKit
set_option maxRecDepth 100000
set_option linter.unusedSimpArgs false
set_option linter.unusedVariables false
theorem built_kt (k t : Nat) : Try.prog.built 50 [(1, .int .i64 (k : Nat)), (2, .int .i64 (t : Nat))] = some (Stp.mk noSet k t).vals.toArray := by
  have : ∀ k t : Int, Try.prog.built 50 [(1, .int .i64 k), (2, .int .i64 t)] = some ((List.replicate 256 (Value.bool false)) ++ [Value.int .i64 k, Value.int .i64 t]).toArray := fun k t => by kernel_rfl
  rw [this]
  simp [Stp.vals, noSet]
theorem built_k (k : Nat) : Try.prog.built 50 [(1, .int .i64 (k : Nat))] = some (Stp.mk noSet k 0).vals.toArray := by
  have : ∀ k : Int, Try.prog.built 50 [(1, .int .i64 k)] = some ((List.replicate 256 (Value.bool false)) ++ [Value.int .i64 k, Value.int .i64 0]).toArray := fun k => by kernel_rfl
  rw [this]
  simp [Stp.vals, noSet]
theorem built_0 : Try.prog.built 50 [] = some (Stp.mk noSet 0 0).vals.toArray := by
  have : Try.prog.built 50 [] = some ((List.replicate 256 (Value.bool false)) ++ [Value.int .i64 0, Value.int .i64 0]).toArray := by kernel_rfl
  rw [this]
  simp [Stp.vals, noSet]
/-- A set's byte in the step's cells. -/
theorem Stp.vals_at (s : Stp) (h : s.has.length = 256) (k : Nat) (hk : k < 256) : s.vals.toArray[k]? = some (.bool (s.has.getD k false)) := by
  have hk2 : k < s.has.length := by omega
  simp [Stp.vals, List.getElem?_append, hk2]
theorem Stp.vals_set (s : Stp) (h : s.has.length = 256) (k : Nat) (hk : k < 256) (b : Bool) : s.vals.toArray.setIfInBounds k (.bool b) = ({ s with has := s.has.set k b } : Stp).vals.toArray := by
  have hk2 : k < s.has.length := by omega
  rw [List.setIfInBounds_toArray]
  congr 1
  simp [Stp.vals, List.set_append, hk2, List.map_set]
/-- A step of its own, laid by 'step{..}' as a variable of the call: built, its block made, stored. -/
theorem wpList_fresh {ops : Array Oper} {rest : List Oper} {o1 o2 o3 : Oper} {a : Act} {w : World} {Q : Exit → Act → World → Prop} (g1 : o1.guard = none) (g2 : o2.guard = none) (g3 : o3.guard = none)
    (d1 d2 : Nat) (h1 : o1.op = .build 50 #[(1, .const (.int .i64 0))]) (h1d : o1.dst = some d1) (h2 : o2.op = .alloc 50) (h2d : o2.dst = some d2) (h3 : o3.op = .store 50 (.tmp d2) (.tmp d1)) (h3d : o3.dst = none)
    (hlt : d1 < a.tmps.size) (hlt2 : d2 < a.tmps.size) (hne : d2 ≠ d1)
    (h : ∀ w1 V0, Hid (V0 = (Stp.mk noSet 0 0).vals.toArray) → Hid (w1.heap[w.heap.size]? = some (.cells (Stp.mk noSet 0 0).vals.toArray 50 (0, 0))) → Below w.heap.size w w1 → wpList Try.prog ops Q rest ((a.put (some d1) (.agg V0)).put (some d2) (.pointer (some ⟨w.heap.size, 0, none⟩))) w1) :
    wpList Try.prog ops Q (o1 :: o2 :: o3 :: rest) a w := by
  obtain ⟨i0, hi, hz0, hz1, hz2⟩ := info_parts info50
  have hc : (Stp.mk noSet 0 0).vals.toArray.size = 258 := by rw [List.size_toArray, Stp.vals_length _ (by rfl)]
  have ho : (Stp.mk noSet 0 0).vals.toArray.all (·.oneCell') = true := by
    rw [List.all_toArray, List.all_eq_true]
    exact Stp.vals_one _
  refine wpList_buildTo g1 50 _ h1 (some d1) h1d _ (by rw [Array.toList_map]; exact built_k 0) ?_
  refine Great.wpList_allocTo g2 (some d2) h2d (.pointer (some ⟨w.heap.size, 0, none⟩)) (.cells zero50.cells 50) ?_ ?_
  · simp [execOp, h2, Sem.run_bind, zeroValue, typeInfo, hi, hz0]
    try rfl
  have hb : (w.alloc (.cells zero50.cells 50)).heap[w.heap.size]? = some (.cells zero50.cells 50 (0, 0)) := heap_alloc_new w _
  refine wpList_store_rowTo g3 50 (.tmp d2) (.tmp d1) h3 h3d w.heap.size (Stp.mk noSet 0 0).vals.toArray (by rw [Act.eval_put_same _ _ _ (by rw [Act.size_put]; exact hlt2)]) (by rw [Act.eval_put_ne _ _ _ _ hne, Act.eval_put_same _ _ _ hlt]) 50 zero50.cells hb (size50.trans (by rw [hc])) (by rw [hc]; rfl) ho ?_
  exact h _ _ rfl (setRow_heap _ _ _ _ _ _ hb) (below_setRow ((Below.refl _ w).alloc (Nat.le_refl _) _) (Nat.le_refl _) _)
/-- A whole step is loaded. -/
theorem wpList_load50 {ops : Array Oper} {rest : List Oper} {o : Oper} {a : Act} {w : World} {Q : Exit → Act → World → Prop} (hgd : o.guard = none) (x : Operand) (ho : o.op = .load 50 x)
    (g : Nat) (hx : a.eval x = .pointer (some ⟨g, 0, none⟩)) (st : Stp) (hst : st.has.length = 256) (hg : w.heap[g]? = some (.cells st.vals.toArray 50 (0, 0)))
    (h : wpList Try.prog ops Q rest (a.put o.dst (.agg st.vals.toArray)) w) : wpList Try.prog ops Q (o :: rest) a w :=
  wpList_load_row hgd 50 x ho g hx 50 _ (0, 0) _ hg Try.underlying50 rfl (size50.trans (by rw [List.size_toArray, st.vals_length hst])) h
/-- A step is built. -/
theorem wpList_build_kt {ops : Array Oper} {rest : List Oper} {o : Oper} {a : Act} {w : World} {Q : Exit → Act → World → Prop} (hgd : o.guard = none) (k : Nat) (x : Operand) (ho : o.op = .build 50 #[(1, .const (.int .i64 k)), (2, x)])
    (t : Nat) (hx : a.eval x = .int .i64 t) (h : wpList Try.prog ops Q rest (a.put o.dst (.agg (Stp.mk noSet k t).vals.toArray)) w) : wpList Try.prog ops Q (o :: rest) a w := by
  refine wpList_buildTo hgd 50 _ ho o.dst rfl _ ?_ h
  rw [Array.toList_map]
  show Try.prog.built 50 [(1, .int .i64 k), (2, a.eval x)] = _
  rw [hx]
  exact built_kt k t
theorem wpList_build_k {ops : Array Oper} {rest : List Oper} {o : Oper} {a : Act} {w : World} {Q : Exit → Act → World → Prop} (hgd : o.guard = none) (k : Nat) (ho : o.op = .build 50 #[(1, .const (.int .i64 k))])
    (h : wpList Try.prog ops Q rest (a.put o.dst (.agg (Stp.mk noSet k 0).vals.toArray)) w) : wpList Try.prog ops Q (o :: rest) a w := by
  refine wpList_buildTo hgd 50 _ ho o.dst rfl _ ?_ h
  rw [Array.toList_map]
  exact built_k k
theorem wpList_build_0 {ops : Array Oper} {rest : List Oper} {o : Oper} {a : Act} {w : World} {Q : Exit → Act → World → Prop} (hgd : o.guard = none) (ho : o.op = .build 50 #[])
    (h : wpList Try.prog ops Q rest (a.put o.dst (.agg (Stp.mk noSet 0 0).vals.toArray)) w) : wpList Try.prog ops Q (o :: rest) a w := by
  refine wpList_buildTo hgd 50 _ ho o.dst rfl _ ?_ h
  rw [Array.toList_map]
  exact built_0
/-- A byte of a local step's set is written: only that block turns. -/
theorem set_own {w0 w1 : World} {G : Nat} {st : Stp} (hst : st.has.length = 256) (hb : w1.heap[G]? = some (.cells st.vals.toArray 50 (0, 0))) (hB : Below G w0 w1) (k : Nat) (hk : k < 256) (b : Bool) :
    (w1.setCell ⟨G, k, none⟩ (.bool b)).heap[G]? = some (.cells ({ st with has := st.has.set k b } : Stp).vals.toArray 50 (0, 0)) ∧ Below G w0 (w1.setCell ⟨G, k, none⟩ (.bool b)) := by
  refine ⟨?_, hB.setCell (p := ⟨G, k, none⟩) (Nat.le_refl _) _⟩
  rw [heap_setCell_same w1 G k _ 50 _ hb, Stp.vals_set st hst k hk]
theorem RV.ra {w : World} {p : Nat} {s : ByteArray} {r : Rdr} {v : Value} (h : RV w p s r v) : RA w p s r := ⟨v, h⟩
/-- The reader is as it was, in a world that is as it was below the new block. -/
theorem RV.below {w w' : World} {p : Nat} {s : ByteArray} {r : Rdr} {v : Value} (h : RV w p s r v) {G : Nat} (hG : w.heap.size ≤ G) (hB : Below G w w') : RV w' p s r v :=
  h.grown fun k hk _ => hB.block k (by omega)
set_option maxHeartbeats 4000000 in
theorem single_any (p : Nat) (w : World) (s : ByteArray) (R : Rdr) (c : UInt8) (hR : RA w p s R) (hnn : R.l.length ≤ 100000) :
    Calls Try.prog 27 #[.pointer (some ⟨p, 0, none⟩), .int .u8 (c.toNat : Nat)] w fun e w' => e = .returned (.bool false) ∧ RA w' p s (R.single c) ∧ Below p w w' := by
  obtain ⟨v, hR⟩ := hR
  have hp := hR.lt
  have HR := Lib.hid hR
  clear hR
  obtain ⟨G, hG⟩ : ∃ G, G = w.heap.size := ⟨_, rfl⟩
  have HG := Lib.hid hG
  obtain ⟨k, hk⟩ : ∃ k : Nat, k = c.toNat := ⟨_, rfl⟩
  have hk2 : k < 256 := by rw [hk]; exact c.toNat_lt
  rw [← hk]
  have HK := Lib.hid hk
  have hi1 : decide ((0 : Int) ≤ (k : Int)) = true := decide_eq_true (by omega)
  have hi2 : decide ((k : Int) < 256) = true := decide_eq_true (by omega)
  clear hG hk
  go_enter Try.func27, Try.ntmps27
  go_wp2_with (first
    | ((with_reducible refine wpList_fresh rfl rfl rfl 6 5 rfl rfl rfl rfl rfl rfl ?_ ?_ ?_ ?_);
       (simp); (simp); (decide);
       intro w1 V0 hV0 hb1 hB1; rw [← HG.out] at hb1 hB1 ⊢;
       have hc1 : w1.cell? ⟨G, k, none⟩ = some (.bool (noSet.getD k false)) := (cell_of_row w1 G k _ 50 _ hb1.out).trans (Stp.vals_at _ rfl k hk2);
       have hz1 : w1.frozen? ⟨G, k, none⟩ = false := frozen_of_row w1 G k _ 50 hb1.out)
    | ((with_reducible refine wpList_load50 rfl (.tmp 5) rfl G ?_ ⟨noSet.set k true, 0, 0⟩ ?_ ?_ ?_); (rfl); (simp [noSet]);
       (exact (set_own rfl hb1.out hB1 k hk2 true).1))
    | (go_at_call 13; ((with_reducible refine (add_any p _ s R ⟨noSet.set k true, 0, 0⟩ (by simp [noSet]) (HR.out.below (Nat.le_of_eq HG.out.symm) (set_own rfl hb1.out hB1 k hk2 true).2).ra hnn _ (List.toList_toArray ..)).mono ?_); rintro e w2 ⟨rfl, hR2, hB2⟩)))
  go_ret
  refine ⟨rfl, ?_, ?_⟩
  · have e : R.single c = R.add ⟨noSet.set k true, 0, 0⟩ := by rw [HK.out]; rfl
    rw [e]; exact hR2
  · exact (((set_own rfl hb1.out hB1 k hk2 true).2).mono (by rw [HG.out]; omega)).trans hB2
def ptHas (n : Nat) : List Bool := List.replicate n true ++ List.replicate (256 - n) false
theorem ptHas_length (n : Nat) (h : n ≤ 256) : (ptHas n).length = 256 := by simp [ptHas]; omega
theorem ptHas_set (n : Nat) (h : n < 256) : (ptHas n).set n true = ptHas (n + 1) := by
  unfold ptHas
  rw [List.set_append]
  simp only [List.length_replicate, Nat.lt_irrefl, if_false, Nat.sub_self]
  rw [show 256 - n = (256 - (n + 1)) + 1 by omega, List.replicate_succ, List.set_cons_zero, List.replicate_succ', List.append_assoc]
  rfl
def SetRel (w : World) (G : Nat) (has : List Bool) (wr : World) : Prop := Hid (wr.heap[G]? = some (.cells (Stp.mk has 0 0).vals.toArray 50 (0, 0))) ∧ Below G w wr
theorem SetRel.set {w : World} {G : Nat} {has : List Bool} {wr : World} (h : SetRel w G has wr) (hl : has.length = 256) (k : Nat) (hk : k < 256) (b : Bool) : SetRel w G (has.set k b) (wr.setCell ⟨G, k, none⟩ (.bool b)) :=
  set_own (st := ⟨has, 0, 0⟩) hl h.1.out h.2 k hk b
set_option maxHeartbeats 4000000 in
theorem point_any (p : Nat) (w : World) (s : ByteArray) (R : Rdr) (hR : RA w p s R) (hnn : R.l.length ≤ 100000) :
    Calls Try.prog 24 #[.pointer (some ⟨p, 0, none⟩)] w fun e w' => e = .returned (.bool false) ∧ RA w' p s R.point ∧ Below p w w' := by
  obtain ⟨v, hR⟩ := hR
  have hp := hR.lt
  have HR := Lib.hid hR
  clear hR
  obtain ⟨G, hG⟩ : ∃ G, G = w.heap.size := ⟨_, rfl⟩
  have HG := Lib.hid hG
  clear hG
  go_enter Try.func24, Try.ntmps24
  go_wp2_with (first
    | ((with_reducible refine wpList_fresh rfl rfl rfl 5 3 rfl rfl rfl rfl rfl rfl ?_ ?_ ?_ ?_);
       (simp); (simp); (decide);
       intro w1 V0 hV0 hb1 hB1; rw [← HG.out] at hb1 hB1 ⊢))
  go_loopw [4, 6] (fun _ i wr => ∃ n : Nat, n ≤ 256 ∧ i = .int .i64 n ∧ SetRel w G (ptHas n) wr) (fun _ i _ => 256 - (intOf i).toNat)
  case atStart => exact ⟨0, by omega, rfl, hb1, hB1⟩
  case round =>
    obtain ⟨n, hn, rfl, hS⟩ := hrel
    by_cases h : n < 256
    · have hl := ptHas_length n hn
      have hi1 : decide ((0 : Int) ≤ (n : Int)) = true := decide_eq_true (by omega)
      have hi2 : decide ((n : Int) < 256) = true := decide_eq_true (by omega)
      have hc1 : wr.cell? ⟨G, n, none⟩ = some (.bool ((ptHas n).getD n false)) := (cell_of_row wr G n _ 50 _ hS.1.out).trans (Stp.vals_at _ hl n h)
      have hz1 : wr.frozen? ⟨G, n, none⟩ = false := frozen_of_row wr G n _ 50 hS.1.out
      go_wp2_with fail
      go_roundw
      case rel => exact ⟨n + 1, by omega, by go_num, by rw [← ptHas_set n h]; exact hS.set hl n h true⟩
      case measure => simp [intOf]; omega
    · obtain rfl : n = 256 := by omega
      have hl := ptHas_length 256 hn
      have g := add_any p wr s R ⟨ptHas 256, 0, 0⟩ hl (HR.out.below (Nat.le_of_eq HG.out.symm) hS.2).ra hnn _ (List.toList_toArray ..)
      go_wp2_with (first
        | ((with_reducible refine wpList_load50 rfl (.tmp 3) rfl G ?_ ⟨ptHas 256, 0, 0⟩ ?_ ?_ ?_); (rfl); (exact hl); (exact hS.1.out))
        | (go_at_call 13; ((with_reducible refine g.mono ?_); rintro e w2 ⟨rfl, hR2, hB2⟩)))
      go_ret
      exact ⟨rfl, hR2, (hS.2.mono (by rw [HG.out]; omega)).trans hB2⟩
end Go.Proofs.Ytnhlinkkfoojmaa
