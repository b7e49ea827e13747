/- A step is added to the reader's steps: the walk of add; and the reader's place in memory. -/
import Derived.Test.YtnhlinkkfoojmaaSmall
import Derived.Test.YtnhlinkkfoojmaaQTail
import Derived.Deep.AppendLies
import Derived.Deep.RegionHeld
import Derived.Laws.Rows
import Derived.OwnWalk
import Derived.Great.BuildSlice
import Derived.Great.FillDense
namespace Go.Proofs.Ytnhlinkkfoojmaa
open Go.RowKit
set_option maxRecDepth 100000
set_option linter.unusedSimpArgs false
set_option linter.unusedVariables false
def zero50 : Value := .agg ((List.replicate 256 (Value.bool false)) ++ [Value.int .i64 0, Value.int .i64 0]).toArray
theorem info50 : (Try.prog.info? 50).map (fun i => (i.zero, i.size, i.bytes)) = some (some zero50, 258, 272) := by kernel_rfl
theorem size50 : (Try.prog.info? 50).map (·.size) = some 258 := by kernel_rfl
/-- A step's cells, and a row of steps. -/
def Stp.vals (s : Stp) : List Value := s.has.map Value.bool ++ [.int .i64 (s.kind : Nat), .int .i64 (s.to : Nat)]
def stepVals (l : List Stp) : List Value := l.flatMap Stp.vals
theorem Stp.vals_length (s : Stp) (h : s.has.length = 256) : s.vals.length = 258 := by simp [Stp.vals, h]
theorem Stp.vals_one (s : Stp) : ∀ u ∈ s.vals, u.oneCell' = true := by
  intro u hu
  simp only [Stp.vals, List.mem_append, List.mem_map, List.mem_cons, List.not_mem_nil, or_false] at hu
  rcases hu with ⟨b, _, rfl⟩ | rfl | rfl <;> rfl
theorem stepVals_add (l : List Stp) (s : Stp) : stepVals (l ++ [s]) = stepVals l ++ s.vals := by simp [stepVals]
/-- The reader stands in block p; its steps lie in a row of its own, behind p. -/
def Rdr.cellsOf (r : Rdr) (s : ByteArray) (v : Value) : Array Value := #[v, .int .i64 (r.groups : Nat), .string s, .int .i64 (r.i : Nat), .int .i64 (r.deep : Nat), .bool r.first]
structure RV (w : World) (p : Nat) (s : ByteArray) (r : Rdr) (v : Value) : Prop where
  blk : w.heap[p]? = some (.cells (r.cellsOf s v) 44 (0, 0))
  own : w.ownsRow (p + 1) 50 258 v r.l.length (stepVals r.l)
  len : ∀ x ∈ r.l, x.has.length = 256
def RA (w : World) (p : Nat) (s : ByteArray) (r : Rdr) : Prop := ∃ v, RV w p s r v
theorem RV.lt {w : World} {p : Nat} {s : ByteArray} {r : Rdr} {v : Value} (h : RV w p s r v) : p < w.heap.size := (Array.getElem?_eq_some_iff.1 h.blk).1
theorem RV.ne {w : World} {p : Nat} {s : ByteArray} {r : Rdr} {v : Value} (h : RV w p s r v) : v.ownBlock ≠ some p := fun e => by
  have := (h.own.lt p e).1
  omega
theorem RV.cell {w : World} {p : Nat} {s : ByteArray} {r : Rdr} {v : Value} (h : RV w p s r v) (j : Nat) : w.cell? ⟨p, j, none⟩ = (r.cellsOf s v)[j]? := cell_of_row w p j _ 44 (0, 0) h.blk
theorem RV.froz {w : World} {p : Nat} {s : ByteArray} {r : Rdr} {v : Value} (h : RV w p s r v) (j : Nat) : w.frozen? ⟨p, j, none⟩ = false := frozen_of_row w p j _ 44 h.blk
/-- The world may grow, and blocks other than these two may turn. -/
theorem RV.grown {w w' : World} {p : Nat} {s : ByteArray} {r : Rdr} {v : Value} (h : RV w p s r v) (hb : ∀ k, k < w.heap.size → (k = p ∨ v.ownBlock = some k) → w'.heap[k]? = w.heap[k]?) : RV w' p s r v := by
  refine ⟨(hb p h.lt (.inl rfl)).trans h.blk, ⟨h.own.1, ?_⟩, h.len⟩
  rcases h.own.2 with hn | ⟨g, cap, cur, rfl, hbb, hgg, rest⟩
  · exact .inl hn
  · exact .inr ⟨g, cap, cur, rfl, hbb, (hb g (Array.getElem?_eq_some_iff.1 hgg).1 (.inr rfl)).trans hgg, rest⟩
theorem RV.drew {w : World} {p : Nat} {s : ByteArray} {r : Rdr} {v : Value} (h : RV w p s r v) (n : Nat) : RV (w.drewN n) p s r v := ⟨h.blk, h.own, h.len⟩
theorem RV.alloc {w : World} {p : Nat} {s : ByteArray} {r : Rdr} {v : Value} (h : RV w p s r v) (o : Obj) : RV (w.alloc o) p s r v := h.grown fun k hk _ => heap_alloc_old w o hk
theorem load50 (wx : World) (g : Nat) (cs : Array Value) (hc : cs.size = 258) (h : wx.heap[g]? = some (.cells cs 50 (0, 0))) (a : Act) (ha : a.eval (.tmp 3) = .pointer (some ⟨g, 0, none⟩)) {o : Oper} (ho : o.op = .load 50 (.tmp 3) ) :
    (execOp a.eval o).run Try.prog wx = .ok (.value (.agg cs)) wx := by
  simp only [execOp, ho, ha, Instr.loadAt, Instr.sureAddr, Sem.run_bind, Sem.run_pure, Result.andThen_ok, run_loadVar_row wx g 50 50 cs (0, 0) _ h Try.underlying50 rfl (size50.trans (by rw [hc]))]
theorem fill50 (cs : Array Value) (hc : cs.size = 258) (i0 : TypeInfo) (hz1 : i0.size = 258) (z : Value) (ps : List (Nat × Value)) (hps : ps = [(0, Value.agg cs)]) :
    Instr.fill (fun i => some (i * i0.size, i0.size)) ((Array.range (1 * i0.size)).map (z.cells[· % z.cells.size]!)) ps = some cs := by
  subst hps
  rw [hz1]
  refine (Go.Great.fill_whole (s := 258) (by omega) [.agg cs] _ (by intro v hv; rw [List.mem_singleton.1 hv]; exact hc) (by simp)).trans ?_
  simp [Value.cells]
set_option maxHeartbeats 4000000 in
theorem add_raw (p : Nat) (w : World) (s : ByteArray) (R : Rdr) (st : Stp) (hst : st.has.length = 256) (v : Value) (hR : RV w p s R v) (hnn : R.l.length ≤ 100000) (cs : Array Value) (hcs : cs.toList = st.vals) :
    Calls Try.prog 13 #[.pointer (some ⟨p, 0, none⟩), .agg cs] w fun e w' => e = .returned (.int .i64 (R.l.length : Nat)) ∧ RA w' p s (R.add st) ∧ Below p w w' := by
  have hc : cs.size = 258 := by rw [← Array.length_toList, hcs, Stp.vals_length st hst]
  have h1 : ∀ u ∈ cs.toList, u.oneCell' = true := by rw [hcs]; exact st.vals_one
  have c1 : w.cell? ⟨p, 0, none⟩ = some v := hR.cell 0
  have hp := hR.lt
  have hpB := hR.ne
  obtain ⟨n, hn⟩ : ∃ n, n = R.l.length := ⟨_, rfl⟩
  obtain ⟨xs, hxs⟩ : ∃ xs, xs = stepVals R.l := ⟨_, rfl⟩
  have hown : w.ownsRow (p + 1) 50 258 v n xs := by rw [hn, hxs]; exact hR.own
  rw [← hn] at hnn ⊢
  have HN := Lib.hid hn
  have HX := Lib.hid hxs
  have HC := Lib.hid hcs
  have HR0 := Lib.hid hR
  clear hn hxs hcs hR
  obtain ⟨i0, hi, hz0, hz1, hz2⟩ := info_parts info50
  go_enter Try.func13, Try.ntmps13
  go_wp2
  have hcell : (w.alloc (.cells cs 50)).drew.cell? ⟨p, 0, none⟩ = some v := c1 ▸ World.cell?_alloc_lt _ _ _ hp
  have hrow : (fun wx : World => wx.heap[w.heap.size]? = some (.cells cs 50 (0, 0))) (w.alloc (.cells cs 50)).drew := heap_alloc_new w (.cells cs 50)
  refine wp_region_held_drew (S := fun wx : World => wx.heap[w.heap.size]? = some (.cells cs 50 (0, 0))) (by kernel_rfl) hrow (fun hs0 => ?_)
  refine wpAnyH_take (i := 0) (v := .pointer (some ⟨p, 0, none⟩)) rfl (by kernel_rfl) (by kernel_rfl) (by kernel_rfl) (fun _ _ _ h => h) (Or.inl ⟨by rfl, ?_⟩) hs0 ?_
  · intro wx hSw; go_simp
  try simp only [Act.put, List.setIfInBounds_toArray, List.set_cons_zero, List.set_cons_succ]
  refine wpAnyH_take (i := 1) (v := .pointer (some ⟨p, 0, none⟩)) rfl (by kernel_rfl) (by kernel_rfl) (by kernel_rfl) (fun _ _ _ h => h) (Or.inl ⟨by rfl, ?_⟩) hs0 ?_
  · intro wx hSw; go_simp
  try simp only [Act.put, List.setIfInBounds_toArray, List.set_cons_zero, List.set_cons_succ]
  refine wpAnyH_take (i := 2) (v := .pointer (some ⟨p, 0, none⟩)) rfl (by kernel_rfl) (by kernel_rfl) (by kernel_rfl) (fun _ _ _ h => h) (Or.inl ⟨by rfl, ?_⟩) hs0 ?_
  · intro wx hSw; go_simp
  try simp only [Act.put, List.setIfInBounds_toArray, List.set_cons_zero, List.set_cons_succ]
  refine wpAnyH_take (i := 3) (v := .pointer (some ⟨p, 0, none⟩)) rfl (by kernel_rfl) (by kernel_rfl) (by kernel_rfl) (fun _ _ _ h => h) (Or.inl ⟨by rfl, ?_⟩) hs0 ?_
  · intro wx hSw; go_simp
  try simp only [Act.put, List.setIfInBounds_toArray, List.set_cons_zero, List.set_cons_succ]
  refine wpAnyH_take (i := 4) (v := .pointer (some ⟨p, 0, none⟩)) rfl (by kernel_rfl) (by kernel_rfl) (by kernel_rfl) (fun _ _ _ h => h) (Or.inl ⟨by rfl, ?_⟩) hs0 ?_
  · intro wx hSw; go_simp
  try simp only [Act.put, List.setIfInBounds_toArray, List.set_cons_zero, List.set_cons_succ]
  refine wpAnyH_take (i := 6) (v := .agg cs) rfl (by kernel_rfl) (by kernel_rfl) (by kernel_rfl) (fun _ _ _ h => h) (Or.inl ⟨by rfl, ?_⟩) hs0 ?_
  · intro wx hSw; refine load50 wx w.heap.size cs hc hSw _ ?_ ?_ <;> rfl
  try simp only [Act.put, List.setIfInBounds_toArray, List.set_cons_zero, List.set_cons_succ]
  refine wpAnyH_ready (rs := [5, 7]) (by kernel_rfl) (by simp) ?_
  refine AllReadyH.cons rfl (fun K hK => ?_) (AllReadyH.cons rfl (fun K hK => ?_) AllReadyH.nil)
  · go_simp
    refine hK.out _ _ hs0 (fun _ => ?_)
    clear hK K
    try simp only [Act.put, List.setIfInBounds_toArray, List.set_cons_zero, List.set_cons_succ]
    refine wpAnyH_ready (rs := [7]) (by kernel_rfl) (by simp) ?_
    refine AllReadyH.cons rfl (fun K hK => ?_) AllReadyH.nil
    refine (if_pos (by rfl)).mpr ?_
    refine wp_buildSlice 40 50 1 _ (by rfl) cs i0 zero50 Try.underlying40 hi hz0 (by rw [hz1]; decide) (by rw [hz1]; decide) ?_ ?_
    · exact fill50 cs hc i0 hz1 zero50 _ (by simp [Act.eval])
    refine hK.out _ _ ((heap_alloc_old _ _ (by show w.heap.size < (w.heap.push _).size; simp)).trans hs0) (fun _ => ?_)
    clear hK K
    try simp only [Act.put, List.setIfInBounds_toArray, List.set_cons_zero, List.set_cons_succ]
    refine wpAnyH_ready (rs := [8]) (by kernel_rfl) (by simp) ?_
    refine AllReadyH.cons rfl (fun K hK => ?_) AllReadyH.nil
    have e1 : ((w.alloc (.cells cs 50)).drew.alloc (.cells cs 50)).heap.size = w.heap.size + 2 := by
      show ((w.heap.push _).push _).size = _
      rw [Array.size_push, Array.size_push]
    refine step_append_lies _ (by rfl) _ _ 40 (by rfl) (p + 1) 50 i0 zero50 258 272 Try.underlying40 hi hz0 hz1 hz2 rfl (by decide) v n xs (by rfl) ((hown.alloc (.cells cs 50)).alloc (.cells cs 50)) ⟨(w.alloc (.cells cs 50)).drew.heap.size, 0, none⟩ 1 1 cs.toList (by rfl) (by rw [Array.length_toList, hc])
      (World.news_of_block (heap_alloc_new (w.alloc (.cells cs 50)).drew (.cells cs 50))) h1 (by omega) (by simp only [maxLen]; omega) (by omega) (by rw [e1]; omega) (w.heap.size + 2) e1 ?_
    intro g cap w5 hown5 hgrow5 hat hlt5
    have hS5 : w5.heap[w.heap.size]? = some (.cells cs 50 (0, 0)) := by
      rw [hgrow5.block w.heap.size (by rw [e1]; omega) (fun e => by have := (hown.lt _ e.symm).2; omega)]
      exact (heap_alloc_old _ _ (by show w.heap.size < (w.heap.push _).size; simp)).trans hs0
    have hold5 : ∀ k, k < w.heap.size → v.ownBlock ≠ some k → w5.heap[k]? = w.heap[k]? := fun k hk hne => by
      rw [hgrow5.block k (by rw [e1]; omega) (fun e => hne e.symm)]
      exact (heap_alloc_old (w.alloc (.cells cs 50)).drew (.cells cs 50) (by show k < (w.heap.push _).size; simp; omega)).trans (heap_alloc_old w _ hk)
    have hbl5 : w5.heap[p]? = some (.cells (R.cellsOf s v) 44 (0, 0)) := (hold5 p hp hpB).trans HR0.out.blk
    have hc5 : w5.cell? ⟨p, 0, none⟩ = some v := cell_of_row w5 p 0 _ 44 (0, 0) hbl5
    have hz5 : w5.frozen? ⟨p, 0, none⟩ = false := frozen_of_row w5 p 0 _ 44 hbl5
    refine hK.out _ _ hS5 (fun _ => ?_)
    clear hK K
    try simp only [Act.put, List.setIfInBounds_toArray, List.set_cons_zero, List.set_cons_succ]
    refine wpAnyH_ready (rs := [9]) (by kernel_rfl) (by simp) ?_
    refine AllReadyH.cons rfl (fun K hK => ?_) AllReadyH.nil
    go_simp
    refine hK.out _ _ hS5 (fun _ => ?_)
    clear hK K
    try simp only [Act.put, List.setIfInBounds_toArray, List.set_cons_zero, List.set_cons_succ]
    refine wpAnyH_ready (rs := [10]) (by kernel_rfl) (by simp) ?_
    refine AllReadyH.cons rfl (fun K hK => ?_) AllReadyH.nil
    go_simp
    refine hK.out _ _ hS5 (fun _ => ?_)
    clear hK K
    try simp only [Act.put, List.setIfInBounds_toArray, List.set_cons_zero, List.set_cons_succ]
    refine wpAnyH_ready (rs := [11]) (by kernel_rfl) (by simp) ?_
    refine AllReadyH.cons rfl (fun K hK => ?_) AllReadyH.nil
    go_simp
    refine hK.out _ _ hS5 (fun _ => ?_)
    clear hK K
    try simp only [Act.put, List.setIfInBounds_toArray, List.set_cons_zero, List.set_cons_succ]
    refine wpAnyH_ready (rs := [12]) (by kernel_rfl) (by simp) ?_
    refine AllReadyH.cons rfl (fun K hK => ?_) AllReadyH.nil
    have hg : p + 1 ≤ g := by
      rcases hat with h | h
      · exact (hown.lt g h).1
      · omega
    have hS6 : (w5.setCell ⟨p, 0, none⟩ (.slice (some ⟨g, 0, none⟩) (n + 1) cap)).heap[w.heap.size]? = some (.cells cs 50 (0, 0)) := by
      rw [heap_setCell_other _ _ _ _ (by show w.heap.size ≠ p; omega)]
      exact hS5
    have hb6 : (w5.setCell ⟨p, 0, none⟩ (.slice (some ⟨g, 0, none⟩) (n + 1) cap)).heap[p]? = some (.cells ((R.add st).cellsOf s (.slice (some ⟨g, 0, none⟩) (n + 1) cap)) 44 (0, 0)) := heap_setCell_same w5 p 0 _ 44 _ hbl5
    have hR6 : RV (w5.setCell ⟨p, 0, none⟩ (.slice (some ⟨g, 0, none⟩) (n + 1) cap)) p s (R.add st) (.slice (some ⟨g, 0, none⟩) (n + 1) cap) := by
      refine ⟨hb6, ?_, ?_⟩
      · have e2 : (R.add st).l.length = n + 1 := by rw [HN.out]; simp [Rdr.add]
        have e3 : stepVals (R.add st).l = xs ++ cs.toList := by rw [HX.out, HC.out]; exact stepVals_add _ _
        rw [e2, e3]
        exact ownsRow_setCell_below hown5 (by show p < p + 1; omega) _
      · intro x hx
        rcases List.mem_append.1 hx with h | h
        · exact HR0.out.len x h
        · rw [List.mem_singleton.1 h]; exact hst
    have hB6 : Below p w (w5.setCell ⟨p, 0, none⟩ (.slice (some ⟨g, 0, none⟩) (n + 1) cap)) := by
      have hz : ∀ (w' : World), w'.os = w.os → w'.tape = w.tape → w'.output = w.output → w.heap.size ≤ w'.heap.size → (∀ k, k < p → w'.heap[k]? = w.heap[k]?) → Below p w w' := fun w' a b c d e => ⟨a, b, c, d, e⟩
      refine Below.setCell (p := ⟨p, 0, none⟩) (hz w5 hgrow5.os hgrow5.tape hgrow5.output (Nat.le_trans (by rw [e1]; omega) hgrow5.size) (fun k hk => hold5 k (by omega) (fun e => ?_))) (Nat.le_refl _) _
      have := (hown.lt k e).1
      omega
    go_simp
    refine hK.out _ _ hS6 (fun _ => ?_)
    clear hK K
    try simp only [Act.put, List.setIfInBounds_toArray, List.set_cons_zero, List.set_cons_succ]
    refine wpAnyH_done (by kernel_rfl) ?_ _
    generalize (w5.setCell ⟨p, 0, none⟩ (.slice (some ⟨g, 0, none⟩) (n + 1) cap)) = w6 at hS6 hb6 hR6 hB6
    have hc6 : w6.cell? ⟨p, 0, none⟩ = some (.slice (some ⟨g, 0, none⟩) (n + 1) cap) := cell_of_row w6 p 0 _ 44 (0, 0) hb6
    have HR := Lib.hid hR6
    clear hR6 hb6 hS6 hS5 hcell hrow hs0
    go_wp2
    go_ret
    exact ⟨rfl, ⟨_, HR.out⟩, hB6⟩
  · refine (if_pos (by rfl)).mpr ?_
    refine wp_buildSlice 40 50 1 _ (by rfl) cs i0 zero50 Try.underlying40 hi hz0 (by rw [hz1]; decide) (by rw [hz1]; decide) ?_ ?_
    · exact fill50 cs hc i0 hz1 zero50 _ (by simp [Act.eval])
    refine hK.out _ _ ((heap_alloc_old _ _ (by show w.heap.size < (w.heap.push _).size; simp)).trans hs0) (fun _ => ?_)
    clear hK K
    try simp only [Act.put, List.setIfInBounds_toArray, List.set_cons_zero, List.set_cons_succ]
    refine wpAnyH_ready (rs := [5]) (by kernel_rfl) (by simp) ?_
    refine AllReadyH.cons rfl (fun K hK => ?_) AllReadyH.nil
    have hcell2 : ((w.alloc (.cells cs 50)).drew.alloc (.cells cs 50)).cell? ⟨p, 0, none⟩ = some v :=
      (World.cell?_alloc_lt _ _ _ (by show p < (w.heap.push _).size; simp; omega)).trans hcell
    go_simp
    refine hK.out _ _ ((heap_alloc_old _ _ (by show w.heap.size < (w.heap.push _).size; simp)).trans hs0) (fun _ => ?_)
    clear hK K
    try simp only [Act.put, List.setIfInBounds_toArray, List.set_cons_zero, List.set_cons_succ]
    show wpAnyH _ _ _ _ _ _ _ _ ((w.alloc (.cells cs 50)).drew.alloc (.cells cs 50))
    refine wpAnyH_ready (rs := [8]) (by kernel_rfl) (by simp) ?_
    refine AllReadyH.cons rfl (fun K hK => ?_) AllReadyH.nil
    have e1 : ((w.alloc (.cells cs 50)).drew.alloc (.cells cs 50)).heap.size = w.heap.size + 2 := by
      show ((w.heap.push _).push _).size = _
      rw [Array.size_push, Array.size_push]
    have hnew : ((w.alloc (.cells cs 50)).drew.alloc (.cells cs 50)).heap[w.heap.size + 1]? = some (.cells cs 50 (0, 0)) := by
      have := heap_alloc_new (w.alloc (.cells cs 50)).drew (.cells cs 50)
      rwa [show (w.alloc (.cells cs 50)).drew.heap.size = w.heap.size + 1 by show (w.heap.push _).size = _; simp] at this
    refine step_append_lies _ (by rfl) _ _ 40 (by rfl) (p + 1) 50 i0 zero50 258 272 Try.underlying40 hi hz0 hz1 hz2 rfl (by decide) v n xs (by rfl) ((hown.alloc (.cells cs 50)).alloc (.cells cs 50)) ⟨w.heap.size + 1, 0, none⟩ 1 1 cs.toList (by rfl) (by rw [Array.length_toList, hc])
      (World.news_of_block hnew) h1 (by omega) (by simp only [maxLen]; omega) (by omega) (by rw [e1]; omega) (w.heap.size + 2) e1 ?_
    intro g cap w5 hown5 hgrow5 hat hlt5
    have hS5 : w5.heap[w.heap.size]? = some (.cells cs 50 (0, 0)) := by
      rw [hgrow5.block w.heap.size (by rw [e1]; omega) (fun e => by have := (hown.lt _ e.symm).2; omega)]
      exact (heap_alloc_old _ _ (by show w.heap.size < (w.heap.push _).size; simp)).trans hs0
    have hold5 : ∀ k, k < w.heap.size → v.ownBlock ≠ some k → w5.heap[k]? = w.heap[k]? := fun k hk hne => by
      rw [hgrow5.block k (by rw [e1]; omega) (fun e => hne e.symm)]
      exact (heap_alloc_old (w.alloc (.cells cs 50)).drew (.cells cs 50) (by show k < (w.heap.push _).size; simp; omega)).trans (heap_alloc_old w _ hk)
    have hbl5 : w5.heap[p]? = some (.cells (R.cellsOf s v) 44 (0, 0)) := (hold5 p hp hpB).trans HR0.out.blk
    have hc5 : w5.cell? ⟨p, 0, none⟩ = some v := cell_of_row w5 p 0 _ 44 (0, 0) hbl5
    have hz5 : w5.frozen? ⟨p, 0, none⟩ = false := frozen_of_row w5 p 0 _ 44 hbl5
    refine hK.out _ _ hS5 (fun _ => ?_)
    clear hK K
    try simp only [Act.put, List.setIfInBounds_toArray, List.set_cons_zero, List.set_cons_succ]
    refine wpAnyH_ready (rs := [9]) (by kernel_rfl) (by simp) ?_
    refine AllReadyH.cons rfl (fun K hK => ?_) AllReadyH.nil
    go_simp
    refine hK.out _ _ hS5 (fun _ => ?_)
    clear hK K
    try simp only [Act.put, List.setIfInBounds_toArray, List.set_cons_zero, List.set_cons_succ]
    refine wpAnyH_ready (rs := [10]) (by kernel_rfl) (by simp) ?_
    refine AllReadyH.cons rfl (fun K hK => ?_) AllReadyH.nil
    go_simp
    refine hK.out _ _ hS5 (fun _ => ?_)
    clear hK K
    try simp only [Act.put, List.setIfInBounds_toArray, List.set_cons_zero, List.set_cons_succ]
    refine wpAnyH_ready (rs := [11]) (by kernel_rfl) (by simp) ?_
    refine AllReadyH.cons rfl (fun K hK => ?_) AllReadyH.nil
    go_simp
    refine hK.out _ _ hS5 (fun _ => ?_)
    clear hK K
    try simp only [Act.put, List.setIfInBounds_toArray, List.set_cons_zero, List.set_cons_succ]
    refine wpAnyH_ready (rs := [12]) (by kernel_rfl) (by simp) ?_
    refine AllReadyH.cons rfl (fun K hK => ?_) AllReadyH.nil
    have hg : p + 1 ≤ g := by
      rcases hat with h | h
      · exact (hown.lt g h).1
      · omega
    have hS6 : (w5.setCell ⟨p, 0, none⟩ (.slice (some ⟨g, 0, none⟩) (n + 1) cap)).heap[w.heap.size]? = some (.cells cs 50 (0, 0)) := by
      rw [heap_setCell_other _ _ _ _ (by show w.heap.size ≠ p; omega)]
      exact hS5
    have hb6 : (w5.setCell ⟨p, 0, none⟩ (.slice (some ⟨g, 0, none⟩) (n + 1) cap)).heap[p]? = some (.cells ((R.add st).cellsOf s (.slice (some ⟨g, 0, none⟩) (n + 1) cap)) 44 (0, 0)) := heap_setCell_same w5 p 0 _ 44 _ hbl5
    have hR6 : RV (w5.setCell ⟨p, 0, none⟩ (.slice (some ⟨g, 0, none⟩) (n + 1) cap)) p s (R.add st) (.slice (some ⟨g, 0, none⟩) (n + 1) cap) := by
      refine ⟨hb6, ?_, ?_⟩
      · have e2 : (R.add st).l.length = n + 1 := by rw [HN.out]; simp [Rdr.add]
        have e3 : stepVals (R.add st).l = xs ++ cs.toList := by rw [HX.out, HC.out]; exact stepVals_add _ _
        rw [e2, e3]
        exact ownsRow_setCell_below hown5 (by show p < p + 1; omega) _
      · intro x hx
        rcases List.mem_append.1 hx with h | h
        · exact HR0.out.len x h
        · rw [List.mem_singleton.1 h]; exact hst
    have hB6 : Below p w (w5.setCell ⟨p, 0, none⟩ (.slice (some ⟨g, 0, none⟩) (n + 1) cap)) := by
      have hz : ∀ (w' : World), w'.os = w.os → w'.tape = w.tape → w'.output = w.output → w.heap.size ≤ w'.heap.size → (∀ k, k < p → w'.heap[k]? = w.heap[k]?) → Below p w w' := fun w' a b c d e => ⟨a, b, c, d, e⟩
      refine Below.setCell (p := ⟨p, 0, none⟩) (hz w5 hgrow5.os hgrow5.tape hgrow5.output (Nat.le_trans (by rw [e1]; omega) hgrow5.size) (fun k hk => hold5 k (by omega) (fun e => ?_))) (Nat.le_refl _) _
      have := (hown.lt k e).1
      omega
    go_simp
    refine hK.out _ _ hS6 (fun _ => ?_)
    clear hK K
    try simp only [Act.put, List.setIfInBounds_toArray, List.set_cons_zero, List.set_cons_succ]
    refine wpAnyH_done (by kernel_rfl) ?_ _
    generalize (w5.setCell ⟨p, 0, none⟩ (.slice (some ⟨g, 0, none⟩) (n + 1) cap)) = w6 at hS6 hb6 hR6 hB6
    have hc6 : w6.cell? ⟨p, 0, none⟩ = some (.slice (some ⟨g, 0, none⟩) (n + 1) cap) := cell_of_row w6 p 0 _ 44 (0, 0) hb6
    have HR := Lib.hid hR6
    clear hR6 hb6 hS6 hS5 hcell hrow hs0
    go_wp2
    go_ret
    exact ⟨rfl, ⟨_, HR.out⟩, hB6⟩
theorem add_any (p : Nat) (w : World) (s : ByteArray) (R : Rdr) (st : Stp) (hst : st.has.length = 256) (hR : RA w p s R) (hnn : R.l.length ≤ 100000) (cs : Array Value) (hcs : cs.toList = st.vals) :
    Calls Try.prog 13 #[.pointer (some ⟨p, 0, none⟩), .agg cs] w fun e w' => e = .returned (.int .i64 (R.l.length : Nat)) ∧ RA w' p s (R.add st) ∧ Below p w w' := by
  obtain ⟨v, hR⟩ := hR
  exact add_raw p w s R st hst v hR hnn cs hcs
end Go.Proofs.Ytnhlinkkfoojmaa
