/- Steps in a row: their cells, what turns in it; copy, load and store of whole steps. -/
import Derived.Test.YtnhlinkkfoojmaaTools
import Derived.Laws.CopyRow
namespace Go.Proofs.Ytnhlinkkfoojmaa
open Go.RowKit
set_option maxRecDepth 100000
set_option linter.unusedSimpArgs false
set_option linter.unusedVariables false
abbrev Sets (l : List Stp) : Prop := ∀ x ∈ l, x.has.length = 256
theorem stepVals_cons (x : Stp) (l : List Stp) : stepVals (x :: l) = x.vals ++ stepVals l := rfl
theorem stepVals_append (a b : List Stp) : stepVals (a ++ b) = stepVals a ++ stepVals b := by simp [stepVals]
theorem stepVals_length : ∀ (l : List Stp), Sets l → (stepVals l).length = l.length * 258
  | [], _ => rfl
  | x :: l, h => by
    rw [stepVals_cons, List.length_append, x.vals_length (h x (by simp)), stepVals_length l (fun y hy => h y (by simp [hy])), List.length_cons]
    omega
theorem stepVals_get : ∀ (l : List Stp) (h : Sets l) (k j : Nat) (hk : k < l.length) (hj : j < 258), (stepVals l)[k * 258 + j]? = (l[k].vals)[j]?
  | x :: l, h, 0, j, hk, hj => by
    rw [stepVals_cons, Nat.zero_mul, Nat.zero_add, List.getElem?_append_left (by rw [x.vals_length (h x (by simp))]; exact hj)]
    rfl
  | x :: l, h, k + 1, j, hk, hj => by
    rw [stepVals_cons, List.getElem?_append_right (by rw [x.vals_length (h x (by simp))]; omega), x.vals_length (h x (by simp))]
    rw [show (k + 1) * 258 + j - 258 = k * 258 + j by omega, stepVals_get l (fun y hy => h y (by simp [hy])) k j (by simpa using hk) hj]
    rfl
theorem stepVals_take : ∀ (l : List Stp) (h : Sets l) (k : Nat), (stepVals l).take (k * 258) = stepVals (l.take k)
  | [], _, k => by simp [stepVals]
  | x :: l, h, 0 => by simp [stepVals]
  | x :: l, h, k + 1 => by
    have hx := x.vals_length (h x (by simp))
    rw [stepVals_cons, List.take_succ_cons, stepVals_cons, ← stepVals_take l (fun y hy => h y (by simp [hy])) k, show (k + 1) * 258 = x.vals.length + k * 258 by rw [hx]; omega]
    rw [List.take_length_add_append]
theorem stepVals_drop : ∀ (l : List Stp) (h : Sets l) (k : Nat), (stepVals l).drop (k * 258) = stepVals (l.drop k)
  | [], _, k => by simp [stepVals]
  | x :: l, h, 0 => by simp
  | x :: l, h, k + 1 => by
    have hx := x.vals_length (h x (by simp))
    rw [stepVals_cons, List.drop_succ_cons, ← stepVals_drop l (fun y hy => h y (by simp [hy])) k, show (k + 1) * 258 = x.vals.length + k * 258 by rw [hx]; omega]
    rw [List.drop_length_add_append]
theorem stepVals_set : ∀ (l : List Stp) (h : Sets l) (k j : Nat) (hk : k < l.length) (hj : j < 258) (u : Value) (y : Stp), l[k].vals.set j u = y.vals → (stepVals l).set (k * 258 + j) u = stepVals (l.set k y)
  | x :: l, h, 0, j, hk, hj, u, y, hy => by
    rw [stepVals_cons, Nat.zero_mul, Nat.zero_add, List.set_append_left _ _ (by rw [x.vals_length (h x (by simp))]; exact hj), List.set_cons_zero, stepVals_cons]
    congr 1
  | x :: l, h, k + 1, j, hk, hj, u, y, hy => by
    rw [stepVals_cons, List.set_append_right _ _ (by rw [x.vals_length (h x (by simp))]; omega), x.vals_length (h x (by simp)), List.set_cons_succ, stepVals_cons]
    rw [show (k + 1) * 258 + j - 258 = k * 258 + j by omega, stepVals_set l (fun y hy => h y (by simp [hy])) k j (by simpa using hk) hj u y hy]
theorem Stp.vals_kind (x : Stp) (h : x.has.length = 256) : x.vals[256]? = some (.int .i64 (x.kind : Nat)) := by
  simp [Stp.vals, List.getElem?_append, h]
theorem Stp.vals_to (x : Stp) (h : x.has.length = 256) : x.vals[257]? = some (.int .i64 (x.to : Nat)) := by
  simp [Stp.vals, List.getElem?_append, h]
theorem Stp.vals_set_to (x : Stp) (h : x.has.length = 256) (t : Nat) : x.vals.set 257 (.int .i64 (t : Nat)) = ({ x with «to» := t } : Stp).vals := by
  simp [Stp.vals, List.set_append, h]
/-! ### Whole rows at a place -/
section
variable {P : Program}
theorem run_copy_sized (w : World) (dT sT ty elem : TypeId) (sz : Nat) (g o dLen dCap : Nat) (a : Addr) (sLen sCap : Nat) (cur : Array Value) (t : TypeId) (cs : List Value)
    (hu : P.underlying dT = some (.slice elem)) (hs : (P.info? elem).map (·.size) = some sz)
    (hg : w.heap[g]? = some (.cells cur t (0, 0))) (hn : Nat.min sLen dLen * sz = cs.length)
    (hsrc : ∀ j v, cs[j]? = some v → w.cell? (a.add j) = some v) (hfit : o + cs.length ≤ cur.size) (h1 : ∀ v ∈ cs, v.oneCell' = true) :
    (Builtin.copy_ #[dT, sT] ty #[.slice (some ⟨g, o, none⟩) dLen dCap, .slice (some a) sLen sCap]).run P w =
      .ok (goInt (Nat.min sLen dLen : Nat)) (w.setRow g (cur.toList.take o ++ cs ++ cur.toList.drop (o + cs.length)).toArray) := by
  have hl := run_loadCells_list (P := P) w a cs hsrc
  have hst := run_storeCells_at P g o t cs 0 cur w hg (by simpa using hfit) h1
  cases hq : P.info? elem with
  | none => simp [hq] at hs
  | some i =>
    have hi : i.size = sz := by simpa [hq] using hs
    simp [Builtin.copy_, run_underlying hu, Builtin.lenOf, Builtin.firstCells, sizeOf, typeInfo, hq, hi, hn, hl, hst]
theorem run_loadVar_at (w : World) (g o : Nat) (ty : TypeId) (cs : List Value) (d : TypeDesc) (hc : ∀ j v, cs[j]? = some v → w.cell? ⟨g, o + j, none⟩ = some v)
    (hu : P.underlying ty = some d) (hd : (match d with | .struct _ | .array _ _ => true | _ => false) = true) (hi : (P.info? ty).map (·.size) = some cs.length) :
    (loadVar ty ⟨g, o, none⟩).run P w = .ok (.agg cs.toArray) w := by
  have hl : (loadCells ⟨g, o, none⟩ cs.length).run P w = .ok cs.toArray w :=
    run_loadCells_list (P := P) w ⟨g, o, none⟩ cs (fun j v hv => by
      have hadd : (⟨g, o, none⟩ : Addr).add j = ⟨g, o + j, none⟩ := by unfold Addr.add; split <;> simp_all
      rw [hadd]
      exact hc j v hv)
  cases hq : P.info? ty with
  | none => simp [hq] at hi
  | some i =>
    have hs : i.size = cs.length := by simpa [hq] using hi
    have hagg : (isAgg ty).run P w = .ok true w := by
      unfold isAgg
      rw [Sem.run_bind, run_underlying hu w]
      cases d <;> simp_all
    simp [loadVar, Sem.run_bind, hagg, sizeOf, typeInfo, hq, hs, hl]
theorem run_storeVar_at (w : World) (g o : Nat) (t ty : TypeId) (cur : Array Value) (cs : List Value) (hg : w.heap[g]? = some (.cells cur t (0, 0))) (hi : (P.info? ty).map (·.size) = some cs.length)
    (hfit : o + cs.length ≤ cur.size) (h1 : ∀ v ∈ cs, v.oneCell' = true) :
    (storeVar ty ⟨g, o, none⟩ (.agg cs.toArray)).run P w = .ok () (w.setRow g (cur.toList.take o ++ cs ++ cur.toList.drop (o + cs.length)).toArray) := by
  have hst := run_storeCells_at P g o t cs 0 cur w hg (by simpa using hfit) h1
  cases hq : P.info? ty with
  | none => simp [hq] at hi
  | some i =>
    have hs : i.size = cs.length := by simpa [hq] using hi
    simp [storeVar, sizeOf, typeInfo, hq, hs, hst, Value.cells]
end
/-- The row in which the reader's steps lie. -/
structure RW (w : World) (p : Nat) (s : ByteArray) (r : Rdr) (g cap : Nat) (cur : Array Value) : Prop where
  rv : RV w p s r (.slice (some ⟨g, 0, none⟩) r.l.length cap)
  lt : p < g
  blk : w.heap[g]? = some (.cells cur 50 (0, 0))
  le : r.l.length ≤ cap
  max : cap ≤ maxLen
  size : cur.size = cap * 258
  take : cur.toList.take (r.l.length * 258) = stepVals r.l
section
variable {w w' : World} {p : Nat} {s : ByteArray} {r : Rdr} {v : Value} {g cap : Nat} {cur : Array Value}
theorem RV.row (h : RV w p s r v) (hn : 0 < r.l.length) : ∃ g cap cur, v = .slice (some ⟨g, 0, none⟩) r.l.length cap ∧ RW w p s r g cap cur := by
  rcases h.own.2 with ⟨rfl, h0⟩ | ⟨g, cap, cur, rfl, hb, hg, hle, hmax, hsz, htk⟩
  · rw [h0] at hn; exact absurd hn (by omega)
  · exact ⟨g, cap, cur, rfl, h, by omega, hg, hle, hmax, hsz, htk⟩
theorem RW.cell (h : RW w p s r g cap cur) (k j : Nat) (hk : k < r.l.length) (hj : j < 258) : w.cell? ⟨g, k * 258 + j, none⟩ = (r.l[k].vals)[j]? := by
  have h1 : k * 258 + j < r.l.length * 258 := by omega
  rw [cell_of_row w g _ cur 50 (0, 0) h.blk, ← stepVals_get r.l h.rv.len k j hk hj, ← h.take, List.getElem?_take, if_pos h1]
  simp
theorem RW.kind (h : RW w p s r g cap cur) (k : Nat) (hk : k < r.l.length) : w.cell? ⟨g, k * 258 + 256, none⟩ = some (.int .i64 ((r.l.getD k default).kind : Nat)) := by
  rw [h.cell k 256 hk (by omega), Stp.vals_kind _ (h.rv.len _ (List.getElem_mem hk))]
  simp [hk]
theorem RW.to (h : RW w p s r g cap cur) (k : Nat) (hk : k < r.l.length) : w.cell? ⟨g, k * 258 + 257, none⟩ = some (.int .i64 ((r.l.getD k default).to : Nat)) := by
  rw [h.cell k 257 hk (by omega), Stp.vals_to _ (h.rv.len _ (List.getElem_mem hk))]
  simp [hk]
theorem RW.bit (h : RW w p s r g cap cur) (k c : Nat) (hk : k < r.l.length) (hc : c < 256) : w.cell? ⟨g, k * 258 + c, none⟩ = some (.bool ((r.l.getD k default).has.getD c false)) := by
  rw [h.cell k c hk (by omega)]
  have := Stp.vals_at _ (h.rv.len _ (List.getElem_mem hk)) c hc
  rw [List.getElem?_toArray] at this
  rw [this]
  simp [hk]
theorem RW.froz (h : RW w p s r g cap cur) (j : Nat) : w.frozen? ⟨g, j, none⟩ = false := frozen_of_row w g j cur 50 h.blk
/-- The row turns: other steps, as many. -/
theorem RW.turn (h : RW w p s r g cap cur) (cs : Array Value) (hcs : cs.size = cur.size) (l' : List Stp) (hl : l'.length = r.l.length) (hset : Sets l') (ht : cs.toList.take (r.l.length * 258) = stepVals l') :
    RW (w.setRow g cs) p s { r with l := l' } g cap cs ∧ Below p w (w.setRow g cs) := by
  have hb : (w.setRow g cs).heap[g]? = some (.cells cs 50 (0, 0)) := setRow_heap w g cur cs 50 (0, 0) h.blk
  have e : ({ r with l := l' } : Rdr).l.length = r.l.length := hl
  refine ⟨⟨⟨?_, ⟨by rw [stepVals_length _ hset], .inr ⟨g, cap, cs, rfl, by have := h.lt; omega, hb, by rw [e]; exact h.le, h.max, by rw [hcs]; exact h.size, by rw [e]; exact ht⟩⟩, hset⟩, h.lt, hb, by rw [e]; exact h.le, h.max, by rw [hcs]; exact h.size, by rw [e]; exact ht⟩, ?_⟩
  · rw [setRow_other w g p cs (by have := h.lt; omega), h.rv.blk]
    have : r.cellsOf s (.slice (some ⟨g, 0, none⟩) r.l.length cap) = ({ r with l := l' } : Rdr).cellsOf s (.slice (some ⟨g, 0, none⟩) ({ r with l := l' } : Rdr).l.length cap) := by rw [e]; rfl
    rw [this]
  · exact ⟨rfl, rfl, rfl, by simp [World.setRow], fun k hk => setRow_other w g k cs (by have := h.lt; omega)⟩
/-- One cell of one step turns. -/
theorem RW.turn1 (h : RW w p s r g cap cur) (k j : Nat) (hk : k < r.l.length) (hj : j < 258) (u : Value) (y : Stp) (hy : (r.l[k].vals).set j u = y.vals) (hyl : y.has.length = 256) :
    RW (w.setCell ⟨g, k * 258 + j, none⟩ u) p s { r with l := r.l.set k y } g cap (cur.setIfInBounds (k * 258 + j) u) ∧ Below p w (w.setCell ⟨g, k * 258 + j, none⟩ u) := by
  rw [setCell_eq_setRow w g (k * 258 + j) cur 50 (0, 0) u h.blk]
  refine h.turn _ (by simp) _ (by simp) ?_ ?_
  · intro x hx
    rcases List.mem_or_eq_of_mem_set hx with hx | rfl
    · exact h.rv.len x hx
    · exact hyl
  · rw [Array.toList_setIfInBounds, ← stepVals_set r.l h.rv.len k j hk hj u y hy, ← h.take, List.take_set]
theorem RW.turn_to (h : RW w p s r g cap cur) (k : Nat) (hk : k < r.l.length) (t : Nat) :
    RW (w.setCell ⟨g, k * 258 + 257, none⟩ (.int .i64 (t : Nat))) p s { r with l := r.l.set k { r.l.getD k default with «to» := t } } g cap (cur.setIfInBounds (k * 258 + 257) (.int .i64 (t : Nat))) ∧ Below p w (w.setCell ⟨g, k * 258 + 257, none⟩ (.int .i64 (t : Nat))) := by
  have e : r.l.getD k default = r.l[k] := by simp [hk]
  have hl := h.rv.len _ (List.getElem_mem hk)
  rw [e]
  exact h.turn1 k 257 hk (by omega) _ _ (Stp.vals_set_to _ hl t) hl
/-- A whole step is stored at its place. -/
theorem RW.run_put (h : RW w p s r g cap cur) (k : Nat) (hk : k < r.l.length) (y : Stp) (hyl : y.has.length = 256) :
    ∃ cs, (storeVar 50 ⟨g, k * 258, none⟩ (.agg y.vals.toArray)).run Try.prog w = .ok () (w.setRow g cs) ∧ RW (w.setRow g cs) p s { r with l := r.l.set k y } g cap cs ∧ Below p w (w.setRow g cs) := by
  have hy := y.vals_length hyl
  have hfit : k * 258 + y.vals.length ≤ cur.size := by rw [hy, h.size]; have := h.le; omega
  refine ⟨_, run_storeVar_at w g (k * 258) 50 50 cur y.vals h.blk (size50.trans (by rw [hy])) hfit y.vals_one, ?_⟩
  refine h.turn _ ?_ _ (by simp) ?_ ?_
  · simp; omega
  · intro x hx
    rcases List.mem_or_eq_of_mem_set hx with hx | rfl
    · exact h.rv.len x hx
    · exact hyl
  · have hcl : cur.toList.length = cap * 258 := by rw [Array.length_toList, h.size]
    have hle := h.le
    apply List.ext_getElem?
    intro i
    by_cases hi : i < r.l.length * 258
    · rw [List.getElem?_take, if_pos hi]
      obtain ⟨q, j, hj, rfl⟩ : ∃ q j, j < 258 ∧ i = q * 258 + j := ⟨i / 258, i % 258, Nat.mod_lt _ (by omega), by omega⟩
      have hq : q < r.l.length := by omega
      have hset2 : Sets (r.l.set k y) := by
        intro x hx
        rcases List.mem_or_eq_of_mem_set hx with hx | rfl
        · exact h.rv.len x hx
        · exact hyl
      rw [stepVals_get _ hset2 q j (by simpa using hq) hj]
      simp only [List.toList_toArray]
      rcases Nat.lt_trichotomy q k with hqk | rfl | hqk
      · rw [List.append_assoc, List.getElem?_append_left (by rw [List.length_take, hcl]; omega), List.getElem?_take, if_pos (by omega)]
        have := stepVals_get r.l h.rv.len q j hq hj
        rw [← h.take, List.getElem?_take, if_pos hi] at this
        rw [this, List.getElem_set_ne (by omega)]
      · rw [List.append_assoc, List.getElem?_append_right (by rw [List.length_take, hcl]; omega), List.getElem?_append_left (by rw [List.length_take, hcl, hy]; omega), List.length_take, hcl, List.getElem_set_self]
        congr 1
        omega
      · rw [List.getElem?_append_right (by rw [List.length_append, List.length_take, hcl, hy]; omega), List.getElem?_drop, List.length_append, List.length_take, hcl, hy]
        have := stepVals_get r.l h.rv.len q j hq hj
        rw [← h.take, List.getElem?_take, if_pos hi] at this
        rw [List.getElem_set_ne (by omega), ← this]
        congr 1
        omega
    · rw [List.getElem?_eq_none (by rw [List.length_take]; omega), List.getElem?_eq_none]
      rw [stepVals_length]
      · rw [List.length_set]; omega
      · intro x hx
        rcases List.mem_or_eq_of_mem_set hx with hx | rfl
        · exact h.rv.len x hx
        · exact hyl
/-- A whole step is loaded from its place. -/
theorem RW.run_get (h : RW w p s r g cap cur) (k : Nat) (hk : k < r.l.length) : (loadVar 50 ⟨g, k * 258, none⟩).run Try.prog w = .ok (.agg (r.l.getD k default).vals.toArray) w := by
  have e : r.l.getD k default = r.l[k] := by simp [hk]
  have hl := h.rv.len _ (List.getElem_mem hk)
  rw [e]
  refine run_loadVar_at w g (k * 258) 50 _ _ (fun j u hu => ?_) Try.underlying50 rfl (size50.trans (by rw [Stp.vals_length _ hl]))
  have hj : j < 258 := by
    have := (List.getElem?_eq_some_iff.1 hu).1
    rwa [Stp.vals_length _ hl] at this
  rw [h.cell k j hk hj]
  exact hu
end
end Go.Proofs.Ytnhlinkkfoojmaa
