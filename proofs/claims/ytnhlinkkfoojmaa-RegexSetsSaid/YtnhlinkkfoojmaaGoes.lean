/- By which steps one goes on: the walk of goesOn. -/
import Derived.Test.YtnhlinkkfoojmaaCompile
namespace Go.Proofs.Ytnhlinkkfoojmaa
open Go.RowKit
set_option maxRecDepth 100000
set_option linter.unusedSimpArgs false
set_option linter.unusedVariables false
/-- A compiled expression, all of it below G: the ground on which the search stands. -/
structure SG (w : World) (p G : Nat) (l : List Stp) (n g cap : Nat) : Prop where
  ex : ∃ s r cur, RW w p s r g cap cur ∧ r.l = l ∧ r.groups = n
  hp : p < G
  hg : g < G
section
variable {w w' : World} {p G : Nat} {l : List Stp} {n g cap : Nat}
theorem SG.below (h : SG w p G l n g cap) (hB : Below G w w') : SG w' p G l n g cap := by
  obtain ⟨⟨s, r, cur, hw, hl, hn⟩, hp, hg⟩ := h
  refine ⟨⟨s, r, cur, ⟨hw.rv.grown fun k _ hk => hB.block k ?_, hw.lt, (hB.block g hg).trans hw.blk, hw.le, hw.max, hw.size, hw.take⟩, hl, hn⟩, hp, hg⟩
  rcases hk with rfl | hk
  · exact hp
  · simp [Value.ownBlock] at hk; omega
theorem SG.same (h : SG w p G l n g cap) (k : Same w w') : SG w' p G l n g cap := h.below (k.below G)
theorem SG.mono (h : SG w p G l n g cap) {G' : Nat} (hG : G ≤ G') : SG w p G' l n g cap := ⟨h.ex, Nat.lt_of_lt_of_le h.hp hG, Nat.lt_of_lt_of_le h.hg hG⟩
theorem SG.c0 (h : SG w p G l n g cap) : w.cell? ⟨p, 0, none⟩ = some (.slice (some ⟨g, 0, none⟩) l.length cap) := by
  obtain ⟨⟨s, r, cur, hw, rfl, hn⟩, hp, hg⟩ := h
  exact hw.rv.c0
theorem SG.c1 (h : SG w p G l n g cap) : w.cell? ⟨p, 1, none⟩ = some (.int .i64 (n : Nat)) := by
  obtain ⟨⟨s, r, cur, hw, hl, rfl⟩, hp, hg⟩ := h
  exact hw.rv.c1
theorem SG.le (h : SG w p G l n g cap) : l.length ≤ cap := by
  obtain ⟨⟨s, r, cur, hw, rfl, hn⟩, hp, hg⟩ := h
  exact hw.le
theorem SG.sets (h : SG w p G l n g cap) : Sets l := by
  obtain ⟨⟨s, r, cur, hw, rfl, hn⟩, hp, hg⟩ := h
  exact hw.rv.len
theorem SG.kind (h : SG w p G l n g cap) (k : Nat) (hk : k < l.length) : w.cell? ⟨g, k * 258 + 256, none⟩ = some (.int .i64 ((l.getD k default).kind : Nat)) := by
  obtain ⟨⟨s, r, cur, hw, rfl, hn⟩, hp, hg⟩ := h
  exact hw.kind k hk
theorem SG.bit (h : SG w p G l n g cap) (k c : Nat) (hk : k < l.length) (hc : c < 256) : w.cell? ⟨g, k * 258 + c, none⟩ = some (.bool ((l.getD k default).has.getD c false)) := by
  obtain ⟨⟨s, r, cur, hw, rfl, hn⟩, hp, hg⟩ := h
  exact hw.bit k c hk hc
theorem SG.get (h : SG w p G l n g cap) (k : Nat) (hk : k < l.length) : (loadVar 50 ⟨g, k * 258, none⟩).run Try.prog w = .ok (.agg (l.getD k default).vals.toArray) w := by
  obtain ⟨⟨s, r, cur, hw, rfl, hn⟩, hp, hg⟩ := h
  exact hw.run_get k hk
theorem SG.has (h : SG w p G l n g cap) (k : Nat) (hk : k < l.length) : (l.getD k default).has.length = 256 := by
  have e : l.getD k default = l[k] := by simp [hk]
  rw [e]; exact h.sets _ (List.getElem_mem hk)
end
/-- A step is taken out of the row into a variable of the call's own. -/
theorem wpList_take50 {ops : Array Oper} {rest : List Oper} {o1 o2 o3 : Oper} {a : Act} {w : World} {Q : Exit → Act → World → Prop} (g1 : o1.guard = none) (g2 : o2.guard = none) (g3 : o3.guard = none)
    (d1 d2 : Nat) (x : Operand) (h1 : o1.op = .load 50 x) (h1d : o1.dst = some d1) (h2 : o2.op = .alloc 50) (h2d : o2.dst = some d2) (h3 : o3.op = .store 50 (.tmp d2) (.tmp d1)) (h3d : o3.dst = none)
    (ad : Addr) (hx : a.eval x = .pointer (some ad)) (st : Stp) (hst : st.has.length = 256) (hrun : (loadVar 50 ad).run Try.prog w = .ok (.agg st.vals.toArray) w) (hlt : d1 < a.tmps.size) (hlt2 : d2 < a.tmps.size) (hne : d2 ≠ d1)
    (h : ∀ w1 V0, Hid (V0 = st.vals.toArray) → Hid (w1.heap[w.heap.size]? = some (.cells st.vals.toArray 50 (0, 0))) → Below w.heap.size w w1 → wpList Try.prog ops Q rest ((a.put (some d1) (.agg V0)).put (some d2) (.pointer (some ⟨w.heap.size, 0, none⟩))) w1) :
    wpList Try.prog ops Q (o1 :: o2 :: o3 :: rest) a w := by
  obtain ⟨i0, hi, hz0, hz1, hz2⟩ := info_parts info50
  have hc : st.vals.toArray.size = 258 := by rw [List.size_toArray, Stp.vals_length _ hst]
  have ho : st.vals.toArray.all (·.oneCell') = true := by
    rw [List.all_toArray, List.all_eq_true]
    exact Stp.vals_one _
  refine wpList_plain g1 fun K hK => ?_
  unfold Oper.wp
  simp only [execOp, h1, hx, Instr.loadAt, Instr.sureAddr, Sem.run_bind, Sem.run_pure, Result.andThen_ok, hrun]
  refine hK _ _ ?_
  rw [h1d]
  refine Great.wpList_allocTo g2 (some d2) h2d (.pointer (some ⟨w.heap.size, 0, none⟩)) (.cells zero50.cells 50) ?_ ?_
  · simp [execOp, h2, Sem.run_bind, zeroValue, typeInfo, hi, hz0]
    try rfl
  have hb : (w.alloc (.cells zero50.cells 50)).heap[w.heap.size]? = some (.cells zero50.cells 50 (0, 0)) := heap_alloc_new w _
  refine wpList_store_rowTo g3 50 (.tmp d2) (.tmp d1) h3 h3d w.heap.size st.vals.toArray (by rw [Act.eval_put_same _ _ _ (by rw [Act.size_put]; exact hlt2)]) (by rw [Act.eval_put_ne _ _ _ _ hne, Act.eval_put_same _ _ _ hlt]) 50 zero50.cells hb (size50.trans (by rw [hc])) (by rw [hc]; rfl) ho ?_
  exact h _ _ rfl (setRow_heap _ _ _ _ _ _ hb) (below_setRow ((Below.refl _ w).alloc (Nat.le_refl _) _) (Nat.le_refl _) _)
theorem Stp.arr_kind (x : Stp) (h : x.has.length = 256) : x.vals.toArray[256]? = some (.int .i64 (x.kind : Nat)) := by rw [List.getElem?_toArray]; exact x.vals_kind h
theorem Stp.arr_to (x : Stp) (h : x.has.length = 256) : x.vals.toArray[257]? = some (.int .i64 (x.to : Nat)) := by rw [List.getElem?_toArray]; exact x.vals_to h
/-- A slice of numbers, made by the call. -/
def natVals (ks : List Nat) : Array Value := (ks.map fun (k : Nat) => Value.int .i64 (k : Int)).toArray
def NatsAt (w : World) (B : Nat) (v : Value) (ks : List Nat) : Prop :=
  (ks = [] ∧ v = .slice none 0 0) ∨ ∃ b, v = .slice (some ⟨b, 0, none⟩) ks.length ks.length ∧ B ≤ b ∧ w.heap[b]? = some (.cells (natVals ks) 3 (0, 0))
def goesK (x : Stp) (n at_ size : Nat) : List Nat :=
  if x.kind = 1 then (if 0 < at_ then [] else [n + 1])
  else if x.kind = 2 then (if at_ < size then [] else [n + 1])
  else if x.kind = 3 then [n + 1, x.to]
  else if x.kind = 4 then [x.to]
  else if x.kind = 5 then [n + 1]
  else []
theorem goesOn_K (l : List Stp) (n at_ size : Nat) : goesOn l n at_ size = goesK (l.getD n default) n at_ size := rfl
set_option maxHeartbeats 8000000 in
theorem goesOn_any (w : World) (p G : Nat) (l : List Stp) (n g cap : Nat) (h : SG w p G l n g cap) (hG : G ≤ w.heap.size) (k : Nat) (hk : k < l.length) (hkd : (l.getD k default).kind ≤ 6) (at_ size : Nat) (hl : l.length ≤ 100000) :
    Calls Try.prog 28 #[.pointer (some ⟨p, 0, none⟩), .int .i64 (k : Nat), .int .i64 (at_ : Nat), .int .i64 (size : Nat)] w fun e w' => ∃ v, e = .returned v ∧ NatsAt w' w.heap.size v (goesOn l k at_ size) ∧ Below w.heap.size w w' := by
  have c0 := h.c0
  have hrun := h.get k hk
  have hst := h.has k hk
  rw [goesOn_K]
  obtain ⟨x, hx⟩ : ∃ x, x = l.getD k default := ⟨_, rfl⟩
  rw [← hx] at hrun hst hkd ⊢
  obtain ⟨H, hH⟩ : ∃ H, H = w.heap.size := ⟨_, rfl⟩
  simp only [← hH]
  have HH := Lib.hid hH
  have HR := Lib.hid hrun
  obtain ⟨out, hout⟩ : ∃ o, o = goesK x k at_ size := ⟨_, rfl⟩
  rw [← hout]
  have HO := Lib.hid hout
  have hi1 : decide ((0 : Int) ≤ (k : Int)) = true := decide_eq_true (by omega)
  have hi2 : decide ((k : Int) < (l.length : Int)) = true := decide_eq_true (by omega)
  clear hx hH hrun hout
  go_enter Try.func28, Try.ntmps28
  go_upto_region 2 with (first
    | ((with_reducible refine wpList_take50 rfl rfl rfl 16 9 (.tmp 15) rfl rfl rfl rfl rfl rfl ⟨g, k * 258, none⟩ ?_ x hst HR.out ?_ ?_ ?_ ?_); (rfl); (simp); (simp); (decide);
       intro w1 V0 hV0 hb1 hB1; rw [← HH.out] at hb1 hB1 ⊢))
  have hck : w1.cell? ⟨H, 256, none⟩ = some (.int .i64 (x.kind : Nat)) := (cell_of_row w1 H 256 _ 50 _ hb1.out).trans (x.arr_kind hst)
  have hct : w1.cell? ⟨H, 257, none⟩ = some (.int .i64 (x.to : Nat)) := (cell_of_row w1 H 257 _ 50 _ hb1.out).trans (x.arr_to hst)
  obtain ⟨kd, hkde⟩ : ∃ kd, kd = x.kind := ⟨_, rfl⟩
  rw [← hkde] at hck hkd
  have HKD := Lib.hid hkde
  obtain ⟨tt, htt⟩ : ∃ t, t = x.to := ⟨_, rfl⟩
  rw [← htt] at hct
  have HTT := Lib.hid htt
  have hsz := hB1.size
  rw [← HH.out] at hsz
  have HB1 := Lib.hid hB1
  clear hkde htt hb1 hV0 HR c0 hB1
  have one : ∀ (W : World) (y : Nat), H ≤ W.heap.size → Below H w W → NatsAt (W.alloc (.cells #[Value.int .i64 (y : Int)] 3)) H (.slice (some ⟨W.heap.size, 0, none⟩) 1 1) [y] ∧ Below H w (W.alloc (.cells #[Value.int .i64 (y : Int)] 3)) := fun W y hW hB =>
    ⟨.inr ⟨W.heap.size, rfl, hW, heap_alloc_new W _⟩, hB.alloc hW _⟩
  have two : ∀ (W : World) (y z : Nat), H ≤ W.heap.size → Below H w W → NatsAt (W.alloc (.cells #[Value.int .i64 (y : Int), Value.int .i64 (z : Int)] 3)) H (.slice (some ⟨W.heap.size, 0, none⟩) 2 2) [y, z] ∧ Below H w (W.alloc (.cells #[Value.int .i64 (y : Int), Value.int .i64 (z : Int)] 3)) := fun W y z hW hB =>
    ⟨.inr ⟨W.heap.size, rfl, hW, heap_alloc_new W _⟩, hB.alloc hW _⟩
  have HONE := Lib.hid one
  have HTWO := Lib.hid two
  clear one two
  have ek : ((k : Int) + 1) = ((k + 1 : Nat) : Int) := by omega
  have HEK := Lib.hid ek
  clear ek
  have hcase : kd = 0 ∨ kd = 1 ∨ kd = 2 ∨ kd = 3 ∨ kd = 4 ∨ kd = 5 ∨ kd = 6 := by omega
  rcases hcase with rfl | rfl | rfl | rfl | rfl | rfl | rfl
  · have hon : out = [] := by rw [HO.out, goesK, ← HKD.out]; rfl
    subst hon
    clear HO
    go_wp2_with fail
    go_ret
    exact ⟨_, rfl, .inl ⟨rfl, rfl⟩, HB1.out⟩
  · by_cases ha : 0 < at_
    · have hon : out = [] := by rw [HO.out, goesK, ← HKD.out, if_pos rfl, if_pos ha]
      have hd1 : decide ((at_ : Int) > 0) = true := decide_eq_true (by omega)
      have hd2 : decide (at_ > 0) = true := decide_eq_true ha
      subst hon
      clear HO
      go_wp2_with fail
      go_ret
      exact ⟨_, rfl, .inl ⟨rfl, rfl⟩, HB1.out⟩
    · have hon : out = [k + 1] := by rw [HO.out, goesK, ← HKD.out, if_pos rfl, if_neg ha]
      have hd1 : decide ((at_ : Int) > 0) = false := decide_eq_false (by omega)
      have hd2 : decide (at_ > 0) = false := decide_eq_false ha
      subst hon
      clear HO
      go_wp2_with fail
      go_ret
      rw [HEK.out]
      exact ⟨_, rfl, HONE.out w1 (k + 1) (by omega) HB1.out⟩
  · by_cases ha : at_ < size
    · have hon : out = [] := by rw [HO.out, goesK, ← HKD.out, if_neg (by decide), if_pos rfl, if_pos ha]
      have hd1 : decide ((at_ : Int) < (size : Int)) = true := decide_eq_true (by omega)
      have hd2 : decide (at_ < size) = true := decide_eq_true ha
      subst hon
      clear HO
      go_wp2_with fail
      go_ret
      exact ⟨_, rfl, .inl ⟨rfl, rfl⟩, HB1.out⟩
    · have hon : out = [k + 1] := by rw [HO.out, goesK, ← HKD.out, if_neg (by decide), if_pos rfl, if_neg ha]
      have hd1 : decide ((at_ : Int) < (size : Int)) = false := decide_eq_false (by omega)
      have hd2 : decide (at_ < size) = false := decide_eq_false ha
      subst hon
      clear HO
      go_wp2_with fail
      go_ret
      rw [HEK.out]
      exact ⟨_, rfl, HONE.out w1 (k + 1) (by omega) HB1.out⟩
  · have hon : out = [k + 1, tt] := by rw [HO.out, goesK, ← HKD.out, HTT.out, if_neg (by decide), if_neg (by decide), if_pos rfl]
    subst hon
    clear HO
    go_wp2_with fail
    go_ret
    rw [HEK.out]
    exact ⟨_, rfl, HTWO.out w1 (k + 1) tt (by omega) HB1.out⟩
  · have hon : out = [tt] := by rw [HO.out, goesK, ← HKD.out, HTT.out, if_neg (by decide), if_neg (by decide), if_neg (by decide), if_pos rfl]
    subst hon
    clear HO
    go_wp2_with fail
    go_ret
    exact ⟨_, rfl, HONE.out w1 tt (by omega) HB1.out⟩
  · have hon : out = [k + 1] := by rw [HO.out, goesK, ← HKD.out]; rfl
    subst hon
    clear HO
    go_wp2_with fail
    go_ret
    rw [HEK.out]
    exact ⟨_, rfl, HONE.out w1 (k + 1) (by omega) HB1.out⟩
  · have hon : out = [] := by rw [HO.out, goesK, ← HKD.out]; rfl
    subst hon
    clear HO
    go_wp2_with fail
    go_ret
    exact ⟨_, rfl, .inl ⟨rfl, rfl⟩, HB1.out⟩
end Go.Proofs.Ytnhlinkkfoojmaa
