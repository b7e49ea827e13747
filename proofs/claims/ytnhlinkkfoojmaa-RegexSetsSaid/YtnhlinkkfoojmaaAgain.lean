/- A star: the walk of again. -/
import Derived.Test.YtnhlinkkfoojmaaRows2
import Derived.Test.YtnhlinkkfoojmaaQTail
namespace Go.Proofs.Ytnhlinkkfoojmaa
open Go.RowKit
set_option maxRecDepth 100000
set_option linter.unusedSimpArgs false
set_option linter.unusedVariables false
theorem slice_low (g n cap x : Nat) (y : Int) (hy : y = (x : Nat)) (hx : x < n) (hn : n ≤ cap) (wx : World) :
    (Instr.slice 40 (.slice (some ⟨g, 0, none⟩) n cap) (some (.int .i64 y)) none none).run Try.prog wx = .ok (.slice (some ⟨g, x * 258, none⟩) (n - x) (cap - x)) wx := by
  subst hy
  obtain ⟨i0, hi, hz0, hz1, hz2⟩ := info_parts info50
  rw [run_slice_l (P := Try.prog) wx 40 _ n cap (by rw [Try.underlying40]; rfl) .i64 (x : Int) (by omega) (by omega)]
  show ((sizeOf 50).run Try.prog wx).andThen _ = _
  have hs : (sizeOf 50).run Try.prog wx = .ok 258 wx := by simp [sizeOf, typeInfo, hi, hz1]
  rw [hs]
  show Result.ok (sliced (some ⟨g, 0, none⟩) x n cap 258) wx = _
  unfold sliced
  rw [if_neg (by omega)]
  simp [Addr.add]
  intro h
  exact h.symm
def bump (x : Stp) : Stp := if x.kind = 3 ∨ x.kind = 4 then { x with «to» := x.to + 1 } else x
/-- The steps from a up to k have been seen to. -/
def midL (L : List Stp) (a k : Nat) : List Stp := L.mapIdx fun i x => if a ≤ i ∧ i < k then bump x else x
theorem midL_length (L : List Stp) (a k : Nat) : (midL L a k).length = L.length := by simp [midL]
theorem bump_has (x : Stp) : (bump x).has = x.has := by unfold bump; split <;> rfl
theorem midL_sets (L : List Stp) (a k : Nat) (h : Sets L) : Sets (midL L a k) := by
  intro x hx
  obtain ⟨i, hi, rfl⟩ := List.mem_iff_getElem.1 hx
  simp only [midL, List.getElem_mapIdx]
  have hi2 : i < L.length := by simpa [midL] using hi
  split
  · rw [bump_has]; exact h _ (List.getElem_mem hi2)
  · exact h _ (List.getElem_mem hi2)
theorem midL_start (L : List Stp) (a : Nat) : midL L a a = L := by
  apply List.ext_getElem (by simp [midL])
  intro i h1 h2
  simp only [midL, List.getElem_mapIdx]
  rw [if_neg (by omega)]
theorem midL_get (L : List Stp) (a k : Nat) (hk : k < L.length) : (midL L a k).getD k default = L.getD k default := by
  simp [midL, hk]
theorem midL_step (L : List Stp) (a k : Nat) (ha : a ≤ k) (hk : k < L.length) : (midL L a k).set k (bump (L.getD k default)) = midL L a (k + 1) := by
  apply List.ext_getElem (by simp [midL])
  intro i h1 h2
  have hi : i < L.length := by simpa [midL] using h2
  rw [List.getElem_set]
  by_cases e : k = i
  · subst e
    simp only [midL, List.getElem_mapIdx]
    simp only [if_true]
    rw [if_pos (c := a ≤ k ∧ k < k + 1) ⟨ha, by omega⟩]
    simp [hk]
  · rw [if_neg e]
    simp only [midL, List.getElem_mapIdx]
    by_cases h3 : a ≤ i ∧ i < k
    · rw [if_pos h3, if_pos ⟨h3.1, by omega⟩]
    · rw [if_neg h3, if_neg (by omega)]
theorem midL_skip (L : List Stp) (a k : Nat) (ha : a ≤ k) (hk : k < L.length) (hb : bump (L.getD k default) = L.getD k default) : midL L a k = midL L a (k + 1) := by
  rw [← midL_step L a k ha hk, hb, ← midL_get L a k hk]
  apply List.ext_getElem (by simp [midL])
  intro i h1 h2
  rw [List.getElem_set]
  split
  · subst_vars; simp [midL, hk]
  · rfl
/-- All of a star, in the program's order, is the mirror's. -/
theorem again_of (l : List Stp) (fr : Nat) (hf : fr < l.length) (z : Stp) :
    ((midL ((l ++ [z]).take (fr + 1) ++ l.drop fr) (fr + 1) (l.length + 1)).set fr ⟨noSet, 3, l.length + 2⟩) ++ [⟨noSet, 4, fr⟩] = again l fr := by
  unfold again
  congr 1
  apply List.ext_getElem
  · simp [midL]; omega
  intro i h1 h2
  have hi : i < l.length + 1 := by simp [midL] at h1; omega
  rw [List.getElem_set]
  by_cases e : fr = i
  · subst e
    rw [if_pos rfl, List.getElem_append_left (by simp; omega), List.getElem_append_right (by simp; omega)]
    simp
  · rw [if_neg e]
    simp only [midL, List.getElem_mapIdx]
    by_cases h3 : i < fr
    · rw [if_neg (by omega), List.getElem_append_left (by simp; omega), List.getElem_append_left (by simp; omega), List.getElem_append_left (by simp; omega)]
      simp [List.getElem_append_left, show i < l.length by omega]
    · rw [if_pos ⟨by omega, by omega⟩, List.getElem_append_right (by simp; omega), List.getElem_append_right (by simp; omega)]
      simp only [List.getElem_map, List.getElem_drop, List.length_append, List.length_take, List.length_cons, List.length_nil]
      have e1 : l[fr + (i - min (fr + 1) (l.length + (0 + 1)))]'(by omega) = l[i - 1]'(by omega) := by congr 1; omega
      have e2 : l[fr + (i - (min fr l.length + (0 + 1)))]'(by omega) = l[i - 1]'(by omega) := by congr 1; omega
      rw [e1, e2]
      rfl
theorem RW.row_get {w : World} {p : Nat} {s : ByteArray} {r : Rdr} {g cap : Nat} {cur : Array Value} (h : RW w p s r g cap cur) (i : Nat) (hi : i < r.l.length * 258) : w.cell? ⟨g, i, none⟩ = (stepVals r.l)[i]? := by
  rw [cell_of_row w g _ cur 50 (0, 0) h.blk, ← h.take, List.getElem?_take, if_pos hi]
  simp
theorem RW.run_copy {w : World} {p : Nat} {s : ByteArray} {r : Rdr} {g cap : Nat} {cur : Array Value} (h : RW w p s r g cap cur) (fr : Nat) (hf : fr + 1 < r.l.length) (c1 c2 ty : Nat) :
    ∃ cs, (Builtin.copy_ #[40, 40] ty #[.slice (some ⟨g, (fr + 1) * 258, none⟩) (r.l.length - (fr + 1)) c1, .slice (some ⟨g, fr * 258, none⟩) (r.l.length - fr) c2]).run Try.prog w = .ok (goInt ((r.l.length - (fr + 1) : Nat) : Int)) (w.setRow g cs) ∧
      RW (w.setRow g cs) p s { r with l := r.l.take (fr + 1) ++ (r.l.drop fr).take (r.l.length - (fr + 1)) } g cap cs ∧ Below p w (w.setRow g cs) := by
  obtain ⟨N, hN⟩ : ∃ N, N = r.l.length := ⟨_, rfl⟩
  have hmin : Nat.min (N - fr) (N - (fr + 1)) = N - (fr + 1) := Nat.min_eq_right (by omega)
  have hset : Sets ((r.l.drop fr).take (N - (fr + 1))) := fun x hx => h.rv.len x (List.mem_of_mem_drop (List.mem_of_mem_take hx))
  have hset1 : Sets (r.l.take (fr + 1)) := fun x hx => h.rv.len x (List.mem_of_mem_take hx)
  have hcl : (stepVals ((r.l.drop fr).take (N - (fr + 1)))).length = (N - (fr + 1)) * 258 := by
    rw [stepVals_length _ hset, List.length_take, List.length_drop, ← hN]
    congr 1
    omega
  have hcur : cur.size = cap * 258 := h.size
  have hle := h.le
  rw [← hN] at hle hf
  have hfit : (fr + 1) * 258 + (stepVals ((r.l.drop fr).take (N - (fr + 1)))).length ≤ cur.size := by rw [hcl, hcur]; omega
  rw [← hN]
  have hrun := run_copy_sized (P := Try.prog) w 40 40 ty 50 258 g ((fr + 1) * 258) (N - (fr + 1)) c1 ⟨g, fr * 258, none⟩ (N - fr) c2 cur 50 (stepVals ((r.l.drop fr).take (N - (fr + 1)))) Try.underlying40 size50 h.blk (by rw [hmin, hcl])
    (fun j u hu => ?_) hfit (fun u hu => ?_)
  · rw [hmin] at hrun
    refine ⟨_, hrun, ?_⟩
    refine h.turn _ (by simp; omega) _ ?_ ?_ ?_
    · rw [List.length_append, List.length_take, List.length_take, List.length_drop, ← hN]; omega
    · intro x hx
      rcases List.mem_append.1 hx with hx | hx
      · exact hset1 x hx
      · exact hset x hx
    · rw [stepVals_append, ← stepVals_take r.l h.rv.len, ← h.take, ← hN, List.take_take, Nat.min_eq_left (by omega)]
      simp only [List.toList_toArray]
      rw [List.take_append_of_le_length (by rw [List.length_append, List.length_take, Array.length_toList, hcl, hcur]; omega), List.take_of_length_le (by rw [List.length_append, List.length_take, Array.length_toList, hcl, hcur]; omega)]
  · have hj : j < (N - (fr + 1)) * 258 := by
      have := (List.getElem?_eq_some_iff.1 hu).1
      rwa [hcl] at this
    rw [Addr.add_lit, h.row_get _ (by rw [← hN]; omega), ← hu, ← stepVals_take _ (fun x hx => h.rv.len x (List.mem_of_mem_drop hx)), List.getElem?_take, if_pos hj, ← stepVals_drop r.l h.rv.len, List.getElem?_drop]
  · obtain ⟨x, hx, hu⟩ := List.mem_flatMap.1 hu
    exact x.vals_one u hu
theorem wpQuiet_build_kt {ops : Array Oper} {rest : List Oper} {o : Oper} {a : Act} {C : World → Prop} {Q : Act → Prop} (hgd : o.guard = none) (k : Nat) (x : Operand) (ho : o.op = .build 50 #[(1, .const (.int .i64 k)), (2, x)])
    (t : Nat) (hx : a.eval x = .int .i64 t) (h : wpQuiet Try.prog ops C Q rest (a.put o.dst (.agg (Stp.mk noSet k t).vals.toArray))) : wpQuiet Try.prog ops C Q (o :: rest) a := by
  have hw : Region.wanted o (yielded ops a.tmps) = true := by simp [Region.wanted, hgd]
  refine wpQuiet_step fun K hK => ?_
  rw [if_pos hw]
  refine ⟨_, fun w _ => ?_, hK _ h⟩
  have hb : Try.prog.built 50 ((#[(1, Operand.const (.int .i64 k)), (2, x)] : Array (Nat × Operand)).map fun (i, x) => (i, a.eval x)).toList = some (Stp.mk noSet k t).vals.toArray := by
    rw [Array.toList_map]
    show Try.prog.built 50 [(1, .int .i64 k), (2, a.eval x)] = _
    rw [hx]
    exact built_kt k t
  unfold Oper.quietAt execOp
  simp only [ho, Sem.run_bind, run_build w 50 _ _ hb, Result.andThen_ok]
  exact ⟨rfl, rfl⟩
theorem wpList_store50 {ops : Array Oper} {rest : List Oper} {o : Oper} {a : Act} {w : World} {Q : Exit → Act → World → Prop} (hgd : o.guard = none) (x y : Operand) (ho : o.op = .store 50 x y)
    (ad : Addr) (v : Value) (w' : World) (hx : a.eval x = .pointer (some ad)) (hy : a.eval y = v) (hrun : (storeVar 50 ad v).run Try.prog w = .ok () w')
    (h : wpList Try.prog ops Q rest (a.put o.dst undef) w') : wpList Try.prog ops Q (o :: rest) a w :=
  wpList_plain hgd fun _ hK => by
    unfold Oper.wp execOp
    simp only [ho, hx, hy, Instr.storeAt, Instr.sureAddr, Sem.run_bind, Sem.run_pure, Result.andThen_ok, hrun]
    exact hK _ _ h
theorem wpList_copy_run {ops : Array Oper} {rest : List Oper} {o : Oper} {a : Act} {w : World} {Q : Exit → Act → World → Prop} (hgd : o.guard = none) (d s : Operand) (dT sT : TypeId)
    (ho : o.op = .call { callee := .builtin .copy, args := #[d, s], argTypes := #[dT, sT] }) (x y u : Value) (w' : World) (hd : a.eval d = x) (hs : a.eval s = y)
    (hrun : (Builtin.copy_ #[dT, sT] o.type #[x, y]).run Try.prog w = .ok u w') (h : wpList Try.prog ops Q rest (a.put o.dst u) w') : wpList Try.prog ops Q (o :: rest) a w := by
  refine wpList_plain hgd fun K hK => ?_
  unfold Oper.wp
  simp [execOp, ho, resolve, invoke, builtin, hd, hs, hrun, Result.andThen]
  exact hK _ _ h
set_option maxHeartbeats 8000000 in
theorem again_any (p : Nat) (w : World) (s : ByteArray) (R : Rdr) (fr : Nat) (hR : RA w p s R) (hf : fr < R.l.length) (hnn : R.l.length ≤ 10000) (htos : ∀ x ∈ R.l, x.to ≤ 1000000) :
    Calls Try.prog 19 #[.pointer (some ⟨p, 0, none⟩), .int .i64 (fr : Nat)] w fun e w' => e = .returned (.tuple #[]) ∧ RA w' p s { R with l := again R.l fr } ∧ Below p w w' := by
  have g1 := add_any p w s R ⟨noSet, 0, 0⟩ (by rfl) hR (by omega) _ (List.toList_toArray ..)
  obtain ⟨n, hn⟩ : ∃ n, n = R.l.length := ⟨_, rfl⟩
  rw [← hn] at hf hnn
  have HN := Lib.hid hn
  clear hn
  go_enter Try.func19, Try.ntmps19
  go_upto_region 1 with (first
    | (with_reducible refine wpList_build_0 rfl rfl ?_)
    | (go_at_call 13; ((with_reducible refine g1.mono ?_); rintro e w1 ⟨rfl, hR1, hB1⟩)))
  obtain ⟨R1, hR1e⟩ : ∃ R1, R1 = R.add ⟨noSet, 0, 0⟩ := ⟨_, rfl⟩
  rw [← hR1e] at hR1
  have hlen1 : R1.l.length = n + 1 := by rw [hR1e, HN.out]; simp [Rdr.add]
  obtain ⟨v, hRv⟩ := hR1
  obtain ⟨g, cap, cur, rfl, hW⟩ := hRv.row (by rw [hlen1]; omega)
  have c0 : w1.cell? ⟨p, 0, none⟩ = some (.slice (some ⟨g, 0, none⟩) (n + 1) cap) := by rw [← hlen1]; exact hRv.c0
  have hle : n + 1 ≤ cap := by rw [← hlen1]; exact hW.le
  have hs1 := fun wx => slice_low g (n + 1) cap (fr + 1) ((fr : Int) + 1) (by omega) (by omega) hle wx
  have hs2 := fun wx => slice_low g (n + 1) cap fr (fr : Int) rfl (by omega) hle wx
  have hw1 : IntKind.i64.wrap ((fr : Int) + 1) = (fr : Int) + 1 := IntWalk.i64_in _ (by omega)
  have HE := Lib.hid hR1e
  have HW := Lib.hid hW
  have HL1 := Lib.hid hlen1
  clear hR1e hW hlen1 hRv g1 hR
  refine wp_region_quiet_tail 15 (by kernel_rfl) (by kernel_rfl) ?_
  simp only [List.take_succ_cons, List.take_zero, List.drop_succ_cons, List.drop_zero]
  repeat (go_big_quiet_step (fail))
  refine wpQuiet_nil ?_
  intro _ hw'
  obtain ⟨nq2, hw''⟩ := hw'
  subst hw''
  have hWd : RW (w1.drewN nq2) p s R1 g cap cur := by
    have h := HW.out
    exact ⟨h.rv.same (Same.drew w1 nq2), h.lt, h.blk, h.le, h.max, h.size, h.take⟩
  obtain ⟨cs, hrun, hW2, hB2⟩ := hWd.run_copy fr (by rw [HL1.out]; omega) (cap - (fr + 1)) (cap - fr) 3
  rw [HL1.out] at hrun hW2
  refine wpList_copy_run rfl (.tmp 16) (.tmp 23) 40 40 rfl _ _ (goInt ((n - fr : Nat) : Int)) ((w1.drewN nq2).setRow g cs) rfl rfl ?_ ?_
  · rw [show n + 1 - (fr + 1) = n - fr by omega] at hrun; exact hrun
  obtain ⟨L2, hL2⟩ : ∃ L2, L2 = R1.l.take (fr + 1) ++ (R1.l.drop fr).take (n + 1 - (fr + 1)) := ⟨_, rfl⟩
  rw [← hL2] at hW2
  have hL2e : L2 = (R.l ++ [Stp.mk noSet 0 0]).take (fr + 1) ++ R.l.drop fr := by
    rw [hL2, HE.out]
    show (R.l ++ [Stp.mk noSet 0 0]).take _ ++ List.take _ ((R.l ++ [Stp.mk noSet 0 0]).drop fr) = _
    congr 1
    rw [List.drop_append_of_le_length (by rw [← HN.out]; omega), List.take_append_of_le_length (by rw [List.length_drop, ← HN.out]; omega), List.take_of_length_le (by rw [List.length_drop, ← HN.out]; omega)]
  have hlen2 : L2.length = n + 1 := by
    rw [hL2e, List.length_append, List.length_take, List.length_append, List.length_drop, ← HN.out, List.length_cons, List.length_nil]
    omega
  have hBt := hB1.trans (((Same.drew w1 nq2).below p).trans hB2)
  generalize hw2 : (w1.drewN nq2).setRow g cs = w2 at hW2 hBt
  have H2E := Lib.hid hL2e
  have H2L := Lib.hid hlen2
  have HW2 := Lib.hid hW2
  clear hL2 hL2e hlen2 hrun hB2 hWd hw2 hs1 hs2 hw1 c0 hW2
  go_wp2_with fail
  go_loopw [4, 5] (fun v4 _ wr => ∃ k cur', fr + 1 ≤ k ∧ k ≤ n + 1 ∧ v4 = .int .i64 (k : Nat) ∧ RW wr p s { R1 with l := midL L2 (fr + 1) k } g cap cur' ∧ Below p w wr) (fun v4 _ _ => n + 1 - (intOf v4).toNat)
  case atStart =>
    refine ⟨fr + 1, cs, Nat.le_refl _, by omega, by go_num, ?_, hBt⟩
    rw [midL_start]; exact HW2.out
  case round =>
    obtain ⟨k, cur2, hk1, hk2, rfl, hW3, hB3⟩ := hrel
    have hml : (midL L2 (fr + 1) k).length = n + 1 := by rw [midL_length, H2L.out]
    have c0 : wr.cell? ⟨p, 0, none⟩ = some (.slice (some ⟨g, 0, none⟩) (n + 1) cap) := by
      rw [← hml]; exact hW3.rv.c0
    have HML := Lib.hid hml
    have HW3 := Lib.hid hW3
    clear hml hW3
    by_cases hkn : k < n + 1
    · have hd : decide ((k : Int) < ((n + 1 : Nat) : Int)) = true := decide_eq_true (by omega)
      have hd2 : decide ((k : Int) < (n : Int) + 1) = true := decide_eq_true (by omega)
      have hi1 : decide ((0 : Int) ≤ (k : Int)) = true := decide_eq_true (by omega)
      have hck := HW3.out.kind k (by show k < (midL _ _ _).length; rw [HML.out]; exact hkn)
      have hct := HW3.out.to k (by show k < (midL _ _ _).length; rw [HML.out]; exact hkn)
      have hzt := HW3.out.froz (k * 258 + 257)
      obtain ⟨x, hx⟩ : ∃ x, x = L2.getD k default := ⟨_, rfl⟩
      have hgd : (midL L2 (fr + 1) k).getD k default = x := by rw [hx]; exact midL_get L2 _ k (by rw [H2L.out]; exact hkn)
      have hck2 : wr.cell? ⟨g, k * 258 + 256, none⟩ = some (.int .i64 (x.kind : Nat)) := by rw [← hgd]; exact hck
      have hct2 : wr.cell? ⟨g, k * 258 + 257, none⟩ = some (.int .i64 (x.to : Nat)) := by rw [← hgd]; exact hct
      clear hck hct
      have HX := Lib.hid hx
      have HGD := Lib.hid hgd
      clear hx hgd
      by_cases h34 : x.kind = 3 ∨ x.kind = 4
      · have hbump : bump x = { x with «to» := x.to + 1 } := by unfold bump; rw [if_pos h34]
        have hto : x.to ≤ 1000000 := by
          have hm : x ∈ L2 := by
            rw [HX.out, List.getD_eq_getElem?_getD, List.getElem?_eq_getElem (by rw [H2L.out]; exact hkn)]
            exact List.getElem_mem _
          rw [H2E.out] at hm
          rcases List.mem_append.1 hm with hm | hm
          · rcases List.mem_append.1 (List.mem_of_mem_take hm) with hm | hm
            · exact htos x hm
            · rw [List.mem_singleton.1 hm]; exact Nat.zero_le _
          · exact htos x (List.mem_of_mem_drop hm)
        have HB := Lib.hid hbump
        clear hbump
        rcases h34 with h3 | h4
        · have hk3 : ((x.kind : Int) == 3) = true := by rw [h3]; rfl
          clear h3
          go_wp2_with fail
          go_roundw
          case rel =>
            obtain ⟨hW4, hB4⟩ := HW3.out.turn_to k (by show k < (midL _ _ _).length; rw [HML.out]; exact hkn) (x.to + 1)
            rw [show ((x.to + 1 : Nat) : Int) = (x.to : Int) + 1 by omega] at hW4 hB4
            refine ⟨k + 1, cur2.setIfInBounds (k * 258 + 257) (.int .i64 ((x.to : Int) + 1)), by omega, by omega, by go_num, ?_, hB3.trans hB4⟩
            rw [← midL_step L2 (fr + 1) k hk1 (by rw [H2L.out]; exact hkn), ← HX.out, HB.out]
            rw [show ({ R1 with l := midL L2 (fr + 1) k } : Rdr).l.getD k default = x from HGD.out] at hW4
            exact hW4
          case measure => simp [intOf]; omega
        · have hk3 : ((x.kind : Int) == 3) = false := by rw [h4]; rfl
          have hk4 : ((x.kind : Int) == 4) = true := by rw [h4]; rfl
          clear h4
          go_wp2_with fail
          go_roundw
          case rel =>
            obtain ⟨hW4, hB4⟩ := HW3.out.turn_to k (by show k < (midL _ _ _).length; rw [HML.out]; exact hkn) (x.to + 1)
            rw [show ((x.to + 1 : Nat) : Int) = (x.to : Int) + 1 by omega] at hW4 hB4
            refine ⟨k + 1, cur2.setIfInBounds (k * 258 + 257) (.int .i64 ((x.to : Int) + 1)), by omega, by omega, by go_num, ?_, hB3.trans hB4⟩
            rw [← midL_step L2 (fr + 1) k hk1 (by rw [H2L.out]; exact hkn), ← HX.out, HB.out]
            rw [show ({ R1 with l := midL L2 (fr + 1) k } : Rdr).l.getD k default = x from HGD.out] at hW4
            exact hW4
          case measure => simp [intOf]; omega
      · have hbump : bump x = x := by unfold bump; rw [if_neg h34]
        have hk3 : ((x.kind : Int) == 3) = false := by rw [beq_eq_false_iff_ne]; intro e; exact h34 (.inl (by omega))
        have hk4 : ((x.kind : Int) == 4) = false := by rw [beq_eq_false_iff_ne]; intro e; exact h34 (.inr (by omega))
        have HB := Lib.hid hbump
        clear hbump h34
        go_wp2_with fail
        go_roundw
        case rel =>
          refine ⟨k + 1, cur2, by omega, by omega, by go_num, ?_, hB3⟩
          rw [← midL_skip L2 (fr + 1) k hk1 (by rw [H2L.out]; exact hkn) (by rw [← HX.out]; exact HB.out)]
          exact HW3.out
        case measure => simp [intOf]; omega
    · obtain rfl : k = n + 1 := by omega
      have hd : decide (((n + 1 : Nat) : Int) < ((n + 1 : Nat) : Int)) = false := decide_eq_false (by omega)
      have hw1 : IntKind.i64.wrap (((n + 1 : Nat) : Int) + 1) = ((n + 1 : Nat) : Int) + 1 := IntWalk.i64_in _ (by omega)
      have hw2 : IntKind.i64.wrap ((n : Int) + 1 + 1) = (n : Int) + 1 + 1 := IntWalk.i64_in _ (by omega)
      go_upto_region 8 with fail
      refine wp_region_quiet_tail 14 (by kernel_rfl) (by kernel_rfl) ?_
      simp only [List.take_succ_cons, List.take_zero, List.drop_succ_cons, List.drop_zero]
      iterate 13 (go_big_quiet_step (fail))
      refine wpQuiet_build_kt rfl 3 (.tmp 76) rfl (n + 2) (congrArg (Value.int .i64) (by omega)) ?_
      refine wpQuiet_nil ?_
      intro _ hw'
      obtain ⟨nq3, hw''⟩ := hw'
      subst hw''
      have hW4 : RW (wr.drewN nq3) p s { R1 with l := midL L2 (fr + 1) (n + 1) } g cap cur2 := by
        have h := HW3.out
        exact ⟨h.rv.same (Same.drew wr nq3), h.lt, h.blk, h.le, h.max, h.size, h.take⟩
      obtain ⟨cs3, hrun3, hW5, hB5⟩ := hW4.run_put fr (by show fr < (midL _ _ _).length; rw [HML.out]; omega) ⟨noSet, 3, n + 2⟩ (by rfl)
      have hi1 : decide ((0 : Int) ≤ (fr : Int)) = true := decide_eq_true (by omega)
      have hi2 : decide ((fr : Int) < (n : Int) + 1) = true := decide_eq_true (by omega)
      have HR3 := Lib.hid hrun3
      have g2 := fun wx hRx => add_any p wx s { R1 with l := (midL L2 (fr + 1) (n + 1)).set fr ⟨noSet, 3, n + 2⟩ } ⟨noSet, 4, fr⟩ (by rfl) hRx (by show (List.set _ _ _).length ≤ _; rw [List.length_set, HML.out]; omega) _ (List.toList_toArray ..)
      have g3 := g2 _ hW5.rv.ra
      have hBf := hB3.trans (((Same.drew wr nq3).below p).trans hB5)
      clear hrun3 g2
      go_wp2_with (first
        | ((with_reducible refine wpList_store50 rfl (.tmp 78) (.tmp 77) rfl ⟨g, fr * 258, none⟩ (.agg (Stp.mk noSet 3 (n + 2)).vals.toArray) ((wr.drewN nq3).setRow g cs3) ?_ ?_ HR3.out ?_); (rfl); (rfl))
        | ((with_reducible refine wpList_build_kt rfl 4 (.tmp 80) rfl fr ?_ ?_); (rfl))
        | (go_at_call 13; ((with_reducible refine g3.mono ?_); rintro e w5 ⟨rfl, hR5, hB5⟩)))
      go_end0
      refine ⟨rfl, ?_, hBf.trans hB5⟩
      have e : ({ R1 with l := (midL L2 (fr + 1) (n + 1)).set fr ⟨noSet, 3, n + 2⟩ } : Rdr).add ⟨noSet, 4, fr⟩ = { R with l := again R.l fr } := by
        rw [← again_of R.l fr (by rw [← HN.out]; exact hf) ⟨noSet, 0, 0⟩, ← H2E.out, ← HN.out, HE.out]
        rfl
      rw [← e]
      exact hR5
end Go.Proofs.Ytnhlinkkfoojmaa
