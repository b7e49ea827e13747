/- The walk of sha.Sum: the bytes are shaSum's. -/
import Derived.Test.YtjkafmjikfbafaaIter
import Derived.Test.YtjkafmjikfbafaaRefSum
namespace Go.Proofs.Ytjkafmjikfbafaa
open Go.RowKit Go.Shelf Go.Lib
set_option maxRecDepth 100000
set_option linter.unusedSimpArgs false
set_option linter.unusedVariables false
attribute [local go_sem] Oper.semAt_some

theorem i43s (s : St) : (Try.prog.info? 43).map (·.size) = some (u32s s.list).toArray.size := by rw [List.size_toArray, u32s_length]; kernel_rfl
theorem i44s (K : List UInt32) (h : K.length = 64) : (Try.prog.info? 44).map (·.size) = some (u32s K).toArray.size := by rw [List.size_toArray, u32s_length, h]; kernel_rfl

theorem constants_at (S : St) (K : List UInt32) (hS : S = h0) (hK : K = kAll) (w : World) : Calls Try.prog 28 #[] w fun e w' => e = .returned (.tuple #[.agg (u32s S.list).toArray, .agg (u32s K).toArray]) ∧ Below w.heap.size w w' := by
  subst hK; subst hS; exact constants_any w
theorem zeros8 (S : St) : (u32s (List.replicate 8 0)).toArray.size = (u32s S.list).toArray.size := rfl
theorem zeros64 (K : List UInt32) (h : K.length = 64) : (u32s (List.replicate 64 0)).toArray.size = (u32s K).toArray.size := by rw [List.size_toArray, List.size_toArray, u32s_length, u32s_length, h]; rfl

theorem run_index_words (L : List UInt32) (n : Nat) (hL : L.length = 8) (hn : n < 8) (w : World) : (Instr.index 43 (.agg (u32s L).toArray) (.int .i64 n)).run Try.prog w = .ok (.int .u32 (L.getD n 0).toNat) w := by
  have h := Try.underlying43
  have hn' : (0 : Int) ≤ n ∧ (n : Int) < 8 := by omega
  have hg := u32s_get L n (by omega)
  simp [Instr.index, run_underlying h, asIntOf, hn', hn, hg, go_sem]
theorem fold_sum (P : List UInt8) (K : List UInt32) (hK : K = kAll) : ∀ (M : Nat) (xs : List Blk), xs.map (·.l) = (List.range M).map (chunk P) → xs.foldl (fun S x => blockF S x.l K) h0 = sumSt P M := by
  intro M xs h
  have e : xs.foldl (fun S x => blockF S x.l K) h0 = (xs.map (·.l)).foldl (fun S l => blockF S l K) h0 := by rw [List.foldl_map]
  rw [e, h, List.foldl_map]
  clear e h
  subst hK
  induction M with
  | zero => rfl
  | succ M ih => rw [List.range_succ, List.foldl_append, ih]; rfl
/-- What the last loop keeps: the bytes so far; the block of the deferred. -/
def SO (w : World) (D : Nat) (L : List UInt32) (B : Nat) (v : Value) (n : Nat) (wr : World) : Prop :=
  Below w.heap.size w wr ∧ w.heap.size ≤ D ∧ D < B ∧ B ≤ wr.heap.size ∧ wr.heap[D]? = some (.deferred (some [])) ∧ wr.ownsRow B 5 1 v (4 * n) (u8s (wordsB (L.take n)))
theorem SO.next {w wr w5 : World} {D B : Nat} {L : List UInt32} {v v' : Value} {n : Nat} {x : UInt32} (h : SO w D L B v n wr) (hn : n < L.length) (hx : L.getD n 0 = x) (o : Obj) (hg : (wr.alloc o).grownBy w5 v.ownBlock)
    (hown : w5.ownsRow B 5 1 v' (4 * n + 4) (u8s (wordsB (L.take n)) ++ [.int .u8 ((x.toNat : Int) / 16777216 % 256), .int .u8 ((x.toNat : Int) / 65536 % 256), .int .u8 ((x.toNat : Int) / 256 % 256), .int .u8 ((x.toNat : Int) % 256)])) :
    SO w D L B v' (n + 1) w5 := by
  obtain ⟨h1, h2, h3, h4, h6, h5⟩ := h
  have hlt := fun k hk => (h5.lt k hk).1
  refine ⟨(h1.alloc (by omega) _).grown hg (by rw [World.size_alloc]; omega) (fun k hk => by have := hlt k hk; omega), h2, h3, ?_, ?_, ?_⟩
  · have := hg.size; rw [World.size_alloc] at this; omega
  · rw [hg.block D (by rw [World.size_alloc]; omega) (fun e => by have := hlt _ e.symm; omega), Below.heap_alloc wr o D (by omega)]
    exact h6
  · rw [← u8s_be4, ← u8s_append, ← wordsB_snoc, ← hx] at hown
    rw [List.take_succ_eq_append_getElem hn]
    rw [List.getD_eq_getElem?_getD, List.getElem?_eq_getElem hn] at hown
    exact hown
theorem calls_gen {P : Program} {f : FuncId} {args : Array Value} {Q : Ending → World → Prop} {w : World} (S : World → Prop) (hS : S w) (h : ∀ W, S W → Calls P f args W Q) : Calls P f args w Q := h w hS
theorem blocks_at (s : ByteArray) (W : World) : Calls Try.prog 29 #[.string s] W fun e w' => e = .returned (.func (.func 52) #[] #[.pointer (some ⟨W.heap.size, 0, none⟩)]) ∧ w' = W.alloc (.cells #[.string s] 9) :=
  (callsIn_wide (n := 5)).1 (blocks_in Fence.wide 5 trivial rfl s W)
/-- The words' block, the constants' block. -/
def SW (w : World) (H : Nat) (S : St) (K : List UInt32) (W : World) : Prop := ArrAt W H 43 (u32s S.list) ∧ ArrAt W (H + 1) 44 (u32s K) ∧ Below w.heap.size w W ∧ w.heap.size ≤ H
theorem SW.grown {w W W' : World} {H : Nat} {S : St} {K : List UInt32} {row : Option Nat} (h : SW w H S K W) (hg : W.grownBy W' row) (hr : ∀ r, row = some r → H + 1 < r) : SW w H S K W' := by
  obtain ⟨h1, h2, h3, h4⟩ := h
  exact ⟨h1.grown hg (fun e => by have := hr _ e.symm; omega), h2.grown hg (fun e => by have := hr _ e.symm; omega), h3.grown hg (by have := h1.lt; omega) (fun r e => by have := hr r e; omega), h4⟩

theorem wpListIn_store_row {F : Fence} {n : Nat} {P : Program} (w : World) {ops : Array Oper} {rest : List Oper} {o : Oper} {a : Act} {Q : Exit → Act → World → Prop} (hgd : o.guard = none) (ty : TypeId) (x y : Operand) (ho : o.op = .store ty x y)
    (g : Nat) (cells : Array Value) (hx : a.eval x = .pointer (some ⟨g, 0, none⟩)) (hy : a.eval y = .agg cells)
    (t : TypeId) (old : Array Value) (hg : w.heap[g]? = some (.cells old t (0, 0))) (hi : (P.info? ty).map (·.size) = some cells.size)
    (hold : old.size = cells.size) (h1 : cells.all (·.oneCell') = true)
    (h : wpListIn F n P ops Q rest (a.put o.dst undef) (w.setRow g cells)) : wpListIn F n P ops Q (o :: rest) a w := by
  refine wpListIn_plain hgd fun K hK => ?_
  unfold Oper.wpIn
  refine ⟨?_, ?_⟩
  · simp [Oper.about, ho]
  · rw [Oper.semAt_plain F _ _ (by rw [ho]; intro c hc'; cases hc')]
    unfold execOp
    simp only [ho, hx, hy, Instr.storeAt, Instr.sureAddr, Sem.run_bind, Sem.run_pure, Result.andThen_ok, run_storeVar_row w g t ty old cells hg hi hold h1]
    exact hK _ _ h
theorem grownBy_setRow (w : World) (b : Nat) (k : Array Value) : w.grownBy (w.setRow b k) (some b) :=
  ⟨rfl, rfl, rfl, by simp, fun j hj hne => setRow_other w b j _ (fun e => hne (by rw [e]))⟩
theorem below_grownBy {w w' : World} (h : Below w.heap.size w w') (row : Option Nat) : w.grownBy w' row := ⟨h.os, h.tape, h.output, h.size, fun k hk _ => h.block k hk⟩
theorem grown_trans {a w w' : World} {row : Option Nat} (h : a.grownBy w row) (k : w.grownBy w' row) : a.grownBy w' row :=
  ⟨k.os.trans h.os, k.tape.trans h.tape, k.output.trans h.output, Nat.le_trans h.size k.size, fun j hj hne => (k.block j (Nat.lt_of_lt_of_le hj h.size) hne).trans (h.block j hj hne)⟩
theorem kpC_grown {B : Nat} {w w' : World} {H : Nat} (hg : w.grownBy w' (some H)) (hH : H < B) : KpC B w w' :=
  ⟨hg.size, fun k cs t fr hk hc => by rw [hg.block k (Array.getElem?_eq_some_iff.1 hc).1 (fun e => by injection e with e; omega)]; exact hc⟩
theorem SW.step {w W W2 : World} {H B : Nat} {S S2 : St} {K : List UInt32} (h : SW w H S K W) (hb : Below W.heap.size W W2) (hB : H + 1 < B) :
    KeepsFrom B W (W2.setRow H (u32s S2.list).toArray) ∧ KpC B W (W2.setRow H (u32s S2.list).toArray) ∧ SW w H S2 K (W2.setRow H (u32s S2.list).toArray) := by
  obtain ⟨h1, h2, h3, h4⟩ := h
  have hg : W.grownBy (W2.setRow H (u32s S2.list).toArray) (some H) := grown_trans (below_grownBy hb _) (grownBy_setRow _ _ _)
  refine ⟨KeepsFrom.of_grownBy hg (fun j e => by cases e; omega), kpC_grown hg (by omega), ?_, h2.grown hg (by intro e; injection e with e; omega), h3.grown hg (by have := h1.lt; omega) (fun r e => by cases e; omega), h4⟩
  have d1 : ArrAt W2 H 43 (u32s S.list) := by
    have := hb.block H h1.lt
    unfold ArrAt; rw [this]; exact h1
  exact arrAt_setRow d1
theorem block_at (s : St) (l : List UInt8) (ks : List UInt32) (bb off cap kb : Nat) (w : World) (S2 : St) (hS : S2 = blockF s l ks) (hl : l.length = 64) (hk : ks.length = 64)
    (hb : BytesAt w bb off l) (hbb : bb < w.heap.size) (hka : ArrAt w kb 44 (u32s ks)) :
    Calls Try.prog 30 #[.agg (u32s s.list).toArray, .slice (some ⟨bb, off, none⟩) 64 cap, .pointer (some ⟨kb, 0, none⟩)] w fun e w' => e = .returned (.agg (u32s S2.list).toArray) ∧ Below w.heap.size w w' := by
  subst hS; exact block_any s l ks bb off cap kb w hl hk hb hbb hka

set_option maxHeartbeats 4000000 in
theorem sum_any (s : ByteArray) (w : World) (hs : s.size ≤ 1099511627776) :
    Calls Try.prog 13 #[.string s] w fun e w' => e = .returned (.string ⟨(shaSum s.data.toList).toArray⟩) ∧ Below w.heap.size w w' := by
  refine (callsIn_wide (n := 6)).1 ?_
  refine callsIn_of_wp_marks Try.func13 rfl trivial ?_
  refine wpIn_wide.2 ?_
  simp only [Try.ntmps13, List.size_toArray, List.length_cons, List.length_nil, Nat.reduceAdd, Nat.reduceSub, Array.replicate_succ, Array.replicate_zero, List.push_toArray, List.append_toArray, List.nil_append, List.cons_append]
  obtain ⟨K, hK0, hK1, hK2⟩ := kAll_facts
  have HK0 := Lib.hid hK0
  obtain ⟨S0, hS0⟩ : ∃ S, S = h0 := ⟨_, rfl⟩
  have HS0 := Lib.hid hS0
  clear hS0
  have i43 := i43s S0
  have i44 := i44s K hK1
  have I43 := Lib.hid i43
  have I44 := Lib.hid i44
  clear hK0 hK2 i43 i44
  go_wp2_with (first
    | (go_at_call 28; ((with_reducible refine (constants_at S0 K HS0.out HK0.out _).mono ?_); rintro e w1 ⟨rfl, hb1⟩))
    | (with_reducible refine wpList_store_row rfl 43 (.tmp 3) (.tmp 11) rfl w1.heap.size (u32s S0.list).toArray ?a1 ?a2 43 (u32s (List.replicate 8 0)).toArray ?a3 I43.out (zeros8 S0) (row_one _) ?_)
    | (with_reducible refine wpList_store_row rfl 44 (.tmp 4) (.tmp 12) rfl (w1.heap.size + 1) (u32s K).toArray ?b1 ?b2 44 (u32s (List.replicate 64 0)).toArray ?b3 I44.out (zeros64 K hK1) (row_one _) ?_))
  case a1 => rfl
  case a2 => rfl
  case a3 => exact (arrAt_alloc _ _ 43 _ rfl).alloc _
  case b3 => exact arrAt_setRow_other (arrAt_allocB _ _ _ 44 _ rfl) (by omega) _
  refine calls_gen (SW w w1.heap.size S0 K) ?_ ?_
  · refine ⟨arrAt_setRow_other (arrAt_setRow ((arrAt_alloc _ _ 43 _ rfl).alloc _)) (by omega) _, arrAt_setRow (arrAt_setRow_other (arrAt_allocB _ _ _ 44 _ rfl) (by omega) _), ?_, hb1.size⟩
    exact below_setRow (below_setRow ((hb1.alloc hb1.size _).alloc (by have := hb1.size; simp; omega) _) _ hb1.size (Nat.le_refl _) _) _ (by have := hb1.size; omega) (Nat.le_refl _) _
  obtain ⟨H, hH⟩ : ∃ H, H = w1.heap.size := ⟨_, rfl⟩
  rw [← hH]
  clear hH hb1
  intro W0 hW0
  refine (blocks_at s W0).mono ?_
  rintro e W1 ⟨rfl, rfl⟩
  go_wp2_with fail
  have hH2 : H + 1 < W0.heap.size := hW0.2.1.lt
  have hbox : (W0.alloc (Obj.cells #[Value.string s] 9)).heap[W0.heap.size]? = some (.cells #[.string s] 9 (0, 0)) := World.alloc_heap_new W0 _
  refine (wpIn_wide (n := 6)).1 (wpIn_rangeFunc_H (F := Fence.wide) (n := 6) rfl (by omega) (gf := 52) (lb := #[.pointer (some ⟨W0.heap.size, 0, none⟩)]) rfl trivial (enters_of Try.func52 (by kernel_rfl) rfl)
    (iter_seq Fence.wide 5 trivial rfl (by omega) W0.heap.size _ s hs _ hbox (Nat.le_refl _)) hdB_put (Below.refl _ _) (fun _ => rfl)
    (fun pre W => SW w H (pre.foldl (fun S x => blockF S x.l K) S0) K W) ?hI ?h0
    (fun x => { tmps := #[Value.string s, undef, Value.string { data := #[] }, Value.pointer (some { block := H, off := 0 }),
        Value.pointer (some { block := H + 1, off := 0 }), .slice (some ⟨x.g, x.off, none⟩) 64 x.cap, undef, undef, undef,
        Value.tuple #[Value.agg (u32s S0.list).toArray, Value.agg (u32s K).toArray],
        Value.tuple #[Value.agg (u32s S0.list).toArray, Value.agg (u32s K).toArray], Value.agg (u32s S0.list).toArray,
        Value.agg (u32s K).toArray, Value.string s,
        Value.func (Fn.func 52) #[] #[Value.pointer (some { block := W0.heap.size, off := 0 })], .slice (some ⟨x.g, x.off, none⟩) 64 x.cap, undef, undef,
        undef, undef, undef, undef, undef, undef, undef, undef, undef, undef, undef, undef, undef, undef, undef, undef,
        undef, undef, undef, undef, undef, undef], defers := [] }) ?assign ?body ?done)
  case hI => exact fun pre W W' row h hg hr => SW.grown h hg (fun r e => by have := hr r e; rw [World.size_alloc] at this; omega)
  case h0 => exact hW0.grown (World.grownBy_alloc W0 _ none) (fun r e => by cases e)
  case assign =>
    intro l x W Kx hKx
    dsimp only [encB]
    gi_wp2
    exact hKx
  case body =>
    intro l pre x W hI hlen hd
    obtain ⟨S, hS⟩ : ∃ S, S = pre.foldl (fun S x => blockF S x.l K) S0 := ⟨_, rfl⟩
    rw [← hS] at hI
    obtain ⟨S2, hS2⟩ : ∃ S, S = (pre ++ [x]).foldl (fun S x => blockF S x.l K) S0 := ⟨_, rfl⟩
    have hst : S2 = blockF S x.l K := by rw [hS2, hS, List.foldl_append]; rfl
    have hstep := fun (W2 : World) (hb : Below W.heap.size W W2) => SW.step (S2 := S2) hI hb (B := (W0.alloc (Obj.cells #[Value.string s] 9)).heap.size) (by rw [World.size_alloc]; omega)
    have hcall : Calls Try.prog 30 #[.agg #[.int .u32 S.a.toNat, .int .u32 S.b.toNat, .int .u32 S.c.toNat, .int .u32 S.d.toNat, .int .u32 S.e.toNat, .int .u32 S.f.toNat, .int .u32 S.g.toNat, .int .u32 S.h.toNat], .slice (some ⟨x.g, x.off, none⟩) 64 x.cap, .pointer (some ⟨H + 1, 0, none⟩)] W fun e w' => e = .returned (.agg (u32s S2.list).toArray) ∧ Below W.heap.size W w' := block_at S x.l K x.g x.off x.cap (H + 1) W S2 hst hd.2.1 hK1 hd.1 (by obtain ⟨cs, t, fr, h⟩ := hd.2.2; exact (Array.getElem?_eq_some_iff.1 h).1) hI.2.1
    obtain ⟨a0, a1, a2, a3, a4, a5, a6, a7⟩ := st_cells hI.1
    have HS2 := Lib.hid hS2
    have HSTEP := Lib.hid hstep
    have HI := Lib.hid hI
    clear hS hS2 hst hstep hI hd hlen
    have i43 := i43s S2
    have I43b := Lib.hid i43
    clear i43
    gi_wp2_with (first
      | (refine ⟨trivial, ?_⟩; gi_at_call 30; ((with_reducible refine (CallsIn.inRound l (callsIn_wide.2 hcall)).mono ?_); rintro e W2 ⟨rfl, hb2⟩))
      | (with_reducible refine wpListIn_store_row _ rfl 43 (.tmp 3) (.tmp 18) rfl H (u32s S2.list).toArray ?a1 ?a2 43 (u32s S.list).toArray ?a3 I43b.out (st_size S S2) (row_one _) ?_))
    case a1 => rfl
    case a2 => rfl
    case a3 => exact (hb2.block H (by have := HI.out.1.lt; omega)).trans HI.out.1
    have h := HSTEP.out W2 hb2
    refine ⟨h.1, h.2.1, ?_⟩
    dsimp only
    rw [← HS2.out]
    exact h.2.2
  case done =>
    intro D xs W hD hS hI hKD
    rw [World.size_alloc] at hD
    rw [HS0.out, fold_sum _ K HK0.out _ xs hS] at hI
    obtain ⟨L, hL⟩ : ∃ L, L = (sumSt (padF s.data.toList) ((padF s.data.toList).length / 64)).list := ⟨_, rfl⟩
    obtain ⟨S, hSS⟩ : ∃ S, S = sumSt (padF s.data.toList) ((padF s.data.toList).length / 64) := ⟨_, rfl⟩
    rw [← hSS] at hI hL
    have hL8 : L.length = 8 := by rw [hL]; rfl
    have hres : wordsB L = shaSum s.data.toList := by rw [hL, hSS, shaSum]
    obtain ⟨c1, c2, c3, c4⟩ := hI
    rw [← hL] at c1
    have hDl : D < W.heap.size := (Array.getElem?_eq_some_iff.1 hKD).1
    have hwl := c3.size
    have hSO : SO w D L W.heap.size (.slice none 0 0) 0 W := ⟨c3, by omega, hDl, Nat.le_refl _, hKD, World.ownsRow_nil _ _ _ _⟩
    have HSO := Lib.hid hSO
    have HRES := Lib.hid hres
    have i43 : (Try.prog.info? 43).map (·.size) = some (u32s L).toArray.size := by rw [List.size_toArray, u32s_length, hL8]; kernel_rfl
    have I43b := Lib.hid i43
    clear hS hres hL hSS hSO c2 c3 hKD i43 hbox hW0
    obtain ⟨B, hB⟩ : ∃ B, B = W.heap.size := ⟨_, rfl⟩
    have HB := Lib.hid hB
    clear hB
    go_wp2_with (with_reducible refine wpList_load_row rfl 43 (.tmp 3) rfl H ?g1 43 (u32s L).toArray (0, 0) (.array 8 41) ?g3 Try.underlying43 ?g2 I43b.out ?_)
    case g1 => rfl
    case h_2 => rfl
    case h_3 => rfl
    case g3 => exact c1
    clear c1
    go_loopw [6, 20] (fun v i wr => ∃ n : Nat, n ≤ 8 ∧ i = .int .i64 n ∧ SO w D L B v n wr) (fun _ i _ => 8 - (intOf i).toNat)
    case atStart => exact ⟨0, by omega, rfl, by rw [HB.out]; exact HSO.out⟩
    case round =>
      clear HSO
      obtain ⟨n, hn, rfl, hR⟩ := hrel
      obtain ⟨i0, hi, hz0, hz1, hz2⟩ := info_parts info5
      by_cases hn8 : n < 8
      · obtain ⟨x, hx⟩ : ∃ x, x = L.getD n 0 := ⟨_, rfl⟩
        have hix := fun w => run_index_words L n hL8 hn8 w
        rw [← hx] at hix
        have HX := Lib.hid hx
        have hown := hR.2.2.2.2.2
        have HO := Lib.hid hown
        have hBr := hR.2.2.2.1
        clear hx hown
        go_wp2_with (at_builtin; refine wpList_append_own _ rfl _ _ 27 rfl B 5 i0 (.int .u8 0) 1 1 Try.underlying27 hi hz0 hz1 hz2 rfl (by decide) _ _ _ rfl (HO.out.alloc _) ⟨wr.heap.size, 0, none⟩ 4 4 [.int .u8 ((x.toNat : Int) / 16777216 % 256), .int .u8 ((x.toNat : Int) / 65536 % 256), .int .u8 ((x.toNat : Int) / 256 % 256), .int .u8 ((x.toNat : Int) % 256)] rfl rfl ?c1 ?c2 ?c3 ?c4 ?c5 ?_)
        case c1 => exact four_new wr _ _ _ _ _
        case c2 => simp [Value.oneCell']
        case c3 => simp only [maxLen]; omega
        case c4 => omega
        case c5 => rw [World.size_alloc]; omega
        intro v' w5 hown' hg' hne
        have hN := hR.next (by omega) HX.out.symm _ hg' hown'
        have HN := Lib.hid hN
        clear hN hown' hg' hne hix
        go_wp2_with fail
        go_roundw
        case rel => exact ⟨n + 1, by omega, by go_num, HN.out⟩
        case measure => simp [intOf]; omega
      · obtain rfl : n = 8 := by omega
        obtain ⟨hB1, hwD, hDB, hBw, hKD, hown⟩ := hR
        rw [List.take_of_length_le (by omega)] at hown
        obtain ⟨g, cap2, rfl, hgc⟩ := own_bytes hown (by rw [wordsB_length]; omega) (by omega)
        have hconv := run_conv_str (P := Try.prog) 27 5 9 Try.underlying27 Try.underlying5 Try.underlying9 hgc (4 * 8) cap2 (by rw [wordsB_length]; omega)
        have HKD := Lib.hid hKD
        clear hown hgc hKD
        go_wp2_with fail
        refine ⟨by simp, .inl ⟨_, _, rfl, run_takeDeferred HKD.out, ?_⟩⟩
        exact ⟨_, results_tmp rfl _ _ _, by rw [← HRES.out]; rfl, hB1.trans (belowK_b (w := w) (Nat.le_refl _) wr D _ _ hwD HKD.out rfl rfl)⟩
end Go.Proofs.Ytjkafmjikfbafaa
