/- From which steps the end can be reached, place by place: the walk of reach. -/
import Derived.Test.YtnhlinkkfoojmaaCan
import Derived.Test.YtnhlinkkfoojmaaQTail
import Derived.Deep.LoopGhost
import Derived.Deep.RegionHeld
namespace Go.Proofs.Ytnhlinkkfoojmaa
open Go.RowKit
set_option maxRecDepth 100000
set_option linter.unusedSimpArgs false
set_option linter.unusedVariables false
/-- One sweep over the steps, from m - 1 down. -/
def sweep (l : List Stp) (L : List UInt8) (hi at_ : Nat) (nxt : List Bool) : Nat → List Bool → List Bool
  | 0, cur => cur
  | m + 1, cur => sweep l L hi at_ nxt m (cur.set m (cur.getD m false || canStep l L hi at_ nxt cur m))
theorem reachRound_sweep (l : List Stp) (L : List UInt8) (hi at_ : Nat) (nxt cur : List Bool) : reachRound l L hi at_ nxt cur = sweep l L hi at_ nxt l.length cur := by
  unfold reachRound
  generalize l.length = m
  induction m generalizing cur with
  | zero => rfl
  | succ m ih =>
    rw [List.range_succ, List.reverse_append]
    simp only [List.reverse_cons, List.reverse_nil, List.nil_append, List.foldl_append, List.foldl_cons, List.foldl_nil, List.singleton_append]
    rw [ih]
    rfl
def rounds (l : List Stp) (L : List UInt8) (hi at_ : Nat) (nxt : List Bool) : Nat → List Bool
  | 0 => List.replicate l.length false
  | j + 1 => sweep l L hi at_ nxt l.length (rounds l L hi at_ nxt j)
theorem reachAt_rounds (l : List Stp) (L : List UInt8) (hi at_ : Nat) (nxt : List Bool) : reachAt l L hi at_ nxt = rounds l L hi at_ nxt 11 := by
  unfold reachAt
  have : ∀ j, (List.range j).foldl (fun cur _ => reachRound l L hi at_ nxt cur) (List.replicate l.length false) = rounds l L hi at_ nxt j := by
    intro j
    induction j with
    | zero => rfl
    | succ j ih =>
      rw [List.range_succ, List.foldl_append, ih]
      show reachRound l L hi at_ nxt _ = _
      rw [reachRound_sweep]
      rfl
  exact this 11
theorem sweep_length (l : List Stp) (L : List UInt8) (hi at_ : Nat) (nxt : List Bool) : ∀ m cur, (sweep l L hi at_ nxt m cur).length = cur.length
  | 0, _ => rfl
  | m + 1, cur => by rw [sweep, sweep_length, List.length_set]
theorem rounds_length (l : List Stp) (L : List UInt8) (hi at_ : Nat) (nxt : List Bool) : ∀ j, (rounds l L hi at_ nxt j).length = l.length
  | 0 => by simp [rounds]
  | j + 1 => by rw [rounds, sweep_length, rounds_length]
/-- The row of the place that lies d ahead of the end. -/
def rowAt (l : List Stp) (L : List UInt8) (hi : Nat) : Nat → List Bool
  | 0 => rounds l L hi hi [] 11
  | d + 1 => rounds l L hi (hi - (d + 1)) (rowAt l L hi d) 11
def nxtOf (l : List Stp) (L : List UInt8) (hi : Nat) : Nat → List Bool
  | 0 => []
  | d + 1 => rowAt l L hi d
theorem rowAt_eq (l : List Stp) (L : List UInt8) (hi d : Nat) : rowAt l L hi d = rounds l L hi (hi - d) (nxtOf l L hi d) 11 := by
  cases d <;> rfl
theorem rowAt_length (l : List Stp) (L : List UInt8) (hi d : Nat) : (rowAt l L hi d).length = l.length := by rw [rowAt_eq, rounds_length]
theorem reach_head (l : List Stp) (L : List UInt8) (hi : Nat) : ∀ d, d ≤ hi → ∀ i, i ≤ d → (reach l L hi d (hi - d)).getD i [] = rowAt l L hi (d - i)
  | 0, _, i, hi' => by
    obtain rfl : i = 0 := by omega
    rw [reach, Nat.sub_zero, reachAt_rounds]; rfl
  | d + 1, hd, i, hid => by
    have ih := reach_head l L hi d (by omega)
    rw [reach]
    have e : hi - (d + 1) + 1 = hi - d := by omega
    rw [e]
    cases i with
    | zero =>
      rw [List.getD_cons_zero, reachAt_rounds, Nat.sub_zero]
      have h0 := ih 0 (Nat.zero_le _)
      have : (reach l L hi d (hi - d)).headD [] = rowAt l L hi d := by
        rw [← Nat.sub_zero d, ← h0]
        cases reach l L hi d (hi - d) <;> rfl
      rw [this]; rfl
    | succ i =>
      rw [List.getD_cons_succ, ih i (by omega)]
      congr 1
      omega
structure REnv (w0 : World) (p G : Nat) (l : List Stp) (n g cap : Nat) (s : ByteArray) (lo hi H mb : Nat) (wr : World) : Prop where
  sg : SG wr p G l n g cap
  v23 : wr.heap[H]? = some (.cells #[.pointer (some ⟨p, 0, none⟩)] 23 (0, 0))
  v9 : wr.heap[H + 1]? = some (.cells #[.string s] 9 (0, 0))
  v30 : wr.heap[H + 2]? = some (.cells #[.int .i64 (lo : Nat), .int .i64 (hi : Nat)] 30 (0, 0))
  hmb : H + 3 < mb
  v63 : wr.heap[mb]? = some (.cells #[.slice (some ⟨H + 3, 0, none⟩) (hi - lo + 1) (hi - lo + 1)] 63 (0, 0))
  bel : Below H w0 wr
/-- The rows that are done: d places from the end; they lie between H + 3 and bd. -/
structure RTab (l : List Stp) (L : List UInt8) (lo hi H d bd : Nat) (wr : World) : Prop where
  tab : ∃ T : List Value, wr.heap[H + 3]? = some (.cells T.toArray 65 (0, 0)) ∧ T.length = hi - lo + 1
  rows : ∀ d', d' < d → ∃ rb, wr.cell? ⟨H + 3, hi - d' - lo, none⟩ = some (.slice (some ⟨rb, 0, none⟩) l.length l.length) ∧ BA wr rb (rowAt l L hi d') ∧ H + 3 < rb ∧ rb < bd
theorem REnv.grown {w0 wr w' : World} {p G : Nat} {l : List Stp} {n g cap : Nat} {s : ByteArray} {lo hi H mb : Nat} (h : REnv w0 p G l n g cap s lo hi H mb wr) (hG : G ≤ H) (lb : Nat) (hlb : mb < lb) (hb : wr.grownBy w' (some lb)) : REnv w0 p G l n g cap s lo hi H mb w' := by
  have hlt : mb < wr.heap.size := (Array.getElem?_eq_some_iff.1 h.v63).1
  have hm := h.hmb
  have k : ∀ i, i < mb + 1 → w'.heap[i]? = wr.heap[i]? := fun i hi => hb.block i (by omega) (fun e => by injection e; omega)
  have hB : Below (mb + 1) wr w' := ⟨hb.os, hb.tape, hb.output, hb.size, k⟩
  exact ⟨h.sg.below (hB.mono (by omega)), (k _ (by omega)).trans h.v23, (k _ (by omega)).trans h.v9, (k _ (by omega)).trans h.v30, hm, (k _ (by omega)).trans h.v63, h.bel.trans (hB.mono (by omega))⟩
theorem REnv.over {w0 wr w' : World} {p G : Nat} {l : List Stp} {n g cap : Nat} {s : ByteArray} {lo hi H mb : Nat} (h : REnv w0 p G l n g cap s lo hi H mb wr) (hG : G ≤ H) (hb : Below wr.heap.size wr w') : REnv w0 p G l n g cap s lo hi H mb w' := by
  have hlt : mb < wr.heap.size := (Array.getElem?_eq_some_iff.1 h.v63).1
  have hm := h.hmb
  exact ⟨h.sg.below (hb.mono (by omega)), (hb.block _ (by omega)).trans h.v23, (hb.block _ (by omega)).trans h.v9, (hb.block _ (by omega)).trans h.v30, hm, (hb.block _ hlt).trans h.v63, h.bel.trans (hb.mono (by omega))⟩
theorem RTab.grown {wr w' : World} {l : List Stp} {L : List UInt8} {lo hi H d : Nat} (lb : Nat) (h : RTab l L lo hi H d lb wr) (hlb : H + 3 < lb) (hb : wr.grownBy w' (some lb)) : RTab l L lo hi H d lb w' := by
  obtain ⟨T, hT, hTl⟩ := h.tab
  have hlt : H + 3 < wr.heap.size := (Array.getElem?_eq_some_iff.1 hT).1
  have hT2 : w'.heap[H + 3]? = wr.heap[H + 3]? := hb.block _ hlt (fun e => by injection e; omega)
  refine ⟨⟨T, hT2.trans hT, hTl⟩, fun d' hd' => ?_⟩
  obtain ⟨rb, h1, h2, h3, h4⟩ := h.rows d' hd'
  have hrl : rb < wr.heap.size := (Array.getElem?_eq_some_iff.1 h2).1
  exact ⟨rb, (World.cell?_of_block hT2).trans h1, (hb.block rb hrl (fun e => by injection e; omega)).trans h2, h3, h4⟩
theorem RTab.mono {wr : World} {l : List Stp} {L : List UInt8} {lo hi H d bd bd' : Nat} (h : RTab l L lo hi H d bd wr) (hb : bd ≤ bd') : RTab l L lo hi H d bd' wr :=
  ⟨h.tab, fun d' hd' => by obtain ⟨rb, h1, h2, h3, h4⟩ := h.rows d' hd'; exact ⟨rb, h1, h2, h3, by omega⟩⟩
theorem RTab.over {wr w' : World} {l : List Stp} {L : List UInt8} {lo hi H d : Nat} (h : RTab l L lo hi H d wr.heap.size wr) (hb : Below wr.heap.size wr w') : RTab l L lo hi H d wr.heap.size w' := by
  obtain ⟨T, hT, hTl⟩ := h.tab
  have hlt : H + 3 < wr.heap.size := (Array.getElem?_eq_some_iff.1 hT).1
  refine ⟨⟨T, (hb.block _ hlt).trans hT, hTl⟩, fun d' hd' => ?_⟩
  obtain ⟨rb, h1, h2, h3, h4⟩ := h.rows d' hd'
  exact ⟨rb, (World.cell?_of_block (hb.block _ hlt)).trans h1, (hb.block rb (Array.getElem?_eq_some_iff.1 h2).1).trans h2, h3, h4⟩
/-- The table, whole: from lo up to hi. -/
structure Table (w : World) (tk : Nat) (l : List Stp) (L : List UInt8) (lo hi : Nat) : Prop where
  rows : ∀ a, lo ≤ a → a ≤ hi → ∃ rb, w.cell? ⟨tk, a - lo, none⟩ = some (.slice (some ⟨rb, 0, none⟩) l.length l.length) ∧ BA w rb (rowAt l L hi (hi - a)) ∧ tk < rb
theorem info65 : (Try.prog.info? 65).map (fun i => (i.zero, i.size, i.bytes)) = some (some (.slice none 0 0), 1, 24) := by kernel_rfl
theorem info4 : (Try.prog.info? 4).map (fun i => (i.zero, i.size, i.bytes)) = some (some (.bool false), 1, 1) := by kernel_rfl
theorem own_full2 {w : World} {B e g n size : Nat} {xs : List Value} (h : w.ownsRow B e size (.slice (some ⟨g, 0, none⟩) n n) n xs) : w.heap[g]? = some (.cells xs.toArray e (0, 0)) := own_full h
theorem three_boxes (w : World) (A B C : Obj) : (((w.alloc A).alloc B).alloc C).heap[w.heap.size]? = some A ∧ (((w.alloc A).alloc B).alloc C).heap[w.heap.size + 1]? = some B ∧ (((w.alloc A).alloc B).alloc C).heap[w.heap.size + 2]? = some C ∧
    (((w.alloc A).alloc B).alloc C).heap.size = w.heap.size + 3 ∧ Below w.heap.size w (((w.alloc A).alloc B).alloc C) := by
  refine ⟨?_, ?_, ?_, by simp, (((Below.refl _ w).alloc (Nat.le_refl _) _).alloc (by simp) _).alloc (by simp; omega) _⟩
  · rw [heap_alloc_old _ _ (by simp; omega), heap_alloc_old _ _ (by simp)]
    exact heap_alloc_new w A
  · rw [heap_alloc_old _ _ (by simp)]
    have := heap_alloc_new (w.alloc A) B
    rwa [show (w.alloc A).heap.size = w.heap.size + 1 by simp] at this
  · have := heap_alloc_new ((w.alloc A).alloc B) C
    rwa [show ((w.alloc A).alloc B).heap.size = w.heap.size + 2 by simp] at this
theorem REnv.tab {w0 wr : World} {p G : Nat} {l : List Stp} {n g cap : Nat} {s : ByteArray} {lo hi H mb : Nat} (h : REnv w0 p G l n g cap s lo hi H mb wr) (hG : G ≤ H) (e : Nat) (u : Value) : REnv w0 p G l n g cap s lo hi H mb (wr.setCell ⟨H + 3, e, none⟩ u) := by
  have hm := h.hmb
  have k : ∀ i, i ≠ H + 3 → (wr.setCell ⟨H + 3, e, none⟩ u).heap[i]? = wr.heap[i]? := fun i hi => heap_setCell_other wr ⟨H + 3, e, none⟩ i u hi
  have hB : Below H wr (wr.setCell ⟨H + 3, e, none⟩ u) := (Below.refl H wr).setCell (p := ⟨H + 3, e, none⟩) (by show H ≤ H + 3; omega) _
  exact ⟨h.sg.below (hB.mono hG), (k _ (by omega)).trans h.v23, (k _ (by omega)).trans h.v9, (k _ (by omega)).trans h.v30, hm, (k _ (by omega)).trans h.v63, h.bel.trans hB⟩
/-- In the midst of a place: its row lies in block B. -/
structure P5 (w0 : World) (p G : Nat) (l : List Stp) (n g cap : Nat) (s : ByteArray) (lo hi H mb d a ab tb B : Nat) (wr : World) : Prop where
  env : REnv w0 p G l n g cap s lo hi H mb wr
  tab : RTab l s.data.toList lo hi H d B wr
  new : wr.cell? ⟨H + 3, a - lo, none⟩ = some (.slice (some ⟨B, 0, none⟩) l.length l.length)
  vat : wr.heap[ab]? = some (.cells #[.int .i64 (a : Nat)] 3 (0, 0))
  vl : wr.heap[tb]? = some (.cells #[.slice (some ⟨B, 0, none⟩) l.length l.length] 65 (0, 0))
  hab : mb < ab ∧ ab < B
  htb : B < tb
section
variable {w0 wr w' : World} {p G : Nat} {l : List Stp} {n g cap : Nat} {s : ByteArray} {lo hi H mb d a ab tb B : Nat}
theorem P5.grown (h : P5 w0 p G l n g cap s lo hi H mb d a ab tb B wr) (hG : G ≤ H) (hb : wr.grownBy w' (some B)) : P5 w0 p G l n g cap s lo hi H mb d a ab tb B w' := by
  obtain ⟨h1, h2⟩ := h.hab
  have hm := h.env.hmb
  have ht := h.htb
  obtain ⟨T, hT, _⟩ := h.tab.tab
  have k : ∀ i, i < wr.heap.size → i ≠ B → w'.heap[i]? = wr.heap[i]? := fun i hi hne => hb.block i hi (fun e => by injection e; omega)
  exact ⟨h.env.grown hG B (by omega) hb, h.tab.grown B (by omega) hb, (World.cell?_of_block (k (H + 3) (Array.getElem?_eq_some_iff.1 hT).1 (by omega))).trans h.new, (k ab (Array.getElem?_eq_some_iff.1 h.vat).1 (by omega)).trans h.vat, (k tb (Array.getElem?_eq_some_iff.1 h.vl).1 (by omega)).trans h.vl, h.hab, h.htb⟩
theorem P5.can (h : P5 w0 p G l n g cap s lo hi H mb d a ab tb B wr) {cur : List Bool} (hc : BA wr B cur) (hl : cur.length = l.length) (ha : a = hi - d) (hlo : lo ≤ a) (hahi : a ≤ hi) (hd : d ≤ hi) : ∃ nb, CanW wr p G l n g cap s lo hi a H mb ab tb B nb cur (nxtOf l s.data.toList hi d) := by
  cases d with
  | zero => exact ⟨0, h.env.sg, h.env.v23, h.env.v9, h.env.v30, h.env.v63, h.vat, h.vl, hc, hl, fun h2 => by omega⟩
  | succ d =>
    obtain ⟨rb, h1, h2, _, _⟩ := h.tab.rows d (Nat.lt_succ_self d)
    rw [show hi - d - lo = a + 1 - lo by omega] at h1
    exact ⟨rb, h.env.sg, h.env.v23, h.env.v9, h.env.v30, h.env.v63, h.vat, h.vl, hc, hl, fun _ => ⟨h1, h2, rowAt_length _ _ _ _⟩⟩
end
set_option maxHeartbeats 8000000 in
theorem reach_any (w : World) (p G : Nat) (l : List Stp) (n g cap : Nat) (hSG : SG w p G l n g cap) (hwf : WF l) (hl : l.length ≤ 100000) (hG : G ≤ w.heap.size) (s : ByteArray) (hs : s.size ≤ 1000) (lo hi : Nat) (hlo : lo ≤ hi) (hhi : hi ≤ s.size) :
    Calls Try.prog 22 #[.pointer (some ⟨p, 0, none⟩), .string s, .agg #[.int .i64 (lo : Nat), .int .i64 (hi : Nat)]] w fun e w' => ∃ tk, e = .returned (.slice (some ⟨tk, 0, none⟩) (hi - lo + 1) (hi - lo + 1)) ∧ w.heap.size ≤ tk ∧
      Table w' tk l s.data.toList lo hi ∧ Below w.heap.size w w' := by
  obtain ⟨i0, ki, kz0, kz1, kz2⟩ := info_parts info65
  obtain ⟨j0, mi, mz0, mz1, mz2⟩ := info_parts info4
  obtain ⟨H, hH⟩ : ∃ H, H = w.heap.size := ⟨_, rfl⟩
  have HH := Lib.hid hH
  rw [← hH] at hG
  obtain ⟨N, hN⟩ : ∃ N, N = hi - lo + 1 := ⟨_, rfl⟩
  have hNi : (hi : Int) - (lo : Int) + 1 = (N : Int) := by omega
  have hw1 : IntKind.i64.wrap ((hi : Int) - (lo : Int)) = (hi : Int) - (lo : Int) := IntWalk.i64_in _ (by omega)
  have HS := Lib.hid hSG
  have HN := Lib.hid hN
  clear hH hSG hN
  go_enter Try.func22, Try.ntmps22
  go_upto_region 2 with ((with_reducible refine wpList_make_full _ rfl (.tmp 17) (.tmp 17) 63 rfl H 65 i0 (.slice none 0 0) 1 Try.underlying63 ki kz0 kz1 .i64 .i64 (N : Int) (N : Int) N ?_ ?_ rfl rfl ?_ ?_ ?_ ?_); (rfl); (rfl); (rw [kz2]; omega); (simp only [maxLen]; omega); (simp; rw [HH.out]; omega); intro w1 hown1 hg1)
  have hb1 := own_full hown1
  have hsz1 := hg1.size
  obtain ⟨b1, b2, b3, bs, bb⟩ := three_boxes w (.cells #[.pointer (some ⟨p, 0, none⟩)] 23) (.cells #[.string s] 9) (.cells #[.int .i64 (lo : Nat), .int .i64 (hi : Nat)] 30)
  rw [bs] at hb1 hsz1
  have hlt3 := (Array.getElem?_eq_some_iff.1 hb1).1
  have hkp : ∀ i, i < w.heap.size + 3 → w1.heap[i]? = (((w.alloc (.cells #[.pointer (some ⟨p, 0, none⟩)] 23)).alloc (.cells #[.string s] 9)).alloc (.cells #[.int .i64 (lo : Nat), .int .i64 (hi : Nat)] 30)).heap[i]? := fun i hi => hg1.block i (by rw [bs]; exact hi) (fun e => by cases e)
  have hbel1 : Below w.heap.size w w1 := bb.trans ⟨hg1.os, hg1.tape, hg1.output, hg1.size, fun k hk => hkp k (by omega)⟩
  have b1' := (hkp _ (by omega)).trans b1
  have b2' := (hkp _ (by omega)).trans b2
  have b3' := (hkp _ (by omega)).trans b3
  have e3 : w.heap.size + 1 + 1 + 1 = w.heap.size + 3 := rfl
  have e2 : w.heap.size + 1 + 1 = w.heap.size + 2 := rfl
  rw [e3, e2]
  rw [← HH.out] at hb1 hsz1 hlt3 hbel1 b1' b2' b3' ⊢
  obtain ⟨mb, hmb⟩ : ∃ mb, mb = w1.heap.size := ⟨_, rfl⟩
  obtain ⟨W2, hW2⟩ : ∃ W2, W2 = w1.alloc (Obj.cells #[Value.slice (some ⟨H + 3, 0, none⟩) N N] 63) := ⟨_, rfl⟩
  have old2 : ∀ k, k < w1.heap.size → W2.heap[k]? = w1.heap[k]? := fun k hk => by rw [hW2]; exact heap_alloc_old w1 _ hk
  have hbelW : Below H w W2 := by rw [hW2]; exact hbel1.alloc (by omega) _
  have hE : REnv w p G l n g cap s lo hi H mb W2 := by
    refine ⟨HS.out.below (hbelW.mono hG), (old2 _ (by omega)).trans b1', (old2 _ (by omega)).trans b2', (old2 _ (by omega)).trans b3', by omega, ?_, hbelW⟩
    rw [hW2, hmb, ← HN.out]; exact heap_alloc_new w1 _
  have hT : RTab l s.data.toList lo hi H 0 W2.heap.size W2 := ⟨⟨_, (old2 (H + 3) (by omega)).trans hb1, by rw [← HN.out]; simp [madeCells]⟩, fun d' hd' => by omega⟩
  have hmb2 : mb < W2.heap.size := by rw [hW2, World.size_alloc]; omega
  rw [← hW2, ← hmb]
  have cl3 : W2.cell? ⟨H + 2, 1, none⟩ = some (.int .i64 (hi : Nat)) := cell_of_row W2 (H + 2) 1 _ 30 (0, 0) hE.v30
  have HE := Lib.hid hE
  have HT := Lib.hid hT
  clear hown1 hg1 hb1 hsz1 hlt3 b1 b2 b3 bs bb hkp hbel1 b1' b2' b3' e3 e2 hmb hW2 old2 hbelW hE hT
  go_upto_region 3 with fail
  have hE3 := HE.out.over hG ((Below.refl _ W2).alloc (Nat.le_refl _) (Obj.cells #[Value.int .i64 (hi : Nat)] 3))
  have hT3 := (HT.out.over ((Below.refl _ W2).alloc (Nat.le_refl _) (Obj.cells #[Value.int .i64 (hi : Nat)] 3))).mono (show W2.heap.size ≤ (W2.alloc (Obj.cells #[Value.int .i64 (hi : Nat)] 3)).heap.size by simp)
  have hA3 : (W2.alloc (Obj.cells #[Value.int .i64 (hi : Nat)] 3)).heap[W2.heap.size]? = some (.cells #[Value.int .i64 (hi : Nat)] 3 (0, 0)) := heap_alloc_new W2 _
  have HE3 := Lib.hid hE3
  have HT3 := Lib.hid hT3
  have HA3 := Lib.hid hA3
  clear hE3 hT3 hA3 HE HT cl3 hw1
  go_loopg [8, 9, 10, 11] (N + 1) (fun k v8 _ _ _ wr => ∃ d ab, d ≤ N ∧ d + k = N + 1 ∧ v8 = .pointer (some ⟨ab, 0, none⟩) ∧ Hid (wr.heap[ab]? = some (.cells #[.int .i64 ((hi : Int) - (d : Int))] 3 (0, 0))) ∧ mb < ab ∧ REnv w p G l n g cap s lo hi H mb wr ∧ RTab l s.data.toList lo hi H d wr.heap.size wr)
  case atStart => exact ⟨0, W2.heap.size, Nat.zero_le _, by omega, rfl, by show _ = _; rw [HA3.out]; simp, hmb2, HE3.out, HT3.out⟩
  case round =>
    clear HE3 HT3 HA3
    obtain ⟨d, ab, hdN, hdk, rfl, hA, hab, hE, hT⟩ := hrel
    have hNe := HN.out
    have clo : wr.cell? ⟨H + 2, 0, none⟩ = some (.int .i64 (lo : Nat)) := cell_of_row wr (H + 2) 0 _ 30 (0, 0) hE.v30
    have c63 := cell1 hE.v63
    rw [← hNe] at c63
    have hmlt : H + 3 < mb := hE.hmb
    by_cases hd : d < N
    · obtain ⟨a, ha⟩ : ∃ a, a = hi - d := ⟨_, rfl⟩
      have hai : (hi : Int) - (d : Int) = (a : Int) := by omega
      rw [hai] at hA
      have cat := cell1 hA.out
      have c23 := cell1 hE.v23
      have c0 := hE.sg.c0
      have hge : decide ((a : Int) ≥ (lo : Int)) = true := decide_eq_true (by omega)
      have hge' : decide (a ≥ lo) = true := decide_eq_true (by omega)
      obtain ⟨B, hB⟩ : ∃ B, B = wr.heap.size := ⟨_, rfl⟩
      have HBB := Lib.hid hB
      have HE := Lib.hid hE
      have HT := Lib.hid hT
      have HA := Lib.hid hA
      have HAI := Lib.hid ha
      obtain ⟨m, rfl⟩ : ∃ m, gk = m + 1 := ⟨gk - 1, by omega⟩
      clear hE hT hA hB ha hNe hai
      go_upto_region 6 with ((with_reducible refine wpList_make_full _ rfl (.tmp 31) (.tmp 31) 65 rfl B 4 j0 (.bool false) 1 Try.underlying65 mi mz0 mz1 .i64 .i64 (l.length : Int) (l.length : Int) l.length ?_ ?_ rfl rfl ?_ ?_ ?_ ?_); (rfl); (rfl); (rw [mz2]; omega); (simp only [maxLen]; omega); (rw [HBB.out]; exact Nat.le_refl _); intro w3 hown3 hg3)
      have hb3 := own_full hown3
      rw [← HBB.out] at hb3 ⊢
      have hrow3 : BA w3 B (List.replicate l.length false) := by
        unfold BA
        rw [hb3]
        congr 2
        rw [show (Value.bool false).cells = #[Value.bool false] from rfl, toList_madeCells_one]
        simp [boolVals]
      have hbel3 : Below B wr w3 := ⟨hg3.os, hg3.tape, hg3.output, hg3.size, fun k hk => hg3.block k (by rw [← HBB.out]; exact hk) (fun e => by cases e)⟩
      obtain ⟨tb, htb⟩ : ∃ tb, tb = w3.heap.size := ⟨_, rfl⟩
      have hBtb : B < tb := by rw [htb]; exact (Array.getElem?_eq_some_iff.1 hb3).1
      obtain ⟨W4, hW4⟩ : ∃ W4, W4 = w3.alloc (Obj.cells #[Value.slice (some ⟨B, 0, none⟩) l.length l.length] 65) := ⟨_, rfl⟩
      rw [← hW4, ← htb]
      have hbel4 : Below B wr W4 := by rw [hW4]; exact hbel3.alloc (by omega) _
      have hvl4 : W4.heap[tb]? = some (.cells #[.slice (some ⟨B, 0, none⟩) l.length l.length] 65 (0, 0)) := by rw [hW4, htb]; exact heap_alloc_new w3 _
      have hrow4 : BA W4 B (List.replicate l.length false) := by
        unfold BA at hrow3 ⊢
        rw [hW4, heap_alloc_old w3 _ (by omega)]; exact hrow3
      have hbelW : Below wr.heap.size wr W4 := by rw [← HBB.out]; exact hbel4
      have hE4 := HE.out.over hG hbelW
      have hT4 := HT.out.over hbelW
      rw [← HBB.out] at hT4
      have hA4 : W4.heap[ab]? = some (.cells #[.int .i64 (a : Nat)] 3 (0, 0)) := (hbelW.block ab (Array.getElem?_eq_some_iff.1 HA.out).1).trans HA.out
      have habB : ab < B := by rw [HBB.out]; exact (Array.getElem?_eq_some_iff.1 HA.out).1
      obtain ⟨T4, hTb, hTl⟩ := hT4.tab
      obtain ⟨e, he⟩ : ∃ e, e = a - lo := ⟨_, rfl⟩
      have heN : e < N := by have := HAI.out; have := HN.out; omega
      have hei : (a : Int) - (lo : Int) = (e : Int) := by have := HAI.out; have := HN.out; omega
      obtain ⟨u0, hce⟩ : ∃ u0, W4.cell? ⟨H + 3, e, none⟩ = some u0 := by
        refine ⟨T4[e]'(by rw [hTl, ← HN.out]; exact heN), (cell_of_row W4 (H + 3) e _ 65 (0, 0) hTb).trans ?_⟩
        simp
      have hze : W4.frozen? ⟨H + 3, e, none⟩ = false := frozen_of_row W4 (H + 3) e _ 65 hTb
      have cat4 := cell1 hA4
      have c634 : W4.cell? ⟨mb, 0, none⟩ = some (.slice (some ⟨H + 3, 0, none⟩) N N) := by have := cell1 hE4.v63; rwa [← HN.out] at this
      have clo4 : W4.cell? ⟨H + 2, 0, none⟩ = some (.int .i64 (lo : Nat)) := cell_of_row W4 (H + 2) 0 _ 30 (0, 0) hE4.v30
      have cl4 := cell1 hvl4
      have hw4 : IntKind.i64.wrap ((a : Int) - (lo : Int)) = (e : Int) := by rw [IntWalk.i64_in _ (by have := HAI.out; omega)]; exact hei
      have hi1 : decide ((0 : Int) ≤ (e : Int)) = true := decide_eq_true (by omega)
      have hi2 : decide ((e : Int) < (N : Int)) = true := decide_eq_true (by omega)
      have hT5e := heap_setCell_same W4 (H + 3) e _ 65 (.slice (some ⟨B, 0, none⟩) l.length l.length) hTb
      have hP5 : P5 w p G l n g cap s lo hi H mb d a ab tb B (W4.setCell ⟨H + 3, e, none⟩ (.slice (some ⟨B, 0, none⟩) l.length l.length)) := by
        have k : ∀ i, i ≠ H + 3 → (W4.setCell ⟨H + 3, e, none⟩ (.slice (some ⟨B, 0, none⟩) l.length l.length)).heap[i]? = W4.heap[i]? := fun i hi => heap_setCell_other W4 ⟨H + 3, e, none⟩ i _ hi
        refine ⟨hE4.tab hG e _, ⟨⟨T4.set e (.slice (some ⟨B, 0, none⟩) l.length l.length), hT5e.trans (by simp), by simp [hTl]⟩, ?_⟩, ?_, (k ab (by omega)).trans hA4, (k tb (by omega)).trans hvl4, ⟨hab, habB⟩, hBtb⟩
        · intro d' hd'
          obtain ⟨rb, h1, h2, h3, h4⟩ := hT4.rows d' hd'
          refine ⟨rb, ?_, (k rb (by omega)).trans h2, h3, h4⟩
          rw [World.cell?_setCell_other W4 ⟨H + 3, e, none⟩ ⟨H + 3, hi - d' - lo, none⟩ _ (fun h => by injection h with _ h; have := HAI.out; have := HN.out; omega)]
          exact h1
        · rw [← he, cell_of_row _ (H + 3) e _ 65 (0, 0) hT5e]
          have hlt : e < T4.length := by rw [hTl, ← HN.out]; exact heN
          simp [hlt]
      have hrow5 : BA (W4.setCell ⟨H + 3, e, none⟩ (.slice (some ⟨B, 0, none⟩) l.length l.length)) B (List.replicate l.length false) := by
        unfold BA at hrow4 ⊢
        rw [heap_setCell_other W4 ⟨H + 3, e, none⟩ B _ (by show B ≠ H + 3; omega)]; exact hrow4
      have HP5 := Lib.hid hP5
      have HR5 := Lib.hid hrow5
      clear hown3 hg3 hb3 hrow3 hbel3 htb hW4 hbel4 hvl4 hrow4 hbelW hE4 hT4 hA4 hTb hTl hT5e hP5 hrow5 c0 c23 cat clo c63 HE HT HA hge hge' he hei
      go_upto_region 9 with fail
      generalize W4.setCell ⟨H + 3, e, none⟩ (.slice (some ⟨B, 0, none⟩) l.length l.length) = W5 at HP5 HR5 ⊢
      clear hce hze cat4 c634 clo4 cl4 hw4 hi1 hi2
      have hdh : d ≤ hi := by have := HN.out; omega
      have hloa : lo ≤ a := by have := HAI.out; have := HN.out; omega
      have hahi : a ≤ hi := by have := HAI.out; omega
      obtain ⟨nx, hnx⟩ : ∃ nx, nx = nxtOf l s.data.toList hi d := ⟨_, rfl⟩
      have HNX := Lib.hid hnx
      clear hnx
      go_loopw [11, 41] (fun _ v41 wr => ∃ j : Nat, j ≤ 11 ∧ v41 = .int .i64 (j : Nat) ∧ P5 w p G l n g cap s lo hi H mb d a ab tb B wr ∧ BA wr B (rounds l s.data.toList hi a nx j)) (fun _ v41 _ => 11 - (intOf v41).toNat)
      case atStart => exact ⟨0, by omega, rfl, HP5.out, HR5.out⟩
      case round =>
        clear HP5 HR5
        obtain ⟨j, hj, rfl, hP, hR⟩ := hrel
        by_cases hj11 : j < 11
        · have hlt1 : decide ((j : Int) < 11) = true := decide_eq_true (by omega)
          have c23 := cell1 hP.env.v23
          have c0 := hP.env.sg.c0
          have HP := Lib.hid hP
          have HRR := Lib.hid hR
          clear hP hR
          go_upto_region 11 with fail
          go_loopw [11] (fun v11 wr => ∃ (m2 : Nat) (cur : List Bool), m2 ≤ l.length ∧ v11 = .int .i64 ((m2 : Int) - 1) ∧ P5 w p G l n g cap s lo hi H mb d a ab tb B wr ∧ BA wr B cur ∧ cur.length = l.length ∧ Hid (sweep l s.data.toList hi a nx m2 cur = rounds l s.data.toList hi a nx (j + 1))) (fun v11 _ => (intOf v11 + 1).toNat)
          case atStart => exact ⟨l.length, _, Nat.le_refl _, rfl, HP.out, HRR.out, rounds_length _ _ _ _ _ _, rfl⟩
          case round =>
            clear HP HRR c23 c0
            obtain ⟨m2, cur, hm2, rfl, hP, hR, hcl, hsw⟩ := hrel
            cases m2 with
            | zero =>
              have hfe : cur = rounds l s.data.toList hi a nx (j + 1) := hsw.out
              have HFE := Lib.hid hfe
              have hge : decide ((((0 : Nat) : Int) - 1) ≥ 0) = false := by decide
              have HP := Lib.hid hP
              have HRR := Lib.hid hR
              clear hfe hsw hP hR
              go_wp2_with fail
              go_roundw
              case rel => exact ⟨j + 1, by omega, by go_num, HP.out, by rw [← HFE.out]; exact HRR.out⟩
              case measure => simp [intOf]; omega
            | succ k2 =>
              have hk2 : (((k2 + 1 : Nat) : Int) - 1) = (k2 : Int) := by omega
              rw [hk2]
              have hge : decide ((k2 : Int) ≥ 0) = true := decide_eq_true (by omega)
              obtain ⟨x, hx⟩ : ∃ x, x = cur.getD k2 false := ⟨_, rfl⟩
              have cl := cell1 hP.vl
              have cb := hR.cell k2 (by rw [hcl]; omega)
              rw [← hx] at cb
              have hzb := hR.froz k2
              have HX := Lib.hid hx
              have HP := Lib.hid hP
              have HRR := Lib.hid hR
              have hi1 : decide ((0 : Int) ≤ (k2 : Int)) = true := decide_eq_true (by omega)
              have hi2 : decide ((k2 : Int) < (l.length : Int)) = true := decide_eq_true (by omega)
              have hk2n : ¬ l.length ≤ k2 := by omega
              clear hx hP hR hk2
              go_upto_region 13 with fail
              cases x with
              | true =>
                obtain ⟨hrow6, hg6⟩ := (show BA (wr) B cur from HRR.out).set k2 true
                have hP0 := HP.out
                have hsw6 : sweep l s.data.toList hi a nx k2 (cur.set k2 true) = rounds l s.data.toList hi a nx (j + 1) := by
                  rw [← hsw.out, sweep, ← HX.out]; rfl
                have HSW6 := Lib.hid hsw6
                clear hrow6 hg6 hsw6 hsw HX
                refine wp_region_quiet_tail 12 (by kernel_rfl) (by kernel_rfl) ?_
                simp only [List.take_succ_cons, List.take_zero, List.drop_succ_cons, List.drop_zero]
                iterate 12 (go_big_quiet_step (fail))
                refine wpQuiet_nil ?_
                intro _ hw'
                obtain ⟨nq2, hw''⟩ := hw'
                subst hw''
                have hrow5 : BA (wr.drewN nq2) B cur := HRR.out
                obtain ⟨hrow6, hg6⟩ := hrow5.set k2 true
                have hP6 := (HP.out.grown hG (below_grownBy ((Same.drew wr nq2).below _) (some B))).grown hG hg6
                have HROW6 := Lib.hid hrow6
                have HP6 := Lib.hid hP6
                clear hrow5 hrow6 hg6 hP6 hP0 HP HRR
                go_wp2_with fail
                go_roundw
                case rel => exact ⟨k2, cur.set k2 true, by omega, by go_num, HP6.out, HROW6.out, by rw [List.length_set]; exact hcl, HSW6.out⟩
                case measure => simp [intOf]
              | false =>
                obtain ⟨nb, hcan⟩ := HP.out.can HRR.out hcl HAI.out hloa hahi hdh
                rw [← HNX.out] at hcan
                have hcan2 : CanW wr.drew p G l n g cap s lo hi a H mb ab tb B nb cur nx := ⟨hcan.sg.below ((Same.drew1 wr).below G), hcan.v23, hcan.v9, hcan.v30, hcan.v63, hcan.vat, hcan.vl, hcan.row, hcan.len, hcan.nxt⟩
                have hGw : G ≤ wr.drew.heap.size := by have h1 := (Array.getElem?_eq_some_iff.1 hcan.v23).1; show G ≤ wr.heap.size; omega
                have g29 := can_any wr.drew p G l n g cap s lo hi a H mb ab tb B nb cur nx hcan2 hwf hl hGw hs hloa hahi hhi k2 (by omega)
                obtain ⟨cv, hcv⟩ : ∃ cv, cv = canStep l s.data.toList hi a nx cur k2 := ⟨_, rfl⟩
                rw [← hcv] at g29
                have HCV := Lib.hid hcv
                clear hcan hcan2 hcv
                refine wp_region_held_drew (S := fun wx : World => wx.cell? ⟨tb, 0, none⟩ = some (.slice (some ⟨B, 0, none⟩) l.length l.length)) (by kernel_rfl) cl (fun hs0 => ?_)
                refine wpAnyH_take (i := 0) (v := .slice (some ⟨B, 0, none⟩) l.length l.length) rfl (by kernel_rfl) (by kernel_rfl) (by kernel_rfl) (fun _ _ _ h => h) (Or.inl ⟨by rfl, ?_⟩) hs0 ?_
                · intro wx hSw
                  have hSw2 : wx.cell? ⟨tb, 0, none⟩ = some (.slice (some ⟨B, 0, none⟩) l.length l.length) := hSw
                  go_simp
                try simp only [Act.put, List.setIfInBounds_toArray, List.set_cons_zero, List.set_cons_succ]
                refine wpAnyH_take (i := 1) (v := .int .i64 (k2 : Nat)) rfl (by kernel_rfl) (by kernel_rfl) (by kernel_rfl) (fun _ _ _ h => h) (Or.inl ⟨by rfl, ?_⟩) hs0 ?_
                · intro wx hSw
                  have hSw2 : wx.cell? ⟨tb, 0, none⟩ = some (.slice (some ⟨B, 0, none⟩) l.length l.length) := hSw
                  go_simp
                try simp only [Act.put, List.setIfInBounds_toArray, List.set_cons_zero, List.set_cons_succ]
                refine wpAnyH_take (i := 2) (v := .slice (some ⟨B, 0, none⟩) l.length l.length) rfl (by kernel_rfl) (by kernel_rfl) (by kernel_rfl) (fun _ _ _ h => h) (Or.inl ⟨by rfl, ?_⟩) hs0 ?_
                · intro wx hSw
                  have hSw2 : wx.cell? ⟨tb, 0, none⟩ = some (.slice (some ⟨B, 0, none⟩) l.length l.length) := hSw
                  go_simp
                try simp only [Act.put, List.setIfInBounds_toArray, List.set_cons_zero, List.set_cons_succ]
                refine wpAnyH_take (i := 3) (v := .int .i64 (k2 : Nat)) rfl (by kernel_rfl) (by kernel_rfl) (by kernel_rfl) (fun _ _ _ h => h) (Or.inl ⟨by rfl, ?_⟩) hs0 ?_
                · intro wx hSw
                  have hSw2 : wx.cell? ⟨tb, 0, none⟩ = some (.slice (some ⟨B, 0, none⟩) l.length l.length) := hSw
                  go_simp
                try simp only [Act.put, List.setIfInBounds_toArray, List.set_cons_zero, List.set_cons_succ]
                refine wpAnyH_take (i := 4) (v := .pointer (some ⟨B, k2, none⟩)) rfl (by kernel_rfl) (by kernel_rfl) (by kernel_rfl) (fun _ _ _ h => h) (Or.inl ⟨by rfl, ?_⟩) hs0 ?_
                · intro wx hSw
                  have hSw2 : wx.cell? ⟨tb, 0, none⟩ = some (.slice (some ⟨B, 0, none⟩) l.length l.length) := hSw
                  go_simp
                try simp only [Act.put, List.setIfInBounds_toArray, List.set_cons_zero, List.set_cons_succ]
                refine wpAnyH_ready (rs := [5]) (by kernel_rfl) (by simp) ?_
                refine AllReadyH.cons rfl (fun K hK => ?_) AllReadyH.nil
                go_simp
                refine hK.out _ _ hs0 (fun _ => ?_)
                clear hK K
                try simp only [Act.put, List.setIfInBounds_toArray, List.set_cons_zero, List.set_cons_succ]
                refine wpAnyH_take (i := 6) (v := .bool false) rfl (by kernel_rfl) (by kernel_rfl) (by kernel_rfl) (fun _ _ _ h => h) (Or.inl ⟨by rfl, ?_⟩) hs0 ?_
                · intro wx hSw
                  have hSw2 : wx.cell? ⟨tb, 0, none⟩ = some (.slice (some ⟨B, 0, none⟩) l.length l.length) := hSw
                  go_simp
                try simp only [Act.put, List.setIfInBounds_toArray, List.set_cons_zero, List.set_cons_succ]
                refine wpAnyH_take (i := 7) (v := .func (.func 29) #[] #[.pointer (some ⟨H, 0, none⟩), .pointer (some ⟨ab, 0, none⟩), .pointer (some ⟨H + 2, 0, none⟩), .pointer (some ⟨H + 1, 0, none⟩), .pointer (some ⟨mb, 0, none⟩), .pointer (some ⟨tb, 0, none⟩)]) rfl (by kernel_rfl) (by kernel_rfl) (by kernel_rfl) (fun _ _ _ h => h) (Or.inl ⟨by rfl, ?_⟩) hs0 ?_
                · intro wx hSw
                  have hSw2 : wx.cell? ⟨tb, 0, none⟩ = some (.slice (some ⟨B, 0, none⟩) l.length l.length) := hSw
                  go_simp
                try simp only [Act.put, List.setIfInBounds_toArray, List.set_cons_zero, List.set_cons_succ]
                refine wpAnyH_take (i := 8) (v := .int .i64 (k2 : Nat)) rfl (by kernel_rfl) (by kernel_rfl) (by kernel_rfl) (fun _ _ _ h => h) (Or.inl ⟨by rfl, ?_⟩) hs0 ?_
                · intro wx hSw
                  have hSw2 : wx.cell? ⟨tb, 0, none⟩ = some (.slice (some ⟨B, 0, none⟩) l.length l.length) := hSw
                  go_simp
                try simp only [Act.put, List.setIfInBounds_toArray, List.set_cons_zero, List.set_cons_succ]
                refine wpAnyH_ready (rs := [9]) (by kernel_rfl) (by simp) ?_
                refine AllReadyH.cons rfl (fun K hK => ?_) AllReadyH.nil
                go_simp
                refine g29.mono ?_
                rintro e3 w3 ⟨rfl, hB3⟩
                have hs3 : w3.cell? ⟨tb, 0, none⟩ = some (.slice (some ⟨B, 0, none⟩) l.length l.length) := (World.cell?_of_block (hB3.block tb (by have := (Array.getElem?_eq_some_iff.1 HP.out.vl).1; exact this))).trans cl
                refine hK.out _ _ hs3 (fun _ => ?_)
                clear hK K
                try simp only [Act.put, List.setIfInBounds_toArray, List.set_cons_zero, List.set_cons_succ]
                refine wpAnyH_take (i := 10) (v := .bool cv) rfl (by kernel_rfl) (by kernel_rfl) (by kernel_rfl) (fun _ _ _ h => h) (Or.inl ⟨by rfl, ?_⟩) hs3 ?_
                · intro wx hSw
                  have hSw2 : wx.cell? ⟨tb, 0, none⟩ = some (.slice (some ⟨B, 0, none⟩) l.length l.length) := hSw
                  go_simp
                try simp only [Act.put, List.setIfInBounds_toArray, List.set_cons_zero, List.set_cons_succ]
                refine wpAnyH_take (i := 11) (v := .pointer (some ⟨B, k2, none⟩)) rfl (by kernel_rfl) (by kernel_rfl) (by kernel_rfl) (fun _ _ _ h => h) (Or.inl ⟨by rfl, ?_⟩) hs3 ?_
                · intro wx hSw
                  have hSw2 : wx.cell? ⟨tb, 0, none⟩ = some (.slice (some ⟨B, 0, none⟩) l.length l.length) := hSw
                  go_simp
                try simp only [Act.put, List.setIfInBounds_toArray, List.set_cons_zero, List.set_cons_succ]
                have hBlt : B < wr.heap.size := (Array.getElem?_eq_some_iff.1 HRR.out).1
                have hrow3 : BA w3 B cur := (hB3.block B hBlt).trans HRR.out
                have hP3 := HP.out.grown hG (below_grownBy (show Below wr.heap.size wr w3 from ⟨hB3.os, hB3.tape, hB3.output, hB3.size, hB3.block⟩) (some B))
                have cb3 := hrow3.cell k2 (by rw [hcl]; omega)
                have hz3 := hrow3.froz k2
                obtain ⟨hrow6, hg6⟩ := hrow3.set k2 cv
                have hP6 := hP3.grown hG hg6
                have hsw6 : sweep l s.data.toList hi a nx k2 (cur.set k2 cv) = rounds l s.data.toList hi a nx (j + 1) := by
                  rw [← hsw.out, sweep, ← HX.out, HCV.out]; rfl
                have hs6 : (w3.setCell ⟨B, k2, none⟩ (.bool cv)).cell? ⟨tb, 0, none⟩ = some (.slice (some ⟨B, 0, none⟩) l.length l.length) := by
                  have := HP.out.htb
                  rw [World.cell?_setCell_far _ _ _ _ (by show B ≠ tb; omega)]; exact hs3
                have HROW6 := Lib.hid hrow6
                have HP6 := Lib.hid hP6
                have HSW6 := Lib.hid hsw6
                clear hrow3 hP3 hrow6 hg6 hP6 hsw6 hsw cb hzb HX HCV HP HRR
                refine wpAnyH_ready (rs := [12]) (by kernel_rfl) (by simp) ?_
                refine AllReadyH.cons rfl (fun K hK => ?_) AllReadyH.nil
                go_simp
                refine hK.out _ _ hs6 (fun _ => ?_)
                clear hK K
                try simp only [Act.put, List.setIfInBounds_toArray, List.set_cons_zero, List.set_cons_succ]
                refine wpAnyH_done (by kernel_rfl) ?_ _
                go_wp2_with fail
                go_roundw
                case rel => exact ⟨k2, cur.set k2 cv, by omega, by go_num, HP6.out, HROW6.out, by rw [List.length_set]; exact hcl, HSW6.out⟩
                case measure => simp [intOf]
        · obtain rfl : j = 11 := by omega
          have hlt1 : decide (((11 : Nat) : Int) < 11) = false := by decide
          have hrow : BA wr B (rowAt l s.data.toList hi d) := by rw [rowAt_eq, ← HNX.out, ← HAI.out]; exact hR
          have hBlt : B < wr.heap.size := (Array.getElem?_eq_some_iff.1 hrow).1
          have hm2 := hP.hab
          have hm3 := hP.env.hmb
          have hT1 : RTab l s.data.toList lo hi H (d + 1) wr.heap.size wr := by
            refine ⟨hP.tab.tab, fun d' hd' => ?_⟩
            by_cases e1 : d' = d
            · subst e1
              exact ⟨B, by rw [← HAI.out]; exact hP.new, hrow, by omega, hBlt⟩
            · obtain ⟨rb, h1, h2, h3, h4⟩ := hP.tab.rows d' (by omega)
              exact ⟨rb, h1, h2, h3, by omega⟩
          have cat := cell1 hP.vat
          have hwa : IntKind.i64.wrap ((a : Int) - 1) = (a : Int) - 1 := IntWalk.i64_in _ (by omega)
          have hbA : Below wr.heap.size wr (wr.alloc (.cells #[.int .i64 ((a : Int) - 1)] 3)) := (Below.refl _ wr).alloc (Nat.le_refl _) _
          have hE6 := hP.env.over hG hbA
          have hT6 := (hT1.over hbA).mono (show wr.heap.size ≤ (wr.alloc (.cells #[.int .i64 ((a : Int) - 1)] 3)).heap.size by simp)
          have hA6 : (wr.alloc (.cells #[.int .i64 ((a : Int) - 1)] 3)).heap[wr.heap.size]? = some (.cells #[.int .i64 ((a : Int) - 1)] 3 (0, 0)) := heap_alloc_new wr _
          have hai2 : (hi : Int) - ((d + 1 : Nat) : Int) = (a : Int) - 1 := by have := HAI.out; omega
          have HE6 := Lib.hid hE6
          have HT6 := Lib.hid hT6
          have HA6 := Lib.hid hA6
          have HAI2 := Lib.hid hai2
          have hmlt2 : mb < wr.heap.size := by omega
          clear hrow hT1 hbA hE6 hT6 hA6 hai2 hP hR
          go_wp2_with fail
          go_roundg m
          case measure => omega
          case rel => exact ⟨d + 1, wr.heap.size, by omega, by omega, rfl, by show _ = _; rw [HAI2.out]; exact HA6.out, hmlt2, HE6.out, HT6.out⟩
    · obtain rfl : d = N := by omega
      have cat := cell1 hA.out
      have hge : decide ((hi : Int) - (d : Int) ≥ (lo : Int)) = false := decide_eq_false (by omega)
      have hTab : Table wr (H + 3) l s.data.toList lo hi := by
        refine ⟨fun a h1 h2 => ?_⟩
        obtain ⟨rb, k1, k2, k3, _⟩ := hT.rows (hi - a) (by omega)
        rw [show hi - (hi - a) - lo = a - lo by omega] at k1
        exact ⟨rb, k1, k2, k3⟩
      have HTB := Lib.hid hTab
      have HE := Lib.hid hE
      clear hTab hT hE hA
      go_wp2_with fail
      go_ret
      refine ⟨H + 3, ?_, by rw [HH.out]; omega, HTB.out, by rw [← HH.out]; exact HE.out.bel⟩
      rw [← HN.out]
      rfl
end Go.Proofs.Ytnhlinkkfoojmaa
