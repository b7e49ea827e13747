/- The walk of the reference's Sum: the bytes are shaSum's. -/
import Derived.Test.YtjkafmjikfbafaaSumL
import Derived.Deep.AppendLies
namespace Go.Proofs.Ytjkafmjikfbafaa
open Go.RowKit
set_option maxRecDepth 100000
set_option linter.unusedSimpArgs false
set_option linter.unusedVariables false

def RS1 (w : World) (H : Nat) (I K : List UInt32) (v : Value) (n : Nat) (wr : World) : Prop :=
  ArrAt wr H 42 (u32s (I.take n ++ List.replicate (8 - n) 0)) ∧ ArrAt wr (H + 1) 44 (u32s (K.take n ++ List.replicate (64 - n) 0)) ∧ Below w.heap.size w wr ∧ w.heap.size ≤ H ∧ wr.ownsRow w.heap.size 56 1 v 64 (u64s primes64) ∧ (∀ g, v.ownBlock = some g → g < H)
def RS2 (w : World) (H : Nat) (I K : List UInt32) (wr : World) : Prop :=
  ArrAt wr H 42 (u32s I) ∧ ArrAt wr (H + 1) 44 (u32s K) ∧ Below w.heap.size w wr ∧ w.heap.size ≤ H
theorem RS1.setK {w wr : World} {H : Nat} {I K : List UInt32} {v : Value} {n : Nat} (h : RS1 w H I K v n wr) (hn : n < 64) (hK : K.length = 64) (y : UInt32) (hy : K.getD n 0 = y) :
    ArrAt (wr.setCell ⟨H + 1, n, none⟩ (.int .u32 y.toNat)) H 42 (u32s (I.take n ++ List.replicate (8 - n) 0)) ∧ ArrAt (wr.setCell ⟨H + 1, n, none⟩ (.int .u32 y.toNat)) (H + 1) 44 (u32s (K.take (n + 1) ++ List.replicate (64 - (n + 1)) 0)) ∧
      Below w.heap.size w (wr.setCell ⟨H + 1, n, none⟩ (.int .u32 y.toNat)) ∧ w.heap.size ≤ H ∧ (wr.setCell ⟨H + 1, n, none⟩ (.int .u32 y.toNat)).ownsRow w.heap.size 56 1 v 64 (u64s primes64) ∧ (∀ g, v.ownBlock = some g → g < H) := by
  obtain ⟨h1, h2, h3, h4, h5, h6⟩ := h
  refine ⟨h1.setCell_other (by simp) _, ?_, h3.setCell (by simp; omega) _, h4, h5.kept (grownBy_set _ _ _ _) (.inr (by intro h; have := h6 _ h; omega)), h6⟩
  have := h2.set n (.int .u32 (K.getD n 0).toNat)
  rw [take_next K n 64 hK hn, hy] at this
  exact this

theorem arrAt_setRow {w : World} {b t : Nat} {l k : List Value} (h : ArrAt w b t l) : ArrAt (w.setRow b k.toArray) b t k := setRow_heap w _ _ _ t (0, 0) h
theorem arrAt_setRow_other {w : World} {b c t : Nat} {l : List Value} (h : ArrAt w b t l) (hne : b ≠ c) (k : Array Value) : ArrAt (w.setRow c k) b t l := by
  unfold ArrAt at h ⊢; rw [setRow_other w _ _ _ hne]; exact h
theorem below_setRow {B : Nat} {a w : World} (h : Below B a w) (c : Nat) (hc : B ≤ c) (hB : B ≤ a.heap.size) (k : Array Value) : Below B a (w.setRow c k) :=
  h.grown (row := some c) ⟨rfl, rfl, rfl, by simp, fun j hj hne => setRow_other w _ j _ (fun e => hne (by rw [e]))⟩ (Nat.le_trans hB h.size) (fun k hk => by injection hk with hk; omega)
theorem RS2.next {w wr w3 : World} {H : Nat} {I K : List UInt32} (h : RS2 w H I K wr) (hb : Below wr.drew.heap.size wr.drew w3) (J : List UInt32) : RS2 w H J K (w3.setRow H (u32s J).toArray) := by
  obtain ⟨c1, c2, c3, c4⟩ := h
  have d1 : ArrAt w3 H 42 (u32s I) := by
    have := hb.block H c1.lt
    unfold ArrAt; rw [this]; exact c1
  have d2 : ArrAt w3 (H + 1) 44 (u32s K) := by
    have := hb.block (H + 1) c2.lt
    unfold ArrAt; rw [this]; exact c2
  exact ⟨arrAt_setRow d1, arrAt_setRow_other d2 (by omega) _, below_setRow (c3.drew.trans (hb.mono c3.size)) H c4 (Nat.le_refl _) _, c4⟩
/-- What the last loop keeps: the words' row, the bytes so far. -/
def RS3 (w : World) (H : Nat) (L : List UInt32) (v : Value) (n : Nat) (wr : World) : Prop :=
  ArrAt wr H 42 (u32s L) ∧ Below w.heap.size w wr ∧ w.heap.size ≤ H ∧ H + 2 ≤ wr.heap.size ∧ wr.ownsRow (H + 2) 5 1 v (4 * n) (u8s (wordsB (L.take n)))
theorem four_new (w : World) (v1 v2 v3 v4 : Value) (t : TypeId) : ∀ (j : Nat) (u : Value), [v1, v2, v3, v4][j]? = some u → (w.alloc (Obj.cells #[v1, v2, v3, v4] t)).cell? ((⟨w.heap.size, 0, none⟩ : Addr).add j) = some u := by
  intro j u hu
  rw [Addr.add_lit, Nat.zero_add]
  exact (arrAt_alloc w _ t [v1, v2, v3, v4] rfl).cell j hu
theorem RS3.next {w wr w5 : World} {H : Nat} {L : List UInt32} {v v' : Value} {n : Nat} {x : UInt32} (h : RS3 w H L v n wr) (hn : n < L.length) (hx : L.getD n 0 = x) (o : Obj) (hg : (wr.alloc o).grownBy w5 v.ownBlock)
    (hown : w5.ownsRow (H + 2) 5 1 v' (4 * n + 4) (u8s (wordsB (L.take n)) ++ [.int .u8 ((x.toNat : Int) / 16777216 % 256), .int .u8 ((x.toNat : Int) / 65536 % 256), .int .u8 ((x.toNat : Int) / 256 % 256), .int .u8 ((x.toNat : Int) % 256)])) :
    RS3 w H L v' (n + 1) w5 := by
  obtain ⟨h1, h2, h3, h4, h5⟩ := h
  have hlt := fun k hk => (h5.lt k hk).1
  refine ⟨(h1.alloc _).grown hg ?_, (h2.alloc (by omega) _).grown hg (by rw [World.size_alloc]; omega) (fun k hk => by have := hlt k hk; omega), h3, ?_, ?_⟩
  · intro h; have := hlt _ h.symm; omega
  · have := hg.size; rw [World.size_alloc] at this; omega
  · rw [← u8s_be4, ← u8s_append, ← wordsB_snoc, ← hx] at hown
    rw [List.take_succ_eq_append_getElem hn]
    rw [List.getD_eq_getElem?_getD, List.getElem?_eq_getElem hn] at hown
    exact hown
theorem own_drew {w : World} {B e s : Nat} {v : Value} {n : Nat} {xs : List Value} (h : w.ownsRow B e s v n xs) : w.drew.ownsRow B e s v n xs := h
theorem grown_drew {w w' : World} {row : Option Nat} (h : w.drew.grownBy w' row) : w.grownBy w' row := ⟨h.os, h.tape, h.output, h.size, h.block⟩
theorem own_bytes {w : World} {B n : Nat} {v : Value} {l : List UInt8} (h : w.ownsRow B 5 1 v n (u8s l)) (hl : l.length = n) (h0 : 0 < n) : ∃ g cap, v = .slice (some ⟨g, 0, none⟩) n cap ∧ BytesAt w g 0 l := by
  obtain ⟨A, cap, rfl, hc⟩ := own_form h
  obtain ⟨g, rfl, _⟩ := hc 0 _ (u8s_get l 0 (by omega))
  refine ⟨g, cap, rfl, fun j hj => ?_⟩
  obtain ⟨g', hg, hc'⟩ := hc j _ (u8s_get l j hj)
  injection hg with hg
  injection hg with hg
  subst hg
  rw [Nat.zero_add]; exact hc'
theorem own_ne {w : World} {H : Nat} {v : Value} {n : Nat} {xs : List Value} (h : w.ownsRow (H + 2) 5 1 v n xs) : some H ≠ v.ownBlock := fun e => by have := (h.lt H e.symm).1; omega
theorem st_size (s t : St) : (u32s s.list).toArray.size = (u32s t.list).toArray.size := rfl
theorem info5 : (Try.prog.info? 5).map (fun i => (i.zero, i.size, i.bytes)) = some (some (.int .u8 0), 1, 1) := by kernel_rfl
theorem refblock_at (s : St) (t : ByteArray) (ks : List UInt32) (w : World) (l : List UInt8) (S2 : St) (hl : t.data.toList = l ∧ t.size = 64) (hk : ks.length = 64) (h : S2 = blockF s l ks) :
    Calls Try.prog 35 #[.agg (u32s s.list).toArray, .string t, .agg (u32s ks).toArray] w fun e w' => e = .returned (.agg (u32s S2.list).toArray) ∧ Below w.heap.size w w' := by
  subst h; obtain ⟨rfl, h2⟩ := hl; exact refblock_any s t ks w h2 hk

set_option maxHeartbeats 4000000 in
theorem refSum_any (s : ByteArray) (w : World) (hs : s.size ≤ 1099511627776) :
    Calls Try.prog 14 #[.string s] w fun e w' => e = .returned (.string ⟨(shaSum s.data.toList).toArray⟩) ∧ Below w.heap.size w w' := by
  go_enter Try.func14, Try.ntmps14
  go_wp2_with (go_at_call 31; ((with_reducible refine (primes_any _).mono ?_); rintro e w1 ⟨⟨v, rfl, hown⟩, hb1⟩))
  obtain ⟨K, hK0, hK1, hK2⟩ := kAll_facts
  obtain ⟨I, hI0, hI1, hI2⟩ := hAll_facts
  have HK0 := Lib.hid hK0
  have HI0 := Lib.hid hI0
  have HK2 := Lib.hid hK2
  have HI2 := Lib.hid hI2
  clear hK0 hI0 hK2 hI2
  have hvb : ∀ g, v.ownBlock = some g → g < w1.heap.size := fun g hg => (hown.lt g hg).2
  have R0 : RS1 w w1.heap.size I K v 0 ((w1.alloc (.cells (Array.replicate 8 (Value.int .u32 0)) 42)).alloc (.cells (Array.replicate 64 (Value.int .u32 0)) 44)) := by
    refine ⟨(arrAt_alloc _ _ 42 _ rfl).alloc _, arrAt_allocB _ _ _ 44 _ rfl, (hb1.alloc hb1.size _).alloc (by have := hb1.size; simp; omega) _, hb1.size, ?_, hvb⟩
    exact (hown.alloc _).alloc _
  obtain ⟨H, hH⟩ : ∃ H, H = w1.heap.size := ⟨_, rfl⟩
  rw [← hH] at R0 hvb
  obtain ⟨A, cap, rfl, _⟩ := own_form hown
  have HR0 := Lib.hid R0
  have HH := Lib.hid hH
  clear R0 hH hown hvb hb1
  rw [show w1.heap.size = H from HH.out.symm]
  go_loopw [6] (fun i wx => ∃ n : Nat, n ≤ 64 ∧ i = .int .i64 n ∧ RS1 w H I K (.slice A 64 cap) n wx) (fun i _ => 64 - (intOf i).toNat)
  case atStart => exact ⟨0, by omega, rfl, HR0.out⟩
  case round =>
    clear HR0
    obtain ⟨n, hn, rfl, hR⟩ := hrel
    by_cases hn64 : n < 64
    · obtain ⟨c1, c2, c3, c4, c5, c6⟩ := id hR
      obtain ⟨A', cap', hA, hcell⟩ := own_form c5
      obtain ⟨rfl, rfl⟩ : A = A' ∧ cap = cap' := by injection hA with h1 h2 h3; exact ⟨h1, h3⟩
      obtain ⟨hp, hp312⟩ := primes_get n hn64
      obtain ⟨g, rfl, hc⟩ := hcell n _ hp
      have hk := HK2.out n hn64
      obtain ⟨p, hpe⟩ : ∃ p, p = primes64.getD n 0 := ⟨_, rfl⟩
      rw [← hpe] at hc hk hp312
      have z1 := c2.cell (v := .int .u32 0) n (row_zero (by simp; omega) hn64)
      have z2 := c2.free n
      obtain ⟨y, hy⟩ : ∃ y, y = kRoot p := ⟨_, rfl⟩
      rw [← hy] at hk
      have hS := hR.setK hn64 hK1 y hk
      have hlt := c1.lt
      have hlt2 := c2.lt
      by_cases hn8 : n < 8
      · have hi := HI2.out n hn8
        rw [← hpe] at hi
        obtain ⟨x, hx⟩ : ∃ x, x = hRoot p := ⟨_, rfl⟩
        rw [← hx] at hi
        have hrow := hS.1.cell (v := .int .u32 0) n (row_zero (by simp; omega) hn8)
        have hfree := hS.1.free n
        have hpc : (wr.setCell ⟨H + 1, n, none⟩ (.int .u32 y.toNat)).cell? ⟨g, n, none⟩ = some (.int .u64 p) := by
          rw [World.cell?_of_block (w := wr) (heap_setCell_other wr _ g _ (by have := c6 g rfl; simp; omega))]; exact hc
        have hset := hS.1.set n (.int .u32 x.toNat)
        have hN := take_next I n 8 hI1 hn8
        rw [hi] at hN
        rw [hN] at hset
        have hR2 : RS1 w H I K (.slice (some ⟨g, 0, none⟩) 64 cap) (n + 1) ((wr.setCell ⟨H + 1, n, none⟩ (.int .u32 y.toNat)).setCell ⟨H, n, none⟩ (.int .u32 x.toNat)) :=
          ⟨hset, hS.2.1.setCell_other (by simp) _, hS.2.2.1.setCell (by simp; omega) _, c4, hS.2.2.2.2.1.kept (grownBy_set _ _ _ _) (.inr (by intro h; have := c6 _ h; omega)), c6⟩
        have HR2 := Lib.hid hR2
        have HY := Lib.hid hy
        have HX := Lib.hid hx
        clear hk hS hR2 hy hx hi hN hset hpe hp hcell c1 c2 c3 c5 c6 hA hR
        go_wp2_with (first
          | (go_at_call 32; ((with_reducible refine (refCube_any p (by omega) _).mono ?_); rintro e w2 ⟨rfl, rfl⟩; rw [show UInt32.ofNat (rootN fun x => cubeOver x p) = y from HY.out.symm]))
          | (go_at_call 33; ((with_reducible refine (refSquare_any p (by omega) _).mono ?_); rintro e w2 ⟨rfl, rfl⟩; rw [show UInt32.ofNat (rootN fun x => squareOver x p) = x from HX.out.symm])))
        go_roundw
        case rel => exact ⟨n + 1, by omega, by go_num, HR2.out⟩
        case measure => simp [intOf]; omega
      · have hR2 : RS1 w H I K (.slice (some ⟨g, 0, none⟩) 64 cap) (n + 1) (wr.setCell ⟨H + 1, n, none⟩ (.int .u32 y.toNat)) := by
          have e1 : I.take n = I := List.take_of_length_le (by omega)
          have e2 : I.take (n + 1) = I := List.take_of_length_le (by omega)
          have e3 : 8 - n = 0 := by omega
          have e4 : 8 - (n + 1) = 0 := by omega
          have hS1 := hS.1
          rw [e1, e3] at hS1
          refine ⟨?_, hS.2⟩
          rw [e2, e4]; exact hS1
        have HR2 := Lib.hid hR2
        have HY := Lib.hid hy
        clear hk hS hR2 hy hpe hp hcell c1 c2 c3 c5 c6 hA hR
        go_wp2_with (first
          | (go_at_call 32; ((with_reducible refine (refCube_any p (by omega) _).mono ?_); rintro e w2 ⟨rfl, rfl⟩; rw [show UInt32.ofNat (rootN fun x => cubeOver x p) = y from HY.out.symm])))
        go_roundw
        case rel => exact ⟨n + 1, by omega, by go_num, HR2.out⟩
        case measure => simp [intOf]; omega
    · obtain rfl : n = 64 := by omega
      have hR2 : RS2 w H I K wr := by
        obtain ⟨c1, c2, c3, c4, c5, c6⟩ := hR
        refine ⟨?_, ?_, c3, c4⟩
        · rw [List.take_of_length_le (by omega)] at c1; simpa using c1
        · rw [List.take_of_length_le (by omega)] at c2; simpa using c2
      clear hR
      go_wp2_with (first
          | (go_at_call 34; ((with_reducible refine (padded_any s _ hs).mono ?_); rintro e w2 ⟨rfl, hb2⟩)))
      obtain ⟨P, hP⟩ : ∃ P, P = padF s.data.toList := ⟨_, rfl⟩
      rw [← hP]
      have hPm : ∃ M, P.length = 64 * M ∧ M ≤ 17179869187 := by
        refine ⟨P.length / 64, ?_, ?_⟩
        · have := padF_mod s.data.toList; rw [← hP] at this; omega
        · have := pad2_length s.data.toList 8
          have hz := zeros_lt s.data.toList.length
          have h4 : P.length = s.data.toList.length + 1 + zeros s.data.toList.length + 8 := by rw [hP]; exact this
          have h3 : s.data.toList.length = s.size := by simp
          omega
      obtain ⟨M, hM, hMb⟩ := hPm
      have hR3 : RS2 w H (sumSt P 0).list K w2 := by
        obtain ⟨c1, c2, c3, c4⟩ := hR2
        refine ⟨?_, ?_, c3.trans (hb2.mono c3.size), c4⟩
        · have := hb2.block H c1.lt
          unfold ArrAt; rw [this]; rw [show (sumSt P 0).list = I from (h0_list.trans HI0.out.symm)]; exact c1
        · have := hb2.block (H + 1) c2.lt
          unfold ArrAt; rw [this]; exact c2
      have HP := Lib.hid hP
      have HR3 := Lib.hid hR3
      obtain ⟨T, hT⟩ : ∃ T, T = ({ data := P.toArray } : ByteArray) := ⟨_, rfl⟩
      have hTs : T.size = 64 * M := by rw [hT, mk_size, hM]
      have hTl : T.data.toList = P := by rw [hT]
      rw [← hT]
      have HT := Lib.hid hT
      have HTS := Lib.hid hTs
      have HTL := Lib.hid hTl
      have HM := Lib.hid hM
      clear hP hR3 hR2 hb2 hT hTs hTl hM
      go_loopw [8] (fun i wx => ∃ j o : Nat, j ≤ M ∧ o = 64 * j ∧ i = .int .i64 (o : Int) ∧ RS2 w H (sumSt P j).list K wx) (fun i _ => 64 * M - (intOf i).toNat)
      case atStart => exact ⟨0, 0, by omega, rfl, rfl, HR3.out⟩
      case round =>
        clear HR3
        obtain ⟨j, o, hj, ho, rfl, hR⟩ := hrel
        by_cases hjM : j < M
        · have HO := Lib.hid ho
          have hch := chunk_extract T j (by rw [HTS.out]; omega)
          rw [HTL.out, ← ho] at hch
          have hlt : o < T.size := by rw [HTS.out]; omega
          have q2 : (o : Int) + 64 ≤ (T.size : Int) := by rw [HTS.out]; omega
          have q4 : ((o : Int) + 64).toNat = o + 64 := by omega
          have q6 : (o : Int) ≤ (o : Int) + 64 := by omega
          have q7 : (0 : Int) ≤ (o : Int) + 64 := by omega
          have q5 : IntKind.i64.wrap ((o : Int) + 64) = (o : Int) + 64 := IntWalk.i64_in _ (by omega)
          have HC := Lib.hid hch
          clear ho hch
          obtain ⟨c1, c2, c3, c4⟩ := id hR
          have i42 : (Try.prog.info? 42).map (·.size) = some (u32s (sumSt P j).list).toArray.size := by rw [List.size_toArray, u32s_length]; kernel_rfl
          have i44 : (Try.prog.info? 44).map (·.size) = some (u32s K).toArray.size := by rw [List.size_toArray, u32s_length, hK1]; kernel_rfl
          have I42 := Lib.hid i42
          have I44 := Lib.hid i44
          clear i42 i44
          obtain ⟨S, hS⟩ : ∃ S, S = sumSt P j := ⟨_, rfl⟩
          rw [← hS] at c1 hR I42
          have HS := Lib.hid hS
          clear hS
          go_wp2_with fail
          refine wp_region_still_tail 7 (by kernel_rfl) (by kernel_rfl) ?_
          simp only [List.take_succ_cons, List.take_zero, List.drop_succ_cons, List.drop_zero]
          refine wpStill_step (fun X hX => ?_)
          rw [if_pos (by rfl)]
          refine still_load_row 42 _ rfl H rfl 42 (u32s S.list).toArray (0, 0) _ c1 Try.underlying42 rfl I42.out ?_
          refine hX _ ?_
          clear hX X
          still_step
          still_step
          still_step
          still_step
          still_step
          refine wpStill_step (fun X hX => ?_)
          rw [if_pos (by rfl)]
          refine still_load_row 44 _ rfl (H + 1) rfl 44 (u32s K).toArray (0, 0) _ c2 Try.underlying44 rfl I44.out ?_
          refine hX _ ?_
          clear hX X
          refine wpStill_nil ?_
          obtain ⟨S2, hS2⟩ : ∃ S2, S2 = blockF S (chunk P j) K := ⟨_, rfl⟩
          have HS2 := Lib.hid hS2
          clear hS2
          go_wp2_with (first
            | (go_at_call 35; ((with_reducible refine (refblock_at S (T.extract o (o + 64)) K _ _ S2 HC.out hK1 HS2.out).mono ?_); rintro e w3 ⟨rfl, hb3⟩))
            | (refine wpList_store_row rfl 42 _ _ rfl H (u32s S2.list).toArray rfl rfl 42 (u32s S.list).toArray ?_ ?_ (st_size _ _) (row_one _) ?_))
          · have := hb3.block H c1.lt
            rw [this]; exact c1
          · rw [I42.out, st_size S S2]
          go_roundw
          case rel =>
            refine ⟨j + 1, o + 64, by omega, by have := HO.out; omega, by go_num, ?_⟩
            have e : sumSt P (j + 1) = S2 := by rw [HS2.out, HS.out]; rw [HK0.out]; rfl
            rw [e]
            exact hR.next hb3 _
          case measure => have := HO.out; simp [intOf]; omega
        · obtain rfl : j = M := by omega
          have ho2 : o = T.size := by rw [HTS.out]; exact ho
          have hlt : ¬ (o : Int) < (T.size : Int) := by omega
          have HO2 := Lib.hid ho2
          have HO := Lib.hid ho
          clear ho2 ho
          obtain ⟨L, hL⟩ : ∃ L, L = (sumSt P j).list := ⟨_, rfl⟩
          have hL8 : L.length = 8 := by rw [hL]; rfl
          rw [← hL] at hR
          have HL := Lib.hid hL
          clear hL
          obtain ⟨c1, c2, c3, c4⟩ := hR
          obtain ⟨i0, hi, hz0, hz1, hz2⟩ := info_parts info5
          have hH2 := c2.lt
          go_wp2_with (refine wpList_make_own _ rfl _ _ 27 rfl (H + 2) 5 i0 (.int .u8 0) 1 Try.underlying27 hi hz0 hz1 .i64 .i64 32 32 rfl rfl rfl (by rw [hz2]; decide) (by decide) (by omega) (fun w4 hown hg => ?_))
          have hR3 : RS3 w H L (.slice (some ⟨wr.heap.size, 0, none⟩) 0 32) 0 w4 := by
            refine ⟨c1.grown hg (by simp), c3.grown hg (by have := c3.size; omega) (fun k hk => by simp at hk), c4, by have := hg.size; omega, hown⟩
          have HR3 := Lib.hid hR3
          clear hR3 hown hg c1 c2 c3 hH2
          go_loopw [9, 10] (fun v i wx => ∃ n : Nat, n ≤ 8 ∧ i = .int .i64 n ∧ RS3 w H L v n wx) (fun _ i _ => 8 - (intOf i).toNat)
          case atStart => exact ⟨0, by omega, rfl, HR3.out⟩
          case round =>
            clear HR3
            obtain ⟨n, hn, rfl, hR⟩ := hrel
            by_cases hn8 : n < 8
            · obtain ⟨c1, c2, c3, c5, hown⟩ := id hR
              have hc := c1.cell n (u32s_get L n (by omega))
              obtain ⟨x, hx⟩ : ∃ x, x = L.getD n 0 := ⟨_, rfl⟩
              rw [← hx] at hc
              have HX := Lib.hid hx
              have HO := Lib.hid hown
              clear hx hown c1 c2
              go_wp2_with fail
              have hlt5 : H < wr.heap.size := by omega
              have hne5 := own_ne HO.out
              go_region_held3 (fun wx => wx.cell? ⟨H, n, none⟩ = some (.int .u32 x.toNat)) (first | go_keep | (rw [hgrow.cell_far _ (by simp; omega) hne5]; assumption))
                ((refine step_append_lies _ (by rfl) _ _ 27 (by rfl) (H + 2) 5 i0 (.int .u8 0) 1 1 Try.underlying27 hi hz0 hz1 hz2 rfl (by decide) _ _ _ (by rfl) (own_drew (HO.out.alloc _))
                   ⟨wr.heap.size, 0, none⟩ 4 4 [.int .u8 ((x.toNat : Int) / 16777216 % 256), .int .u8 ((x.toNat : Int) / 65536 % 256), .int .u8 ((x.toNat : Int) / 256 % 256), .int .u8 ((x.toNat : Int) % 256)] (by rfl) (by rfl)
                   (World.news_of_block (cs := #[.int .u8 ((x.toNat : Int) / 16777216 % 256), .int .u8 ((x.toNat : Int) / 65536 % 256), .int .u8 ((x.toNat : Int) / 256 % 256), .int .u8 ((x.toNat : Int) % 256)]) (t := 5) (fr := (0, 0)) (heap_alloc_new wr _))
                   (by simp [Value.oneCell']) (by omega) (by simp only [maxLen]; omega) (by omega) (by simp; omega) (wr.heap.size + 1) (by simp) ?_; intro gg cap2 w5 hown' hgrow hat hlt5))
              all_goals
                have hN := hR.next (by omega) HX.out.symm _ (grown_drew hgrow) hown'
                have HN := Lib.hid hN
                clear hN hown' hgrow hat hlt5
                go_wp2_with fail
                go_roundw
                case rel => exact ⟨n + 1, by omega, by go_num, HN.out⟩
                case measure => simp [intOf]; omega
            · obtain rfl : n = 8 := by omega
              obtain ⟨c1, c2, c3, c5, hown⟩ := hR
              rw [List.take_of_length_le (by omega)] at hown
              obtain ⟨g, cap2, rfl, hgc⟩ := own_bytes hown (by rw [wordsB_length]; omega) (by omega)
              have hconv := run_conv_str (P := Try.prog) 27 5 9 Try.underlying27 Try.underlying5 Try.underlying9 hgc (4 * 8) cap2 (by rw [wordsB_length]; omega)
              have HH2 : Hid (wordsB L = shaSum s.data.toList) := by
                show wordsB L = _
                rw [HL.out, shaSum, ← HP.out, HM.out, Nat.mul_div_cancel_left _ (by omega)]
              clear hown hgc
              go_wp2_with fail
              go_ret
              exact ⟨by rw [HH2.out]; rfl, c2⟩
end Go.Proofs.Ytjkafmjikfbafaa
