/- The walk of sha.constants: the words at first and the constants of the rounds. -/
import Derived.Test.YtjkafmjikfbafaaPrimes
import Derived.Test.YtjkafmjikfbafaaBlockL
import Derived.Deep.DeepCutAuto
import Derived.WalkMore
import Derived.Deep.RegionHeld3
import Derived.Deep.MidRow
namespace Go.Proofs.Ytjkafmjikfbafaa
open Go.RowKit Go.Lib
set_option maxRecDepth 100000
set_option linter.unusedSimpArgs false
set_option linter.unusedVariables false

/-- The constants of the rounds, and the words at first. -/
def kRoot (p : Nat) : UInt32 := UInt32.ofNat (rootN fun x => cubeOver x p)
def hRoot (p : Nat) : UInt32 := UInt32.ofNat (rootN fun x => squareOver x p)
def kAll : List UInt32 := primes64.map kRoot
def hAll : List UInt32 := (primes64.take 8).map hRoot

def ConRel (w : World) (a b : Nat) (hs ks : List UInt32) (wr : World) : Prop :=
  ArrAt wr a 43 (u32s hs) ∧ ArrAt wr b 44 (u32s ks) ∧ Below w.heap.size w wr ∧ a < b ∧ w.heap.size ≤ a

theorem kAll_facts : ∃ K, K = kAll ∧ K.length = 64 ∧ ∀ n, n < 64 → K.getD n 0 = kRoot (primes64.getD n 0) := by
  have h64 : primes64.length = 64 := rfl
  refine ⟨kAll, rfl, by rw [kAll, List.length_map, h64], fun n hn => ?_⟩
  rw [kAll, List.getD_eq_getElem?_getD, List.getElem?_map, List.getD_eq_getElem?_getD, List.getElem?_eq_getElem (by omega)]
  rfl
theorem hAll_facts : ∃ K, K = hAll ∧ K.length = 8 ∧ ∀ n, n < 8 → K.getD n 0 = hRoot (primes64.getD n 0) := by
  have h64 : primes64.length = 64 := rfl
  refine ⟨hAll, rfl, by rw [hAll, List.length_map, List.length_take, h64]; rfl, fun n hn => ?_⟩
  rw [hAll, List.getD_eq_getElem?_getD, List.getElem?_map, List.getD_eq_getElem?_getD, List.getElem?_take, if_pos hn, List.getElem?_eq_getElem (by omega)]
  rfl
theorem take_next (L : List UInt32) (n m : Nat) (hL : L.length = m) (hn : n < m) :
    (u32s (L.take n ++ List.replicate (m - n) 0)).set n (.int .u32 (L.getD n 0).toNat) = u32s (L.take (n + 1) ++ List.replicate (m - (n + 1)) 0) := by
  rw [set_next (L.take n) n m (by simp; omega) hn, List.take_succ_eq_append_getElem (by omega)]
  simp [List.getD, show n < L.length by omega]
theorem grownBy_set (w : World) (b j : Nat) (v : Value) : w.grownBy (w.setCell ⟨b, j, none⟩ v) (some b) :=
  ⟨rfl, rfl, rfl, by simp, fun k hk hne => heap_setCell_other w _ k v (fun e => hne (by rw [e]))⟩
theorem primes_get (n : Nat) (hn : n < 64) : (u64s primes64)[n]? = some (.int .u64 (primes64.getD n 0 : Nat)) ∧ primes64.getD n 0 < 312 := by
  have h64 : primes64.length = 64 := rfl
  have h := pr_getD 310 n
  rw [pr_end] at h
  exact ⟨u64s_get _ _ (by omega), (h (by omega)).2⟩

theorem prAll_false (l : List Nat) (x j : Nat) (hj : j < l.length) (h : x % l.getD j 0 = 0) : prAll l x = false := by
  rw [prAll, List.all_eq_false]
  refine ⟨l[j], List.getElem_mem _, ?_⟩
  simpa [List.getD, hj] using h

/-- What the end of constants keeps. -/
def RowsS (w : World) (I K : List UInt32) (wx : World) : Prop := ArrAt wx w.heap.size 43 (u32s I) ∧ ArrAt wx (w.heap.size + 1) 44 (u32s K) ∧ Below w.heap.size w wx
theorem row_one (l : List UInt32) : (u32s l).toArray.all (·.oneCell') = true := by
  refine Array.all_eq_true_iff_forall_mem.2 (fun v hv => ?_)
  have hv2 : v ∈ u32s l := by simpa using hv
  simp only [u32s, List.mem_map] at hv2
  obtain ⟨b, _, rfl⟩ := hv2
  rfl
theorem RowsS.set1 {w wx : World} {I K : List UInt32} (h : RowsS w I K wx) : RowsS w I K (wx.setRow w.heap.size (u32s I).toArray) :=
  ⟨setRow_heap wx _ _ _ 43 (0, 0) h.1, by
    have h2 := h.2.1
    unfold ArrAt at h2 ⊢
    rw [setRow_other wx _ _ _ (by omega)]; exact h2, h.2.2.grown (row := some w.heap.size) ⟨rfl, rfl, rfl, by simp, fun k hk hne => setRow_other wx _ k _ (fun e => hne (by rw [e]))⟩ (by have := h.1.lt; omega) (fun k hk => by injection hk with hk; omega)⟩
theorem RowsS.set2 {w wx : World} {I K : List UInt32} (h : RowsS w I K wx) : RowsS w I K (wx.setRow (w.heap.size + 1) (u32s K).toArray) :=
  ⟨by
    have h2 := h.1
    unfold ArrAt at h2 ⊢
    rw [setRow_other wx _ _ _ (by omega)]; exact h2, setRow_heap wx _ _ _ 44 (0, 0) h.2.1, h.2.2.grown (row := some (w.heap.size + 1)) ⟨rfl, rfl, rfl, by simp, fun k hk hne => setRow_other wx _ k _ (fun e => hne (by rw [e]))⟩ (by have := h.1.lt; omega) (fun k hk => by injection hk with hk; omega)⟩
theorem results_two_rows {P : Program} {fn : Func} {p q : Tmp} {ty ty2 : TypeId} (h : fn.results = #[.cell p ty, .cell q ty2]) (tmps : Array Value) (w : World) (g g2 : Nat) (t t2 : TypeId) (cs cs2 : Array Value) (fr fr2 : Nat × Nat) (d d2 : TypeDesc)
    (hp : tmps.getD p undef = .pointer (some ⟨g, 0, none⟩)) (hq : tmps.getD q undef = .pointer (some ⟨g2, 0, none⟩)) (hg : w.heap[g]? = some (.cells cs t fr)) (hg2 : w.heap[g2]? = some (.cells cs2 t2 fr2))
    (hu : P.underlying ty = some d) (hd : (match d with | .struct _ | .array _ _ => true | _ => false) = true) (hi : (P.info? ty).map (·.size) = some cs.size)
    (hu2 : P.underlying ty2 = some d2) (hd2 : (match d2 with | .struct _ | .array _ _ => true | _ => false) = true) (hi2 : (P.info? ty2).map (·.size) = some cs2.size) :
    (results fn tmps).run P w = .ok (.tuple #[.agg cs, .agg cs2]) w := by
  have hp' : tmps[p]?.getD undef = .pointer (some ⟨g, 0, none⟩) := by simpa using hp
  have hq' : tmps[q]?.getD undef = .pointer (some ⟨g2, 0, none⟩) := by simpa using hq
  simp [results, h, hp', hq', asAddr, run_loadVar_row w g t ty cs fr d hg hu hd hi, run_loadVar_row w g2 t2 ty2 cs2 fr2 d2 hg2 hu2 hd2 hi2]
theorem RowsS.drew {w wx : World} {I K : List UInt32} (h : RowsS w I K wx) : RowsS w I K wx.drew := ⟨h.1, h.2.1, h.2.2.drew⟩

set_option maxHeartbeats 4000000 in
theorem constants_any (w : World) : Calls Try.prog 28 #[] w fun e w' => e = .returned (.tuple #[.agg (u32s hAll).toArray, .agg (u32s kAll).toArray]) ∧ Below w.heap.size w w' := by
  obtain ⟨i0, hi, hz0, hz1, hz2⟩ := info_parts info56
  go_enter Try.func28, Try.ntmps28
  go_wp2_with fail
  go_step3
  go_wp2_with fail
  go_step3
  go_wp2_with fail
  go_loopw [2, 3] (fun v x wr => ∃ k : Nat, k ≤ 310 ∧ x = .int .u64 ((k + 2 : Nat) : Int) ∧ wr.ownsRow (w.heap.size + 2) 56 1 v (pr k).length (u64s (pr k)) ∧ ConRel w w.heap.size (w.heap.size + 1) (List.replicate 8 0) (List.replicate 64 0) wr ∧ w.heap.size + 2 ≤ wr.heap.size) (fun _ x _ => 312 - (intOf x).toNat)
  case atStart => exact ⟨0, by omega, rfl, World.ownsRow_nil _ _ _ _, ⟨(arrAt_alloc _ _ 43 _ rfl).alloc _, arrAt_alloc2 _ _ _ 44 _ rfl, ((Below.refl _ _).alloc (Nat.le_refl _) _).alloc (by simp) _, by omega, by omega⟩, by simp⟩
  case round =>
    obtain ⟨k, hk, rfl, hown, hB, hsz⟩ := hrel
    by_cases hk310 : k < 310
    · obtain ⟨A, cap, rfl, hcell⟩ := own_form hown
      obtain ⟨hs, hlen⟩ := pr_step k hk310
      have hq := pr_getD k
      obtain ⟨l, hl⟩ : ∃ l, l = pr k := ⟨_, rfl⟩
      rw [← hl] at hs hlen hown hcell hq ⊢
      have HS := Lib.hid hs
      have HO := Lib.hid hown
      have HC := Lib.hid hcell
      have HQ := Lib.hid hq
      clear hs hown hl hcell hq
      obtain ⟨x, hx⟩ : ∃ x, x = k + 2 := ⟨_, rfl⟩
      have HX := Lib.hid hx
      rw [← hx]
      have hx312 : x < 312 := by omega
      clear hx
      go_wp2_with fail
      go_loopw [16] (fun i wx => ∃ j : Nat, j ≤ l.length ∧ i = .int .i64 j ∧ prAll (l.take j) x = true ∧ wx = wr) (fun i _ => 64 - (intOf i).toNat)
      case atStart => exact ⟨0, by omega, rfl, rfl, rfl⟩
      case round =>
        obtain ⟨j, hj, rfl, hall, rfl⟩ := hrel
        by_cases hjl : j < l.length
        · have ht := prAll_take l x j hjl
          rw [hall, Bool.true_and] at ht
          have hfal := prAll_false l x j hjl
          obtain ⟨g, rfl, hc⟩ := HC.out j _ (u64s_get l j hjl)
          obtain ⟨q2, q312⟩ := HQ.out j hjl
          obtain ⟨q, hq⟩ : ∃ q, q = l.getD j 0 := ⟨_, rfl⟩
          rw [← hq] at ht hc q2 q312 hfal
          have HT := Lib.hid ht
          have HF := Lib.hid hfal
          clear ht hq hfal hall
          by_cases hb : x % q = 0
          · have hbi : (x : Int) % (q : Int) = 0 := by omega
            have hs := HS.out
            rw [← HX.out, HF.out hb, if_neg (by simp)] at hs
            have HS2 := Lib.hid hs
            clear HS hs HT HF
            go_wp2_with fail
            go_roundw
            case rel => exact ⟨k + 1, by omega, by rw [HX.out]; go_num, by rw [HS2.out]; exact HO.out, hB, hsz⟩
            case measure => simp [intOf]; omega
          · have hbi : ¬ (x : Int) % (q : Int) = 0 := by omega
            have hT2 : prAll (l.take (j + 1)) x = true := by rw [HT.out]; simp [hb]
            have HT2 := Lib.hid hT2
            clear HT HF hT2
            go_wp2_with fail
            go_roundw
            case rel => exact ⟨j + 1, by omega, by go_num, HT2.out, trivial⟩
            case measure => simp [intOf]; omega
        · obtain rfl : j = l.length := by omega
          rw [List.take_length] at hall
          have hs := HS.out
          rw [← HX.out, if_pos hall] at hs
          have HS2 := Lib.hid hs
          clear HS hs hall
          go_wp2_with (at_builtin; refine wpList_append_own _ rfl _ _ 53 rfl (w.heap.size + 2) 56 i0 (.int .u64 0) 1 8 Try.underlying53 hi hz0 hz1 hz2 rfl (by decide) _ _ _ rfl (HO.out.alloc _) ⟨wr.heap.size, 0, none⟩ 1 1 [.int .u64 (x : Nat)] rfl rfl ?c1 ?c2 ?c3 ?c4 ?c5 ?_)
          case c1 => exact one_new _ _ _
          case c2 => simp [Value.oneCell']
          case c3 => simp only [maxLen]; omega
          case c4 => omega
          case c5 => rw [World.size_alloc]; omega
          intro v' w1 hown' hg hne
          have hlt := fun k hk => (HO.out.lt k hk).1
          have hB1 : ConRel w w.heap.size (w.heap.size + 1) (List.replicate 8 0) (List.replicate 64 0) w1 := by
            obtain ⟨c1, c2, c3, c4, c5⟩ := hB
            refine ⟨(c1.alloc _).grown hg ?_, (c2.alloc _).grown hg ?_, (c3.alloc (by omega) _).grown hg (by rw [World.size_alloc]; omega) (fun k hk => by have := hlt k hk; omega), c4, c5⟩
            · intro h; have := hlt _ h.symm; omega
            · intro h; have := hlt _ h.symm; omega
          have hsz1 : w.heap.size + 2 ≤ w1.heap.size := by have := hg.size; rw [World.size_alloc] at this; omega
          have hown2 : w1.ownsRow (w.heap.size + 2) 56 1 v' (pr (k + 1)).length (u64s (pr (k + 1))) := by
            rw [HS2.out]; simpa [u64s] using hown'
          have HO2 := Lib.hid hown2
          clear hown' hown2 hg hne hlt
          go_wp2_with fail
          go_roundw
          case rel => exact ⟨k + 1, by omega, by rw [HX.out]; go_num, HO2.out, hB1, hsz1⟩
          case measure => simp [intOf]; omega
    · obtain rfl : k = 310 := by omega
      rw [pr_end] at hown
      obtain ⟨A, cap, rfl, hcell⟩ := own_form hown
      have h64 : primes64.length = 64 := rfl
      rw [h64] at hown ⊢
      have HO := Lib.hid hown
      have HC := Lib.hid hcell
      clear hown hcell
      obtain ⟨K, hK0, hK1, hK2⟩ := kAll_facts
      obtain ⟨I, hI0, hI1, hI2⟩ := hAll_facts
      have HK0 := Lib.hid hK0
      have HI0 := Lib.hid hI0
      have HK2 := Lib.hid hK2
      have HI2 := Lib.hid hI2
      clear hK0 hI0 hK2 hI2 HC
      go_wp2_with fail
      go_loopw [31] (fun i wx => ∃ n : Nat, n ≤ 64 ∧ i = .int .i64 n ∧ ConRel w w.heap.size (w.heap.size + 1) (List.replicate 8 0) (K.take n ++ List.replicate (64 - n) 0) wx ∧ wx.ownsRow (w.heap.size + 2) 56 1 (.slice A 64 cap) 64 (u64s primes64)) (fun i _ => 64 - (intOf i).toNat)
      case atStart => exact ⟨0, by omega, rfl, hB, HO.out⟩
      case round =>
        clear HO hB hsz
        obtain ⟨n, hn, rfl, hR, hown⟩ := hrel
        by_cases hn64 : n < 64
        · obtain ⟨A', cap', hA, hcell⟩ := own_form hown
          obtain ⟨rfl, rfl⟩ : A = A' ∧ cap = cap' := by injection hA with h1 h2 h3; exact ⟨h1, h3⟩
          obtain ⟨hp, hp312⟩ := primes_get n hn64
          obtain ⟨g, rfl, hc⟩ := hcell n _ hp
          have hk := HK2.out n hn64
          obtain ⟨p, hpe⟩ : ∃ p, p = primes64.getD n 0 := ⟨_, rfl⟩
          rw [← hpe] at hc hk hp312
          have hrow := hR.2.1
          have z1 := hrow.cell (v := .int .u32 0) n (row_zero (by simp; omega) hn64)
          have z2 := hrow.free n
          have hN := take_next K n 64 hK1 hn64
          rw [hk] at hN
          have hset := hrow.set n (.int .u32 (kRoot p).toNat)
          rw [hN] at hset
          obtain ⟨c1, c2, c3, c4, c5⟩ := hR
          have hR1 : ConRel w w.heap.size (w.heap.size + 1) (List.replicate 8 0) (K.take (n + 1) ++ List.replicate (64 - (n + 1)) 0) (wr.setCell ⟨w.heap.size + 1, n, none⟩ (.int .u32 (kRoot p).toNat)) :=
            ⟨c1.setCell_other (by simp) _, hset, c3.setCell (by simp) _, c4, c5⟩
          have hO1 : (wr.setCell ⟨w.heap.size + 1, n, none⟩ (.int .u32 (kRoot p).toNat)).ownsRow (w.heap.size + 2) 56 1 (.slice (some ⟨g, 0, none⟩) 64 cap) 64 (u64s primes64) :=
            hown.kept (grownBy_set _ _ _ _) (.inr (by intro h; have := (hown.lt _ h).1; omega))
          have HR1 := Lib.hid hR1
          have HO1 := Lib.hid hO1
          clear hp hk hpe hrow hN hset c1 c2 c3 c4 c5 hR1 hO1 hown hcell hA
          obtain ⟨y, hy⟩ : ∃ y, y = kRoot p := ⟨_, rfl⟩
          rw [← hy] at HR1 HO1
          have HY := Lib.hid hy
          clear hy
          go_wp2_with (go_at_call 49; ((with_reducible refine (root_cube p (by omega) _).mono ?_); rintro e w1 ⟨rfl, rfl⟩; rw [show UInt32.ofNat (rootN fun x => cubeOver x p) = y from HY.out.symm]))
          go_roundw
          case rel =>
            repeat apply Exists.intro
            refine ⟨?rr, ?ee⟩
            case ee => rfl
            case rr => exact ⟨n + 1, by omega, by go_num, HR1.out, HO1.out⟩
          case measure => simp [intOf]; omega
        · obtain rfl : n = 64 := by omega
          have hR : ConRel w w.heap.size (w.heap.size + 1) (List.replicate 8 0) K wr := by simpa [List.take_of_length_le (Nat.le_of_eq hK1)] using hR
          go_wp2_with fail
          go_loopw [41] (fun i wx => ∃ n : Nat, n ≤ 8 ∧ i = .int .i64 n ∧ ConRel w w.heap.size (w.heap.size + 1) (I.take n ++ List.replicate (8 - n) 0) K wx ∧ wx.ownsRow (w.heap.size + 2) 56 1 (.slice A 64 cap) 64 (u64s primes64)) (fun i _ => 8 - (intOf i).toNat)
          case atStart => exact ⟨0, by omega, rfl, hR, hown⟩
          case round =>
            clear hR hown
            obtain ⟨n, hn, rfl, hR, hown⟩ := hrel
            by_cases hn8 : n < 8
            · obtain ⟨A', cap', hA, hcell⟩ := own_form hown
              obtain ⟨rfl, rfl⟩ : A = A' ∧ cap = cap' := by injection hA with h1 h2 h3; exact ⟨h1, h3⟩
              obtain ⟨hp, hp312⟩ := primes_get n (by omega)
              obtain ⟨g, rfl, hc⟩ := hcell n _ hp
              have hk := HI2.out n hn8
              obtain ⟨p, hpe⟩ : ∃ p, p = primes64.getD n 0 := ⟨_, rfl⟩
              rw [← hpe] at hc hk hp312
              have hrow := hR.1
              have z1 := hrow.cell (v := .int .u32 0) n (row_zero (by simp; omega) hn8)
              have z2 := hrow.free n
              have hN := take_next I n 8 hI1 hn8
              rw [hk] at hN
              have hset := hrow.set n (.int .u32 (hRoot p).toNat)
              rw [hN] at hset
              obtain ⟨c1, c2, c3, c4, c5⟩ := hR
              have hR1 : ConRel w w.heap.size (w.heap.size + 1) (I.take (n + 1) ++ List.replicate (8 - (n + 1)) 0) K (wr.setCell ⟨w.heap.size, n, none⟩ (.int .u32 (hRoot p).toNat)) :=
                ⟨hset, c2.setCell_other (by simp) _, c3.setCell (by simp) _, c4, c5⟩
              have hO1 : (wr.setCell ⟨w.heap.size, n, none⟩ (.int .u32 (hRoot p).toNat)).ownsRow (w.heap.size + 2) 56 1 (.slice (some ⟨g, 0, none⟩) 64 cap) 64 (u64s primes64) :=
                hown.kept (grownBy_set _ _ _ _) (.inr (by intro h; have := (hown.lt _ h).1; omega))
              have HR1 := Lib.hid hR1
              have HO1 := Lib.hid hO1
              clear hp hk hpe hrow hN hset c1 c2 c3 c4 c5 hR1 hO1 hown hcell hA
              obtain ⟨y, hy⟩ : ∃ y, y = hRoot p := ⟨_, rfl⟩
              rw [← hy] at HR1 HO1
              have HY := Lib.hid hy
              clear hy
              go_wp2_with (go_at_call 49; ((with_reducible refine (root_square p (by omega) _).mono ?_); rintro e w1 ⟨rfl, rfl⟩; rw [show UInt32.ofNat (rootN fun x => squareOver x p) = y from HY.out.symm]))
              go_roundw
              case rel =>
                repeat apply Exists.intro
                refine ⟨?rr, ?ee⟩
                case ee => rfl
                case rr => exact ⟨n + 1, by omega, by go_num, HR1.out, HO1.out⟩
              case measure => simp [intOf]; omega
            · obtain rfl : n = 8 := by omega
              have hR : ConRel w w.heap.size (w.heap.size + 1) I K wr := by simpa [List.take_of_length_le (Nat.le_of_eq hI1)] using hR
              have hS : RowsS w I K wr := ⟨hR.1, hR.2.1, hR.2.2.1⟩
              go_wp2_with fail
              refine wp_region_held_drew (S := RowsS w I K) (by kernel_rfl) hS.drew (fun hs0 => ?_)
              have i43 : (Try.prog.info? 43).map (·.size) = some (u32s I).toArray.size := by rw [List.size_toArray, u32s_length, hI1]; kernel_rfl
              have i44 : (Try.prog.info? 44).map (·.size) = some (u32s K).toArray.size := by rw [List.size_toArray, u32s_length, hK1]; kernel_rfl
              have L0 := fun (wx : World) (h : RowsS w I K wx) => h.1
              have L1 := fun (wx : World) (h : RowsS w I K wx) => h.2.1
              have fin : ∀ (a : Act) (wx : World), RowsS w I K wx → a.tmps.getD 0 undef = .pointer (some ⟨w.heap.size, 0, none⟩) → a.tmps.getD 1 undef = .pointer (some ⟨w.heap.size + 1, 0, none⟩) → a.defers = [] → bodyPost Try.prog Try.f28 (fun e w' => e = .returned (.tuple #[.agg (u32s hAll).toArray, .agg (u32s kAll).toArray]) ∧ Below w.heap.size w w') .ret a wx := by
                intro a wx hw h0 h1 hd
                refine bodyPost_ret (results_two_rows rfl _ _ w.heap.size (w.heap.size + 1) 43 44 (u32s I).toArray (u32s K).toArray (0, 0) (0, 0) _ _ h0 h1 hw.1 hw.2.1 Try.underlying43 rfl i43 Try.underlying44 rfl i44) hd ⟨?_, hw.2.2⟩
                rw [← HI0.out, ← HK0.out]
              refine wpAnyH_ready (rs := [0, 1]) (by kernel_rfl) (by simp) ?_
              refine AllReadyH.cons rfl (fun K1 hK1 => ?_) (AllReadyH.cons rfl (fun K1 hK1 => ?_) AllReadyH.nil)
              · rw [if_pos (by rfl)]
                refine wp_load_row 43 _ rfl w.heap.size rfl 43 (u32s I).toArray (0, 0) _ hs0.1 Try.underlying43 rfl i43 ?_
                refine hK1.out _ _ hs0 (fun _ => ?_)
                refine wpAnyH_ready (rs := [1, 2]) (by kernel_rfl) (by simp) ?_
                refine AllReadyH.cons rfl (fun K1 hK1 => ?_) (AllReadyH.cons rfl (fun K1 hK1 => ?_) AllReadyH.nil)
                · rw [if_pos (by rfl)]
                  refine wp_load_row 44 _ rfl (w.heap.size + 1) rfl 44 (u32s K).toArray (0, 0) _ hs0.2.1 Try.underlying44 rfl i44 ?_
                  refine hK1.out _ _ hs0 (fun _ => ?_)
                  refine wpAnyH_ready (rs := [2]) (by kernel_rfl) (by simp) ?_
                  refine AllReadyH.cons rfl (fun K1 hK1 => ?_) AllReadyH.nil
                  rw [if_pos (by rfl)]
                  refine wp_store_row 43 _ _ rfl w.heap.size (u32s I).toArray rfl rfl 43 _ hs0.1 i43 rfl (row_one _) ?_
                  refine hK1.out _ _ hs0.set1 (fun _ => ?_)
                  refine wpAnyH_ready (rs := [3]) (by kernel_rfl) (by simp) ?_
                  refine AllReadyH.cons rfl (fun K1 hK1 => ?_) AllReadyH.nil
                  rw [if_pos (by rfl)]
                  refine wp_store_row 44 _ _ rfl (w.heap.size + 1) (u32s K).toArray rfl rfl 44 _ hs0.set1.2.1 i44 rfl (row_one _) ?_
                  refine hK1.out _ _ hs0.set1.set2 (fun _ => ?_)
                  refine wpAnyH_done (by kernel_rfl) ?_ _
                  have hfin := hs0.set1.set2
                  go_wp2_with fail
                  try rw [Exit.noGoto_ret]
                  exact fin _ _ hfin rfl rfl rfl
                · rw [if_pos (by rfl)]
                  refine wp_store_row 43 _ _ rfl w.heap.size (u32s I).toArray rfl rfl 43 _ hs0.1 i43 rfl (row_one _) ?_
                  refine hK1.out _ _ hs0.set1 (fun _ => ?_)
                  refine wpAnyH_ready (rs := [1]) (by kernel_rfl) (by simp) ?_
                  refine AllReadyH.cons rfl (fun K1 hK1 => ?_) AllReadyH.nil
                  rw [if_pos (by rfl)]
                  refine wp_load_row 44 _ rfl (w.heap.size + 1) rfl 44 (u32s K).toArray (0, 0) _ hs0.set1.2.1 Try.underlying44 rfl i44 ?_
                  refine hK1.out _ _ hs0.set1 (fun _ => ?_)
                  refine wpAnyH_ready (rs := [3]) (by kernel_rfl) (by simp) ?_
                  refine AllReadyH.cons rfl (fun K1 hK1 => ?_) AllReadyH.nil
                  rw [if_pos (by rfl)]
                  refine wp_store_row 44 _ _ rfl (w.heap.size + 1) (u32s K).toArray rfl rfl 44 _ hs0.set1.2.1 i44 rfl (row_one _) ?_
                  refine hK1.out _ _ hs0.set1.set2 (fun _ => ?_)
                  refine wpAnyH_done (by kernel_rfl) ?_ _
                  have hfin := hs0.set1.set2
                  go_wp2_with fail
                  try rw [Exit.noGoto_ret]
                  exact fin _ _ hfin rfl rfl rfl
              · rw [if_pos (by rfl)]
                refine wp_load_row 44 _ rfl (w.heap.size + 1) rfl 44 (u32s K).toArray (0, 0) _ hs0.2.1 Try.underlying44 rfl i44 ?_
                refine hK1.out _ _ hs0 (fun _ => ?_)
                refine wpAnyH_ready (rs := [0]) (by kernel_rfl) (by simp) ?_
                refine AllReadyH.cons rfl (fun K1 hK1 => ?_) AllReadyH.nil
                rw [if_pos (by rfl)]
                refine wp_load_row 43 _ rfl w.heap.size rfl 43 (u32s I).toArray (0, 0) _ hs0.1 Try.underlying43 rfl i43 ?_
                refine hK1.out _ _ hs0 (fun _ => ?_)
                refine wpAnyH_ready (rs := [2]) (by kernel_rfl) (by simp) ?_
                refine AllReadyH.cons rfl (fun K1 hK1 => ?_) AllReadyH.nil
                rw [if_pos (by rfl)]
                refine wp_store_row 43 _ _ rfl w.heap.size (u32s I).toArray rfl rfl 43 _ hs0.1 i43 rfl (row_one _) ?_
                refine hK1.out _ _ hs0.set1 (fun _ => ?_)
                refine wpAnyH_ready (rs := [3]) (by kernel_rfl) (by simp) ?_
                refine AllReadyH.cons rfl (fun K1 hK1 => ?_) AllReadyH.nil
                rw [if_pos (by rfl)]
                refine wp_store_row 44 _ _ rfl (w.heap.size + 1) (u32s K).toArray rfl rfl 44 _ hs0.set1.2.1 i44 rfl (row_one _) ?_
                refine hK1.out _ _ hs0.set1.set2 (fun _ => ?_)
                refine wpAnyH_done (by kernel_rfl) ?_ _
                have hfin := hs0.set1.set2
                go_wp2_with fail
                try rw [Exit.noGoto_ret]
                exact fin _ _ hfin rfl rfl rfl
end Go.Proofs.Ytjkafmjikfbafaa
