/- The first 64 primes, and the walk of the reference's primes. -/
import Derived.Test.YtjkafmjikfbafaaRoots
import Derived.Deep.AppendLies
import Derived.Laws.OwnMore
import Derived.Laws.AppendOwn
namespace Go.Proofs.Ytjkafmjikfbafaa
open Go.RowKit Go.Lib
set_option maxRecDepth 100000
set_option linter.unusedSimpArgs false
set_option linter.unusedVariables false

/-- The first 64 primes. -/
def primes64 : List Nat := [2, 3, 5, 7, 11, 13, 17, 19, 23, 29, 31, 37, 41, 43, 47, 53, 59, 61, 67, 71, 73, 79, 83, 89, 97, 101, 103, 107, 109, 113, 127, 131, 137, 139, 149, 151, 157, 163, 167, 173, 179, 181, 191, 193, 197, 199, 211, 223, 227, 229, 233, 239, 241, 251, 257, 263, 269, 271, 277, 281, 283, 293, 307, 311]
/-- Those below k + 2. -/
def pr (k : Nat) : List Nat := primes64.filter fun q => decide (q < k + 2)
def prAll (l : List Nat) (x : Nat) : Bool := l.all fun q => decide (x % q ≠ 0)
def u64s (l : List Nat) : List Value := l.map fun n => .int .u64 (n : Nat)
theorem u64s_length (l : List Nat) : (u64s l).length = l.length := by simp [u64s]
theorem u64s_get (l : List Nat) (j : Nat) (h : j < l.length) : (u64s l)[j]? = some (.int .u64 (l.getD j 0 : Nat)) := by
  simp [u64s, List.getD, h]

theorem pr_table : ((List.range 310).all fun k => ((if prAll (pr k) (k + 2) then pr k ++ [k + 2] else pr k) == pr (k + 1)) && decide ((pr k).length < 64)) = true := by kernel_rfl
theorem pr_zero : pr 0 = [] := by kernel_rfl
theorem pr_end : pr 310 = primes64 := by kernel_rfl
theorem primes64_big : (primes64.all fun q => decide (2 ≤ q) && decide (q < 312)) = true := by kernel_rfl
theorem pr_step (k : Nat) (hk : k < 310) : pr (k + 1) = (if prAll (pr k) (k + 2) then pr k ++ [k + 2] else pr k) ∧ (pr k).length < 64 := by
  have h := List.all_eq_true.1 pr_table k (List.mem_range.2 hk)
  simp only [Bool.and_eq_true, beq_iff_eq, decide_eq_true_eq] at h
  exact ⟨h.1.symm, h.2⟩
theorem pr_mem (k q : Nat) (h : q ∈ pr k) : 2 ≤ q ∧ q < 312 := by
  have h1 := List.all_eq_true.1 primes64_big q (List.mem_filter.1 h).1
  simpa using h1
theorem pr_getD (k j : Nat) (hj : j < (pr k).length) : 2 ≤ (pr k).getD j 0 ∧ (pr k).getD j 0 < 312 := by
  apply pr_mem k
  rw [List.getD_eq_getElem?_getD, List.getElem?_eq_getElem hj]
  exact List.getElem_mem _
theorem prAll_take (l : List Nat) (x j : Nat) (hj : j < l.length) : prAll (l.take (j + 1)) x = (prAll (l.take j) x && decide (x % l.getD j 0 ≠ 0)) := by
  rw [List.take_succ_eq_append_getElem hj, prAll, List.all_append]
  simp [prAll, List.getD, hj]

theorem rem_ne (x q : Nat) : (((x : Int) % (q : Int)) != 0) = decide (x % q ≠ 0) := by
  have e : ((x : Int) % (q : Int)) = ((x % q : Nat) : Int) := (Int.natCast_emod _ _).symm
  rw [e]
  by_cases h : x % q = 0
  · simp [h]
  · have h2 : ¬ (((x % q : Nat) : Int) = 0) := by omega
    simp only [h, ne_eq, not_false_eq_true, decide_true, bne_iff_ne]
    exact h2
theorem info56 : (Try.prog.info? 56).map (fun i => (i.zero, i.size, i.bytes)) = some (some (.int .u64 0), 1, 8) := by kernel_rfl
theorem own_form {w : World} {base : Nat} {e : TypeId} {v : Value} {n : Nat} {xs : List Value} (h : w.ownsRow base e 1 v n xs) :
    ∃ A cap, v = .slice A n cap ∧ ∀ j u, xs[j]? = some u → ∃ g, A = some ⟨g, 0, none⟩ ∧ w.cell? ⟨g, j, none⟩ = some u := by
  have hl := h.1
  rcases Nat.eq_zero_or_pos n with h0 | h0
  · subst h0
    rcases h.2 with ⟨rfl, _⟩ | ⟨g, cap, cur, rfl, _⟩
    · exact ⟨none, 0, rfl, fun j u hu => by have : xs = [] := List.length_eq_zero_iff.1 (by omega); subst this; simp at hu⟩
    · exact ⟨_, cap, rfl, fun j u hu => by have : xs = [] := List.length_eq_zero_iff.1 (by omega); subst this; simp at hu⟩
  · obtain ⟨g, cap, rfl, _⟩ := h.form h0
    refine ⟨_, cap, rfl, fun j u hu => ⟨g, rfl, ?_⟩⟩
    have hj : j < xs.length := by
      rcases Nat.lt_or_ge j xs.length with h1 | h1
      · exact h1
      · rw [List.getElem?_eq_none h1] at hu; cases hu
    rw [h.cellAt j (by omega), hu]

theorem one_new (w : World) (v : Value) (t : TypeId) : ∀ (j : Nat) (u : Value), [v][j]? = some u → (w.alloc (Obj.cells #[v] t)).cell? ((⟨w.heap.size, 0, none⟩ : Addr).add j) = some u := by
  intro j u hj
  match j, hj with
  | 0, hj =>
    simp at hj
    subst hj
    exact (arrAt_alloc w #[v] t [v] rfl).cell 0 rfl
  | n + 1, hj => simp at hj
set_option maxHeartbeats 1000000 in
theorem primes_any (w : World) : Calls Try.prog 31 #[.int .i64 64] w fun e w' => (∃ v, e = .returned v ∧ w'.ownsRow w.heap.size 56 1 v 64 (u64s primes64)) ∧ Below w.heap.size w w' := by
  obtain ⟨i0, hi, hz0, hz1, hz2⟩ := info_parts info56
  go_enter Try.func31, Try.ntmps31
  go_wp2_with fail
  go_loopw [3, 4] (fun v x wr => ∃ k : Nat, k ≤ 310 ∧ x = .int .u64 ((k + 2 : Nat) : Int) ∧ wr.ownsRow w.heap.size 56 1 v (pr k).length (u64s (pr k)) ∧ Below w.heap.size w wr) (fun _ x _ => 312 - (intOf x).toNat)
  case atStart => exact ⟨0, by omega, rfl, World.ownsRow_nil _ _ _ _, Below.refl _ _⟩
  case round =>
    obtain ⟨k, hk, rfl, hown, hB⟩ := hrel
    by_cases hk310 : k < 310
    · obtain ⟨A, cap, rfl, hcell⟩ := own_form hown
      obtain ⟨hs, hlen⟩ := pr_step k hk310
      have hq := pr_getD k
      obtain ⟨l, hl⟩ : ∃ l, l = pr k := ⟨_, rfl⟩
      rw [← hl] at hs hlen hown hcell hq ⊢
      have HS := Lib.hid hs
      have HO := Lib.hid hown
      have HC := Lib.hid hcell
      have HQ := Lib.hid hq
      clear hs hown hl hcell hq
      obtain ⟨x, hx⟩ : ∃ x, x = k + 2 := ⟨_, rfl⟩
      have HX := Lib.hid hx
      rw [← hx]
      have hx312 : x < 312 := by omega
      clear hx
      go_wp2_with fail
      go_loopw [5, 6] (fun b i wx => ∃ j : Nat, j ≤ l.length ∧ i = .int .i64 j ∧ b = .bool (prAll (l.take j) x) ∧ wx = wr) (fun _ i _ => 64 - (intOf i).toNat)
      case atStart => exact ⟨0, by omega, rfl, rfl, rfl⟩
      case round =>
        obtain ⟨j, hj, rfl, rfl, rfl⟩ := hrel
        by_cases hjl : j < l.length
        · have ht := prAll_take l x j hjl
          obtain ⟨g, rfl, hc⟩ := HC.out j _ (u64s_get l j hjl)
          obtain ⟨q2, q312⟩ := HQ.out j hjl
          obtain ⟨q, hq⟩ : ∃ q, q = l.getD j 0 := ⟨_, rfl⟩
          rw [← hq] at ht hc q2 q312
          have HT := Lib.hid ht
          clear ht hq
          by_cases hb : prAll (l.take j) x = true
          · rw [hb]
            rw [hb] at HT
            go_wp2_with fail
            go_roundw
            case rel => exact ⟨j + 1, by omega, by go_num, by rw [HT.out, Bool.true_and, rem_ne], trivial⟩
            case measure => simp [intOf]; omega
          · have hb : prAll (l.take j) x = false := by simpa using hb
            rw [hb]
            rw [hb] at HT
            go_wp2_with fail
            go_roundw
            case rel => exact ⟨j + 1, by omega, by go_num, by rw [HT.out]; rfl, trivial⟩
            case measure => simp [intOf]; omega
        · obtain rfl : j = l.length := by omega
          rw [List.take_length]
          by_cases hb : prAll l x = true
          · rw [hb]
            have hs := HS.out
            rw [← HX.out, if_pos hb] at hs
            have HS2 := Lib.hid hs
            clear HS hs
            go_wp2_with (at_builtin; refine wpList_append_own _ rfl _ _ 53 rfl w.heap.size 56 i0 (.int .u64 0) 1 8 Try.underlying53 hi hz0 hz1 hz2 rfl (by decide) _ _ _ rfl (HO.out.alloc _) ⟨wr.heap.size, 0, none⟩ 1 1 [.int .u64 (x : Nat)] rfl rfl ?c1 ?c2 ?c3 ?c4 ?c5 ?_)
            case c1 => exact one_new _ _ _
            case c2 => simp [Value.oneCell']
            case c3 => simp only [maxLen]; omega
            case c4 => omega
            case c5 => rw [World.size_alloc]; have := hB.size; omega
            intro v' w1 hown' hg hne
            have hBs := hB.size
            have hB1 := (hB.alloc hBs (Obj.cells #[Value.int IntKind.u64 x] 56)).grown hg (by rw [World.size_alloc]; omega) (fun k hk => (HO.out.lt k hk).1)
            have hown2 : w1.ownsRow w.heap.size 56 1 v' (pr (k + 1)).length (u64s (pr (k + 1))) := by
              rw [HS2.out]; simpa [u64s] using hown'
            have HO2 := Lib.hid hown2
            clear hown' hown2 hg hne
            go_wp2_with fail
            go_roundw
            case rel => exact ⟨k + 1, by omega, by rw [HX.out]; go_num, HO2.out, hB1⟩
            case measure => simp [intOf]; omega
          · have hb : prAll l x = false := by simpa using hb
            rw [hb]
            have hs := HS.out
            rw [← HX.out, if_neg (by simp [hb])] at hs
            have HS2 := Lib.hid hs
            clear HS hs
            go_wp2_with fail
            go_roundw
            case rel => exact ⟨k + 1, by omega, by rw [HX.out]; go_num, by rw [HS2.out]; exact HO.out, hB⟩
            case measure => simp [intOf]; omega
    · obtain rfl : k = 310 := by omega
      rw [pr_end] at hown
      obtain ⟨A, cap, rfl, hcell⟩ := own_form hown
      have h64 : primes64.length = 64 := rfl
      rw [h64] at hown ⊢
      have HO := Lib.hid hown
      clear hown hcell
      go_wp2_with fail
      go_ret
      exact ⟨⟨_, rfl, HO.out⟩, hB⟩
end Go.Proofs.Ytjkafmjikfbafaa
