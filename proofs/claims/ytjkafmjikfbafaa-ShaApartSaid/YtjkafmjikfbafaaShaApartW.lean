/- The walk of the law ShaApart. -/
import Derived.Test.YtjkafmjikfbafaaShaIsW
import Derived.Deep.AppendLies
import Derived.Deep.RegionHeld3
namespace Go.Proofs.Ytjkafmjikfbafaa
open Go.RowKit Go.Lib
set_option maxRecDepth 100000
set_option linter.unusedSimpArgs false
set_option linter.unusedVariables false

theorem sumB_size' (s : ByteArray) : (sumB s).size = 32 := by
  unfold sumB; rw [mk_size, shaSum_length]
theorem info9 : (Try.prog.info? 9).map (fun i => (i.zero, i.size, i.bytes)) = some (some (.string ByteArray.empty), 1, 16) := by kernel_rfl
/-- A text, its first two hundred bytes. -/
def cut200 (s : ByteArray) : ByteArray := s.extract 0 (min s.size 200)
theorem cut200_size (s : ByteArray) : (cut200 s).size ≤ 1099511627776 := by
  unfold cut200; rw [ByteArray.size_extract]; omega
theorem min200 (s : ByteArray) (z : Nat) (hz : z = min s.size 200) (ts : Array TypeId) (t : TypeId) (w : World) : (Builtin.min_ ts t #[.int .i64 s.size, .int .i64 200]).run Try.prog w = .ok (.int .i64 z) w := by
  subst hz
  by_cases h : 200 < s.size
  · have h1 : (200 : Int) < (s.size : Int) := by omega
    have h2 : min s.size 200 = 200 := by omega
    rw [h2]
    simp [go_sem, h1, h]
  · have h1 : ¬ (200 : Int) < (s.size : Int) := by omega
    have h2 : min s.size 200 = s.size := by omega
    rw [h2]
    simp [go_sem, h1, h]
def sums (ss : List ByteArray) : List Value := ss.map fun s => .string (sumB (cut200 s))
theorem sums_snoc (ss : List ByteArray) (s : ByteArray) : sums (ss ++ [s]) = sums ss ++ [.string (sumB (cut200 s))] := by simp [sums]
theorem sums_length (ss : List ByteArray) : (sums ss).length = ss.length := by simp [sums]
theorem sums_get (ss : List ByteArray) (j : Nat) (hj : j < ss.length) : (sums ss)[j]? = some (.string (sumB (cut200 (ss.getD j ByteArray.empty)))) := by
  simp [sums, List.getD, hj]

/-- What came in: a list of texts. -/
def TextsAt (w : World) (a : Option Addr) (len : Nat) (ss : List ByteArray) : Prop :=
  ss.length = len ∧ ∀ j, j < len → ∃ b o, a = some ⟨b, o, none⟩ ∧ b < w.heap.size ∧ w.cell? ⟨b, o + j, none⟩ = some (.string (ss.getD j ByteArray.empty)) ∧ (ss.getD j ByteArray.empty).size ≤ 9223372036854775807

def ApRel (w : World) (ss : List ByteArray) (v : Value) (n : Nat) (wr : World) : Prop :=
  Below w.heap.size w wr ∧ wr.ownsRow w.heap.size 9 1 v n (sums (ss.take n))
theorem ApRel.next {w wr w5 : World} {ss : List ByteArray} {v v' : Value} {n : Nat} {s : ByteArray} {w2 : World} (h : ApRel w ss v n wr) (hn : n < ss.length) (hs : ss.getD n ByteArray.empty = s) (hb : Below wr.heap.size wr w2) (o : Obj) (hg : (w2.alloc o).grownBy w5 v.ownBlock)
    (hown : w5.ownsRow w.heap.size 9 1 v' (n + 1) (sums (ss.take n) ++ [.string (sumB (cut200 s))])) : ApRel w ss v' (n + 1) w5 := by
  obtain ⟨h1, h2⟩ := h
  have h3 : Below w.heap.size w w2 := h1.trans (hb.mono h1.size)
  refine ⟨(h3.alloc h3.size _).grown hg (by rw [World.size_alloc]; have := h3.size; omega) (fun k hk => (h2.lt k hk).1), ?_⟩
  rw [← sums_snoc, ← hs] at hown
  rw [List.take_succ_eq_append_getElem hn]
  rw [List.getD_eq_getElem?_getD, List.getElem?_eq_getElem hn] at hown
  exact hown

theorem own_below {w w2 : World} {B e s : Nat} {v : Value} {n : Nat} {xs : List Value} (h : w.ownsRow B e s v n xs) (hb : Below w.drew.heap.size w.drew w2) : w2.ownsRow B e s v n xs :=
  h.kept (row := none) ⟨hb.os, hb.tape, hb.output, hb.size, fun k hk _ => hb.block k hk⟩ (by cases v.ownBlock <;> simp)
theorem below_undrew {w w2 : World} (hb : Below w.drew.heap.size w.drew w2) : Below w.heap.size w w2 := ⟨hb.os, hb.tape, hb.output, hb.size, hb.block⟩

set_option maxHeartbeats 4000000 in
theorem shaApart_walk (a : Option Addr) (len cap : Nat) (ss : List ByteArray) (w : World) (hlen : len ≤ 9223372036854775807) (ht : TextsAt w a len ss) :
    Calls Try.prog 6 #[.slice a len cap] w (TrueOut w) := by
  obtain ⟨i0, hi, hz0, hz1, hz2⟩ := info_parts info9
  have HT := Lib.hid ht
  clear ht
  go_enter Try.func6, Try.ntmps6
  go_wp2_with (go_at_call 15; ((with_reducible refine (works_any _).mono ?_); rintro e w0 ⟨rfl, hb0⟩))
  go_loopw [3, 4] (fun v i wr => ∃ n : Nat, n ≤ len ∧ n ≤ 10 ∧ i = .int .i64 n ∧ ApRel w ss v n wr) (fun _ i _ => 10 - (intOf i).toNat)
  case atStart => exact ⟨0, by omega, by omega, rfl, hb0, World.ownsRow_nil _ _ _ _⟩
  case round =>
    clear hb0
    obtain ⟨n, hn, hn10, rfl, hR⟩ := hrel
    by_cases hlt : n < len ∧ n < 10
    · obtain ⟨hl, h10⟩ := hlt
      obtain ⟨b, o, rfl, hb, hc, hsz⟩ := HT.out.2 n hl
      have hss := HT.out.1
      have hcr := hR.1.cell (p := ⟨b, o + n, none⟩) hb
      rw [hc] at hcr
      obtain ⟨s, hs⟩ : ∃ s, s = ss.getD n ByteArray.empty := ⟨_, rfl⟩
      rw [← hs] at hcr hsz
      have HS := Lib.hid hs
      have HSS := Lib.hid hss
      have hown := hR.2
      have HO := Lib.hid hown
      have hbr : b < wr.heap.size := Nat.lt_of_lt_of_le hb hR.1.size
      have hle := hR.1.size
      clear hc hs hown hss
      have hsum := cut200_size s
      obtain ⟨z, hz⟩ : ∃ z, z = min s.size 200 := ⟨_, rfl⟩
      have hcut : cut200 s = s.extract 0 z := by unfold cut200; rw [hz]
      rw [hcut] at hsum
      have HCUT := Lib.hid hcut
      have hmin := min200 s z hz
      have qz : z ≤ s.size := by omega
      have qz2 : (z : Int) ≤ (s.size : Int) := by omega
      have hsb : s.size ≤ 9223372036854775807 := hsz
      clear hcut hz
      go_wp2_with fail
      go_region_held3 (fun wx => wx.cell? ⟨b, o + n, none⟩ = some (.string s)) (first | go_keep | assumption | (rw [hgrow.cell_far _ (by simp; omega) (fun e => by have := (ho2.lt b e.symm).1; omega), World.cell?_alloc_some _ _ _ (by rw [hc2]; rfl)]; exact hc2))
        (first
          | (refine step_append_lies _ (by rfl) _ _ 28 (by rfl) w.heap.size 9 i0 (.string ByteArray.empty) 1 16 Try.underlying28 hi hz0 hz1 hz2 rfl (by decide) _ n _ (by rfl) (ho2.alloc _) ⟨w2.heap.size, 0, none⟩ 1 1 [.string (sumB (s.extract 0 z))] (by rfl) (by rfl)
               (World.news_of_block (cs := #[.string (sumB (s.extract 0 z))]) (t := 9) (fr := (0, 0)) (heap_alloc_new w2 _)) (by simp [Value.oneCell']) (by omega) (by simp only [maxLen]; omega) (by omega) (by rw [World.size_alloc]; omega) (w2.heap.size + 1) (by simp) ?_; intro gg cap2 w5 hown' hgrow hat hlt5)
          | (go_at_call 13; ((with_reducible refine (sumB_any (s.extract 0 z) _ hsum).mono ?_); rintro e w2 ⟨rfl, hb2⟩; have hc2 := (hb2.cell (p := ⟨b, o + n, none⟩) hbr).trans hcr; have ho2 := own_below HO.out hb2; have hw2 : w.heap.size ≤ w2.heap.size := Nat.le_trans hle hb2.size)))
      have hN := hR.next (by rw [HSS.out]; exact hl) HS.out.symm (below_undrew hb2) _ hgrow (by rw [HCUT.out]; exact hown')
      have HN := Lib.hid hN
      clear hN hown' hgrow hat hlt5 ho2 hc2 hb2
      go_wp2_with fail
      go_roundw
      case rel => exact ⟨n + 1, by omega, by omega, by go_num, HN.out⟩
      case measure => simp [intOf]; omega
    · have hst : ¬ (n < len) ∨ (n < len ∧ n = 10) := by omega
      have hss := HT.out.1
      obtain ⟨A, cp, rfl, hcell⟩ := own_form hR.2
      have hnl : ∀ j, j < n → ∃ g, A = some ⟨g, 0, none⟩ ∧ wr.cell? ⟨g, j, none⟩ = some (.string (sumB (cut200 (ss.getD j ByteArray.empty)))) := by
        intro j hj
        have := hcell j _ (sums_get (ss.take n) j (by rw [List.length_take]; omega))
        obtain ⟨g, h1, h2⟩ := this
        refine ⟨g, h1, ?_⟩
        rw [h2]
        congr 4
        simp [List.getD, List.getElem?_take, hj]
      have HNL := Lib.hid hnl
      have HSS := Lib.hid hss
      have hB := hR.1
      clear hss hcell hnl hR
      rcases hst with h1 | ⟨h1, h10⟩
      all_goals
        have hd10 : decide (n < 10) = false ∨ ¬ n < len := by
          by_cases h : n < len
          · exact .inl (by simp; omega)
          · exact .inr h
      · go_wp2_with fail
        go_loopw [5] (fun i wx => ∃ m : Nat, m ≤ n ∧ i = .int .i64 ((m : Int) - 1) ∧ Below wr.heap.size wr wx) (fun i _ => (1 + intOf i).toNat)
        case atStart => exact ⟨n, by omega, rfl, Below.refl _ _⟩
        case round =>
          obtain ⟨m, hm, rfl, hBx⟩ := hrel
          obtain ⟨wx, rfl⟩ : ∃ x, x = wr := ⟨_, rfl⟩
          by_cases hm0 : 0 < m
          · obtain ⟨k, rfl⟩ : ∃ k, m = k + 1 := ⟨m - 1, by omega⟩
            rw [show (((k + 1 : Nat) : Int) - 1) = (k : Int) by omega]
            obtain ⟨b, o, rfl, hb, hc, hsz⟩ := HT.out.2 k (by omega)
            obtain ⟨g, rfl, hg⟩ := HNL.out k (by omega)
            have hcr := (hB.trans (hBx.mono hB.size)).cell (p := ⟨b, o + k, none⟩) hb
            rw [hc] at hcr
            have hgl := World.block_lt_of_cell? _ _ hg
            have hsm := hBx.cell (p := ⟨g, k, none⟩) hgl
            rw [hg] at hsm
            obtain ⟨s, hs⟩ : ∃ s, s = ss.getD k ByteArray.empty := ⟨_, rfl⟩
            rw [← hs] at hcr hsz hsm
            have hsum := cut200_size s
            obtain ⟨z, hz⟩ : ∃ z, z = min s.size 200 := ⟨_, rfl⟩
            have hcut : cut200 s = s.extract 0 z := by unfold cut200; rw [hz]
            rw [hcut] at hsum hsm
            have hmin := min200 s z hz
            have qz : z ≤ s.size := by omega
            have qz2 : (z : Int) ≤ (s.size : Int) := by omega
            have hs32 := sumB_size' (s.extract 0 z)
            have hsb : s.size ≤ 9223372036854775807 := hsz
            have hbr := World.block_lt_of_cell? _ _ hcr
            have hgr := World.block_lt_of_cell? _ _ hsm
            have hkl : k < len := by omega
            have hkn : k < n := by omega
            clear hcut hz hc hg hs
            go_wp2_with fail
            go_region_held3 (fun wy => wy.cell? ⟨b, o + k, none⟩ = some (.string s) ∧ wy.cell? ⟨g, k, none⟩ = some (.string (sumB (s.extract 0 z)))) (first | go_keep | exact ⟨hc2, hd2⟩)
              (first
                | (go_at_call 13; ((with_reducible refine (sumB_any (s.extract 0 z) _ hsum).mono ?_); rintro e w2 ⟨rfl, hb2⟩; have hc2 := (hb2.cell (p := ⟨b, o + k, none⟩) hbr).trans hcr; have hd2 := (hb2.cell (p := ⟨g, k, none⟩) hgr).trans hsm)))
            go_wp2_with fail
            go_roundw
            case rel => exact ⟨k, by omega, rfl, hBx.trans ((below_undrew hb2).mono hBx.size)⟩
            case measure => simp [intOf]; omega
          · obtain rfl : m = 0 := by omega
            go_wp2_with fail
            go_ret
            exact ⟨rfl, hB.trans (hBx.mono hB.size)⟩
      · have h10' : ¬ n < 10 := by omega
        clear h10
        go_wp2_with fail
        go_loopw [5] (fun i wx => ∃ m : Nat, m ≤ n ∧ i = .int .i64 ((m : Int) - 1) ∧ Below wr.heap.size wr wx) (fun i _ => (1 + intOf i).toNat)
        case atStart => exact ⟨n, by omega, rfl, Below.refl _ _⟩
        case round =>
          obtain ⟨m, hm, rfl, hBx⟩ := hrel
          obtain ⟨wx, rfl⟩ : ∃ x, x = wr := ⟨_, rfl⟩
          by_cases hm0 : 0 < m
          · obtain ⟨k, rfl⟩ : ∃ k, m = k + 1 := ⟨m - 1, by omega⟩
            rw [show (((k + 1 : Nat) : Int) - 1) = (k : Int) by omega]
            obtain ⟨b, o, rfl, hb, hc, hsz⟩ := HT.out.2 k (by omega)
            obtain ⟨g, rfl, hg⟩ := HNL.out k (by omega)
            have hcr := (hB.trans (hBx.mono hB.size)).cell (p := ⟨b, o + k, none⟩) hb
            rw [hc] at hcr
            have hgl := World.block_lt_of_cell? _ _ hg
            have hsm := hBx.cell (p := ⟨g, k, none⟩) hgl
            rw [hg] at hsm
            obtain ⟨s, hs⟩ : ∃ s, s = ss.getD k ByteArray.empty := ⟨_, rfl⟩
            rw [← hs] at hcr hsz hsm
            have hsum := cut200_size s
            obtain ⟨z, hz⟩ : ∃ z, z = min s.size 200 := ⟨_, rfl⟩
            have hcut : cut200 s = s.extract 0 z := by unfold cut200; rw [hz]
            rw [hcut] at hsum hsm
            have hmin := min200 s z hz
            have qz : z ≤ s.size := by omega
            have qz2 : (z : Int) ≤ (s.size : Int) := by omega
            have hs32 := sumB_size' (s.extract 0 z)
            have hsb : s.size ≤ 9223372036854775807 := hsz
            have hbr := World.block_lt_of_cell? _ _ hcr
            have hgr := World.block_lt_of_cell? _ _ hsm
            have hkl : k < len := by omega
            have hkn : k < n := by omega
            clear hcut hz hc hg hs
            go_wp2_with fail
            go_region_held3 (fun wy => wy.cell? ⟨b, o + k, none⟩ = some (.string s) ∧ wy.cell? ⟨g, k, none⟩ = some (.string (sumB (s.extract 0 z)))) (first | go_keep | exact ⟨hc2, hd2⟩)
              (first
                | (go_at_call 13; ((with_reducible refine (sumB_any (s.extract 0 z) _ hsum).mono ?_); rintro e w2 ⟨rfl, hb2⟩; have hc2 := (hb2.cell (p := ⟨b, o + k, none⟩) hbr).trans hcr; have hd2 := (hb2.cell (p := ⟨g, k, none⟩) hgr).trans hsm)))
            go_wp2_with fail
            go_roundw
            case rel => exact ⟨k, by omega, rfl, hBx.trans ((below_undrew hb2).mono hBx.size)⟩
            case measure => simp [intOf]; omega
          · obtain rfl : m = 0 := by omega
            go_wp2_with fail
            go_ret
            exact ⟨rfl, hB.trans (hBx.mono hB.size)⟩
end Go.Proofs.Ytjkafmjikfbafaa
