/- The law NameKnown: its walk. -/
import Derived.Test.YtjkafmjikfbafaaNameB
namespace Go.Proofs.Ytjkafmjikfbafaa
open Go.RowKit
set_option maxRecDepth 100000
set_option linter.unusedSimpArgs false
set_option linter.unusedVariables false
def knownR : Array Value := #[.string ⟨#[]⟩, .int .i64 2, .string ⟨#[97, 32, 98]⟩, .int .i64 2, .string ⟨#[43]⟩, .int .i64 0, .string ⟨#[46, 97]⟩, .int .i64 2, .string ⟨#[97, 46]⟩, .int .i64 0, .string ⟨#[45]⟩, .int .i64 0, .string ⟨#[95, 90, 57]⟩, .int .i64 0,
  .string ⟨#[49, 50, 51, 52, 53, 54, 55, 56, 57, 48, 49, 50, 51, 52, 53, 54, 55, 56, 57, 48]⟩, .int .i64 0, .string ⟨#[49, 50, 51, 52, 53, 54, 55, 56, 57, 48, 49, 50, 51, 52, 53, 54, 55, 56, 57, 48, 49]⟩, .int .i64 3, .string ⟨#[97, 47, 98]⟩, .int .i64 2, .string ⟨#[0]⟩, .int .i64 2]
theorem known_row (k : Nat) (hk : k < 11) : ∃ s : ByteArray, ∃ e : Nat, knownR[k * 2]? = some (.string s) ∧ knownR[k * 2 + 1]? = some (.int .i64 (e : Nat)) ∧ checkN s.data.toList = e ∧ s.size ≤ 1000 := by
  have h : (k = 0 ∨ k = 1 ∨ k = 2 ∨ k = 3) ∨ (k = 4 ∨ k = 5 ∨ k = 6 ∨ k = 7) ∨ (k = 8 ∨ k = 9 ∨ k = 10) := by omega
  rcases h with (rfl | rfl | rfl | rfl) | (rfl | rfl | rfl | rfl) | (rfl | rfl | rfl)
  all_goals exact ⟨_, _, rfl, rfl, by decide +kernel, by decide⟩
theorem known_cell (w wr : World) (h : Below (w.alloc (.cells knownR 38)).heap.size (w.alloc (.cells knownR 38)) wr) (j : Nat) : wr.cell? ⟨w.heap.size, j, none⟩ = knownR[j]? := by
  have h1 := (h.block w.heap.size (by show w.heap.size < (w.heap.push _).size; simp)).trans (heap_alloc_new w (.cells knownR 38))
  show (match wr.heap[w.heap.size]? with | some (.cells c _ _) => _ | _ => none) = _
  rw [h1]; rfl

theorem loop_data (b : ByteArray) (i : Nat) (r : List UInt8) : ByteArray.toList.loop b i r = r.reverse ++ b.data.toList.drop i := by
  fun_induction ByteArray.toList.loop b i r with
  | case1 i r h ih =>
    rw [ih, List.reverse_cons, List.append_assoc]
    have hl : i < b.data.toList.length := by simpa using h
    rw [List.drop_eq_getElem_cons hl]
    congr 1
    show b.get! i :: _ = _
    congr 1
    have h2 : i < b.data.size := h
    show b.data[i]! = _
    rw [getElem!_pos b.data i h2]
    simp
  | case2 i r h =>
    have hl : b.data.toList.length ≤ i := by
      have : b.data.toList.length = b.size := by simp
      omega
    rw [List.drop_of_length_le hl, List.append_nil]
theorem toList_data (b : ByteArray) : b.toList = b.data.toList := loop_data b 0 []
theorem cells2 (wr : World) (s : ByteArray) (e : Nat) : (wr.alloc (.cells #[.string s, .int .i64 e] 38)).drew.cell? ⟨wr.heap.size, 0, none⟩ = some (.string s) ∧ (wr.alloc (.cells #[.string s, .int .i64 e] 38)).drew.cell? ⟨wr.heap.size, 1, none⟩ = some (.int .i64 e) ∧ Below wr.heap.size wr (wr.alloc (.cells #[.string s, .int .i64 e] 38)).drew := by
  have h := heap_alloc_new wr (.cells #[.string s, .int .i64 e] 38)
  refine ⟨?_, ?_, ((Below.refl _ _).alloc (Nat.le_refl _) _).drew⟩ <;> (show (match (wr.alloc (.cells #[.string s, .int .i64 e] 38)).heap[wr.heap.size]? with | some (.cells c _ _) => _ | _ => none) = _; rw [h]; rfl)
set_option maxHeartbeats 8000000 in
theorem nameKnown_walk (w : World) : Calls Try.prog 12 #[] w (TrueOut w) := by
  go_enter Try.func12, Try.ntmps12
  go_wp2_with fail
  go_loopw [1, 2, 38] (fun _ _ kv wr => ∃ k : Nat, k ≤ 11 ∧ kv = .int .i64 k ∧ Below (w.alloc (.cells knownR 38)).heap.size (w.alloc (.cells knownR 38)) wr) (fun _ _ kv _ => 11 - (intOf kv).toNat)
  case atStart => exact ⟨0, by omega, rfl, Below.refl _ _⟩
  case round =>
    obtain ⟨k, hk, rfl, hbel⟩ := hrel
    by_cases hk1 : k < 11
    · obtain ⟨s, e, r1, r2, hce, hsz⟩ := known_row k hk1
      have c1 := (known_cell w wr hbel (k * 2)).trans r1
      have c2 := (known_cell w wr hbel (k * 2 + 1)).trans r2
      have hki : decide ((k : Int) < 11) = true := decide_eq_true (by omega)
      clear r1 r2
      go_wp2_with fail
      have hS : (fun wx : World => wx.cell? ⟨wr.heap.size, 0, none⟩ = some (.string s) ∧ wx.cell? ⟨wr.heap.size, 1, none⟩ = some (.int .i64 e) ∧ Below wr.heap.size wr wx) (wr.alloc (.cells #[.string s, .int .i64 e] 38)).drew := cells2 wr s e
      have hcx := fun wx => check_any s wx (by omega)
      rw [hce] at hcx
      refine wp_region_held_drew (S := fun wx : World => wx.cell? ⟨wr.heap.size, 0, none⟩ = some (.string s) ∧ wx.cell? ⟨wr.heap.size, 1, none⟩ = some (.int .i64 e) ∧ Below wr.heap.size wr wx) (by kernel_rfl) hS (fun hs0 => ?_)
      refine wpAnyH_take (i := 0) (v := .pointer (some ⟨wr.heap.size, 0, none⟩)) rfl (by kernel_rfl) (by kernel_rfl) (by kernel_rfl) (fun _ _ _ h => h) (Or.inl ⟨by rfl, ?_⟩) hs0 ?_
      · intro wx hSw; have q1 := hSw.1; have q2 := hSw.2.1; go_simp
      try simp only [Act.put, List.setIfInBounds_toArray, List.set_cons_zero, List.set_cons_succ]
      refine wpAnyH_take (i := 1) (v := .string s) rfl (by kernel_rfl) (by kernel_rfl) (by kernel_rfl) (fun _ _ _ h => h) (Or.inl ⟨by rfl, ?_⟩) hs0 ?_
      · intro wx hSw; have q1 := hSw.1; have q2 := hSw.2.1; go_simp
      try simp only [Act.put, List.setIfInBounds_toArray, List.set_cons_zero, List.set_cons_succ]
      refine wpAnyH_take (i := 3) (v := .pointer (some ⟨wr.heap.size, 1, none⟩)) rfl (by kernel_rfl) (by kernel_rfl) (by kernel_rfl) (fun _ _ _ h => h) (Or.inl ⟨by rfl, ?_⟩) hs0 ?_
      · intro wx hSw; have q1 := hSw.1; have q2 := hSw.2.1; go_simp
      try simp only [Act.put, List.setIfInBounds_toArray, List.set_cons_zero, List.set_cons_succ]
      refine wpAnyH_take (i := 4) (v := .int .i64 e) rfl (by kernel_rfl) (by kernel_rfl) (by kernel_rfl) (fun _ _ _ h => h) (Or.inl ⟨by rfl, ?_⟩) hs0 ?_
      · intro wx hSw; have q1 := hSw.1; have q2 := hSw.2.1; go_simp
      try simp only [Act.put, List.setIfInBounds_toArray, List.set_cons_zero, List.set_cons_succ]
      refine wpAnyH_ready (rs := [2]) (by kernel_rfl) (by simp) ?_
      refine AllReadyH.cons rfl (fun K hK => ?_) AllReadyH.nil
      go_simp
      refine (hcx _).mono ?_
      rintro e1 w3 ⟨rfl, hb3⟩
      have hS3 : w3.cell? ⟨wr.heap.size, 0, none⟩ = some (.string s) ∧ w3.cell? ⟨wr.heap.size, 1, none⟩ = some (.int .i64 e) ∧ Below wr.heap.size wr w3 := by
        have hlt : wr.heap.size < (wr.alloc (.cells #[.string s, .int .i64 e] 38)).drew.heap.size := by show wr.heap.size < (wr.heap.push _).size; simp
        exact ⟨(hb3.cell hlt).trans hs0.1, (hb3.cell hlt).trans hs0.2.1, hs0.2.2.trans (hb3.mono hs0.2.2.size)⟩
      refine hK.out _ _ hS3 (fun _ => ?_)
      clear hK K
      try simp only [Act.put, List.setIfInBounds_toArray, List.set_cons_zero, List.set_cons_succ]
      refine wpAnyH_ready (rs := [5]) (by kernel_rfl) (by simp) ?_
      refine AllReadyH.cons rfl (fun K hK => ?_) AllReadyH.nil
      go_simp
      refine hK.out _ _ hS3 (fun _ => ?_)
      clear hK K
      try simp only [Act.put, List.setIfInBounds_toArray, List.set_cons_zero, List.set_cons_succ]
      refine wpAnyH_done (by kernel_rfl) ?_ _
      have hB3 := below_next hbel hS3.2.2
      clear hS3 hs0 hS c1 c2
      go_wp2_with fail
      go_roundw
      case rel => exact ⟨k + 1, by omega, by go_num, hB3⟩
      case measure => simp [intOf]; omega
    · obtain rfl : k = 11 := by omega
      obtain ⟨N, hN⟩ : ∃ N, N = nought := ⟨_, rfl⟩
      have hNs : N.size = 32 := by rw [hN]; rfl
      have n1 : ∀ wx, Calls Try.prog 27 #[] wx fun e w' => e = .returned (.string N) ∧ wx = w' := fun wx => by rw [hN]; exact noughts_any wx
      obtain ⟨M, hM⟩ : ∃ M, M = N.extract 0 31 := ⟨_, rfl⟩
      have hMs : M.size = 31 := by rw [hM, ByteArray.size_extract]; omega
      have hsl : ∀ wx, (Instr.slice 9 (.string N) none (some (.int .i64 31)) none).run Try.prog wx = .ok (.string M) wx := fun wx => by
        rw [hM]; exact run_slice_string_h wx 9 N Try.underlying9 .i64 31 (by omega) (by omega)
      obtain ⟨M1, hM1⟩ : ∃ M1, M1 = M ++ (⟨#[101]⟩ : ByteArray) := ⟨_, rfl⟩
      obtain ⟨M2, hM2⟩ : ∃ M2, M2 = M ++ (⟨#[45, 97]⟩ : ByteArray) := ⟨_, rfl⟩
      obtain ⟨N1, hN1⟩ : ∃ N1, N1 = N ++ (⟨#[45]⟩ : ByteArray) := ⟨_, rfl⟩
      obtain ⟨N2, hN2⟩ : ∃ N2, N2 = N ++ (⟨#[95, 97]⟩ : ByteArray) := ⟨_, rfl⟩
      have a1 := path_at N ⟨#[46, 97]⟩ ⟨#[]⟩ 2 (by rw [hN]; decide +kernel) (by rw [hN]; decide +kernel) (by omega) (by decide)
      have a2 := path_at ⟨#[48]⟩ ⟨#[97]⟩ ⟨#[]⟩ 2 (by decide +kernel) (by decide +kernel) (by decide) (by decide)
      have a3 := path_at N ⟨#[49, 50, 51, 52, 53, 54, 55, 56, 57, 48, 49, 50, 51, 52, 53, 54, 55, 56, 57, 48, 49]⟩ ⟨#[]⟩ 3 (by rw [hN]; decide +kernel) (by rw [hN]; decide +kernel) (by omega) (by decide)
      have a4 := path_at M1 ⟨#[97]⟩ ⟨#[]⟩ 2 (by rw [hM1, hM, hN]; decide +kernel) (by rw [hM1, hM, hN]; decide +kernel) (by rw [hM1, ByteArray.size_append, hMs]; decide) (by decide)
      have a5 := path_at ⟨#[]⟩ ⟨#[]⟩ ⟨#[]⟩ 2 (by decide +kernel) (by decide +kernel) (by decide) (by decide)
      have b1 := split_at N ⟨#[]⟩ ⟨#[]⟩ 4 (by rw [hN]; decide +kernel) (by rw [hN]; decide +kernel) (by rw [hN]; decide +kernel) (by omega)
      have b2 := split_at N1 ⟨#[]⟩ ⟨#[]⟩ 4 (by rw [hN1, hN]; decide +kernel) (by rw [hN1, hN]; decide +kernel) (by rw [hN1, hN]; decide +kernel) (by rw [hN1, ByteArray.size_append, hNs]; decide)
      have b3 := split_at N2 ⟨#[]⟩ ⟨#[]⟩ 4 (by rw [hN2, hN]; decide +kernel) (by rw [hN2, hN]; decide +kernel) (by rw [hN2, hN]; decide +kernel) (by rw [hN2, ByteArray.size_append, hNs]; decide)
      have b4 := split_at M2 ⟨#[]⟩ ⟨#[]⟩ 4 (by rw [hM2, hM, hN]; decide +kernel) (by rw [hM2, hM, hN]; decide +kernel) (by rw [hM2, hM, hN]; decide +kernel) (by rw [hM2, ByteArray.size_append, hMs]; decide)
      obtain ⟨Ha, hHa⟩ : ∃ H, H = (⟨(hashF (shaSum (⟨#[97]⟩ : ByteArray).data.toList) 32).toArray⟩ : ByteArray) := ⟨_, rfl⟩
      obtain ⟨Hb, hHb⟩ : ∃ H, H = (⟨(hashF (shaSum (⟨#[98]⟩ : ByteArray).data.toList) 32).toArray⟩ : ByteArray) := ⟨_, rfl⟩
      have hne : ¬ Ha.toList = Hb.toList := by
        rw [toList_data, toList_data, hHa, hHb]; decide +kernel
      have hne2 : (Ha.toList == Hb.toList) = false := beq_eq_false_iff_ne.2 hne
      have k1 := hash_h ⟨#[97]⟩ Ha hHa (by decide)
      have k2 := hash_h ⟨#[98]⟩ Hb hHb (by decide)
      have m1 : M ++ (⟨#[101]⟩ : ByteArray) = M1 := hM1.symm
      have m2 : M ++ (⟨#[45, 97]⟩ : ByteArray) = M2 := hM2.symm
      have m3 : N ++ (⟨#[45]⟩ : ByteArray) = N1 := hN1.symm
      have m4 : N ++ (⟨#[95, 97]⟩ : ByteArray) = N2 := hN2.symm
      clear hHa hHb hN hM hM1 hM2 hN1 hN2
      go_wp2_with (first
        | (go_at_call 27; ((with_reducible refine (n1 _).mono ?_); rintro e w1 ⟨rfl, rfl⟩))
        | (go_at_call 20; ((with_reducible refine (a1 _).mono ?_); rintro e x1 ⟨rfl, hb1⟩))
        | (go_at_call 20; ((with_reducible refine (a2 _).mono ?_); rintro e x2 ⟨rfl, hb2⟩))
        | (go_at_call 20; ((with_reducible refine (a3 _).mono ?_); rintro e x3 ⟨rfl, hb3⟩))
        | (go_at_call 20; ((with_reducible refine (a4 _).mono ?_); rintro e x4 ⟨rfl, hb4⟩))
        | (go_at_call 20; ((with_reducible refine (a5 _).mono ?_); rintro e x5 ⟨rfl, hb5⟩))
        | (go_at_call 22; ((with_reducible refine (b1 _).mono ?_); rintro e x6 ⟨rfl, hb6⟩))
        | (go_at_call 22; ((with_reducible refine (b2 _).mono ?_); rintro e x7 ⟨rfl, hb7⟩))
        | (go_at_call 22; ((with_reducible refine (b3 _).mono ?_); rintro e x8 ⟨rfl, hb8⟩))
        | (go_at_call 22; ((with_reducible refine (b4 _).mono ?_); rintro e x9 ⟨rfl, hb9⟩))
        | (go_at_call 17; ((with_reducible refine (k1 _).mono ?_); rintro e y1 ⟨rfl, hc1⟩))
        | (go_at_call 17; ((with_reducible refine (k2 _).mono ?_); rintro e y2 ⟨rfl, hc2⟩))
        | (go_at_call 19; ((with_reducible refine (nworks_any _).mono ?_); rintro e y3 ⟨rfl, hc3⟩)))
      go_ret
      have hB0 : Below w.heap.size w wr := below_next ((Below.refl _ _).alloc (Nat.le_refl _) (.cells knownR 38)) hbel
      exact ⟨rfl, below_next (below_next (below_next (below_next (below_next (below_next (below_next (below_next (below_next (below_next (below_next (below_next hB0 hb1) hb2) hb3) hb4) hb5) hb6) hb7) hb8) hb9) hc1) hc2) hc3⟩
end Go.Proofs.Ytjkafmjikfbafaa
