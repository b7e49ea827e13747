/- The walk of the law ShaSame. -/
import Derived.Test.YtjkafmjikfbafaaShaIsW
import Derived.Test.YtjkafmjikfbafaaAppS
namespace Go.Proofs.Ytjkafmjikfbafaa
open Go.RowKit Go.Lib
set_option maxRecDepth 100000
set_option linter.unusedSimpArgs false
set_option linter.unusedVariables false

theorem rem_mod (n m : Nat) : ((n : Int) % ((m : Int) + 1)) = ((n % (m + 1) : Nat) : Int) := by
  rw [Int.natCast_emod]; rfl
theorem sumB_size (s : ByteArray) : (sumB s).size = 32 := by
  unfold sumB; rw [mk_size, shaSum_length]
theorem back_together (s : ByteArray) (k : Nat) (hk : k ≤ s.size) : (⟨((s.extract 0 k).data.toList ++ (s.extract k s.size).data.toList).toArray⟩ : ByteArray) = s := by
  apply ByteArray.ext
  apply Array.ext'
  rw [Lib.extract_data, Lib.extract_data, List.drop_zero]
  have h : s.data.toList.length = s.size := by simp
  have e : List.take (s.size - k) (List.drop k s.data.toList) = List.drop k s.data.toList := List.take_of_length_le (by rw [List.length_drop]; omega)
  rw [Nat.sub_zero, e, List.take_append_drop]

theorem grown_conv (w : World) (s : ByteArray) : w.grownBy (bytesWorld w.drew 5 s) none :=
  ⟨rfl, rfl, rfl, by rw [bytesWorld_size]; exact Nat.le_succ _, fun k hk _ => bytesWorld_at_old w.drew 5 s k hk⟩

set_option maxHeartbeats 2000000 in
/-- Behind the cut to five thousand. -/
theorem shaSame_walk (a : ByteArray) (n : Nat) (hn : n < 65536) (w : World) (hs : a.size ≤ 9223372036854775807) : Calls Try.prog 5 #[.string a, .int .u16 n] w (TrueOut w) := by
  obtain ⟨i0, hi, hz0, hz1, hz2⟩ := info_parts info5
  go_enter Try.func5, Try.ntmps5
  rcases Nat.lt_or_ge 5000 a.size with h1 | h1
  · have e5 : (a.extract 0 5000).size = 5000 := by rw [ByteArray.size_extract]; omega
    have r1 : (n : Int) % 5001 = ((n % 5001 : Nat) : Int) := (Int.natCast_emod _ _).symm
    obtain ⟨k, hk⟩ : ∃ k, k = n % 5001 := ⟨_, rfl⟩
    rw [← hk] at r1
    have hk5 : k ≤ 5000 := by omega
    clear hk
    go_wp2_with (go_at_call 15; ((with_reducible refine (works_any _).mono ?_); rintro e w3 ⟨rfl, hb3⟩))
    obtain ⟨b, hb⟩ : ∃ b, b = a.extract 0 5000 := ⟨_, rfl⟩
    have hbs : b.size ≤ 5000 := by rw [hb]; omega
    have hkb : k ≤ b.size := by rw [hb]; omega
    have HB := Lib.hid hb
    clear hb
    rw [← HB.out, r1]
    have q2 : (k : Int) ≤ (b.size : Int) := by omega
    have hconv := fun (W : World) => Lib.run_convert_string_bytes (P := Try.prog) W 9 27 5 (b.extract 0 k) Try.underlying9 Try.underlying27 Try.underlying5
    have hx1 : (b.extract 0 k).data.toList.length ≤ 5000 := by
      have : (b.extract 0 k).data.toList.length = (b.extract 0 k).size := by simp
      rw [this, ByteArray.size_extract]; omega
    have hx2 : (b.extract k b.size).size ≤ 5000 := by rw [ByteArray.size_extract]; omega
    have hx3 : (b.extract 0 k).size ≤ 5000 := by rw [ByteArray.size_extract]; omega
    have hbt := back_together b k hkb
    have HBT := Lib.hid hbt
    clear hbt
    have hm1 : (b.extract 0 k).data.toList.length + (b.extract k b.size).size ≤ maxLen := by simp only [maxLen]; omega
    have hm2 : (b.extract 0 k).size ≤ maxLen := by simp only [maxLen]; omega
    have hoc := ownM_conv w3.drew w3.heap.size (b.extract 0 k) (Nat.le_refl _) hm2
    rw [show (b.extract 0 k).size = k by rw [ByteArray.size_extract]; omega] at hoc
    have HOC := Lib.hid hoc
    clear hoc
    refine wp_region_held_drew (S := fun _ => True) (by kernel_rfl) trivial (fun hs0 => ?_)
    refine wpAnyH_take (i := 0) (v := .string b) rfl (by kernel_rfl) (by kernel_rfl) (by kernel_rfl) (fun _ _ _ h => h) (Or.inl ⟨by rfl, ?_⟩) hs0 ?_
    · intro wx hSw; go_simp
    try simp only [Act.put, List.setIfInBounds_toArray, List.set_cons_zero, List.set_cons_succ]
    refine wpAnyH_take (i := 1) (v := .int .i64 k) rfl (by kernel_rfl) (by kernel_rfl) (by kernel_rfl) (fun _ _ _ h => h) (Or.inl ⟨by rfl, ?_⟩) hs0 ?_
    · intro wx hSw; go_simp
    try simp only [Act.put, List.setIfInBounds_toArray, List.set_cons_zero, List.set_cons_succ]
    refine wpAnyH_take (i := 2) (v := .string (b.extract 0 k)) rfl (by kernel_rfl) (by kernel_rfl) (by kernel_rfl) (fun _ _ _ h => h) (Or.inl ⟨by rfl, ?_⟩) hs0 ?_
    · intro wx hSw; go_simp
    try simp only [Act.put, List.setIfInBounds_toArray, List.set_cons_zero, List.set_cons_succ]
    refine wpAnyH_take (i := 4) (v := .string b) rfl (by kernel_rfl) (by kernel_rfl) (by kernel_rfl) (fun _ _ _ h => h) (Or.inl ⟨by rfl, ?_⟩) hs0 ?_
    · intro wx hSw; go_simp
    try simp only [Act.put, List.setIfInBounds_toArray, List.set_cons_zero, List.set_cons_succ]
    refine wpAnyH_take (i := 5) (v := .int .i64 k) rfl (by kernel_rfl) (by kernel_rfl) (by kernel_rfl) (fun _ _ _ h => h) (Or.inl ⟨by rfl, ?_⟩) hs0 ?_
    · intro wx hSw; go_simp
    try simp only [Act.put, List.setIfInBounds_toArray, List.set_cons_zero, List.set_cons_succ]
    refine wpAnyH_take (i := 6) (v := .string (b.extract k b.size)) rfl (by kernel_rfl) (by kernel_rfl) (by kernel_rfl) (fun _ _ _ h => h) (Or.inl ⟨by rfl, ?_⟩) hs0 ?_
    · intro wx hSw; go_simp
    try simp only [Act.put, List.setIfInBounds_toArray, List.set_cons_zero, List.set_cons_succ]
    refine wpAnyH_ready (rs := [3]) (by kernel_rfl) (by simp) ?_
    refine AllReadyH.cons rfl (fun K hK => ?_) AllReadyH.nil
    go_simp
    refine hK.out _ _ trivial (fun _ => ?_)
    clear hK K
    try simp only [Act.put, List.setIfInBounds_toArray, List.set_cons_zero, List.set_cons_succ]
    refine wpAnyH_ready (rs := [7]) (by kernel_rfl) (by simp) ?_
    refine AllReadyH.cons rfl (fun K hK => ?_) AllReadyH.nil
    refine step_append_Ms (by rfl) _ _ 27 9 (by rfl) w3.heap.size i0 Try.underlying27 Try.underlying9 hi hz0 hz1 hz2 _ (b.extract 0 k).data.toList (by rfl) HOC.out (b.extract k b.size) (by rfl) hm1 (by omega) (by rw [bytesWorld_size]; exact Nat.le_succ _) ?_
    intro v' w5 hown hg
    refine hK.out _ _ trivial (fun _ => ?_)
    clear hK K
    try simp only [Act.put, List.setIfInBounds_toArray, List.set_cons_zero, List.set_cons_succ]
    refine wpAnyH_ready (rs := [8]) (by kernel_rfl) (by simp) ?_
    refine AllReadyH.cons rfl (fun K hK => ?_) AllReadyH.nil
    go_simp
    refine hK.out _ _ trivial (fun _ => ?_)
    clear hK K
    try simp only [Act.put, List.setIfInBounds_toArray, List.set_cons_zero, List.set_cons_succ]
    refine wpAnyH_done (by kernel_rfl) ?_ _
    have hB5 : Below w.heap.size w w5 := by
      have h1 := hb3.grown (grown_conv w3 (b.extract 0 k)) hb3.size (fun r hr => by cases hr)
      exact h1.grown hg (by rw [bytesWorld_size]; have := hb3.size; exact Nat.le_succ_of_le this) (fun r hr => by
        have := (HOC.out.lt r hr).1
        have := hb3.size
        omega)
    obtain ⟨g, cap, rfl, hBg, hby, hlc, hcm, hgl, hcells⟩ := hown.bytes
    obtain ⟨L, hL⟩ : ∃ L, L = (b.extract 0 k).data.toList ++ (b.extract k b.size).data.toList := ⟨_, rfl⟩
    rw [← hL] at hby hlc ⊢
    have hLb : (⟨L.toArray⟩ : ByteArray) = b := by rw [hL]; exact HBT.out
    have HLB := Lib.hid hLb
    have hsb : b.size ≤ 1099511627776 := by omega
    clear hconv hg hL hown HOC hLb hcells
    go_wp2_with (first
      | (go_at_call 13; have tok := hc2; ((with_reducible refine (sumB_any b _ hsb).mono ?_); rintro e w7 ⟨rfl, hb7⟩))
      | (go_at_call 13; ((with_reducible refine (sumB_any b _ hsb).mono ?_); rintro e w6 ⟨rfl, hb6⟩; have hc2 := run_conv_str (P := Try.prog) 27 5 9 Try.underlying27 Try.underlying5 Try.underlying9 (hby.same (hb6.block g hgl)) L.length cap rfl; rw [HLB.out] at hc2)))
    go_ret
    exact ⟨rfl, below_next (below_next hB5 hb6) hb7⟩
  · have r1 := rem_mod n a.size
    have hk5 : n % (a.size + 1) ≤ a.size := by have := Nat.mod_lt n (show 0 < a.size + 1 by omega); omega
    obtain ⟨k, hk⟩ : ∃ k, k = n % (a.size + 1) := ⟨_, rfl⟩
    rw [← hk] at r1 hk5
    clear hk
    go_wp2_with (go_at_call 15; ((with_reducible refine (works_any _).mono ?_); rintro e w3 ⟨rfl, hb3⟩))
    obtain ⟨b, hb⟩ : ∃ b, b = a := ⟨_, rfl⟩
    have hbs : b.size ≤ 5000 := by rw [hb]; omega
    have hkb : k ≤ b.size := by rw [hb]; omega
    have HB := Lib.hid hb
    clear hb
    rw [r1, ← HB.out]
    have q2 : (k : Int) ≤ (b.size : Int) := by omega
    have hconv := fun (W : World) => Lib.run_convert_string_bytes (P := Try.prog) W 9 27 5 (b.extract 0 k) Try.underlying9 Try.underlying27 Try.underlying5
    have hx1 : (b.extract 0 k).data.toList.length ≤ 5000 := by
      have : (b.extract 0 k).data.toList.length = (b.extract 0 k).size := by simp
      rw [this, ByteArray.size_extract]; omega
    have hx2 : (b.extract k b.size).size ≤ 5000 := by rw [ByteArray.size_extract]; omega
    have hx3 : (b.extract 0 k).size ≤ 5000 := by rw [ByteArray.size_extract]; omega
    have hbt := back_together b k hkb
    have HBT := Lib.hid hbt
    clear hbt
    have hm1 : (b.extract 0 k).data.toList.length + (b.extract k b.size).size ≤ maxLen := by simp only [maxLen]; omega
    have hm2 : (b.extract 0 k).size ≤ maxLen := by simp only [maxLen]; omega
    have hoc := ownM_conv w3.drew w3.heap.size (b.extract 0 k) (Nat.le_refl _) hm2
    rw [show (b.extract 0 k).size = k by rw [ByteArray.size_extract]; omega] at hoc
    have HOC := Lib.hid hoc
    clear hoc
    refine wp_region_held_drew (S := fun _ => True) (by kernel_rfl) trivial (fun hs0 => ?_)
    refine wpAnyH_take (i := 0) (v := .string b) rfl (by kernel_rfl) (by kernel_rfl) (by kernel_rfl) (fun _ _ _ h => h) (Or.inl ⟨by rfl, ?_⟩) hs0 ?_
    · intro wx hSw; go_simp
    try simp only [Act.put, List.setIfInBounds_toArray, List.set_cons_zero, List.set_cons_succ]
    refine wpAnyH_take (i := 1) (v := .int .i64 k) rfl (by kernel_rfl) (by kernel_rfl) (by kernel_rfl) (fun _ _ _ h => h) (Or.inl ⟨by rfl, ?_⟩) hs0 ?_
    · intro wx hSw; go_simp
    try simp only [Act.put, List.setIfInBounds_toArray, List.set_cons_zero, List.set_cons_succ]
    refine wpAnyH_take (i := 2) (v := .string (b.extract 0 k)) rfl (by kernel_rfl) (by kernel_rfl) (by kernel_rfl) (fun _ _ _ h => h) (Or.inl ⟨by rfl, ?_⟩) hs0 ?_
    · intro wx hSw; go_simp
    try simp only [Act.put, List.setIfInBounds_toArray, List.set_cons_zero, List.set_cons_succ]
    refine wpAnyH_take (i := 4) (v := .string b) rfl (by kernel_rfl) (by kernel_rfl) (by kernel_rfl) (fun _ _ _ h => h) (Or.inl ⟨by rfl, ?_⟩) hs0 ?_
    · intro wx hSw; go_simp
    try simp only [Act.put, List.setIfInBounds_toArray, List.set_cons_zero, List.set_cons_succ]
    refine wpAnyH_take (i := 5) (v := .int .i64 k) rfl (by kernel_rfl) (by kernel_rfl) (by kernel_rfl) (fun _ _ _ h => h) (Or.inl ⟨by rfl, ?_⟩) hs0 ?_
    · intro wx hSw; go_simp
    try simp only [Act.put, List.setIfInBounds_toArray, List.set_cons_zero, List.set_cons_succ]
    refine wpAnyH_take (i := 6) (v := .string (b.extract k b.size)) rfl (by kernel_rfl) (by kernel_rfl) (by kernel_rfl) (fun _ _ _ h => h) (Or.inl ⟨by rfl, ?_⟩) hs0 ?_
    · intro wx hSw; go_simp
    try simp only [Act.put, List.setIfInBounds_toArray, List.set_cons_zero, List.set_cons_succ]
    refine wpAnyH_ready (rs := [3]) (by kernel_rfl) (by simp) ?_
    refine AllReadyH.cons rfl (fun K hK => ?_) AllReadyH.nil
    go_simp
    refine hK.out _ _ trivial (fun _ => ?_)
    clear hK K
    try simp only [Act.put, List.setIfInBounds_toArray, List.set_cons_zero, List.set_cons_succ]
    refine wpAnyH_ready (rs := [7]) (by kernel_rfl) (by simp) ?_
    refine AllReadyH.cons rfl (fun K hK => ?_) AllReadyH.nil
    refine step_append_Ms (by rfl) _ _ 27 9 (by rfl) w3.heap.size i0 Try.underlying27 Try.underlying9 hi hz0 hz1 hz2 _ (b.extract 0 k).data.toList (by rfl) HOC.out (b.extract k b.size) (by rfl) hm1 (by omega) (by rw [bytesWorld_size]; exact Nat.le_succ _) ?_
    intro v' w5 hown hg
    refine hK.out _ _ trivial (fun _ => ?_)
    clear hK K
    try simp only [Act.put, List.setIfInBounds_toArray, List.set_cons_zero, List.set_cons_succ]
    refine wpAnyH_ready (rs := [8]) (by kernel_rfl) (by simp) ?_
    refine AllReadyH.cons rfl (fun K hK => ?_) AllReadyH.nil
    go_simp
    refine hK.out _ _ trivial (fun _ => ?_)
    clear hK K
    try simp only [Act.put, List.setIfInBounds_toArray, List.set_cons_zero, List.set_cons_succ]
    refine wpAnyH_done (by kernel_rfl) ?_ _
    have hB5 : Below w.heap.size w w5 := by
      have h1 := hb3.grown (grown_conv w3 (b.extract 0 k)) hb3.size (fun r hr => by cases hr)
      exact h1.grown hg (by rw [bytesWorld_size]; have := hb3.size; exact Nat.le_succ_of_le this) (fun r hr => by
        have := (HOC.out.lt r hr).1
        have := hb3.size
        omega)
    obtain ⟨g, cap, rfl, hBg, hby, hlc, hcm, hgl, hcells⟩ := hown.bytes
    obtain ⟨L, hL⟩ : ∃ L, L = (b.extract 0 k).data.toList ++ (b.extract k b.size).data.toList := ⟨_, rfl⟩
    rw [← hL] at hby hlc ⊢
    have hLb : (⟨L.toArray⟩ : ByteArray) = b := by rw [hL]; exact HBT.out
    have HLB := Lib.hid hLb
    have hsb : b.size ≤ 1099511627776 := by omega
    clear hconv hg hL hown HOC hLb hcells
    go_wp2_with (first
      | (go_at_call 13; have tok := hc2; ((with_reducible refine (sumB_any b _ hsb).mono ?_); rintro e w7 ⟨rfl, hb7⟩))
      | (go_at_call 13; ((with_reducible refine (sumB_any b _ hsb).mono ?_); rintro e w6 ⟨rfl, hb6⟩; have hc2 := run_conv_str (P := Try.prog) 27 5 9 Try.underlying27 Try.underlying5 Try.underlying9 (hby.same (hb6.block g hgl)) L.length cap rfl; rw [HLB.out] at hc2)))
    go_ret
    exact ⟨rfl, below_next (below_next hB5 hb6) hb7⟩
end Go.Proofs.Ytjkafmjikfbafaa
