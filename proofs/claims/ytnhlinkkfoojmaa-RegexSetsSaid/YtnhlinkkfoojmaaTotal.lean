/- The mirror's enter never runs out of fuel. -/
import Derived.Test.YtnhlinkkfoojmaaBlank
namespace Go.Proofs.Ytnhlinkkfoojmaa
set_option linter.unusedVariables false
def isNew (b : Nat) : Option Nat → Bool | some c => !decide (c ≤ b) | none => true
def cnt (f : Front) (b : Nat) : Nat := f.countP (isNew b)
theorem old_iff (f : Front) (k b : Nat) : f.old k b = true ↔ ∃ c, f.getD k none = some c ∧ c ≤ b := by
  unfold Front.old
  cases h : f.getD k none with
  | none => simp
  | some c => simp
theorem cnt_set (f : Front) (k b : Nat) (hk : k < f.length) (h : f.old k b ≠ true) : cnt (f.set k (some b)) b + 1 ≤ cnt f b := by
  unfold cnt
  induction f generalizing k with
  | nil => simp at hk
  | cons o f ih =>
    cases k with
    | zero =>
      have hp : isNew b o = true := by
        cases o with
        | none => rfl
        | some c =>
          by_cases hc : c ≤ b
          · exact absurd ((old_iff _ _ _).2 ⟨c, rfl, hc⟩) h
          · simp [isNew, hc]
      have hq : isNew b (some b) = false := by simp [isNew]
      simp only [List.set_cons_zero, List.countP_cons, hp, hq]
      simp
    | succ k =>
      have := ih k (by simpa using hk) (fun e => h ((old_iff _ _ _).2 (by simpa using (old_iff _ _ _).1 e)))
      simp only [List.set_cons_succ, List.countP_cons]
      omega
theorem enterO_total (l : List Stp) (at_ size b : Nat) (hnext : ∀ k, k < l.length → ∀ t ∈ goesOn l k at_ size, t < l.length) : ∀ u,
    (∀ (f : Front) (k : Nat), f.length = l.length → k < l.length → 3 * cnt f b + 1 ≤ u → ∃ f', enterO u l f k b at_ size = some f' ∧ cnt f' b ≤ cnt f b) ∧
    (∀ (f : Front) (ks : List Nat), f.length = l.length → (∀ t ∈ ks, t < l.length) → 3 * cnt f b + ks.length + 1 ≤ u → ∃ f', enterAllO u l f ks b at_ size = some f' ∧ cnt f' b ≤ cnt f b)
  | 0 => ⟨fun f k _ _ h => by omega, fun f ks _ _ h => by omega⟩
  | u + 1 => by
    obtain ⟨h1, h2⟩ := enterO_total l at_ size b hnext u
    refine ⟨fun f k hf hk h => ?_, fun f ks hf hks h => ?_⟩
    · rw [enterO]
      by_cases ho : f.old k b = true
      · rw [if_pos ho]; exact ⟨f, rfl, Nat.le_refl _⟩
      · rw [if_neg ho]
        have hc := cnt_set f k b (by rw [hf]; exact hk) ho
        have hg := goesOn_length l k at_ size
        obtain ⟨f', e, hle⟩ := h2 (f.set k (some b)) (goesOn l k at_ size) (by rw [List.length_set]; exact hf) (hnext k hk) (by omega)
        exact ⟨f', e, by omega⟩
    · cases ks with
      | nil => rw [enterAllO]; exact ⟨f, rfl, Nat.le_refl _⟩
      | cons k ks =>
        rw [enterAllO]
        simp only [List.length_cons] at h
        obtain ⟨f1, e1, hle1⟩ := h1 f k hf (hks k (by simp)) (by omega)
        rw [e1]
        have hl1 := (enterO_length l b at_ size u).1 _ _ _ e1
        obtain ⟨f', e, hle⟩ := h2 f1 ks (by rw [hl1]; exact hf) (fun t ht => hks t (by simp [ht])) (by omega)
        exact ⟨f', e, by omega⟩
theorem enter_of_O (l : List Stp) (b at_ size : Nat) : ∀ u, (∀ f k f', enterO u l f k b at_ size = some f' → enter u l f k b at_ size = f') ∧ (∀ f ks f', enterAllO u l f ks b at_ size = some f' → enterAll u l f ks b at_ size = f')
  | 0 => ⟨fun f k f' h => by simp [enterO] at h, fun f ks f' h => by
      cases ks with
      | nil => rw [enterAllO] at h; injection h with h; rw [enterAll, h]
      | cons k ks => simp [enterAllO] at h⟩
  | u + 1 => by
    obtain ⟨h1, h2⟩ := enter_of_O l b at_ size u
    refine ⟨fun f k f' h => ?_, fun f ks f' h => ?_⟩
    · rw [enterO] at h
      rw [enter]
      split at h
      · rename_i ho; injection h with h; rw [if_pos ho, h]
      · rename_i ho; rw [if_neg ho]; exact h2 _ _ _ h
    · cases ks with
      | nil => rw [enterAllO] at h; injection h with h; rw [enterAll, h]
      | cons k ks =>
        rw [enterAllO] at h
        rw [enterAll]
        cases hE : enterO u l f k b at_ size with
        | none => rw [hE] at h; simp at h
        | some f1 =>
          rw [hE] at h
          rw [h1 _ _ _ hE]
          exact h2 _ _ _ h
theorem cnt_le (f : Front) (b : Nat) : cnt f b ≤ f.length := List.countP_le_length
theorem enterO_enter (l : List Stp) (hwf : WF l) (f : Front) (k b at_ size : Nat) (hf : f.length = l.length) (hk : k < l.length) :
    enterO (fuelOf l) l f k b at_ size = some (enter (fuelOf l) l f k b at_ size) := by
  have hc := cnt_le f b
  obtain ⟨f', e, _⟩ := (enterO_total l at_ size b (fun k hk t ht => hwf.next k hk at_ size t ht) (fuelOf l)).1 f k hf hk (by unfold fuelOf; omega)
  rw [e, (enter_of_O l b at_ size (fuelOf l)).1 _ _ _ e]
theorem enter_length (l : List Stp) (hwf : WF l) (f : Front) (k b at_ size : Nat) (hf : f.length = l.length) (hk : k < l.length) : (enter (fuelOf l) l f k b at_ size).length = l.length :=
  ((enterO_length l b at_ size (fuelOf l)).1 _ _ _ (enterO_enter l hwf f k b at_ size hf hk)).trans hf
end Go.Proofs.Ytnhlinkkfoojmaa
