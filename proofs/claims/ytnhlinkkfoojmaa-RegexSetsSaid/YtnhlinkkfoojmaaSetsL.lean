/- A set matches just the bytes that it says: the plain law. -/
import Derived.Test.YtnhlinkkfoojmaaFound
namespace Go.Proofs.Ytnhlinkkfoojmaa
set_option linter.unusedVariables false
set_option maxRecDepth 10000
def putAll (S : List UInt8) (h : List Bool) : List Bool := S.foldl (fun h a => h.set a.toNat true) h
theorem setOf_plain : ∀ (S : List UInt8) (h : List Bool), (∀ x ∈ S, x ≠ 45) → setOf S h = some (putAll S h)
  | [], h, _ => setOf_nil h
  | a :: S, h, hS => by
    rw [setOf_one a S h (fun e => by
      obtain ⟨e1, e2⟩ := e
      cases S with
      | nil => simp at e1
      | cons b S => exact hS b (by simp) e2), setOf_plain S _ (fun x hx => hS x (by simp [hx]))]
    rfl
theorem putAll_length (S : List UInt8) (h : List Bool) : (putAll S h).length = h.length := by
  unfold putAll
  induction S generalizing h with
  | nil => rfl
  | cons a S ih => rw [List.foldl_cons, ih, List.length_set]
theorem putAll_get (S : List UInt8) (h : List Bool) (hl : h.length = 256) (c : UInt8) : (putAll S h).getD c.toNat false = (h.getD c.toNat false || decide (c ∈ S)) := by
  unfold putAll
  induction S generalizing h with
  | nil => simp
  | cons a S ih =>
    rw [List.foldl_cons, ih _ (by rw [List.length_set]; exact hl)]
    have hc : c.toNat < 256 := c.toNat_lt
    by_cases e : a = c
    · subst e
      simp [hl, hc]
    · have hne : a.toNat ≠ c.toNat := fun h2 => e (UInt8.toNat_inj.1 h2)
      have hne2 : ¬ c = a := fun h2 => e h2.symm
      rw [List.getD_eq_getElem?_getD, List.getElem?_set_ne hne, ← List.getD_eq_getElem?_getD]
      simp [hne2]
theorem noSet_get (k : Nat) : noSet.getD k false = false := by
  unfold noSet
  rw [List.getD_eq_getElem?_getD, List.getElem?_replicate]
  split <;> rfl
def two (h : List Bool) : List Stp := [⟨h, 0, 0⟩, ⟨noSet, 6, 0⟩]
theorem whole_two (h : List Bool) (c : UInt8) : whole (two h) [c] 0 = if h.getD c.toNat false = true then some (0, 1) else none := by
  cases hb : h.getD c.toNat false with
  | true =>
    rw [List.getD_eq_getElem?_getD] at hb
    simp [whole, two, wholeLoop, nextFront, blank, fuelOf, enter, enterAll, goesOn, Front.old, hb, List.range, List.range.loop]
  | false =>
    rw [List.getD_eq_getElem?_getD] at hb
    simp [whole, two, wholeLoop, nextFront, blank, fuelOf, enter, enterAll, goesOn, Front.old, hb, List.range, List.range.loop]
theorem foundO_two (u : Nat) (s : List UInt8) (c : UInt8) (h : List Bool) (hc : compile s = some (two h, 0)) : foundO (u + 2) s [c] 0 = some (if h.getD c.toNat false = true then [48, 49] else [110, 111]) := by
  unfold foundO
  rw [hc]
  have hl : (locB (two h) && decide (0 ≤ 9)) = true := by rfl
  simp only
  rw [if_pos hl]
  unfold findO
  rw [whole_two]
  cases hb : h.getD c.toNat false with
  | true => rfl
  | false => rfl
theorem find_last (T : List UInt8) (hT : ∀ x ∈ T, x ≠ 93) : (T ++ [93]).findIdx? (· == 93) = some T.length := by
  induction T with
  | nil => rfl
  | cons a T ih =>
    have h1 : (a == 93) = false := beq_eq_false_iff_ne.2 (hT a (by simp))
    rw [List.cons_append, List.findIdx?_cons, h1, ih (fun x hx => hT x (by simp [hx]))]
    simp
def setExpr (neg : Bool) (S : List UInt8) : List UInt8 := 91 :: ((if neg then [94] else []) ++ (S ++ [93]))
theorem compile_set (neg : Bool) (S : List UInt8) (hne : S ≠ []) (hS : ∀ x ∈ S, x ≠ 45 ∧ x ≠ 93 ∧ x ≠ 94) : compile (setExpr neg S) = some (two ((putAll S noSet).map (· != neg)), 0) := by
  obtain ⟨a, T, rfl⟩ : ∃ a T, S = a :: T := by
    cases S with
    | nil => exact absurd rfl hne
    | cons a T => exact ⟨a, T, rfl⟩
  obtain ⟨L, hL⟩ : ∃ L, L = setExpr neg (a :: T) := ⟨_, rfl⟩
  rw [← hL]
  obtain ⟨i, hi⟩ : ∃ i, i = if neg = true then 2 else 1 := ⟨_, rfl⟩
  have hlen : L.length = i + (T.length + 1) + 1 := by
    rw [hL, hi]; unfold setExpr; cases neg <;> simp <;> omega
  have hdrop : L.drop i = (a :: T) ++ [93] := by
    rw [hL, hi]; unfold setExpr; cases neg <;> rfl
  have hdrop1 : L.drop (i + 1) = T ++ [93] := by
    rw [← List.drop_drop, hdrop]; rfl
  have hat : (⟨[], 0, 1, 0, false⟩ : Rdr).at' L [94] = neg := by
    unfold Rdr.at'
    rw [hL]; unfold setExpr
    cases neg with
    | true => rfl
    | false =>
      have : (94 == a) = false := beq_eq_false_iff_ne.2 (fun e => (hS a (by simp)).2.2 e.symm)
      show (94 == a && _) = false
      rw [this]; rfl
  have hsq : (⟨[], 0, 1, 0, false⟩ : Rdr).square L = some ((⟨[], 0, L.length, 0, false⟩ : Rdr).add ⟨(putAll (a :: T) noSet).map (· != neg), 0, 0⟩) := by
    unfold Rdr.square
    rw [hat]
    have e1 : (if neg = true then (⟨[], 0, 1, 0, false⟩ : Rdr).i + 1 else (⟨[], 0, 1, 0, false⟩ : Rdr).i) = i := by rw [hi]
    simp only [e1]
    rw [if_pos (by omega), hdrop1, find_last T (fun x hx => (hS x (by simp [hx])).2.1), hdrop]
    have e2 : (a :: T ++ [93]).take (T.length + 1) = a :: T := by
      rw [List.take_append_of_le_length (by simp)]; exact List.take_of_length_le (by simp)
    simp only [e2]
    rw [setOf_plain _ _ (fun x hx => (hS x hx).1)]
    simp only
    rw [hlen]
  rw [compile_eq]
  have hn : 0 < L.length := by omega
  have hc0 : L.getD 0 0 = 91 := by rw [hL]; rfl
  have hend : ∀ r : Rdr, r.i = L.length → r.at' L [42] = false := fun r hr => by
    unfold Rdr.at'
    rw [hr, List.drop_length]; rfl
  rw [show 4 * L.length + 8 = (4 * L.length + 7) + 1 by omega, pieces_eq, if_pos ⟨hn, .inl rfl⟩]
  rw [show piece (4 * L.length + 7) L ⟨[], 0, 0, 0, true⟩ = some ((⟨[], 0, L.length, 0, false⟩ : Rdr).add ⟨(putAll (a :: T) noSet).map (· != neg), 0, 0⟩, false, true) by
    rw [show 4 * L.length + 7 = (4 * L.length + 6) + 1 by omega, piece_eq (4 * L.length + 6) L ⟨[], 0, 0, 0, true⟩ 91 hc0.symm ⟨[], 0, 1, 0, false⟩ rfl]
    rw [if_neg (by decide), if_neg (by rintro ⟨h, _⟩; revert h; decide), if_neg (by decide), if_pos rfl, hsq]
    rfl]
  rw [pTail, if_neg (by rintro ⟨_, h⟩; rw [hend _ rfl] at h; cases h), show 4 * L.length + 7 = (4 * L.length + 6) + 1 by omega, pieces_eq, if_neg (by rintro ⟨h, _⟩; exact Nat.lt_irrefl _ h)]
  rfl
theorem compile_point : compile [46] = some (two (List.replicate 256 true), 0) := by rfl
theorem found_set (neg : Bool) (S : List UInt8) (hne : S ≠ []) (hS : ∀ x ∈ S, x ≠ 45 ∧ x ≠ 93 ∧ x ≠ 94) (c : UInt8) : foundO 100 (setExpr neg S) [c] 0 = some (if (decide (c ∈ S) != neg) = true then [48, 49] else [110, 111]) := by
  rw [foundO_two 98 _ c _ (compile_set neg S hne hS)]
  have hc : c.toNat < 256 := c.toNat_lt
  have hlen : (putAll S noSet).length = 256 := by rw [putAll_length]; rfl
  have e : ((putAll S noSet).map (· != neg)).getD c.toNat false = (decide (c ∈ S) != neg) := by
    have h2 := putAll_get S noSet rfl c
    rw [noSet_get, Bool.false_or, List.getD_eq_getElem?_getD, List.getElem?_eq_getElem (by omega)] at h2
    rw [List.getD_eq_getElem?_getD, List.getElem?_map, List.getElem?_eq_getElem (by omega)]
    simp only [Option.map_some, Option.getD_some] at h2 ⊢
    rw [h2]
  rw [e]
theorem found_point (c : UInt8) : foundO 100 [46] [c] 0 = some [48, 49] := by
  rw [foundO_two 98 _ c _ compile_point]
  have hc : c.toNat < 256 := c.toNat_lt
  rw [List.getD_eq_getElem?_getD, List.getElem?_replicate, if_pos hc]
  rfl
end Go.Proofs.Ytnhlinkkfoojmaa
