/- The reader, plain: what stays so while it reads. -/
import Derived.Test.YtnhlinkkfoojmaaAgain
import Derived.Test.YtnhlinkkfoojmaaSquare
namespace Go.Proofs.Ytnhlinkkfoojmaa
open Go.RowKit
set_option maxRecDepth 100000
set_option linter.unusedSimpArgs false
set_option linter.unusedVariables false
structure Gd (n : Nat) (r : Rdr) : Prop where
  i : r.i ≤ n
  len : r.l.length ≤ 2 * r.i
  grp : r.groups ≤ 9
  deep : r.deep ≤ r.i
  tos : ∀ x ∈ r.l, x.to ≤ r.l.length + 20
  sets : Sets r.l
/-- What a reader has read on. -/
structure On (n : Nat) (r r' : Rdr) : Prop where
  gd : Gd n r'
  i : r.i ≤ r'.i
  deep : r'.deep = r.deep
  len : r.l.length ≤ r'.l.length
theorem Gd.put {n : Nat} {r r' : Rdr} (h : Gd n r) (hl : r'.l = r.l) (hg : r'.groups = r.groups) (hd : r'.deep = r.deep) (hi : r.i ≤ r'.i) (hn : r'.i ≤ n) : Gd n r' :=
  ⟨hn, by rw [hl]; have := h.len; omega, by rw [hg]; exact h.grp, by rw [hd]; have := h.deep; omega, by rw [hl]; exact h.tos, by rw [hl]; exact h.sets⟩
theorem Gd.add {n : Nat} {r : Rdr} (h : Gd n r) (x : Stp) (hx : x.to ≤ r.l.length + 21) (hs : x.has.length = 256) (hl : r.l.length + 1 ≤ 2 * r.i) : Gd n (r.add x) := by
  refine ⟨h.i, ?_, h.grp, h.deep, ?_, ?_⟩
  · show (r.l ++ [x]).length ≤ 2 * r.i
    simpa using hl
  · intro y hy
    have e : (r.add x).l.length = r.l.length + 1 := by simp [Rdr.add]
    rw [e]
    rcases List.mem_append.1 hy with hy | hy
    · have := h.tos y hy; omega
    · rw [List.mem_singleton.1 hy]; omega
  · intro y hy
    rcases List.mem_append.1 hy with hy | hy
    · exact h.sets y hy
    · rw [List.mem_singleton.1 hy]; exact hs
theorem add_i (r : Rdr) (x : Stp) : (r.add x).i = r.i := rfl
theorem add_len (r : Rdr) (x : Stp) : (r.add x).l.length = r.l.length + 1 := by simp [Rdr.add]
theorem oneSet_length (c : UInt8) : (oneSet c).length = 256 := by simp [oneSet, noSet]
theorem addRange_length (a b : UInt8) (h : List Bool) : (addRange a b h).length = h.length := by
  unfold addRange
  generalize List.range (b.toNat + 1 - a.toNat) = l
  induction l generalizing h with
  | nil => rfl
  | cons k l ih => rw [List.foldl_cons, ih, List.length_set]
theorem setOf_length : ∀ (k : Nat) (l : List UInt8) (h h' : List Bool), l.length ≤ k → setOf l h = some h' → h'.length = h.length := by
  intro k
  induction k with
  | zero =>
    intro l h h' hl e
    obtain rfl := List.eq_nil_of_length_eq_zero (Nat.le_zero.1 hl)
    rw [setOf_nil] at e
    injection e with e; rw [e]
  | succ k ih =>
    intro l h h' hl e
    cases l with
    | nil => rw [setOf_nil] at e; injection e with e; rw [e]
    | cons a rest =>
      by_cases hr : 2 ≤ rest.length ∧ rest.getD 0 0 = 45
      · obtain ⟨h2, h45⟩ := hr
        match rest, h2, h45, hl with
        | x :: b :: rest', _, h45, hl =>
          have hx : x = 45 := h45
          subst hx
          rw [setOf_range] at e
          split at e
          · rw [ih rest' _ h' (by simp at hl; omega) e, addRange_length]
          · cases e
      · rw [setOf_one a rest h hr] at e
        rw [ih rest _ h' (by simpa using hl) e, List.length_set]
theorem square_on {s : List UInt8} {r r' : Rdr} (h : r.square s = some r') (hg : Gd s.length r) (hl : r.l.length + 1 ≤ 2 * r.i) : On s.length r r' ∧ r.l.length < r'.l.length := by
  unfold Rdr.square at h
  generalize r.at' s [94] = neg at h
  have hii : r.i ≤ (if neg = true then r.i + 1 else r.i) := by split <;> omega
  simp only at h
  generalize (if neg = true then r.i + 1 else r.i) = i at h hii
  by_cases hi : i < s.length
  · rw [if_pos hi] at h
    cases hj : (s.drop (i + 1)).findIdx? (· == 93) with
    | none => rw [hj] at h; cases h
    | some j =>
      rw [hj] at h
      cases hset : setOf ((s.drop i).take (j + 1)) noSet with
      | none => simp only [hset] at h; cases h
      | some hs =>
        simp only [hset] at h
        injection h with h
        subst h
        have hjl : j < (s.drop (i + 1)).length := (List.findIdx?_eq_some_iff_getElem.1 hj).1
        rw [List.length_drop] at hjl
        have hlen := setOf_length _ _ _ _ (Nat.le_refl _) hset
        have hg2 : Gd s.length { r with i := i + (j + 1) + 1 } := hg.put rfl rfl rfl (by show r.i ≤ i + _ + _; omega) (by show i + _ + _ ≤ _; omega)
        refine ⟨⟨hg2.add _ (by show (0 : Nat) ≤ _; omega) (by rw [List.length_map, hlen]; rfl) (by show r.l.length + 1 ≤ 2 * (i + _ + _); omega), by show r.i ≤ i + _ + _; omega, rfl, by rw [add_len]; exact Nat.le_succ _⟩, by rw [add_len]; exact Nat.lt_succ_self _⟩
  · rw [if_neg hi] at h
    cases h
theorem again_length (l : List Stp) (fr : Nat) (h : fr < l.length) : (again l fr).length = l.length + 2 := by
  simp [again]; omega
theorem again_mem {l : List Stp} {fr : Nat} {x : Stp} (h : x ∈ again l fr) : x = ⟨noSet, 3, l.length + 2⟩ ∨ x = ⟨noSet, 4, fr⟩ ∨ ∃ y ∈ l, x.has = y.has ∧ x.to ≤ y.to + 1 := by
  unfold again at h
  simp only [List.mem_append, List.mem_cons, List.not_mem_nil, or_false, List.mem_map] at h
  rcases h with ((h | h) | ⟨y, hy, h⟩) | h
  · exact .inr (.inr ⟨x, List.mem_of_mem_take h, rfl, Nat.le_succ _⟩)
  · exact .inl h
  · refine .inr (.inr ⟨y, List.mem_of_mem_drop hy, ?_⟩)
    rw [← h]
    split
    · exact ⟨rfl, Nat.le_refl _⟩
    · exact ⟨rfl, Nat.le_succ _⟩
  · exact .inr (.inl h)
theorem Gd.again {n : Nat} {r : Rdr} (h : Gd n r) (fr : Nat) (hf : fr < r.l.length) (hl : r.l.length + 2 ≤ 2 * r.i) : Gd n { r with l := again r.l fr } := by
  have e := again_length r.l fr hf
  refine ⟨h.i, ?_, h.grp, h.deep, ?_, ?_⟩
  · show (Ytnhlinkkfoojmaa.again r.l fr).length ≤ _
    rw [e]; exact hl
  · intro x hx
    show x.to ≤ (Ytnhlinkkfoojmaa.again r.l fr).length + 20
    rw [e]
    rcases again_mem hx with rfl | rfl | ⟨y, hy, _, ht⟩
    · show r.l.length + 2 ≤ _; omega
    · show fr ≤ _; omega
    · have := h.tos y hy; omega
  · intro x hx
    rcases again_mem hx with rfl | rfl | ⟨y, hy, hh, _⟩
    · rfl
    · rfl
    · rw [hh]; exact h.sets y hy
theorem at_le (s : List UInt8) (r : Rdr) (t : List UInt8) (h : r.at' s t = true) (h0 : t ≠ []) : r.i + t.length ≤ s.length := by
  unfold Rdr.at' at h
  have h1 := (List.isPrefixOf_iff_prefix.1 h).length_le
  rw [List.length_drop] at h1
  have : 0 < t.length := List.length_pos_iff.2 h0
  omega
theorem On.trans {n : Nat} {a b c : Rdr} (h : On n a b) (k : On n b c) : On n a c := ⟨k.gd, Nat.le_trans h.i k.i, k.deep.trans h.deep, Nat.le_trans h.len k.len⟩
theorem Gd.single {n : Nat} {r : Rdr} (h : Gd n r) (c : UInt8) (hl : r.l.length + 1 ≤ 2 * r.i) : On n r (r.single c) ∧ r.l.length < (r.single c).l.length := by
  refine ⟨⟨h.add _ (Nat.zero_le _) (oneSet_length c) hl, Nat.le_refl _, rfl, ?_⟩, ?_⟩
  · show _ ≤ (r.add _).l.length; rw [add_len]; exact Nat.le_succ _
  · show _ < (r.add _).l.length; rw [add_len]; exact Nat.lt_succ_self _
/-- What each of the four keeps, at a fuel. -/
structure AllOn (s : List UInt8) (f : Nat) : Prop where
  pieces : ∀ r all r' b, Gd s.length r → pieces f s r all = some (r', b) → On s.length r r'
  piece : ∀ r r' e st, Gd s.length r → r.i < s.length → piece f s r = some (r', e, st) → On s.length r r' ∧ r.i < r'.i ∧ (st = true → r.l.length < r'.l.length)
  stroke : ∀ r r' e, Gd s.length r → r.l.length + 2 ≤ 2 * r.i → r.deep + 1 ≤ r.i → stroke f s r = some (r', e) → On s.length r r' ∧ r.l.length < r'.l.length
  group : ∀ r r' e, Gd s.length r → r.l.length + 2 ≤ 2 * r.i → r.deep + 2 ≤ r.i → group f s r = some (r', e) → On s.length r r' ∧ r.l.length < r'.l.length
theorem on_refl {n : Nat} {r : Rdr} (h : Gd n r) : On n r r := ⟨h, Nat.le_refl _, rfl, Nat.le_refl _⟩
theorem allOn (s : List UInt8) : ∀ f, AllOn s f
  | 0 => ⟨fun _ _ _ _ _ h => by simp [pieces] at h, fun _ _ _ _ _ _ h => by simp [piece] at h, fun _ _ _ _ _ _ h => by simp [stroke] at h, fun _ _ _ _ _ _ h => by simp [group] at h⟩
  | f + 1 => by
    have ih := allOn s f
    refine ⟨?_, ?_, ?_, ?_⟩
    · intro r all r' b hg h
      rw [pieces] at h
      by_cases hc : r.i < s.length ∧ (r.deep = 0 ∨ r.at' s [92, 41] = false)
      · rw [if_pos hc] at h
        cases hp : piece f s r with
        | none => rw [hp] at h; cases h
        | some x =>
          obtain ⟨r1, e, st⟩ := x
          rw [hp] at h
          simp only at h
          obtain ⟨ho, hlt, hst⟩ := ih.piece r r1 e st hg hc.1 hp
          by_cases hs : st = true ∧ r1.at' s [42] = true
          · rw [if_pos hs] at h
            by_cases he : e = false ∧ ({ r1 with i := r1.i + 1 } : Rdr).at' s [42] = false
            · rw [if_pos he] at h
              have hle := at_le s r1 [42] hs.2 (by simp)
              have hg1 : Gd s.length { r1 with i := r1.i + 1 } := ho.gd.put rfl rfl rfl (by show r1.i ≤ r1.i + 1; omega) (by simpa using hle)
              have hg2 := hg1.again r.l.length (hst hs.1) (by show r1.l.length + 2 ≤ 2 * (r1.i + 1); have := ho.gd.len; omega)
              have := ih.pieces _ _ _ _ hg2 h
              refine ⟨this.gd, ?_, ?_, ?_⟩
              · have h2 : r1.i + 1 ≤ r'.i := this.i
                omega
              · exact this.deep.trans ho.deep
              · have h2 : (again r1.l r.l.length).length ≤ r'.l.length := this.len
                rw [again_length _ _ (hst hs.1)] at h2
                have := ho.len
                omega
            · rw [if_neg he] at h; cases h
          · rw [if_neg hs] at h
            exact ho.trans (ih.pieces _ _ _ _ ho.gd h)
      · rw [if_neg hc] at h
        injection h with h
        injection h with h1 h2
        subst h1
        exact ⟨hg.put rfl rfl rfl (Nat.le_refl _) hg.i, Nat.le_refl _, rfl, Nat.le_refl _⟩
    · intro r r' e st hg hi h
      rw [piece] at h
      simp only at h
      have hg1 : Gd s.length { r with i := r.i + 1, first := false } := hg.put rfl rfl rfl (by show r.i ≤ r.i + 1; omega) hi
      have hl1 : ({ r with i := r.i + 1, first := false } : Rdr).l.length + 2 ≤ 2 * ({ r with i := r.i + 1, first := false } : Rdr).i := by show r.l.length + 2 ≤ 2 * (r.i + 1); have := hg.len; omega
      have hd1 : ({ r with i := r.i + 1, first := false } : Rdr).deep + 1 ≤ ({ r with i := r.i + 1, first := false } : Rdr).i := by show r.deep + 1 ≤ r.i + 1; have := hg.deep; omega
      have hi1 : r.i < ({ r with i := r.i + 1, first := false } : Rdr).i := Nat.lt_succ_self _
      have hdd : ({ r with i := r.i + 1, first := false } : Rdr).deep = r.deep := rfl
      have hll : ({ r with i := r.i + 1, first := false } : Rdr).l.length = r.l.length := rfl
      have fin : ∀ r2, On s.length ({ r with i := r.i + 1, first := false } : Rdr) r2 → On s.length r r2 ∧ r.i < r2.i := fun r2 ho =>
        ⟨⟨ho.gd, by have := ho.i; omega, by rw [ho.deep, hdd], by rw [← hll]; exact ho.len⟩, by have := ho.i; omega⟩
      split at h
      · injection h with h; injection h with h1 h2; injection h2 with h2 h3
        subst h1
        have hga := hg1.add ⟨noSet, 1, 0⟩ (Nat.zero_le _) (by rfl) (by omega)
        have ho : On s.length ({ r with i := r.i + 1, first := false } : Rdr) { ({ r with i := r.i + 1, first := false } : Rdr).add ⟨noSet, 1, 0⟩ with first := (({ r with i := r.i + 1, first := false } : Rdr).add ⟨noSet, 1, 0⟩).at' s [42] } :=
          ⟨hga.put rfl rfl rfl (Nat.le_refl _) hga.i, Nat.le_refl _, rfl, by show _ ≤ (({ r with i := r.i + 1, first := false } : Rdr).add _).l.length; rw [add_len]; omega⟩
        exact ⟨(fin _ ho).1, (fin _ ho).2, fun e => by rw [← h3] at e; cases e⟩
      · split at h
        · injection h with h; injection h with h1 h2; injection h2 with h2 h3
          subst h1
          have hga := hg1.add ⟨noSet, 2, 0⟩ (Nat.zero_le _) (by rfl) (by omega)
          have ho : On s.length ({ r with i := r.i + 1, first := false } : Rdr) (({ r with i := r.i + 1, first := false } : Rdr).add ⟨noSet, 2, 0⟩) := ⟨hga, Nat.le_refl _, rfl, by rw [add_len]; omega⟩
          exact ⟨(fin _ ho).1, (fin _ ho).2, fun e => by rw [← h3] at e; cases e⟩
        · split at h
          · injection h with h; injection h with h1 h2; injection h2 with h2 h3
            subst h1
            have hga := hg1.add ⟨List.replicate 256 true, 0, 0⟩ (Nat.zero_le _) (by simp) (by omega)
            have ho : On s.length ({ r with i := r.i + 1, first := false } : Rdr) ({ r with i := r.i + 1, first := false } : Rdr).point := ⟨hga, Nat.le_refl _, rfl, by show _ ≤ (({ r with i := r.i + 1, first := false } : Rdr).add _).l.length; rw [add_len]; omega⟩
            exact ⟨(fin _ ho).1, (fin _ ho).2, fun _ => by show _ < (({ r with i := r.i + 1, first := false } : Rdr).add _).l.length; rw [add_len]; omega⟩
          · split at h
            · cases hsq : ({ r with i := r.i + 1, first := false } : Rdr).square s with
              | none => rw [hsq] at h; cases h
              | some r2 =>
                rw [hsq] at h
                injection h with h; injection h with h1 h2; injection h2 with h2 h3
                subst h1
                obtain ⟨ho, hlt⟩ := square_on hsq hg1 (by omega)
                exact ⟨(fin _ ho).1, (fin _ ho).2, fun _ => by omega⟩
            · split at h
              · cases hsq : stroke f s ({ r with i := r.i + 1, first := false } : Rdr) with
                | none => rw [hsq] at h; cases h
                | some x =>
                  obtain ⟨r2, b2⟩ := x
                  rw [hsq] at h
                  injection h with h; injection h with h1 h2; injection h2 with h2 h3
                  subst h1
                  obtain ⟨ho, hlt⟩ := ih.stroke ({ r with i := r.i + 1, first := false } : Rdr) r2 b2 hg1 hl1 hd1 hsq
                  exact ⟨(fin _ ho).1, (fin _ ho).2, fun _ => by omega⟩
              · split at h
                · injection h with h; injection h with h1 h2; injection h2 with h2 h3
                  subst h1
                  obtain ⟨ho, hlt⟩ := hg1.single (s.getD r.i 0) (by omega)
                  exact ⟨(fin _ ho).1, (fin _ ho).2, fun _ => by omega⟩
                · cases h
    · intro r r' e hg hl hd h
      rw [stroke] at h
      by_cases hi : r.i < s.length
      · rw [if_pos hi] at h
        simp only at h
        have hg1 : Gd s.length { r with i := r.i + 1 } := hg.put rfl rfl rfl (by show r.i ≤ r.i + 1; omega) hi
        have fin : ∀ r2, On s.length { r with i := r.i + 1 } r2 → On s.length r r2 := fun r2 ho => ⟨ho.gd, (by have h2 : r.i + 1 ≤ r2.i := ho.i; omega), ho.deep, ho.len⟩
        split at h
        · obtain ⟨ho, hlt⟩ := ih.group _ _ _ hg1 (by show r.l.length + 2 ≤ 2 * (r.i + 1); omega) (by show r.deep + 2 ≤ r.i + 1; omega) h
          exact ⟨fin _ ho, hlt⟩
        · split at h
          · injection h with h; injection h with h1 h2
            subst h1
            obtain ⟨ho, hlt⟩ := hg1.single 10 (by show r.l.length + 1 ≤ 2 * (r.i + 1); omega)
            exact ⟨fin _ ho, hlt⟩
          · split at h
            · injection h with h; injection h with h1 h2
              subst h1
              obtain ⟨ho, hlt⟩ := hg1.single (s.getD r.i 0) (by show r.l.length + 1 ≤ 2 * (r.i + 1); omega)
              exact ⟨fin _ ho, hlt⟩
            · cases h
      · rw [if_neg hi] at h; cases h
    · intro r r' e hg hl hd h
      rw [group] at h
      simp only at h
      by_cases hn : r.groups + 1 ≤ 9
      · rw [if_pos hn] at h
        have hg1 : Gd s.length { r with groups := r.groups + 1, l := r.l ++ [⟨noSet, 5, 2 * (r.groups + 1)⟩], deep := r.deep + 1, first := true } := by
          have := hg.add ⟨noSet, 5, 2 * (r.groups + 1)⟩ (by show 2 * (r.groups + 1) ≤ _; omega) (by rfl) (by omega)
          exact ⟨this.i, this.len, hn, by show r.deep + 1 ≤ r.i; omega, this.tos, this.sets⟩
        cases hp : Ytnhlinkkfoojmaa.pieces f s { r with groups := r.groups + 1, l := r.l ++ [⟨noSet, 5, 2 * (r.groups + 1)⟩], deep := r.deep + 1, first := true } true with
        | none => rw [hp] at h; cases h
        | some x =>
          obtain ⟨r2, b2⟩ := x
          rw [hp] at h
          simp only at h
          have ho := ih.pieces _ _ _ _ hg1 hp
          by_cases ha : r2.at' s [92, 41] = true
          · rw [if_pos ha] at h
            injection h with h; injection h with h1 h2
            subst h1
            have hle := at_le s r2 [92, 41] ha (by simp)
            have hdeep : r2.deep = r.deep + 1 := ho.deep
            have hi2 : r.i ≤ r2.i := ho.i
            have hlen2 : (r.l ++ [(⟨noSet, 5, 2 * (r.groups + 1)⟩ : Stp)]).length ≤ r2.l.length := ho.len
            rw [List.length_append] at hlen2
            have hga : Gd s.length ({ r2 with i := r2.i + 2, deep := r2.deep - 1 } : Rdr) :=
              ⟨hle, by show r2.l.length ≤ 2 * (r2.i + 2); have := ho.gd.len; omega, ho.gd.grp, by show r2.deep - 1 ≤ r2.i + 2; have := ho.gd.deep; omega, ho.gd.tos, ho.gd.sets⟩
            have hl12 : r.l.length + 1 ≤ r2.l.length := hlen2
            have := hga.add ⟨noSet, 5, 2 * (r.groups + 1) + 1⟩ (by show 2 * (r.groups + 1) + 1 ≤ r2.l.length + 21; omega) (by rfl) (by show r2.l.length + 1 ≤ 2 * (r2.i + 2); have := ho.gd.len; omega)
            refine ⟨⟨this, by show r.i ≤ r2.i + 2; omega, by show r2.deep - 1 = r.deep; omega, by show r.l.length ≤ (r2.l ++ [_]).length; rw [List.length_append]; omega⟩, by show r.l.length < (r2.l ++ [_]).length; rw [List.length_append]; simp; omega⟩
          · rw [if_neg ha] at h; cases h
      · rw [if_neg hn] at h; cases h
end Go.Proofs.Ytnhlinkkfoojmaa
