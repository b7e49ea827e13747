/- The pure side of layer 1: the bytes of a number, and what a reader makes of bytes. No program in sight. -/
namespace Go.Proofs.Ythhpaceolnpcnaa
set_option linter.unusedVariables false
set_option linter.unusedSimpArgs false

/-- The digits but the last one. -/
def encHi (n : Nat) : List UInt8 := if _h : n = 0 then [] else encHi (n / 128) ++ [UInt8.ofNat (n % 128 + 128)]
termination_by n
decreasing_by omega

/-- A number's bytes. -/
def enc (n : Nat) : List UInt8 := encHi (n / 128) ++ [UInt8.ofNat (n % 128)]

theorem encHi_zero : encHi 0 = [] := by unfold encHi; simp
theorem encHi_pos (n : Nat) (h : 0 < n) : encHi n = encHi (n / 128) ++ [UInt8.ofNat (n % 128 + 128)] := by
  rw [encHi, dif_neg (by omega)]

theorem encHi_len (k : Nat) : ∀ n, n < 128 ^ k → (encHi n).length ≤ k := by
  induction k with
  | zero => intro n h; obtain rfl : n = 0 := by simpa using h
            simp [encHi_zero]
  | succ k ih =>
    intro n h
    by_cases hn : n = 0
    · subst hn; simp [encHi_zero]
    · rw [encHi_pos n (by omega)]
      have := ih (n / 128) (by rw [Nat.pow_succ] at h; omega)
      simp; omega

theorem enc_len (n : Nat) (h : n < 18446744073709551616) : (enc n).length ≤ 10 := by
  have := encHi_len 9 (n / 128) (by omega)
  simp [enc]; omega

theorem enc_pos (n : Nat) : 0 < (enc n).length := by simp [enc]

/-- How long the row is with which bytes begin: as the program looks for it. -/
def rowGo (b0 : Nat) : Nat → List UInt8 → Nat
  | _, [] => 0
  | i, c :: r => if (i = 0 ∧ c.toNat = 128) ∨ (i = 9 ∧ 129 < b0) ∨ i = 10 then 0 else if c.toNat < 128 then i + 1 else rowGo b0 (i + 1) r
def rowLen (l : List UInt8) : Nat := rowGo (l.getD 0 0).toNat 0 l

/-- A row's number, with the wrap of 64 bits. -/
def foldW (n : Nat) (l : List UInt8) : Nat := l.foldl (fun n c => (n * 128 + c.toNat % 128) % 18446744073709551616) n
/-- .. and without. -/
def val (n : Nat) (l : List UInt8) : Nat := l.foldl (fun n c => n * 128 + c.toNat % 128) n

/-- A number, if bytes begin with one's row; and what stands behind. -/
def rd (l : List UInt8) : Option (Nat × List UInt8) := if rowLen l = 0 then none else some (foldW 0 (l.take (rowLen l)), l.drop (rowLen l))

/-- A text, if bytes begin with one; and what stands behind. -/
def rdText (l : List UInt8) : Option (List UInt8 × List UInt8) :=
  (rd l).bind fun x => if x.1 ≤ x.2.length then some (x.2.take x.1, x.2.drop x.1) else none

theorem val_append (n : Nat) (l k : List UInt8) : val n (l ++ k) = val (val n l) k := by simp [val]
theorem val_one (n : Nat) (c : UInt8) : val n [c] = n * 128 + c.toNat % 128 := rfl

theorem val_mono (l : List UInt8) : ∀ n, n ≤ val n l := by
  induction l with
  | nil => intro n; exact Nat.le_refl _
  | cons c l ih => intro n; exact Nat.le_trans (by omega) (ih (n * 128 + c.toNat % 128))

theorem foldW_val (l : List UInt8) : ∀ n, val n l < 18446744073709551616 → foldW n l = val n l := by
  induction l with
  | nil => intro n _; rfl
  | cons c l ih =>
    intro n h
    have hm := val_mono l (n * 128 + c.toNat % 128)
    have h' : val (n * 128 + c.toNat % 128) l < 18446744073709551616 := h
    show foldW ((n * 128 + c.toNat % 128) % 18446744073709551616) l = val (n * 128 + c.toNat % 128) l
    rw [Nat.mod_eq_of_lt (by omega)]
    exact ih _ h'

theorem toNat_ofNat (n : Nat) (h : n < 256) : (UInt8.ofNat n).toNat = n := by simp; omega

theorem encHi_val (k : Nat) : ∀ m, m < 128 ^ k → val 0 (encHi m) = m := by
  induction k with
  | zero => intro m h; obtain rfl : m = 0 := by simpa using h
            simp [encHi_zero, val]
  | succ k ih =>
    intro m h
    by_cases hm : m = 0
    · subst hm; simp [encHi_zero, val]
    · rw [encHi_pos m (by omega), val_append, ih (m / 128) (by rw [Nat.pow_succ] at h; omega), val_one, toNat_ofNat _ (by omega)]
      omega

theorem lt_pow (m : Nat) : m < 128 ^ (m + 1) := by
  have : m < 2 ^ m := Nat.lt_two_pow_self
  have h2 : 2 ^ m ≤ 128 ^ m := Nat.pow_le_pow_left (by omega) m
  have h3 : 128 ^ m ≤ 128 ^ (m + 1) := Nat.pow_le_pow_right (by omega) (by omega)
  omega

theorem enc_val (n : Nat) : val 0 (enc n) = n := by
  rw [enc, val_append, encHi_val _ _ (lt_pow _), val_one, toNat_ofNat _ (by omega)]
  omega

theorem foldW_enc (n : Nat) (h : n < 18446744073709551616) : foldW 0 (enc n) = n := by
  rw [foldW_val _ _ (by rw [enc_val]; exact h), enc_val]

/-- The digits but the last: all from 128 on, the first of them above. -/
theorem encHi_high (k : Nat) : ∀ m, m < 128 ^ k → (∀ c ∈ encHi m, 128 ≤ c.toNat) ∧ ∀ c r, encHi m = c :: r → c.toNat ≠ 128 := by
  induction k with
  | zero => intro m h; obtain rfl : m = 0 := by simpa using h
            simp [encHi_zero]
  | succ k ih =>
    intro m h
    by_cases hm : m = 0
    · subst hm; simp [encHi_zero]
    · obtain ⟨h1, h2⟩ := ih (m / 128) (by rw [Nat.pow_succ] at h; omega)
      rw [encHi_pos m (by omega)]
      refine ⟨?_, ?_⟩
      · intro c hc
        rcases List.mem_append.1 hc with hc | hc
        · exact h1 c hc
        · obtain rfl := List.mem_singleton.1 hc
          rw [toNat_ofNat _ (by omega)]; omega
      · intro c r hcr
        cases he : encHi (m / 128) with
        | nil =>
          rw [he] at hcr
          simp only [List.nil_append, List.cons.injEq] at hcr
          obtain ⟨rfl, _⟩ := hcr
          have h0 : m / 128 = 0 := by
            rcases Nat.eq_zero_or_pos (m / 128) with h | h
            · exact h
            · rw [encHi_pos _ h] at he; simp at he
          rw [toNat_ofNat _ (by omega)]; omega
        | cons d s =>
          rw [he] at hcr
          simp at hcr
          obtain ⟨rfl, _⟩ := hcr
          exact h2 _ _ he

/-- Such digits are those of their number. -/
theorem high_enc (n : Nat) : ∀ h : List UInt8, h.length = n → (∀ c ∈ h, 128 ≤ c.toNat) → (∀ c r, h = c :: r → c.toNat ≠ 128) → encHi (val 0 h) = h ∧ (h ≠ [] → 0 < val 0 h) := by
  induction n with
  | zero => intro h hl _ _; obtain rfl := List.eq_nil_of_length_eq_zero hl; simp [val, encHi_zero]
  | succ n ih =>
    intro h hl h1 h2
    have hne : h ≠ [] := by intro e; simp [e] at hl
    obtain ⟨g, c, rfl⟩ : ∃ g c, h = g ++ [c] := ⟨h.dropLast, h.getLast hne, (List.dropLast_concat_getLast hne).symm⟩
    have hg : g.length = n := by simpa using hl
    obtain ⟨e1, e2⟩ := ih g hg (fun c hc => h1 c (by simp [hc])) (fun d r hd => by
      subst hd
      exact h2 d (r ++ [c]) rfl)
    have hc := h1 c (by simp)
    have hc2 := UInt8.toNat_lt c
    have hv : val 0 (g ++ [c]) = val 0 g * 128 + c.toNat % 128 := by rw [val_append, val_one]
    have hpos : 0 < val 0 (g ++ [c]) := by
      rw [hv]
      by_cases hgn : g = []
      · subst hgn
        have := h2 c [] rfl
        simp [val]
        omega
      · have := e2 hgn; omega
    refine ⟨?_, fun _ => hpos⟩
    rw [encHi_pos _ hpos, hv]
    have q1 : (val 0 g * 128 + c.toNat % 128) / 128 = val 0 g := by omega
    have q2 : (val 0 g * 128 + c.toNat % 128) % 128 + 128 = c.toNat := by omega
    rw [q1, q2, e1]
    simp

theorem val_lt (h : List UInt8) : ∀ n, val n h < (n + 1) * 128 ^ h.length := by
  induction h with
  | nil => intro n; simp [val]
  | cons c r ih =>
    intro n
    refine Nat.lt_of_lt_of_le (ih (n * 128 + c.toNat % 128)) ?_
    rw [List.length_cons, Nat.pow_succ, Nat.mul_comm (128 ^ r.length) 128, ← Nat.mul_assoc]
    exact Nat.mul_le_mul_right _ (by omega)

theorem val_ge (h : List UInt8) : ∀ n, n * 128 ^ h.length ≤ val n h := by
  induction h with
  | nil => intro n; simp [val]
  | cons c r ih =>
    intro n
    refine Nat.le_trans ?_ (ih (n * 128 + c.toNat % 128))
    rw [List.length_cons, Nat.pow_succ, Nat.mul_comm (128 ^ r.length) 128, ← Nat.mul_assoc]
    exact Nat.mul_le_mul_right _ (by omega)

/-- What the program finds where all digits but the last are from 128 on. -/
theorem rowGo_some (b0 : Nat) (c : UInt8) (rest : List UInt8) (hc : c.toNat < 128) : ∀ (h : List UInt8) (i : Nat), (∀ d ∈ h, 128 ≤ d.toNat) → (i = 0 → ∀ d r, h = d :: r → d.toNat ≠ 128) → i + h.length < 10 → (i + h.length = 9 → b0 ≤ 129) →
    (9 < i + h.length ∨ i ≤ 9) → (9 ≤ i + h.length → b0 ≤ 129) → rowGo b0 i (h ++ c :: rest) = i + h.length + 1 := by
  intro h
  induction h with
  | nil =>
    intro i _ h1 h2 h3 _ _
    simp only [List.nil_append, rowGo, List.length_nil, Nat.add_zero] at *
    rw [if_neg (by omega), if_pos hc]
  | cons d h ih =>
    intro i hd h1 h2 h3 h4 h5
    have hd0 := hd d (by simp)
    simp only [List.length_cons] at h2 h3 h4 h5
    have ih' := ih (i + 1) (fun x hx => hd x (by simp [hx])) (by omega) (by omega) (by omega) (by omega) (by omega)
    simp only [List.cons_append, rowGo, List.length_cons]
    rw [if_neg, if_neg (by omega), ih']
    · omega
    · rintro (⟨h0, h128⟩ | ⟨h9, hb⟩ | h10)
      · exact h1 h0 d h rfl h128
      · omega
      · omega

theorem rowGo_ne (b0 : Nat) (c : UInt8) (rest : List UInt8) (hc : c.toNat < 128) : ∀ (h : List UInt8) (i : Nat), (∀ d ∈ h, 128 ≤ d.toNat) → i ≤ 10 → rowGo b0 i (h ++ c :: rest) ≠ 0 →
    (i = 0 → ∀ d r, h = d :: r → d.toNat ≠ 128) ∧ i + h.length < 10 ∧ (i + h.length = 9 → b0 ≤ 129) := by
  intro h
  induction h with
  | nil =>
    intro i _ hi hn
    simp only [List.nil_append, rowGo, List.length_nil, Nat.add_zero] at *
    by_cases hb : (i = 0 ∧ c.toNat = 128) ∨ (i = 9 ∧ 129 < b0) ∨ i = 10
    · rw [if_pos hb] at hn; exact absurd rfl hn
    · exact ⟨fun _ d r e => by simp at e, by omega, by omega⟩
  | cons d h ih =>
    intro i hd hi hn
    have hd0 := hd d (by simp)
    simp only [List.cons_append, rowGo, List.length_cons] at *
    by_cases hb : (i = 0 ∧ d.toNat = 128) ∨ (i = 9 ∧ 129 < b0) ∨ i = 10
    · rw [if_pos hb] at hn; exact absurd rfl hn
    · rw [if_neg hb, if_neg (by omega)] at hn
      obtain ⟨g1, g2, g3⟩ := ih (i + 1) (fun x hx => hd x (by simp [hx])) (by omega) hn
      refine ⟨fun h0 e r he h128 => hb (Or.inl ⟨h0, ?_⟩), by omega, fun h9 => g3 (by omega)⟩
      simp at he
      obtain ⟨rfl, _⟩ := he
      exact h128

theorem rowGo_none (b0 : Nat) : ∀ (h : List UInt8) (i : Nat), (∀ d ∈ h, 128 ≤ d.toNat) → rowGo b0 i h = 0 := by
  intro h
  induction h with
  | nil => intro i _; rfl
  | cons d h ih =>
    intro i hd
    simp only [rowGo]
    split
    · rfl
    · rw [if_neg (by have := hd d (by simp); omega)]
      exact ih (i + 1) (fun x hx => hd x (by simp [hx]))

/-- Bytes have a first one below 128, or none. -/
theorem split_low : ∀ l : List UInt8, (∀ d ∈ l, 128 ≤ d.toNat) ∨ ∃ h c rest, l = h ++ c :: rest ∧ (∀ d ∈ h, 128 ≤ d.toNat) ∧ c.toNat < 128
  | [] => Or.inl (by simp)
  | d :: l => by
    by_cases hd : d.toNat < 128
    · exact Or.inr ⟨[], d, l, rfl, by simp, hd⟩
    · rcases split_low l with h | ⟨h, c, rest, rfl, h1, h2⟩
      · exact Or.inl (fun x hx => by rcases List.mem_cons.1 hx with rfl | hx; omega; exact h x hx)
      · exact Or.inr ⟨d :: h, c, rest, rfl, fun x hx => by rcases List.mem_cons.1 hx with rfl | hx; omega; exact h1 x hx, h2⟩

theorem rowLen_enc (n : Nat) (rest : List UInt8) (hn : n < 18446744073709551616) : rowLen (enc n ++ rest) = (enc n).length := by
  have hh := encHi_high _ _ (lt_pow (n / 128))
  have hl := encHi_len 9 (n / 128) (by omega)
  have hc : (UInt8.ofNat (n % 128)).toNat < 128 := by rw [toNat_ofNat _ (by omega)]; omega
  have h9 : 9 ≤ 0 + (encHi (n / 128)).length → ((encHi (n / 128) ++ UInt8.ofNat (n % 128) :: rest).getD 0 0).toNat ≤ 129 := by
    intro h9
    cases he : encHi (n / 128) with
    | nil => rw [he] at h9; simp at h9
    | cons d r =>
      have hv := encHi_val _ _ (lt_pow (n / 128))
      have hm := val_ge r (0 * 128 + d.toNat % 128)
      rw [he] at hv h9
      have hv' : val (0 * 128 + d.toNat % 128) r = n / 128 := hv
      have hr : 8 ≤ r.length := by simp at h9; omega
      have hp := Nat.pow_le_pow_right (show 0 < 128 by omega) hr
      have h1 : (0 * 128 + d.toNat % 128) * 128 ^ 8 ≤ n / 128 := Nat.le_trans (Nat.mul_le_mul_left _ hp) (by omega)
      have := UInt8.toNat_lt d
      simp only [List.cons_append, List.getD_cons_zero]
      omega
  unfold rowLen enc
  rw [List.append_assoc, List.singleton_append, rowGo_some _ _ _ hc _ _ hh.1 (fun _ => hh.2) (by omega) (fun e => h9 (by omega)) (by omega) h9]
  simp

theorem rowLen_inv (l : List UInt8) (h : rowLen l ≠ 0) : ∃ n rest, n < 18446744073709551616 ∧ l = enc n ++ rest := by
  unfold rowLen at h
  rcases split_low l with hn | ⟨g, c, rest, rfl, hg, hc⟩
  · exact absurd (rowGo_none _ _ _ hn) h
  · obtain ⟨h1, h2, h3⟩ := rowGo_ne _ c rest hc g 0 hg (by omega) h
    obtain ⟨e1, e2⟩ := high_enc _ g rfl hg (h1 rfl)
    have hc2 := UInt8.toNat_lt c
    refine ⟨val 0 g * 128 + c.toNat, rest, ?_, ?_⟩
    · have hv : val 0 g < 144115188075855872 := by
        cases g with
        | nil => simp [val]
        | cons d r =>
          have hd := UInt8.toNat_lt d
          simp only [List.length_cons] at h2 h3
          have hlt : val 0 (d :: r) < (0 * 128 + d.toNat % 128 + 1) * 128 ^ r.length := val_lt r _
          by_cases h9 : r.length = 8
          · have := h3 (by omega)
            simp only [List.cons_append, List.getD_cons_zero] at this
            rw [h9] at hlt
            have hdd := hg d (by simp)
            omega
          · have hp := Nat.pow_le_pow_right (show 0 < 128 by omega) (show r.length ≤ 7 by omega)
            have : (0 * 128 + d.toNat % 128 + 1) * 128 ^ r.length ≤ 128 * 128 ^ 7 := Nat.mul_le_mul (by omega) hp
            omega
      omega
    · unfold enc
      rw [show (val 0 g * 128 + c.toNat) / 128 = val 0 g by omega, show (val 0 g * 128 + c.toNat) % 128 = c.toNat by omega, e1]
      simp

/-- Bytes that begin with a number's row give that number. -/
theorem rd_enc (n : Nat) (rest : List UInt8) (hn : n < 18446744073709551616) : rd (enc n ++ rest) = some (n, rest) := by
  have hp := enc_pos n
  unfold rd
  rw [rowLen_enc n rest hn, if_neg (by omega)]
  simp [foldW_enc n hn]

/-- .. and no others give one. -/
theorem rd_inv {l : List UInt8} {n : Nat} {rest : List UInt8} (h : rd l = some (n, rest)) : n < 18446744073709551616 ∧ l = enc n ++ rest := by
  by_cases h0 : rowLen l = 0
  · unfold rd at h; rw [if_pos h0] at h; cases h
  · obtain ⟨m, r, hm, rfl⟩ := rowLen_inv l h0
    rw [rd_enc m r hm] at h
    simp only [Option.some.injEq, Prod.mk.injEq] at h
    obtain ⟨rfl, rfl⟩ := h
    exact ⟨hm, rfl⟩

theorem rowLen_le (l : List UInt8) : rowLen l ≤ l.length := by
  by_cases h0 : rowLen l = 0
  · omega
  · obtain ⟨m, r, hm, rfl⟩ := rowLen_inv l h0
    rw [rowLen_enc m r hm]; simp

theorem rd_nil : rd [] = none := rfl

/-! What the reference does: it counts the bytes from 128 on. -/
theorem rd_none_of {l : List UInt8} (h : rowLen l = 0) : rd l = none := by unfold rd; rw [if_pos h]

theorem ref_all {l : List UInt8} (h : ∀ j, j < l.length → 128 ≤ (l.getD j 0).toNat) : rd l = none := by
  refine rd_none_of (rowGo_none _ _ _ fun d hd => ?_)
  obtain ⟨j, hj, rfl⟩ := List.getElem_of_mem hd
  simpa [List.getD, hj] using h j hj

theorem split_at {l : List UInt8} {k : Nat} (hk : k < l.length) : l = l.take k ++ l.getD k 0 :: l.drop (k + 1) := by
  have : l.getD k 0 = l[k] := by simp [List.getD, hk]
  rw [this, ← List.drop_eq_getElem_cons hk, List.take_append_drop]

theorem take_high {l : List UInt8} {k : Nat} (hk : k < l.length) (h : ∀ j, j < k → 128 ≤ (l.getD j 0).toNat) : ∀ d ∈ l.take k, 128 ≤ d.toNat := by
  intro d hd
  obtain ⟨j, hj, rfl⟩ := List.getElem_of_mem hd
  simp only [List.length_take] at hj
  have := h j (by omega)
  simpa [List.getD, show j < l.length by omega] using this

theorem ref_long {l : List UInt8} {k : Nat} (hk : k < l.length) (h : ∀ j, j < k → 128 ≤ (l.getD j 0).toNat) (hc : (l.getD k 0).toNat < 128) (h9 : 9 < k) : rd l = none := by
  refine rd_none_of ?_
  by_cases h0 : rowLen l = 0
  · exact h0
  · unfold rowLen at h0
    have hs := split_at hk
    obtain ⟨b0, hb0⟩ : ∃ b0, b0 = (l.getD 0 0).toNat := ⟨_, rfl⟩
    rw [← hb0] at h0
    rw [hs] at h0
    obtain ⟨_, h2, _⟩ := rowGo_ne b0 _ _ hc _ 0 (take_high hk h) (by omega) h0
    simp at h2
    omega

/-- Two ways to part bytes at the first one below 128 are one. -/
theorem part_one {h h' r r' : List UInt8} {c c' : UInt8} (e : h ++ c :: r = h' ++ c' :: r') (h1 : ∀ d ∈ h, 128 ≤ d.toNat) (h2 : ∀ d ∈ h', 128 ≤ d.toNat) (hc : c.toNat < 128) (hc' : c'.toNat < 128) : h = h' ∧ c = c' ∧ r = r' := by
  induction h generalizing h' with
  | nil =>
    cases h' with
    | nil => simpa using e
    | cons d h' =>
      simp only [List.nil_append, List.cons_append, List.cons.injEq] at e
      obtain ⟨rfl, _⟩ := e
      have := h2 c (by simp); omega
  | cons d h ih =>
    cases h' with
    | nil =>
      simp only [List.nil_append, List.cons_append, List.cons.injEq] at e
      obtain ⟨rfl, _⟩ := e
      have := h1 d (by simp); omega
    | cons d' h' =>
      simp only [List.cons_append, List.cons.injEq] at e
      obtain ⟨rfl, e⟩ := e
      obtain ⟨rfl, g⟩ := ih e (fun x hx => h1 x (by simp [hx])) (fun x hx => h2 x (by simp [hx]))
      exact ⟨rfl, g⟩

theorem ref_same {l : List UInt8} {k n : Nat} (hk : k < l.length) (hn : n < 18446744073709551616) (he : enc n = l.take (k + 1)) : rd l = some (n, l.drop (k + 1)) := by
  have : l = enc n ++ l.drop (k + 1) := by rw [he, List.take_append_drop]
  rw [this, rd_enc n _ hn]
  simp only [Option.some.injEq, Prod.mk.injEq, true_and]
  rw [← this]

theorem ref_other {l : List UInt8} {k : Nat} (hk : k < l.length) (h : ∀ j, j < k → 128 ≤ (l.getD j 0).toNat) (hc : (l.getD k 0).toNat < 128) (he : enc (foldW 0 (l.take (k + 1))) ≠ l.take (k + 1)) : rd l = none := by
  cases hr : rd l with
  | none => rfl
  | some x =>
    obtain ⟨m, r⟩ := x
    obtain ⟨hm, hl⟩ := rd_inv hr
    exfalso
    apply he
    have hs := split_at hk
    have hh := encHi_high _ _ (lt_pow (m / 128))
    have hcm : (UInt8.ofNat (m % 128)).toNat < 128 := by rw [toNat_ofNat _ (by omega)]; omega
    have hl2 : l = encHi (m / 128) ++ UInt8.ofNat (m % 128) :: r := by rw [hl, enc]; simp
    obtain ⟨e1, e2, e3⟩ := part_one (hs.symm.trans hl2) (take_high hk h) hh.1 hc hcm
    have e4 : l.take (k + 1) = enc m := by
      rw [List.take_succ_eq_append_getElem hk, e1, enc]
      congr 2
      rw [← e2]; simp [List.getD, hk]
    rw [e4, foldW_enc m hm]

end Go.Proofs.Ythhpaceolnpcnaa
