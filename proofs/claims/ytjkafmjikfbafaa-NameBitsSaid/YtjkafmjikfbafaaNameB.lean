/- The law NameBack: plain facts, and its walk. -/
import Derived.Test.YtjkafmjikfbafaaNameQ
namespace Go.Proofs.Ytjkafmjikfbafaa
open Go.RowKit
set_option maxRecDepth 100000
set_option linter.unusedSimpArgs false
set_option linter.unusedVariables false
theorem let32_in : ∀ n : Fin 32, inB (let32 n.val) letters32.data.toList = true := by decide
theorem hashF_isHash (l : List UInt8) : isHashB (hashF l 32) = true := by
  rw [isHashB, hashF_length, Bool.and_eq_true]
  refine ⟨?_, rfl⟩
  rw [List.all_eq_true]
  intro x hx
  obtain ⟨j, _, rfl⟩ := List.mem_map.1 hx
  exact let32_in ⟨_, Nat.mod_lt _ (by omega)⟩
theorem check_ok {l : List UInt8} (h : checkN l = 0) : 0 < l.length ∧ l.length ≤ 20 := by
  by_cases h1 : 20 < l.length
  · rw [check_long h1] at h; cases h
  · refine ⟨?_, by omega⟩
    by_cases h2 : l = []
    · subst h2; exact absurd h (by decide)
    · exact List.length_pos_iff.2 h2
theorem ext_bytes {a b : ByteArray} (h : a.data.toList = b.data.toList) : a = b := ByteArray.ext (Array.ext' h)
theorem split_glued (h n : ByteArray) (hh : h.size = 32) (hi : isHashB h.data.toList = true) (hc : checkN n.data.toList = 0) :
    splitB (h ++ ⟨#[45]⟩ ++ n) = true ∧ splitA (h ++ ⟨#[45]⟩ ++ n) = h ∧ splitC (h ++ ⟨#[45]⟩ ++ n) = n ∧ splitN (h ++ ⟨#[45]⟩ ++ n) = 0 ∧ (h ++ ⟨#[45]⟩ ++ n).size ≤ 1000 := by
  have hlen : h.data.toList.length = 32 := by rw [← hh]; simp
  have hn := check_ok hc
  have hns : n.data.toList.length = n.size := by simp
  have hP : (h ++ (⟨#[45]⟩ : ByteArray) ++ n).data.toList = h.data.toList ++ (45 :: n.data.toList) := by simp
  have hPs : (h ++ (⟨#[45]⟩ : ByteArray) ++ n).size = 33 + n.size := by
    rw [ByteArray.size_append, ByteArray.size_append, hh]; rfl
  have e1 : (h ++ (⟨#[45]⟩ : ByteArray) ++ n).extract 0 32 = h := by
    apply ext_bytes
    rw [Lib.extract_data, hP, List.drop_zero, List.take_left' hlen]
  have e2 : (h ++ (⟨#[45]⟩ : ByteArray) ++ n).extract 33 (h ++ (⟨#[45]⟩ : ByteArray) ++ n).size = n := by
    apply ext_bytes
    rw [Lib.extract_data, hP, hPs, show 33 + n.size - 33 = n.size by omega, List.drop_append, hlen, List.drop_of_length_le (by omega)]
    show List.take n.size (List.drop 0 n.data.toList) = _
    rw [List.drop_zero, ← hns, List.take_length]
  have hB : splitB (h ++ (⟨#[45]⟩ : ByteArray) ++ n) = true := by
    rw [splitB_eq, e1, e2, hi, hc, decide_eq_true (by rw [hPs]; omega), hP]
    rw [List.getD_eq_getElem?_getD, List.getElem?_append_right (by omega), hlen]
    rfl
  have hy := split_yes hB
  exact ⟨hB, by rw [hy.1, e1], by rw [hy.2.1, e2], hy.2.2, by rw [hPs]; omega⟩
theorem split_back (t : ByteArray) (h : splitB t = true) : pathS (t.extract 0 32) (t.extract 33 t.size) = t ∧ pathN (t.extract 0 32) (t.extract 33 t.size) = 0 := by
  rw [splitB_eq] at h
  simp only [Bool.and_eq_true, decide_eq_true_eq, beq_iff_eq] at h
  obtain ⟨⟨⟨h1, h2⟩, h3⟩, h4⟩ := h
  have hl : t.data.toList.length = t.size := by simp
  rw [pathS_eq, pathN_eq, if_pos ⟨h2, h4⟩, if_pos h2]
  refine ⟨?_, h4⟩
  apply ext_bytes
  have e : (t.extract 0 32 ++ (⟨#[45]⟩ : ByteArray) ++ t.extract 33 t.size).data.toList = (t.extract 0 32).data.toList ++ (45 :: (t.extract 33 t.size).data.toList) := by simp
  rw [e, Lib.extract_data, Lib.extract_data, List.drop_zero]
  rw [List.take_of_length_le (l := List.drop 33 _) (by rw [List.length_drop]; omega)]
  rw [← h3, List.getD_eq_getElem?_getD, List.getElem?_eq_getElem (by omega)]
  show List.take 32 t.data.toList ++ (t.data.toList[32] :: List.drop 33 t.data.toList) = t.data.toList
  rw [← List.drop_eq_getElem_cons, List.take_append_drop]

set_option maxHeartbeats 8000000 in
theorem nameBack_walk (a b : ByteArray) (w : World) (ha : a.size ≤ 9223372036854775807) (hb : b.size ≤ 9223372036854775807) : Calls Try.prog 11 #[.string a, .string b] w (TrueOut w) := by
  go_enter Try.func11, Try.ntmps11
  obtain ⟨m, hm, hm1, hm2⟩ : ∃ m : Nat, min (a.size : Int) 60 = (m : Int) ∧ m ≤ a.size ∧ m ≤ 60 := ⟨min a.size 60, by omega, by omega, by omega⟩
  obtain ⟨n, hn, hn1, hn2⟩ : ∃ n : Nat, min (b.size : Int) 60 = (n : Int) ∧ n ≤ b.size ∧ n ≤ 60 := ⟨min b.size 60, by omega, by omega, by omega⟩
  have hx : (a.extract 0 m).size ≤ 60 := by simp; omega
  have hy : (b.extract 0 n).size ≤ 60 := by simp; omega
  obtain ⟨h, hh⟩ : ∃ h, h = (⟨(hashF (shaSum (a.extract 0 m).data.toList) 32).toArray⟩ : ByteArray) := ⟨_, rfl⟩
  have hhs : h.size = 32 := by rw [hh]; exact hash_size _
  have hhi : isHashB h.data.toList = true := by rw [hh, List.toList_toArray]; exact hashF_isHash _
  have g1 := hash_h (a.extract 0 m) h hh (by omega)
  obtain ⟨c, hc⟩ : ∃ c, c = checkN (b.extract 0 n).data.toList := ⟨_, rfl⟩
  have g2 := fun wx => check_any (b.extract 0 n) wx (by omega)
  rw [← hc] at g2
  have hpN : pathN h (b.extract 0 n) = c := by rw [pathN_eq, if_pos hhi, hc]
  clear hh
  have main : ∀ c1 : Bool, c1 = decide (c = 0) → ∀ c2, c2 = splitB (a.extract 0 m) → True := fun _ _ _ _ => trivial
  clear main
  by_cases h0 : c = 0
  · obtain ⟨k0, k1, k2, k3, k4⟩ := split_glued h (b.extract 0 n) hhs hhi (hc ▸ h0)
    have hpS : pathS h (b.extract 0 n) = h ++ ⟨#[45]⟩ ++ b.extract 0 n := by rw [pathS_eq, if_pos ⟨hhi, hc ▸ h0⟩]
    obtain ⟨P, hP⟩ : ∃ P, P = h ++ ⟨#[45]⟩ ++ b.extract 0 n := ⟨_, rfl⟩
    rw [← hP] at hpS k1 k2 k3 k4
    have g3 := path_at h (b.extract 0 n) P 0 hpS (by rw [hpN, h0]; rfl) (by omega) (by omega)
    have g4 := split_at P h (b.extract 0 n) 0 k1 k2 (by rw [k3]; rfl) k4
    subst h0
    clear hP k0 k1 k2 k3 k4 hpS hpN hc hhi
    cases hsb : splitB (a.extract 0 m) with
    | false =>
      have hno := split_no hsb
      have g5 := split_at (a.extract 0 m) ⟨#[]⟩ ⟨#[]⟩ 4 hno.1 hno.2.1 (by rw [hno.2.2]; rfl) (by omega)
      clear hno hsb
      go_wp2_with (first
        | (go_at_call 17; ((with_reducible refine (g1 _).mono ?_); rintro e w1 ⟨rfl, hb1⟩))
        | (go_at_call 20; ((with_reducible refine (g3 _).mono ?_); rintro e w2 ⟨rfl, hb2⟩))
        | (go_at_call 24; ((with_reducible refine (g2 _).mono ?_); rintro e w3 ⟨rfl, hb3⟩))
        | (go_at_call 22; ((with_reducible refine (g4 _).mono ?_); rintro e w4 ⟨rfl, hb4⟩))
        | (go_at_call 22; ((with_reducible refine (g5 _).mono ?_); rintro e w5 ⟨rfl, hb5⟩))
        | (go_at_call 19; ((with_reducible refine (nworks_any _).mono ?_); rintro e w9 ⟨rfl, hb9⟩)))
      go_ret
      exact ⟨rfl, below_next (below_next (below_next (below_next (below_next hb1 hb2) hb3) hb4) hb5) hb9⟩
    | true =>
      obtain ⟨hq1, hq2⟩ := split_back _ hsb
      have hy := split_yes hsb
      obtain ⟨A, hA⟩ : ∃ A, A = (a.extract 0 m).extract 0 32 := ⟨_, rfl⟩
      obtain ⟨B, hB⟩ : ∃ B, B = (a.extract 0 m).extract 33 (a.extract 0 m).size := ⟨_, rfl⟩
      have hAs : A.size ≤ 1000 := by rw [hA, ByteArray.size_extract]; omega
      have hBs : B.size ≤ 1000 := by rw [hB, ByteArray.size_extract]; omega
      rw [← hA, ← hB] at hq1 hq2 hy
      have g5 := split_at (a.extract 0 m) A B 0 hy.1 hy.2.1 (by rw [hy.2.2]; rfl) (by omega)
      have g6 := path_at A B (a.extract 0 m) 0 hq1 (by rw [hq2]; rfl) hAs hBs
      clear hy hsb hq1 hq2 hA hB
      go_wp2_with (first
        | (go_at_call 17; ((with_reducible refine (g1 _).mono ?_); rintro e w1 ⟨rfl, hb1⟩))
        | (go_at_call 20; ((with_reducible refine (g3 _).mono ?_); rintro e w2 ⟨rfl, hb2⟩))
        | (go_at_call 24; ((with_reducible refine (g2 _).mono ?_); rintro e w3 ⟨rfl, hb3⟩))
        | (go_at_call 22; ((with_reducible refine (g4 _).mono ?_); rintro e w4 ⟨rfl, hb4⟩))
        | (go_at_call 22; ((with_reducible refine (g5 _).mono ?_); rintro e w5 ⟨rfl, hb5⟩))
        | (go_at_call 20; ((with_reducible refine (g6 _).mono ?_); rintro e w6 ⟨rfl, hb6⟩))
        | (go_at_call 19; ((with_reducible refine (nworks_any _).mono ?_); rintro e w9 ⟨rfl, hb9⟩)))
      go_ret
      exact ⟨rfl, below_next (below_next (below_next (below_next (below_next (below_next hb1 hb2) hb3) hb4) hb5) hb6) hb9⟩
  · have hpS : pathS h (b.extract 0 n) = ⟨#[]⟩ := by rw [pathS_eq, if_neg (fun e => h0 (hc.trans e.2))]
    have g3 := path_at h (b.extract 0 n) ⟨#[]⟩ c hpS (by rw [hpN]) (by omega) (by omega)
    have hc0 : ((c : Int) == 0) = false := by rw [beq_eq_false_iff_ne]; omega
    have hcn : ¬ (c : Int) = 0 := by omega
    have hcb : ((c : Int) != 0) = true := by rw [bne, hc0]; rfl
    clear hpS hpN hc hhi h0
    cases hsb : splitB (a.extract 0 m) with
    | false =>
      have hno := split_no hsb
      have g5 := split_at (a.extract 0 m) ⟨#[]⟩ ⟨#[]⟩ 4 hno.1 hno.2.1 (by rw [hno.2.2]; rfl) (by omega)
      clear hno hsb
      go_wp2_with (first
        | (go_at_call 17; ((with_reducible refine (g1 _).mono ?_); rintro e w1 ⟨rfl, hb1⟩))
        | (go_at_call 20; ((with_reducible refine (g3 _).mono ?_); rintro e w2 ⟨rfl, hb2⟩))
        | (go_at_call 24; ((with_reducible refine (g2 _).mono ?_); rintro e w3 ⟨rfl, hb3⟩))
        | (go_at_call 22; ((with_reducible refine (g5 _).mono ?_); rintro e w5 ⟨rfl, hb5⟩))
        | (go_at_call 19; ((with_reducible refine (nworks_any _).mono ?_); rintro e w9 ⟨rfl, hb9⟩)))
      go_ret
      exact ⟨rfl, below_next (below_next (below_next (below_next hb1 hb2) hb3) hb5) hb9⟩
    | true =>
      obtain ⟨hq1, hq2⟩ := split_back _ hsb
      have hy := split_yes hsb
      obtain ⟨A, hA⟩ : ∃ A, A = (a.extract 0 m).extract 0 32 := ⟨_, rfl⟩
      obtain ⟨B, hB⟩ : ∃ B, B = (a.extract 0 m).extract 33 (a.extract 0 m).size := ⟨_, rfl⟩
      have hAs : A.size ≤ 1000 := by rw [hA, ByteArray.size_extract]; omega
      have hBs : B.size ≤ 1000 := by rw [hB, ByteArray.size_extract]; omega
      rw [← hA, ← hB] at hq1 hq2 hy
      have g5 := split_at (a.extract 0 m) A B 0 hy.1 hy.2.1 (by rw [hy.2.2]; rfl) (by omega)
      have g6 := path_at A B (a.extract 0 m) 0 hq1 (by rw [hq2]; rfl) hAs hBs
      clear hy hsb hq1 hq2 hA hB
      go_wp2_with (first
        | (go_at_call 17; ((with_reducible refine (g1 _).mono ?_); rintro e w1 ⟨rfl, hb1⟩))
        | (go_at_call 20; ((with_reducible refine (g3 _).mono ?_); rintro e w2 ⟨rfl, hb2⟩))
        | (go_at_call 24; ((with_reducible refine (g2 _).mono ?_); rintro e w3 ⟨rfl, hb3⟩))
        | (go_at_call 22; ((with_reducible refine (g5 _).mono ?_); rintro e w5 ⟨rfl, hb5⟩))
        | (go_at_call 20; ((with_reducible refine (g6 _).mono ?_); rintro e w6 ⟨rfl, hb6⟩))
        | (go_at_call 19; ((with_reducible refine (nworks_any _).mono ?_); rintro e w9 ⟨rfl, hb9⟩)))
      go_ret
      exact ⟨rfl, below_next (below_next (below_next (below_next (below_next hb1 hb2) hb3) hb5) hb6) hb9⟩
end Go.Proofs.Ytjkafmjikfbafaa
