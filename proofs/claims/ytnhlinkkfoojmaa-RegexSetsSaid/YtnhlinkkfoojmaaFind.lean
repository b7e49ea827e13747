/- Find: the walk. -/
import Derived.Test.YtnhlinkkfoojmaaPlaces
import Derived.Test.YtnhlinkkfoojmaaWhole
namespace Go.Proofs.Ytnhlinkkfoojmaa
open Go.RowKit
set_option maxRecDepth 100000
set_option linter.unusedSimpArgs false
set_option linter.unusedVariables false
/-- What is found, with a fuel for the places; none: the places do not come to their end. -/
def findO (u : Nat) (l : List Stp) (n : Nat) (L : List UInt8) (fr : Nat) : Option (Option (List (Int × Int))) :=
  match whole l L fr with
  | none => some none
  | some (lo, hi) => if lo ≤ hi ∧ hi ≤ L.length then (placesO u l lo hi (fun a => rowAt l L hi (hi - a)) 0 lo ((List.replicate (n + 1) ((-1 : Int), (-1 : Int))).set 0 ((lo : Int), (hi : Int)))).map some else none
def FindPost (w : World) : Option (List (Int × Int)) → Ending → World → Prop
  | none, e, w' => e = .returned (.tuple #[.slice none 0 0, .bool false]) ∧ Below w.heap.size w w'
  | some out, e, w' => ∃ ob, e = .returned (.tuple #[.slice (some ⟨ob, 0, none⟩) out.length out.length, .bool true]) ∧ PA w' ob out ∧ w.heap.size ≤ ob ∧ Below w.heap.size w w'
theorem placesO_length : ∀ (u : Nat) (l : List Stp) (lo hi : Nat) (row : Nat → List Bool) (n a : Nat) (o fin : List (Int × Int)), placesO u l lo hi row n a o = some fin → fin.length = o.length
  | 0, _, _, _, _, _, _, _, _, h => by simp [placesO] at h
  | u + 1, l, lo, hi, row, n, a, o, fin, h => by
    rw [placesO_succ] at h
    split at h
    · unfold placesStep at h
      split at h
      · injection h with h; rw [h]
      · split at h
        · exact placesO_length u _ _ _ _ _ _ _ _ h
        · split at h
          · split at h
            · rw [placesO_length u _ _ _ _ _ _ _ _ h, List.length_set]
            · cases h
          · split at h
            · split at h
              · split at h
                · exact placesO_length u _ _ _ _ _ _ _ _ h
                · exact placesO_length u _ _ _ _ _ _ _ _ h
              · cases h
            · split at h
              · exact placesO_length u _ _ _ _ _ _ _ _ h
              · exact placesO_length u _ _ _ _ _ _ _ _ h
    · cases h
set_option maxHeartbeats 8000000 in
theorem find_any (w : World) (p G : Nat) (l : List Stp) (n g cap : Nat) (hSG : SG w p G l n g cap) (hwf : WF l) (hl : l.length ≤ 100000) (hn : n ≤ 1000) (htos : ∀ x ∈ l, x.to ≤ 1000000) (hG : G ≤ w.heap.size) (s : ByteArray) (hs : s.size ≤ 1000) (fr : Nat) (hfr : fr ≤ s.size)
    (u : Nat) (out : Option (List (Int × Int))) (hout : findO u l n s.data.toList fr = some out) :
    Calls Try.prog 8 #[.pointer (some ⟨p, 0, none⟩), .string s, .int .i64 (fr : Nat)] w (FindPost w out) := by
  have g14 := whole_any w p G l n g cap hSG hwf hl hG s hs fr hfr
  obtain ⟨wh, hwh⟩ : ∃ wh, wh = whole l s.data.toList fr := ⟨_, rfl⟩
  rw [← hwh] at g14
  unfold findO at hout
  rw [← hwh] at hout
  have HO := Lib.hid hout
  have HS := Lib.hid hSG
  have hd1 : decide ((fr : Int) < 0) = false := decide_eq_false (by omega)
  have hd2 : decide ((fr : Int) > (s.size : Int)) = false := decide_eq_false (by omega)
  have hd3 : decide (fr > s.size) = false := decide_eq_false (by omega)
  clear hout hSG hwh
  go_enter Try.func8, Try.ntmps8
  cases wh with
  | none =>
    have hon : out = none := by have h := HO.out; injection h with h; exact h.symm
    subst hon
    clear HO
    go_wp2_with (go_at_call 14; ((with_reducible refine g14.mono ?_); rintro e w2 ⟨x, y, rfl, hxy, hB2⟩))
    go_ret2
    exact ⟨rfl, hB2.alloc hB2.size _⟩
  | some q =>
    obtain ⟨lo, hi⟩ := q
    have hO : (if lo ≤ hi ∧ hi ≤ s.data.toList.length then (placesO u l lo hi (fun a => rowAt l s.data.toList hi (hi - a)) 0 lo ((List.replicate (n + 1) ((-1 : Int), (-1 : Int))).set 0 ((lo : Int), (hi : Int)))).map some else none) = some out := HO.out
    have hcond : lo ≤ hi ∧ hi ≤ s.data.toList.length := by
      by_cases h : lo ≤ hi ∧ hi ≤ s.data.toList.length
      · exact h
      · rw [if_neg h] at hO; cases hO
    rw [if_pos hcond] at hO
    obtain ⟨hlo, hhi⟩ := hcond
    rw [size_list] at hhi
    cases hpl : placesO u l lo hi (fun a => rowAt l s.data.toList hi (hi - a)) 0 lo ((List.replicate (n + 1) ((-1 : Int), (-1 : Int))).set 0 ((lo : Int), (hi : Int))) with
    | none => rw [hpl] at hO; cases hO
    | some fin =>
      rw [hpl] at hO
      have hon : out = some fin := by injection hO with hO; exact hO.symm
      subst hon
      have hfl := placesO_length _ _ _ _ _ _ _ _ _ hpl
      rw [List.length_set, List.length_replicate] at hfl
      have g15 := fun wx hSx hGx => places_any wx p G l n g cap hSx hwf hl hn htos hGx s hs lo hi hlo hhi u fin hpl
      have HFL := Lib.hid hfl
      clear HO hO hpl hfl
      go_upto_region 6 with (go_at_call 14; ((with_reducible refine g14.mono ?_); rintro e w2 ⟨x, y, rfl, hxy, hB2⟩))
      obtain ⟨rfl, rfl⟩ := hxy lo hi rfl
      have hb3 : Below w.heap.size w (w2.alloc (.cells #[.int .i64 (lo : Nat), .int .i64 (hi : Nat)] 30)) := hB2.alloc hB2.size _
      have g15a := g15 _ (HS.out.below (hb3.mono hG)) (Nat.le_trans hG hb3.size)
      clear g15
      have clo : (w2.alloc (.cells #[.int .i64 (lo : Nat), .int .i64 (hi : Nat)] 30)).cell? ⟨w2.heap.size, 0, none⟩ = some (.int .i64 (lo : Nat)) := cell_of_row _ _ 0 _ 30 (0, 0) (heap_alloc_new w2 _)
      have HB3 := Lib.hid hb3
      clear hb3
      go_wp2_with (go_at_call 15; ((with_reducible refine g15a.mono ?_); rintro e w4 ⟨ob, rfl, hPA, hob, hB4⟩))
      go_ret2
      refine ⟨ob, ?_, hPA, Nat.le_trans HB3.out.size hob, HB3.out.trans (hB4.mono HB3.out.size)⟩
      rw [HFL.out]; rfl
end Go.Proofs.Ytnhlinkkfoojmaa
