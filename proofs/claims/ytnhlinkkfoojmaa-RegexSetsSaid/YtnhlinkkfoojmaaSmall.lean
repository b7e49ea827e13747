/- The small walks: must, HasPrefix, at. -/
import Derived.Test.YtnhlinkkfoojmaaRows
import Derived.Test.YtnhlinkkfoojmaaMirror
import Derived.WalkKit
import Derived.WalkLawsBesides
import Derived.BigQuiet
import Derived.Lib.Hide
import Derived.Below
namespace Go.Proofs.Ytnhlinkkfoojmaa
open Go.RowKit
set_option maxRecDepth 100000
set_option linter.unusedSimpArgs false
set_option linter.unusedVariables false
theorem must_no (w : World) : Calls Try.prog 18 #[.bool false] w fun e w' => e = .panicked [{ v := .iface 37 (.agg #[]), recovered := false }] ∧ w' = w := by
  go_enter Try.func18, Try.ntmps18
  go_wp2
  exact ⟨rfl, rfl, rfl⟩
theorem must_yes (w : World) : Calls Try.prog 18 #[.bool true] w fun e w' => e = .returned (.tuple #[]) ∧ w' = w := by
  go_enter Try.func18, Try.ntmps18
  go_wp2
  go_end0
  exact ⟨rfl, rfl⟩
theorem loop_data (b : ByteArray) (i : Nat) (r : List UInt8) : ByteArray.toList.loop b i r = r.reverse ++ b.data.toList.drop i := by
  fun_induction ByteArray.toList.loop b i r with
  | case1 i r h ih =>
    rw [ih, List.reverse_cons, List.append_assoc]
    have hl : i < b.data.toList.length := by simpa using h
    rw [List.drop_eq_getElem_cons hl]
    congr 1
    show b.get! i :: _ = _
    congr 1
    have h2 : i < b.data.size := h
    show b.data[i]! = _
    rw [getElem!_pos b.data i h2]
    simp
  | case2 i r h =>
    have hl : b.data.toList.length ≤ i := by
      have : b.data.toList.length = b.size := by simp
      omega
    rw [List.drop_of_length_le hl, List.append_nil]
theorem toList_data (b : ByteArray) : b.toList = b.data.toList := loop_data b 0 []
theorem ext_data (s : ByteArray) (a b : Nat) : (s.extract a b).data.toList = (s.data.toList.drop a).take (b - a) := by
  simp [ByteArray.extract, ByteArray.copySlice, List.drop_take]
theorem prefix_eq (s t : List UInt8) (h : t.length ≤ s.length) : (s.take t.length == t) = t.isPrefixOf s := by
  rw [Bool.eq_iff_iff, beq_iff_eq, List.isPrefixOf_iff_prefix]
  constructor
  · intro e; rw [← e]; exact List.take_prefix _ _
  · intro e; exact (List.prefix_iff_eq_take.1 e).symm
theorem hasPrefix_any (s t : ByteArray) (w : World) (hs : s.size ≤ 140737488355328) (ht : t.size ≤ 140737488355328) :
    Calls Try.prog 30 #[.string s, .string t] w fun e w' => e = .returned (.bool (t.data.toList.isPrefixOf s.data.toList)) ∧ w' = w := by
  have l1 : s.data.toList.length = s.size := by simp
  have l2 : t.data.toList.length = t.size := by simp
  obtain ⟨b, hb⟩ : ∃ b, b = t.data.toList.isPrefixOf s.data.toList := ⟨_, rfl⟩
  rw [← hb]
  have HB := Lib.hid hb
  clear hb
  go_enter Try.func30, Try.ntmps30
  by_cases h : t.size ≤ s.size
  · have hd : decide ((t.size : Int) ≤ (s.size : Int)) = true := decide_eq_true (by omega)
    have he : ((s.extract 0 t.size).toList == t.toList) = b := by
      rw [toList_data, toList_data, ext_data, List.drop_zero, Nat.sub_zero, ← l2, prefix_eq _ _ (by omega), HB.out]
    clear l1 l2
    go_wp2
    go_ret
    exact ⟨rfl, rfl⟩
  · have hd : decide ((t.size : Int) ≤ (s.size : Int)) = false := decide_eq_false (by omega)
    have hbf : b = false := by
      rw [HB.out, Bool.eq_false_iff]
      intro e
      have := (List.isPrefixOf_iff_prefix.1 e).length_le
      omega
    clear l1 l2
    go_wp2
    go_ret
    exact ⟨by rw [hbf]; rfl, rfl⟩
theorem strPrefix_any (s t : ByteArray) (w : World) (hs : s.size ≤ 140737488355328) (ht : t.size ≤ 140737488355328) :
    Calls Try.prog 23 #[.string s, .string t] w fun e w' => e = .returned (.bool (t.data.toList.isPrefixOf s.data.toList)) ∧ w' = w := by
  have g := hasPrefix_any s t w hs ht
  obtain ⟨b, hb⟩ : ∃ b, b = t.data.toList.isPrefixOf s.data.toList := ⟨_, rfl⟩
  rw [← hb] at g ⊢
  clear hb
  go_enter Try.func23, Try.ntmps23
  go_wp2_with (go_at_call 30; ((with_reducible refine g.mono ?_); rintro e w1 ⟨rfl, rfl⟩))
  go_ret
  exact ⟨rfl, rfl⟩
theorem strPrefix_q (X t : ByteArray) (b : Bool) (hb : b = t.data.toList.isPrefixOf X.data.toList) (hs : X.size ≤ 140737488355328) (ht : t.size ≤ 140737488355328) (w : World) (n : Nat) :
    Calls Try.prog 23 #[.string X, .string t] (w.drewN n) fun e w'' => e = .returned (.bool b) ∧ ∃ m, w'' = w.drewN m :=
  (strPrefix_any X t _ hs ht).mono fun _ _ ⟨he, hm⟩ => ⟨by rw [hb]; exact he, n, hm⟩
/-- Does a text stand next? -/
theorem at_any (p : Nat) (s t : ByteArray) (i : Nat) (w : World) (hi : i ≤ s.size) (hs : s.size ≤ 140737488355328) (ht : t.size ≤ 140737488355328)
    (c1 : w.cell? ⟨p, 2, none⟩ = some (.string s)) (c2 : w.cell? ⟨p, 3, none⟩ = some (.int .i64 i)) :
    Calls Try.prog 16 #[.pointer (some ⟨p, 0, none⟩), .string t] w fun e w' => e = .returned (.bool (t.data.toList.isPrefixOf (s.data.toList.drop i))) ∧ ∃ n, w' = w.drewN n := by
  obtain ⟨X, hX⟩ : ∃ X, X = s.extract i s.size := ⟨_, rfl⟩
  have hXs : X.size ≤ 140737488355328 := by rw [hX, ByteArray.size_extract]; omega
  have hXd : X.data.toList = s.data.toList.drop i := by
    rw [hX, ext_data]
    exact List.take_of_length_le (by rw [List.length_drop]; have : s.data.toList.length = s.size := by simp
                                     omega)
  have hsl : ∀ wx, (Instr.slice 9 (.string s) (some (.int .i64 i)) none none).run Try.prog wx = .ok (.string X) wx := fun wx => by
    rw [hX]
    have := run_slice_string_l (P := Try.prog) wx 9 s Try.underlying9 .i64 (i : Int) (by omega) (by omega)
    simpa using this
  rw [← hXd]
  obtain ⟨b, hb⟩ : ∃ b, b = t.data.toList.isPrefixOf X.data.toList := ⟨_, rfl⟩
  have g := strPrefix_q X t b hb hXs ht w
  rw [← hb]
  clear hb hX hXd
  go_enter Try.func16, Try.ntmps16
  go_wp2_with fail
  go_quiet ((go_at_call 23; with_reducible exact g _))
  go_wp2_with fail
  go_ret
  exact ⟨rfl, _, rfl⟩
end Go.Proofs.Ytnhlinkkfoojmaa
