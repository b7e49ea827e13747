/- The walks of the laws NameHashes and NameAsks. -/
import Derived.Test.YtjkafmjikfbafaaNameW
import Derived.Test.YtjkafmjikfbafaaShaIsW
namespace Go.Proofs.Ytjkafmjikfbafaa
open Go.RowKit
set_option maxRecDepth 100000
set_option linter.unusedSimpArgs false
set_option linter.unusedVariables false
theorem hash_h (s h : ByteArray) (e : h = (⟨(hashF (shaSum s.data.toList) 32).toArray⟩ : ByteArray)) (hs : s.size ≤ 1099511627776) (w : World) :
    Calls Try.prog 17 #[.string s] w fun e w' => e = .returned (.string h) ∧ Below w.heap.size w w' := by
  subst e; exact hash_any s w hs
theorem refHash_h (s h : ByteArray) (e : h = (⟨(hashF (shaSum s.data.toList) 32).toArray⟩ : ByteArray)) (hs : s.size ≤ 1099511627776) (w : World) :
    Calls Try.prog 18 #[.string s] w fun e w' => e = .returned (.string h) ∧ Below w.heap.size w w' := by
  subst e; exact refHash_any s w hs
set_option maxHeartbeats 2000000 in
theorem nameHashes_walk (s : ByteArray) (w : World) (hs : s.size ≤ 9223372036854775807) : Calls Try.prog 8 #[.string s] w (TrueOut w) := by
  go_enter Try.func8, Try.ntmps8
  obtain ⟨m, hm, hm1, hm2⟩ : ∃ m : Nat, min (s.size : Int) 300 = (m : Int) ∧ m ≤ s.size ∧ m ≤ 300 := ⟨min s.size 300, by omega, by omega, by omega⟩
  have hs' : (s.extract 0 m).size ≤ 1099511627776 := by simp; omega
  obtain ⟨h, hh⟩ : ∃ h, h = (⟨(hashF (shaSum (s.extract 0 m).data.toList) 32).toArray⟩ : ByteArray) := ⟨_, rfl⟩
  have g1 := hash_h (s.extract 0 m) h hh hs'
  have g2 := refHash_h (s.extract 0 m) h hh hs'
  clear hh
  go_wp2_with (first
    | (go_at_call 17; ((with_reducible refine (g1 _).mono ?_); rintro e w1 ⟨rfl, hb1⟩))
    | (go_at_call 18; ((with_reducible refine (g2 _).mono ?_); rintro e w2 ⟨rfl, hb2⟩))
    | (go_at_call 19; ((with_reducible refine (nworks_any _).mono ?_); rintro e w3 ⟨rfl, hb3⟩)))
  go_ret
  exact ⟨rfl, below_next (below_next hb1 hb2) hb3⟩
set_option maxHeartbeats 8000000 in
theorem nameAsks_walk (a b : ByteArray) (w : World) (ha : a.size ≤ 9223372036854775807) (hb : b.size ≤ 9223372036854775807) : Calls Try.prog 9 #[.string a, .string b] w (TrueOut w) := by
  go_enter Try.func9, Try.ntmps9
  obtain ⟨m, hm, hm1, hm2⟩ : ∃ m : Nat, min (a.size : Int) 100 = (m : Int) ∧ m ≤ a.size ∧ m ≤ 100 := ⟨min a.size 100, by omega, by omega, by omega⟩
  obtain ⟨n, hn, hn1, hn2⟩ : ∃ n : Nat, min (b.size : Int) 100 = (n : Int) ∧ n ≤ b.size ∧ n ≤ 100 := ⟨min b.size 100, by omega, by omega, by omega⟩
  have ha' : (a.extract 0 m).size ≤ 1000 := by simp; omega
  have hb' : (b.extract 0 n).size ≤ 1000 := by simp; omega
  have g1 := fun wx => path_any (a.extract 0 m) (b.extract 0 n) wx ha' hb'
  have g2 := fun wx => refPath_any (a.extract 0 m) (b.extract 0 n) wx ha' hb'
  have g3 := fun wx => split_any (a.extract 0 m) wx ha'
  have g4 := fun wx => refSplit_any (a.extract 0 m) wx ha'
  have g5 := fun wx => check_any (a.extract 0 m) wx (by omega)
  have g6 := fun wx => refCheck_any (a.extract 0 m) wx (by omega)
  have g7 := fun wx => check_any (b.extract 0 n) wx (by omega)
  have g8 := fun wx => refCheck_any (b.extract 0 n) wx (by omega)
  generalize pathS (a.extract 0 m) (b.extract 0 n) = p1 at g1 g2
  generalize pathN (a.extract 0 m) (b.extract 0 n) = p2 at g1 g2
  generalize splitA (a.extract 0 m) = p3 at g3 g4
  generalize splitC (a.extract 0 m) = p4 at g3 g4
  generalize splitN (a.extract 0 m) = p5 at g3 g4
  generalize checkN (a.extract 0 m).data.toList = p6 at g5 g6
  generalize checkN (b.extract 0 n).data.toList = p7 at g7 g8
  go_wp2_with (first
    | (go_at_call 20; ((with_reducible refine (g1 _).mono ?_); rintro e w1 ⟨rfl, hb1⟩))
    | (go_at_call 21; ((with_reducible refine (g2 _).mono ?_); rintro e w2 ⟨rfl, hb2⟩))
    | (go_at_call 22; ((with_reducible refine (g3 _).mono ?_); rintro e w3 ⟨rfl, hb3⟩))
    | (go_at_call 23; ((with_reducible refine (g4 _).mono ?_); rintro e w4 ⟨rfl, hb4⟩))
    | (go_at_call 24; ((with_reducible refine (g5 _).mono ?_); rintro e w5 ⟨rfl, hb5⟩))
    | (go_at_call 25; ((with_reducible refine (g6 _).mono ?_); rintro e w6 ⟨rfl, hb6⟩))
    | (go_at_call 24; ((with_reducible refine (g7 _).mono ?_); rintro e w7 ⟨rfl, hb7⟩))
    | (go_at_call 25; ((with_reducible refine (g8 _).mono ?_); rintro e w8 ⟨rfl, hb8⟩))
    | (go_at_call 19; ((with_reducible refine (nworks_any _).mono ?_); rintro e w9 ⟨rfl, hb9⟩)))
  go_ret
  exact ⟨rfl, below_next (below_next (below_next (below_next (below_next (below_next (below_next (below_next hb1 hb2) hb3) hb4) hb5) hb6) hb7) hb8) hb9⟩
end Go.Proofs.Ytjkafmjikfbafaa
