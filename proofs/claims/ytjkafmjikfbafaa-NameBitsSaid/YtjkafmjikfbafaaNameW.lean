/- The walks of the law's own helpers: noughts, works, value. -/
import Derived.Test.YtjkafmjikfbafaaNameS
import Derived.Test.YtjkafmjikfbafaaNameRH
namespace Go.Proofs.Ytjkafmjikfbafaa
open Go.RowKit
set_option maxRecDepth 100000
set_option linter.unusedSimpArgs false
set_option linter.unusedVariables false
def nought : ByteArray := ⟨#[48, 48, 48, 48, 48, 48, 48, 48, 48, 48, 48, 48, 48, 48, 48, 48, 48, 48, 48, 48, 48, 48, 48, 48, 48, 48, 48, 48, 48, 48, 48, 48]⟩
theorem noughts_any (w : World) : Calls Try.prog 27 #[] w fun e w' => e = .returned (.string nought) ∧ w = w' := by
  go_enter Try.func27, Try.ntmps27
  go_wp2
  go_ret
  exact ⟨rfl, rfl⟩
theorem path_at (a b r : ByteArray) (n : Int) (h1 : pathS a b = r) (h2 : (pathN a b : Int) = n) (ha : a.size ≤ 1000) (hb : b.size ≤ 1000) (w : World) :
    Calls Try.prog 20 #[.string a, .string b] w fun e w' => e = .returned (.tuple #[.string r, .int .i64 n]) ∧ Below w.heap.size w w' := by
  subst h1 h2; exact path_any a b w ha hb
theorem split_at (s x y : ByteArray) (n : Int) (h1 : splitA s = x) (h2 : splitC s = y) (h3 : (splitN s : Int) = n) (hs : s.size ≤ 1000) (w : World) :
    Calls Try.prog 22 #[.string s] w fun e w' => e = .returned (.tuple #[.string x, .string y, .int .i64 n]) ∧ Below w.heap.size w w' := by
  subst h1 h2 h3; exact split_any s w hs
theorem hash_at (s h : ByteArray) (e : (⟨(hashF (shaSum s.data.toList) 32).toArray⟩ : ByteArray) = h) (hs : s.size ≤ 1000) (w : World) :
    Calls Try.prog 17 #[.string s] w fun e w' => e = .returned (.string h) ∧ Below w.heap.size w w' := by
  subst e; exact hash_any s w (by omega)
theorem hash_size (s : List UInt8) : (⟨(hashF s 32).toArray⟩ : ByteArray).size = 32 := by
  show (hashF s 32).toArray.size = 32
  rw [List.size_toArray, hashF_length]

set_option maxHeartbeats 4000000 in
theorem nworks_any (w : World) : Calls Try.prog 19 #[] w fun e w' => e = .returned (.bool true) ∧ Below w.heap.size w w' := by
  obtain ⟨N, hN⟩ : ∃ N, N = nought := ⟨_, rfl⟩
  have hNs : N.size = 32 := by rw [hN]; rfl
  obtain ⟨P, hP⟩ : ∃ P, P = N ++ (⟨#[45, 97, 46, 98]⟩ : ByteArray) := ⟨_, rfl⟩
  obtain ⟨S, hS⟩ : ∃ S, S = N ++ (⟨#[45, 97, 45, 98]⟩ : ByteArray) := ⟨_, rfl⟩
  have n1 : ∀ wx, Calls Try.prog 27 #[] wx fun e w' => e = .returned (.string N) ∧ wx = w' := fun wx => by rw [hN]; exact noughts_any wx
  have g1 := path_at N ⟨#[97, 46, 98]⟩ P 0 (by rw [hP, hN]; decide +kernel) (by rw [hN]; decide +kernel) (by rw [hN]; decide) (by decide)
  have g2 := split_at S N ⟨#[97, 45, 98]⟩ 0 (by rw [hS, hN]; decide +kernel) (by rw [hS, hN]; decide +kernel) (by rw [hS, hN]; decide +kernel) (by rw [hS, hN]; decide)
  obtain ⟨H, hH⟩ : ∃ H, H = (⟨(hashF (shaSum (⟨#[]⟩ : ByteArray).data.toList) 32).toArray⟩ : ByteArray) := ⟨_, rfl⟩
  have hHs : H.size = 32 := by rw [hH]; exact hash_size _
  have g3 := hash_at ⟨#[]⟩ H hH.symm (by decide)
  have hc1 : N ++ (⟨#[45, 97, 45, 98]⟩ : ByteArray) = S := hS.symm
  have hc2 : N ++ (⟨#[45, 97, 46, 98]⟩ : ByteArray) = P := hP.symm
  clear hN hP hS hH
  go_enter Try.func19, Try.ntmps19
  go_wp2_with (first
    | (go_at_call 27; ((with_reducible refine (n1 _).mono ?_); rintro e w1 ⟨rfl, rfl⟩))
    | (go_at_call 20; ((with_reducible refine (g1 _).mono ?_); rintro e w2 ⟨rfl, hb1⟩))
    | (go_at_call 22; ((with_reducible refine (g2 _).mono ?_); rintro e w3 ⟨rfl, hb2⟩))
    | (go_at_call 17; ((with_reducible refine (g3 _).mono ?_); rintro e w4 ⟨rfl, hb3⟩)))
  go_ret
  exact ⟨rfl, hb1.trans ((hb2.trans (hb3.mono hb2.size)).mono hb1.size)⟩
end Go.Proofs.Ytjkafmjikfbafaa
