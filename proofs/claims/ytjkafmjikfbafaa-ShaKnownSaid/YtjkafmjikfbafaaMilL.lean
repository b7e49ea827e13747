/- A block's rounds on numbers, for the kernel's own arithmetic; what they come to. No program in sight. -/
import Derived.Test.YtjkafmjikfbafaaSumL
import Derived.KernelRfl
namespace Go.Proofs.Ytjkafmjikfbafaa
set_option linter.unusedVariables false
set_option linter.unusedSimpArgs false

/-- The turns of a doubled word. -/
def s0N (x : Nat) : Nat := Nat.mod (Nat.xor (Nat.xor (Nat.shiftRight x 2) (Nat.shiftRight x 13)) (Nat.shiftRight x 22)) 4294967296
def s1N (x : Nat) : Nat := Nat.mod (Nat.xor (Nat.xor (Nat.shiftRight x 6) (Nat.shiftRight x 11)) (Nat.shiftRight x 25)) 4294967296
def t1N (e f g h kw : Nat) : Nat := Nat.add (Nat.add h (s1N (Nat.mul e 4294967297))) (Nat.add (Nat.xor g (Nat.land e (Nat.xor f g))) kw)
def t2N (a b c : Nat) : Nat := Nat.add (s0N (Nat.mul a 4294967297)) (Nat.xor (Nat.land a b) (Nat.land c (Nat.xor a b)))
/-- The rounds, one a list's word. -/
noncomputable def goN (l : List Nat) : Nat → Nat → Nat → Nat → Nat → Nat → Nat → Nat → (Nat → Nat → Nat → Nat → Nat → Nat → Nat → Nat → Nat) → Nat :=
  List.rec (fun a b c d e f g h k => k a b c d e f g h)
    (fun kw _ ih a b c d e f g h k =>
      (fun (t1 : Nat) => ih (Nat.mod (Nat.add t1 (t2N a b c)) 4294967296) a b c (Nat.mod (Nat.add d t1) 4294967296) e f g k) (t1N e f g h kw)) l

theorem rotr_nat (x : UInt32) (n : Nat) (h0 : 0 < n) (hn : n < 32) : (rotr x n).toNat = (x.toNat * 4294967297) >>> n % 4294967296 := by
  obtain ⟨E, hE⟩ : ∃ E, E = x.toNat := ⟨_, rfl⟩
  have hlt : E < 4294967296 := by rw [hE]; exact x.toNat_lt
  unfold rotr
  rw [UInt32.toNat_or, UInt32.toNat_shiftRight, UInt32.toNat_shiftLeft]
  have e1 : (UInt32.ofNat n).toNat % 32 = n := by simp; omega
  have e2 : (UInt32.ofNat (32 - n)).toNat % 32 = 32 - n := by simp; omega
  rw [e1, e2, ← hE]
  show E >>> n ||| (E <<< (32 - n)) % 4294967296 = _
  obtain ⟨m, hm⟩ : ∃ m, m = 32 - n := ⟨_, rfl⟩
  rw [← hm]
  have hp : (4294967296 : Nat) = 2 ^ m * 2 ^ n := by rw [← Nat.pow_add, show m + n = 32 by omega]
  have hb : E >>> n < 2 ^ m := by
    rw [Nat.shiftRight_eq_div_pow, Nat.div_lt_iff_lt_mul (Nat.pow_pos (by omega)), ← hp]; exact hlt
  have hl : (E <<< m) % 4294967296 = (E % 2 ^ n) <<< m := by
    rw [Nat.shiftLeft_eq, Nat.shiftLeft_eq, hp, Nat.mul_comm E, Nat.mul_mod_mul_left, Nat.mul_comm]
  have hor : E >>> n ||| (E % 2 ^ n) <<< m = (E % 2 ^ n) <<< m + E >>> n := by
    rw [Nat.or_comm, ← Nat.shiftLeft_add_eq_or_of_lt hb]
  rw [hl, hor]
  have hr : (E * 4294967297) >>> n = E * 2 ^ m + E >>> n := by
    rw [Nat.shiftRight_eq_div_pow, Nat.shiftRight_eq_div_pow]
    rw [show E * 4294967297 = E * 4294967296 + E by omega, hp, ← Nat.mul_assoc, Nat.mul_comm (E * 2 ^ m), Nat.mul_add_div (Nat.pow_pos (by omega))]
  rw [hr, Nat.add_mod, ← Nat.shiftLeft_eq, hl]
  have hs : (E % 2 ^ n) <<< m + E >>> n < 4294967296 := by
    have h1 : E % 2 ^ n + 1 ≤ 2 ^ n := Nat.mod_lt _ (Nat.pow_pos (by omega))
    have h2 := Nat.mul_le_mul_right (2 ^ m) h1
    rw [Nat.shiftLeft_eq, hp, Nat.mul_comm (2 ^ m)]
    rw [Nat.add_mul, Nat.one_mul] at h2
    omega
  rw [Nat.mod_eq_of_lt (show E >>> n < 4294967296 by omega), Nat.mod_eq_of_lt hs]

theorem s1_eq (x : UInt32) : s1N (Nat.mul x.toNat 4294967297) = (turns x [6, 11, 25]).toNat := by
  have h : turns x [6, 11, 25] = rotr x 6 ^^^ rotr x 11 ^^^ rotr x 25 := by simp [turns]
  rw [h, UInt32.toNat_xor, UInt32.toNat_xor, rotr_nat x 6 (by omega) (by omega), rotr_nat x 11 (by omega) (by omega), rotr_nat x 25 (by omega) (by omega)]
  show (((x.toNat * 4294967297) >>> 6 ^^^ (x.toNat * 4294967297) >>> 11) ^^^ (x.toNat * 4294967297) >>> 25) % 2 ^ 32 = _
  rw [Nat.xor_mod_two_pow, Nat.xor_mod_two_pow]
theorem s0_eq (x : UInt32) : s0N (Nat.mul x.toNat 4294967297) = (turns x [2, 13, 22]).toNat := by
  have h : turns x [2, 13, 22] = rotr x 2 ^^^ rotr x 13 ^^^ rotr x 22 := by simp [turns]
  rw [h, UInt32.toNat_xor, UInt32.toNat_xor, rotr_nat x 2 (by omega) (by omega), rotr_nat x 13 (by omega) (by omega), rotr_nat x 22 (by omega) (by omega)]
  show (((x.toNat * 4294967297) >>> 2 ^^^ (x.toNat * 4294967297) >>> 13) ^^^ (x.toNat * 4294967297) >>> 22) % 2 ^ 32 = _
  rw [Nat.xor_mod_two_pow, Nat.xor_mod_two_pow]
theorem ch_eq (e f g : UInt32) : Nat.xor g.toNat (Nat.land e.toNat (Nat.xor f.toNat g.toNat)) = (e &&& f ^^^ ~~~e &&& g).toNat := by
  have h : (e &&& f ^^^ ~~~e &&& g) = g ^^^ (e &&& (f ^^^ g)) := by
    apply UInt32.eq_of_toBitVec_eq
    apply BitVec.eq_of_getLsbD_eq
    intro i hi
    simp only [UInt32.toBitVec_xor, UInt32.toBitVec_and, UInt32.toBitVec_not, BitVec.getLsbD_xor, BitVec.getLsbD_and, BitVec.getLsbD_not, hi, decide_true, Bool.true_and]
    cases e.toBitVec.getLsbD i <;> cases f.toBitVec.getLsbD i <;> cases g.toBitVec.getLsbD i <;> rfl
  rw [h, UInt32.toNat_xor, UInt32.toNat_and, UInt32.toNat_xor]
  rfl
theorem maj_eq (a b c : UInt32) : Nat.xor (Nat.land a.toNat b.toNat) (Nat.land c.toNat (Nat.xor a.toNat b.toNat)) = (a &&& b ^^^ a &&& c ^^^ b &&& c).toNat := by
  have h : (a &&& b ^^^ a &&& c ^^^ b &&& c) = (a &&& b) ^^^ (c &&& (a ^^^ b)) := by
    apply UInt32.eq_of_toBitVec_eq
    apply BitVec.eq_of_getLsbD_eq
    intro i hi
    simp only [UInt32.toBitVec_xor, UInt32.toBitVec_and, BitVec.getLsbD_xor, BitVec.getLsbD_and]
    cases a.toBitVec.getLsbD i <;> cases b.toBitVec.getLsbD i <;> cases c.toBitVec.getLsbD i <;> rfl
  rw [h, UInt32.toNat_xor, UInt32.toNat_and, UInt32.toNat_and, UInt32.toNat_xor]
  rfl
theorem t1_eq (e f g h k w : UInt32) : t1N e.toNat f.toNat g.toNat h.toNat (k + w).toNat % 4294967296 = (tx e f g h k w).toNat := by
  unfold t1N tx
  rw [s1_eq, ch_eq]
  generalize (e &&& f ^^^ ~~~e &&& g) = B
  generalize turns e [6, 11, 25] = T
  simp only [UInt32.toNat_add]
  show (h.toNat + T.toNat + (B.toNat + (k.toNat + w.toNat) % 2 ^ 32)) % 4294967296 = _
  omega
theorem t2_eq (a b c : UInt32) : t2N a.toNat b.toNat c.toNat % 4294967296 = (ty a b c).toNat := by
  unfold t2N ty
  rw [s0_eq, maj_eq]
  generalize (a &&& b ^^^ a &&& c ^^^ b &&& c) = B
  generalize turns a [2, 13, 22] = T
  simp only [UInt32.toNat_add]
  rfl

theorem goN_eq : ∀ (l : List (UInt32 × UInt32)) (s : St) (k : Nat → Nat → Nat → Nat → Nat → Nat → Nat → Nat → Nat),
    goN (l.map fun p => (p.1 + p.2).toNat) s.a.toNat s.b.toNat s.c.toNat s.d.toNat s.e.toNat s.f.toNat s.g.toNat s.h.toNat k =
      k (l.foldl (fun s p => s.step p.1 p.2) s).a.toNat (l.foldl (fun s p => s.step p.1 p.2) s).b.toNat (l.foldl (fun s p => s.step p.1 p.2) s).c.toNat (l.foldl (fun s p => s.step p.1 p.2) s).d.toNat
        (l.foldl (fun s p => s.step p.1 p.2) s).e.toNat (l.foldl (fun s p => s.step p.1 p.2) s).f.toNat (l.foldl (fun s p => s.step p.1 p.2) s).g.toNat (l.foldl (fun s p => s.step p.1 p.2) s).h.toNat
  | [], s, k => rfl
  | (x, y) :: l, s, k => by
    have ih := goN_eq l (s.step x y) k
    have h1 := t1_eq s.e s.f s.g s.h x y
    have h2 := t2_eq s.a s.b s.c
    have ha : Nat.mod (Nat.add (t1N s.e.toNat s.f.toNat s.g.toNat s.h.toNat (x + y).toNat) (t2N s.a.toNat s.b.toNat s.c.toNat)) 4294967296 = (s.step x y).a.toNat := by
      show (t1N _ _ _ _ _ + t2N _ _ _) % 4294967296 = (tx s.e s.f s.g s.h x y + ty s.a s.b s.c).toNat
      rw [UInt32.toNat_add (tx _ _ _ _ _ _) (ty _ _ _), ← h1, ← h2]
      omega
    have he : Nat.mod (Nat.add s.d.toNat (t1N s.e.toNat s.f.toNat s.g.toNat s.h.toNat (x + y).toNat)) 4294967296 = (s.step x y).e.toNat := by
      show (_ + t1N _ _ _ _ _) % 4294967296 = (s.d + tx s.e s.f s.g s.h x y).toNat
      rw [UInt32.toNat_add s.d (tx _ _ _ _ _ _), ← h1]
      omega
    show goN (l.map fun p => (p.1 + p.2).toNat) (Nat.mod (Nat.add (t1N s.e.toNat s.f.toNat s.g.toNat s.h.toNat (x + y).toNat) (t2N s.a.toNat s.b.toNat s.c.toNat)) 4294967296) s.a.toNat s.b.toNat s.c.toNat
      (Nat.mod (Nat.add s.d.toNat (t1N s.e.toNat s.f.toNat s.g.toNat s.h.toNat (x + y).toNat)) 4294967296) s.e.toNat s.f.toNat s.g.toNat k = _
    rw [ha, he]
    exact ih

/-- Eight words in one number. -/
def St.pack (s : St) : Nat := ((((((s.a.toNat * 4294967296 + s.b.toNat) * 4294967296 + s.c.toNat) * 4294967296 + s.d.toNat) * 4294967296 + s.e.toNat) * 4294967296 + s.f.toNat) * 4294967296 + s.g.toNat) * 4294967296 + s.h.toNat
def wd (S n : Nat) : Nat := Nat.mod (Nat.shiftRight S n) 4294967296
def unpack (S : Nat) : St := ⟨UInt32.ofNat (wd S 224), UInt32.ofNat (wd S 192), UInt32.ofNat (wd S 160), UInt32.ofNat (wd S 128), UInt32.ofNat (wd S 96), UInt32.ofNat (wd S 64), UInt32.ofNat (wd S 32), UInt32.ofNat (wd S 0)⟩

theorem wd_zero (x : Nat) (y : UInt32) : wd (x * 4294967296 + y.toNat) 0 = y.toNat := by
  have := y.toNat_lt
  show (x * 4294967296 + y.toNat) >>> 0 % 4294967296 = _
  rw [Nat.shiftRight_zero]; omega
theorem wd_next (x : Nat) (y : UInt32) (n : Nat) : wd (x * 4294967296 + y.toNat) (32 + n) = wd x n := by
  have := y.toNat_lt
  show (x * 4294967296 + y.toNat) >>> (32 + n) % 4294967296 = x >>> n % 4294967296
  rw [Nat.shiftRight_add]
  have : (x * 4294967296 + y.toNat) >>> 32 = x := by rw [Nat.shiftRight_eq_div_pow]; omega
  rw [this]
theorem wd_own (y : UInt32) : wd y.toNat 0 = y.toNat := by
  have := wd_zero 0 y
  rwa [Nat.zero_mul, Nat.zero_add] at this
theorem wd_pack (s : St) : wd s.pack 224 = s.a.toNat ∧ wd s.pack 192 = s.b.toNat ∧ wd s.pack 160 = s.c.toNat ∧ wd s.pack 128 = s.d.toNat ∧ wd s.pack 96 = s.e.toNat ∧ wd s.pack 64 = s.f.toNat ∧ wd s.pack 32 = s.g.toNat ∧ wd s.pack 0 = s.h.toNat := by
  unfold St.pack
  refine ⟨?_, ?_, ?_, ?_, ?_, ?_, ?_, ?_⟩
  · rw [wd_next _ _ 192, wd_next _ _ 160, wd_next _ _ 128, wd_next _ _ 96, wd_next _ _ 64, wd_next _ _ 32, wd_next _ _ 0, wd_own]
  · rw [wd_next _ _ 160, wd_next _ _ 128, wd_next _ _ 96, wd_next _ _ 64, wd_next _ _ 32, wd_next _ _ 0, wd_zero]
  · rw [wd_next _ _ 128, wd_next _ _ 96, wd_next _ _ 64, wd_next _ _ 32, wd_next _ _ 0, wd_zero]
  · rw [wd_next _ _ 96, wd_next _ _ 64, wd_next _ _ 32, wd_next _ _ 0, wd_zero]
  · rw [wd_next _ _ 64, wd_next _ _ 32, wd_next _ _ 0, wd_zero]
  · rw [wd_next _ _ 32, wd_next _ _ 0, wd_zero]
  · rw [wd_next _ _ 0, wd_zero]
  · rw [wd_zero]
theorem unpack_pack (s : St) : unpack s.pack = s := by
  obtain ⟨h1, h2, h3, h4, h5, h6, h7, h8⟩ := wd_pack s
  unfold unpack
  rw [h1, h2, h3, h4, h5, h6, h7, h8]
  simp

/-- The block of sixty-four 'a'. -/
def blkA : List UInt8 := List.replicate 64 97
def kwA : List Nat := [2750124281, 3533219314, 388128048, 1259814150, 2595759036, 3142742866, 4087407621, 209567798, 963185657, 1944370274, 2240997151, 3060653860, 3558850261, 3795850079, 4248659976, 587027157, 3667503101, 3854337474, 1109373709, 1449834259, 1332383432, 1811277571, 1402599420, 41923541, 356419487, 2728937732, 4167673427, 1780128268, 3506461443, 1927923708, 3100717738, 957412701, 3211936012, 2525724465, 897656708, 2750766458, 3733122911, 1490448492, 1007131835, 215170638, 199900175, 3051847127, 2546784594, 1198467073, 1121424104, 1993824782, 4206943767, 1385611443, 2838015846, 320495253, 2870002303, 616322403, 3868675357, 810932918, 4192983651, 4114851946, 2567787456, 3518289627, 3043469264, 3431775655, 2875437985, 3700493388, 2838780141, 3572068108]
theorem kwA_eq : kwA = ((List.range 64).map fun i => (kAll.getD i 0, (sched blkA 64).getD i 0)).map fun p => (p.1 + p.2).toNat := by kernel_rfl
theorem rounds_fold (s : St) (ks ws : List UInt32) : ∀ n, rounds s ks ws n = ((List.range n).map fun i => (ks.getD i 0, ws.getD i 0)).foldl (fun s p => s.step p.1 p.2) s
  | 0 => rfl
  | n + 1 => by rw [List.range_succ, List.map_append, List.foldl_append, ← rounds_fold s ks ws n]; rfl

noncomputable def blockN (S : Nat) : Nat :=
  goN kwA (wd S 224) (wd S 192) (wd S 160) (wd S 128) (wd S 96) (wd S 64) (wd S 32) (wd S 0)
    (fun a b c d e f g h =>
      Nat.add (Nat.mul (Nat.add (Nat.mul (Nat.add (Nat.mul (Nat.add (Nat.mul (Nat.add (Nat.mul (Nat.add (Nat.mul (Nat.add (Nat.mul
        (Nat.mod (Nat.add (wd S 224) a) 4294967296) 4294967296) (Nat.mod (Nat.add (wd S 192) b) 4294967296)) 4294967296) (Nat.mod (Nat.add (wd S 160) c) 4294967296)) 4294967296) (Nat.mod (Nat.add (wd S 128) d) 4294967296)) 4294967296)
        (Nat.mod (Nat.add (wd S 96) e) 4294967296)) 4294967296) (Nat.mod (Nat.add (wd S 64) f) 4294967296)) 4294967296) (Nat.mod (Nat.add (wd S 32) g) 4294967296)) 4294967296) (Nat.mod (Nat.add (wd S 0) h) 4294967296))
theorem blockN_eq (s : St) : blockN s.pack = (blockF s blkA kAll).pack := by
  obtain ⟨h1, h2, h3, h4, h5, h6, h7, h8⟩ := wd_pack s
  unfold blockN
  rw [h1, h2, h3, h4, h5, h6, h7, h8, kwA_eq, goN_eq, ← rounds_fold]
  obtain ⟨t, ht⟩ : ∃ t, t = rounds s kAll (sched blkA 64) 64 := ⟨_, rfl⟩
  rw [← ht]
  have e : blockF s blkA kAll = s.plus t := by rw [ht]; rfl
  rw [e]
  unfold St.pack St.plus
  simp only [UInt32.toNat_add]
  rfl
noncomputable def force (x : Nat) (k : Nat → Nat) : Nat := Nat.rec (k 0) (fun m _ => k (Nat.succ m)) x
theorem force_eq (x : Nat) (k : Nat → Nat) : force x k = k x := by cases x <;> rfl
noncomputable def iterN (n : Nat) : Nat → Nat := Nat.rec (fun S => S) (fun _ ih S => force (blockN S) ih) n
/-- The words behind n such blocks. -/
def afterA (s : St) : Nat → St
  | 0 => s
  | n + 1 => blockF (afterA s n) blkA kAll
theorem afterA_add (s : St) (m : Nat) : ∀ n, afterA (afterA s m) n = afterA s (m + n)
  | 0 => rfl
  | n + 1 => by
    show blockF (afterA (afterA s m) n) blkA kAll = blockF (afterA s (m + n)) blkA kAll
    rw [afterA_add s m n]
theorem iterN_eq : ∀ (n : Nat) (s : St), iterN n s.pack = (afterA s n).pack
  | 0, s => rfl
  | n + 1, s => by
    show force (blockN s.pack) (iterN n) = _
    rw [force_eq, blockN_eq, iterN_eq n, show blockF s blkA kAll = afterA s 1 from rfl, afterA_add, Nat.add_comm 1 n]
theorem iter_step (n m S T : Nat) (h : (afterA h0 n).pack = S) (hT : iterN m S = T) : (afterA h0 (n + m)).pack = T := by
  rw [← afterA_add, ← iterN_eq, h, hT]
end Go.Proofs.Ytjkafmjikfbafaa
