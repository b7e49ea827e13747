/- The walk of the reference's block: its words are blockF's. -/
import Derived.Test.YtjkafmjikfbafaaQTail
import Derived.Test.YtjkafmjikfbafaaBlockL
namespace Go.Proofs.Ytjkafmjikfbafaa
open Go.RowKit
set_option maxRecDepth 100000
set_option linter.unusedSimpArgs false
set_option linter.unusedVariables false

def RRel (w : World) (l : List UInt8) (s : St) (ks : List UInt32) (n : Nat) (wr : World) : Prop :=
  ArrAt wr w.heap.size 42 (u32s s.list) ∧ ArrAt wr (w.heap.size + 1) 44 (u32s ks) ∧ ArrAt wr (w.heap.size + 1 + 1) 42 (u32s (List.replicate 8 0)) ∧ ArrAt wr (w.heap.size + 1 + 1 + 1) 44 (u32s (sched l n ++ List.replicate (64 - n) 0)) ∧ Below w.heap.size w wr
theorem arrAt_allocB (w : World) (o : Obj) (c : Array Value) (t : TypeId) (l : List Value) (h : c = l.toArray) : ArrAt ((w.alloc o).alloc (.cells c t)) (w.heap.size + 1) t l := by
  have := arrAt_alloc (w.alloc o) c t l h
  rw [World.size_alloc] at this
  exact this
theorem arrAt_allocC (w : World) (o o2 : Obj) (c : Array Value) (t : TypeId) (l : List Value) (h : c = l.toArray) : ArrAt (((w.alloc o).alloc o2).alloc (.cells c t)) (w.heap.size + 1 + 1) t l := by
  have := arrAt_allocB (w.alloc o) o2 c t l h
  rw [World.size_alloc] at this
  exact this
theorem arrAt_allocD (w : World) (o o2 o3 : Obj) (c : Array Value) (t : TypeId) (l : List Value) (h : c = l.toArray) : ArrAt ((((w.alloc o).alloc o2).alloc o3).alloc (.cells c t)) (w.heap.size + 1 + 1 + 1) t l := by
  have := arrAt_allocC (w.alloc o) o2 o3 c t l h
  rw [World.size_alloc] at this
  exact this

theorem RRel.next {w wr : World} {l : List UInt8} {s : St} {ks : List UInt32} {k : Nat} {x : UInt32} (h : RRel w l s ks k wr) (hk : k < 64)
    (hx : x = if k < 16 then wordAt l k else more ((sched l k).getD (k - 16) 0) ((sched l k).getD (k - 15) 0) ((sched l k).getD (k - 7) 0) ((sched l k).getD (k - 2) 0)) :
    RRel w l s ks (k + 1) (wr.setCell ⟨w.heap.size + 1 + 1 + 1, k, none⟩ (.int .u32 x.toNat)) := by
  obtain ⟨h1, h2, h3, h4, h5⟩ := h
  refine ⟨h1.setCell_other (by simp; omega) _, h2.setCell_other (by simp) _, h3.setCell_other (by simp) _, ?_, h5.setCell (by simp; omega) _⟩
  have := h4.set k (.int .u32 x.toNat)
  rw [set_next _ k 64 (sched_length l k) hk] at this
  rw [show sched l (k + 1) = sched l k ++ [x] by rw [hx]; rfl]
  exact this
theorem RRel.drew {w wr : World} {l : List UInt8} {s : St} {ks : List UInt32} {k : Nat} (h : RRel w l s ks k wr) : RRel w l s ks k wr.drew := ⟨h.1, h.2.1, h.2.2.1, h.2.2.2.1, h.2.2.2.2.drew⟩
theorem RRel.drewN {w wr : World} {l : List UInt8} {s : St} {ks : List UInt32} {k n : Nat} (h : RRel w l s ks k wr) : RRel w l s ks k (wr.drewN n) := ⟨h.1, h.2.1, h.2.2.1, h.2.2.2.1, below_drewN h.2.2.2.2 n⟩
theorem quiet_at {P : Program} {f : FuncId} {args : Array Value} {w : World} {q n : Nat} {v : Value}
    (h : Calls P f args (w.drewN (q + n)) fun e w' => e = .returned v ∧ ∃ m, w' = (w.drewN (q + n)).drewN m) : Calls P f args (w.drewN (q + n)) fun e w'' => e = .returned v ∧ ∃ m, w'' = w.drewN (q + m) :=
  h.mono fun _ _ ⟨he, m, hm⟩ => ⟨he, n + m, by rw [hm, World.drewN_drewN, Nat.add_assoc]⟩
theorem turned_q (x : UInt32) (z : Int) (n : Nat) (hz : z = n) (w : World) (q m : Nat) (h0 : 0 < n) (hn : n < 32) :
    Calls Try.prog 57 #[.int .u32 x.toNat, .int .i64 z] (w.drewN (q + m)) fun e w'' => e = .returned (.int .u32 (rotr x n).toNat) ∧ ∃ m, w'' = w.drewN (q + m) := by
  subst hz; exact quiet_at (turned_any x n _ h0 hn)
theorem turned_0 (x : UInt32) (z : Int) (n : Nat) (hz : z = n) (w : World) (m : Nat) (h0 : 0 < n) (hn : n < 32) :
    Calls Try.prog 57 #[.int .u32 x.toNat, .int .i64 z] (w.drewN m) fun e w'' => e = .returned (.int .u32 (rotr x n).toNat) ∧ ∃ m, w'' = w.drewN m := by
  subst hz; exact Calls.quiet_of (turned_any x n _ h0 hn)
theorem more_eq2 (x1 x2 x3 x4 : UInt32) : ((x1.toNat : Int) + bits BinOp.xor IntKind.u32 ((turns x2 [7, 18]).toNat : Int) ((x2.toNat : Int) / 8) + (x3.toNat : Int) + bits BinOp.xor IntKind.u32 ((turns x4 [17, 19]).toNat : Int) ((x4.toNat : Int) / 1024)) % 4294967296 = ((more x1 x2 x3 x4).toNat : Int) := by
  have h := more_eq x1 x2 x3 x4
  simp only [IntKind.wrap_u32] at h
  rw [← h]
  generalize bits BinOp.xor IntKind.u32 ((turns x2 [7, 18]).toNat : Int) ((x2.toNat : Int) / 8) = A
  generalize bits BinOp.xor IntKind.u32 ((turns x4 [17, 19]).toNat : Int) ((x4.toNat : Int) / 1024) = B
  omega

/-- What the rounds keep. -/
def KeepQ (w : World) (s : St) (ks ws : List UInt32) (V : Nat) (t : St) (wx : World) : Prop :=
  Below w.heap.size w wx ∧ ArrAt wx w.heap.size 42 (u32s s.list) ∧ ArrAt wx (w.heap.size + 1) 44 (u32s ks) ∧ ArrAt wx (w.heap.size + 1 + 1) 42 (u32s (List.replicate 8 0)) ∧ ArrAt wx (w.heap.size + 1 + 1 + 1) 44 (u32s ws) ∧ ArrAt wx V 42 (u32s t.list) ∧ w.heap.size + 1 + 1 + 1 < V
theorem KeepQ.drewN {w wx : World} {s t : St} {ks ws : List UInt32} {V : Nat} (h : KeepQ w s ks ws V t wx) (n : Nat) : KeepQ w s ks ws V t (wx.drewN n) := ⟨below_drewN h.1 n, h.2⟩
theorem KeepQ.set8 {w wx : World} {s t : St} {ks ws : List UInt32} {V : Nat} (h : KeepQ w s ks ws V t wx) (r : St) :
    KeepQ w s ks ws V r ((((((((wx.setCell ⟨V, 0, none⟩ (.int .u32 r.a.toNat)).setCell ⟨V, 1, none⟩ (.int .u32 r.b.toNat)).setCell ⟨V, 2, none⟩ (.int .u32 r.c.toNat)).setCell ⟨V, 3, none⟩ (.int .u32 r.d.toNat)).setCell ⟨V, 4, none⟩ (.int .u32 r.e.toNat)).setCell ⟨V, 5, none⟩ (.int .u32 r.f.toNat)).setCell ⟨V, 6, none⟩ (.int .u32 r.g.toNat)).setCell ⟨V, 7, none⟩ (.int .u32 r.h.toNat)) := by
  obtain ⟨h1, h2, h3, h4, h5, h6, h7⟩ := h
  refine ⟨?_, ?_, ?_, ?_, ?_, ?_, h7⟩
  · exact (((((((h1.setCell (by simp; omega) _).setCell (by simp; omega) _).setCell (by simp; omega) _).setCell (by simp; omega) _).setCell (by simp; omega) _).setCell (by simp; omega) _).setCell (by simp; omega) _).setCell (by simp; omega) _
  · exact (((((((h2.setCell_other (by simp; omega) _).setCell_other (by simp; omega) _).setCell_other (by simp; omega) _).setCell_other (by simp; omega) _).setCell_other (by simp; omega) _).setCell_other (by simp; omega) _).setCell_other (by simp; omega) _).setCell_other (by simp; omega) _
  · exact (((((((h3.setCell_other (by simp; omega) _).setCell_other (by simp; omega) _).setCell_other (by simp; omega) _).setCell_other (by simp; omega) _).setCell_other (by simp; omega) _).setCell_other (by simp; omega) _).setCell_other (by simp; omega) _).setCell_other (by simp; omega) _
  · exact (((((((h4.setCell_other (by simp; omega) _).setCell_other (by simp; omega) _).setCell_other (by simp; omega) _).setCell_other (by simp; omega) _).setCell_other (by simp; omega) _).setCell_other (by simp; omega) _).setCell_other (by simp; omega) _).setCell_other (by simp; omega) _
  · exact (((((((h5.setCell_other (by simp; omega) _).setCell_other (by simp; omega) _).setCell_other (by simp; omega) _).setCell_other (by simp; omega) _).setCell_other (by simp; omega) _).setCell_other (by simp; omega) _).setCell_other (by simp; omega) _).setCell_other (by simp; omega) _
  · exact ((((((((h6.set 0 _).set 1 _).set 2 _).set 3 _).set 4 _).set 5 _).set 6 _).set 7 _)
theorem st_cells42 {w : World} {b : Nat} {s : St} (h : ArrAt w b 42 (u32s s.list)) :
    w.cell? ⟨b, 0, none⟩ = some (.int .u32 s.a.toNat) ∧ w.cell? ⟨b, 1, none⟩ = some (.int .u32 s.b.toNat) ∧ w.cell? ⟨b, 2, none⟩ = some (.int .u32 s.c.toNat) ∧ w.cell? ⟨b, 3, none⟩ = some (.int .u32 s.d.toNat) ∧
    w.cell? ⟨b, 4, none⟩ = some (.int .u32 s.e.toNat) ∧ w.cell? ⟨b, 5, none⟩ = some (.int .u32 s.f.toNat) ∧ w.cell? ⟨b, 6, none⟩ = some (.int .u32 s.g.toNat) ∧ w.cell? ⟨b, 7, none⟩ = some (.int .u32 s.h.toNat) :=
  ⟨h.cell 0 rfl, h.cell 1 rfl, h.cell 2 rfl, h.cell 3 rfl, h.cell 4 rfl, h.cell 5 rfl, h.cell 6 rfl, h.cell 7 rfl⟩
def KeepPQ (w : World) (s : St) (V : Nat) (t : St) (k : Nat) (wx : World) : Prop :=
  Below w.heap.size w wx ∧ ArrAt wx w.heap.size 42 ((u32s (s.plus t).list).take k ++ (u32s s.list).drop k) ∧ ArrAt wx (w.heap.size + 1 + 1) 42 (u32s (List.replicate 8 0)) ∧ ArrAt wx V 42 (u32s t.list) ∧ w.heap.size + 1 + 1 + 1 < V
theorem KeepPQ.next {w wx : World} {s t : St} {V k : Nat} (h : KeepPQ w s V t k wx) (hk : k < 8) :
    KeepPQ w s V t (k + 1) (wx.setCell ⟨w.heap.size, k, none⟩ (.int .u32 ((((s.list.getD k 0).toNat : Int) + ((t.list.getD k 0).toNat : Int)) % 4294967296))) := by
  obtain ⟨h1, h2, h3, h4, h5⟩ := h
  have e := wrap_add (s.list.getD k 0) (t.list.getD k 0)
  rw [IntKind.wrap_u32] at e
  rw [e, ← plus_get s t k hk]
  refine ⟨h1.setCell (by simp) _, ?_, h3.setCell_other (by simp; omega) _, h4.setCell_other (by simp; omega) _, h5⟩
  have := h2.set k (.int .u32 ((s.plus t).list.getD k 0).toNat)
  rwa [mixed_set _ _ _ _ (u32s_get _ _ hk) (by rw [u32s_length]; exact hk)] at this
theorem KeepPQ.cells {w wx : World} {s t : St} {V k : Nat} (h : KeepPQ w s V t k wx) (hk : k < 8) :
    wx.cell? ⟨w.heap.size, k, none⟩ = some (.int .u32 (s.list.getD k 0).toNat) ∧ wx.cell? ⟨V, k, none⟩ = some (.int .u32 (t.list.getD k 0).toNat) ∧ wx.frozen? ⟨w.heap.size, k, none⟩ = false := by
  obtain ⟨h1, h2, h3, h4, h5⟩ := h
  refine ⟨h2.cell k ?_, h4.cell k (u32s_get _ _ hk), h2.free k⟩
  have hl : ((u32s (s.plus t).list).take k).length = k := by rw [List.length_take, u32s_length]; exact Nat.min_eq_left (Nat.le_of_lt hk)
  rw [List.getElem?_append_right (by omega), hl, Nat.sub_self, List.getElem?_drop, Nat.add_zero]
  exact u32s_get _ _ hk
theorem KeepPQ.drew {w wx : World} {s t : St} {V k : Nat} (h : KeepPQ w s V t k wx) : KeepPQ w s V t k wx.drew := ⟨h.1.drew, h.2⟩
theorem set8Row42 {wx : World} {b : Nat} (h : ArrAt wx b 42 (u32s (List.replicate 8 0))) (r : St) :
    ArrAt ((((((((wx.setCell ⟨b, 0, none⟩ (.int .u32 r.a.toNat)).setCell ⟨b, 1, none⟩ (.int .u32 r.b.toNat)).setCell ⟨b, 2, none⟩ (.int .u32 r.c.toNat)).setCell ⟨b, 3, none⟩ (.int .u32 r.d.toNat)).setCell ⟨b, 4, none⟩ (.int .u32 r.e.toNat)).setCell ⟨b, 5, none⟩ (.int .u32 r.f.toNat)).setCell ⟨b, 6, none⟩ (.int .u32 r.g.toNat)).setCell ⟨b, 7, none⟩ (.int .u32 r.h.toNat)) b 42 (u32s r.list) :=
  ((((((((h.set 0 _).set 1 _).set 2 _).set 3 _).set 4 _).set 5 _).set 6 _).set 7 _)
theorem turns2 (x : UInt32) (a b : Nat) : bits .xor .u32 ((rotr x a).toNat : Int) ((rotr x b).toNat : Int) = ((turns x [a, b]).toNat : Int) := by
  rw [bits_xor]; simp [turns]
theorem turns3 (x : UInt32) (a b c : Nat) : bits .xor .u32 (bits .xor .u32 ((rotr x a).toNat : Int) ((rotr x b).toNat : Int)) ((rotr x c).toNat : Int) = ((turns x [a, b, c]).toNat : Int) := by
  rw [bits_xor, bits_xor]; simp [turns]

set_option maxHeartbeats 4000000 in
theorem refblock_any (s : St) (t : ByteArray) (ks : List UInt32) (w : World) (hl : t.size = 64) (hk : ks.length = 64) :
    Calls Try.prog 35 #[.agg (u32s s.list).toArray, .string t, .agg (u32s ks).toArray] w fun e w' => e = .returned (.agg (u32s (blockF s t.data.toList ks).list).toArray) ∧ Below w.heap.size w w' := by
  have HL := Lib.hid hl
  have HKS := Lib.hid hk
  obtain ⟨l, hll⟩ : ∃ l, l = t.data.toList := ⟨_, rfl⟩
  rw [← hll]
  have HLL := Lib.hid hll
  clear hl hk hll
  go_enter Try.func35, Try.ntmps35
  go_wp2_with fail
  go_loopw [8] (fun i wr => ∃ k : Nat, k ≤ 64 ∧ i = .int .i64 k ∧ RRel w l s ks k wr) (fun i _ => 64 - (intOf i).toNat)
  case atStart =>
    refine ⟨0, by omega, rfl, ?_, ?_, ?_, ?_, ?_⟩
    · exact (((arrAt_alloc w _ 42 _ rfl).alloc _).alloc _).alloc _
    · exact ((arrAt_allocB _ _ _ 44 _ rfl).alloc _).alloc _
    · exact (arrAt_allocC _ _ _ _ 42 _ rfl).alloc _
    · exact arrAt_allocD _ _ _ _ _ 44 _ rfl
    · exact ((((Below.refl _ _).alloc (Nat.le_refl _) _).alloc (by simp) _).alloc (by simp; omega) _).alloc (by simp; omega) _
  case round =>
    obtain ⟨k, hk, rfl, h1, h2, h3, h4, h5⟩ := hrel
    by_cases hk64 : k < 64
    · by_cases hk16 : k < 16
      · have E0 := byte_getD t
        have HB := Lib.hid E0
        clear E0
        have n1 : IntKind.i64.wrap (4 * (k : Int)) = 4 * (k : Int) := IntWalk.i64_in _ (by omega)
        have n2 : IntKind.i64.wrap (4 * (k : Int) + 1) = 4 * (k : Int) + 1 := IntWalk.i64_in _ (by omega)
        have n3 : IntKind.i64.wrap (4 * (k : Int) + 2) = 4 * (k : Int) + 2 := IntWalk.i64_in _ (by omega)
        have n4 : IntKind.i64.wrap (4 * (k : Int) + 3) = 4 * (k : Int) + 3 := IntWalk.i64_in _ (by omega)
        have m1 : (4 * (k : Int)).toNat = 4 * k := by omega
        have m2 : (4 * (k : Int) + 1).toNat = 4 * k + 1 := by omega
        have m3 : (4 * (k : Int) + 2).toNat = 4 * k + 2 := by omega
        have m4 : (4 * (k : Int) + 3).toNat = 4 * k + 3 := by omega
        go_wp2_with fail
        have ht := HL.out
        have q1 : (0 : Int) ≤ 4 * (k : Int) := by omega
        have q2 : 4 * (k : Int) < (t.size : Int) := by omega
        have q3 : (0 : Int) ≤ 4 * (k : Int) + 1 := by omega
        have q4 : 4 * (k : Int) + 1 < (t.size : Int) := by omega
        have q5 : (0 : Int) ≤ 4 * (k : Int) + 2 := by omega
        have q6 : 4 * (k : Int) + 2 < (t.size : Int) := by omega
        have q7 : (0 : Int) ≤ 4 * (k : Int) + 3 := by omega
        have q8 : 4 * (k : Int) + 3 < (t.size : Int) := by omega
        clear ht
        have f2 := h4.cell (v := .int .u32 0) k (row_zero (sched_length l k) hk64)
        have f3 := h4.free k
        have f4 := h4.lt
        go_still_tail 31, (by kernel_rfl)
        go_wp2_with fail
        have hx : bits BinOp.or IntKind.u32 (bits BinOp.or IntKind.u32 (bits BinOp.or IntKind.u32 (((t[4 * k]'(by have := HL.out; omega)).toNat : Int) % 4294967296 * 16777216 % 4294967296) (((t[4 * k + 1]'(by have := HL.out; omega)).toNat : Int) % 4294967296 * 65536 % 4294967296)) (((t[4 * k + 2]'(by have := HL.out; omega)).toNat : Int) % 4294967296 * 256 % 4294967296)) (((t[4 * k + 3]'(by have := HL.out; omega)).toNat : Int) % 4294967296) = ((wordAt l k).toNat : Int) := by
          have ht := HL.out
          unfold wordAt; rw [HLL.out, HB.out (4 * k) (by omega), HB.out (4 * k + 1) (by omega), HB.out (4 * k + 2) (by omega), HB.out (4 * k + 3) (by omega)]; exact bytes_word _ _ _ _
        go_roundw
        case rel =>
          rw [hx]
          exact ⟨k + 1, by omega, by go_num, (RRel.next ⟨h1, h2, h3, h4, h5⟩ hk64 (by rw [if_pos hk16])).drew⟩
        case measure => simp [intOf]; omega
      · have hlt : w.heap.size + 1 + 1 + 1 < wr.heap.size := h4.lt
        have g1 := h4.cell _ (row_old (m := 64) (sched_length l k) (show k - 16 < k by omega))
        have g2 := h4.cell _ (row_old (m := 64) (sched_length l k) (show k - 15 < k by omega))
        have g3 := h4.cell _ (row_old (m := 64) (sched_length l k) (show k - 7 < k by omega))
        have g4 := h4.cell _ (row_old (m := 64) (sched_length l k) (show k - 2 < k by omega))
        have f2 := h4.cell (v := .int .u32 0) k (row_zero (sched_length l k) hk64)
        have f3 := h4.free k
        obtain ⟨x1, e1⟩ : ∃ x, x = (sched l k).getD (k - 16) 0 := ⟨_, rfl⟩
        obtain ⟨x2, e2⟩ : ∃ x, x = (sched l k).getD (k - 15) 0 := ⟨_, rfl⟩
        obtain ⟨x3, e3⟩ : ∃ x, x = (sched l k).getD (k - 7) 0 := ⟨_, rfl⟩
        obtain ⟨x4, e4⟩ : ∃ x, x = (sched l k).getD (k - 2) 0 := ⟨_, rfl⟩
        rw [← e1] at g1
        rw [← e2] at g2
        rw [← e3] at g3
        rw [← e4] at g4
        have hR : RRel w l s ks k wr := ⟨h1, h2, h3, h4, h5⟩
        have hN : more x1 x2 x3 x4 = if k < 16 then wordAt l k else more ((sched l k).getD (k - 16) 0) ((sched l k).getD (k - 15) 0) ((sched l k).getD (k - 7) 0) ((sched l k).getD (k - 2) 0) := by rw [if_neg hk16, e1, e2, e3, e4]
        have HN := Lib.hid hN
        clear e1 e2 e3 e4 hN h1 h2 h3 h4 h5
        have h16 : 16 ≤ k := by omega
        have n1 : IntKind.i64.wrap ((k : Int) - 16) = (k : Int) - 16 := IntWalk.i64_in _ (by omega)
        have n2 : IntKind.i64.wrap ((k : Int) - 15) = (k : Int) - 15 := IntWalk.i64_in _ (by omega)
        have n3 : IntKind.i64.wrap ((k : Int) - 7) = (k : Int) - 7 := IntWalk.i64_in _ (by omega)
        have n4 : IntKind.i64.wrap ((k : Int) - 2) = (k : Int) - 2 := IntWalk.i64_in _ (by omega)
        have m1 : ((k : Int) - 16).toNat = k - 16 := by omega
        have m2 : ((k : Int) - 15).toNat = k - 15 := by omega
        have m3 : ((k : Int) - 7).toNat = k - 7 := by omega
        have m4 : ((k : Int) - 2).toNat = k - 2 := by omega
        have p1 : (16 : Int) ≤ (k : Int) := by omega
        have p2 : (15 : Int) ≤ (k : Int) := by omega
        have p3 : (7 : Int) ≤ (k : Int) := by omega
        have p4 : (2 : Int) ≤ (k : Int) := by omega
        have q1 : (0 : Int) ≤ (k : Int) - 16 := by omega
        have q2 : (k : Int) - 16 < 64 := by omega
        have q3 : (0 : Int) ≤ (k : Int) - 15 := by omega
        have q4 : (k : Int) - 15 < 64 := by omega
        have q5 : (0 : Int) ≤ (k : Int) - 7 := by omega
        have q6 : (k : Int) - 7 < 64 := by omega
        have q7 : (0 : Int) ≤ (k : Int) - 2 := by omega
        have q8 : (k : Int) - 2 < 64 := by omega
        go_wp2_with fail
        go_quiet (fail)
        go_wp2_with fail
        refine wp_region_quiet_tail 29 (by kernel_rfl) (by kernel_rfl) ?_
        simp only [List.take_succ_cons, List.take_zero, List.drop_succ_cons, List.drop_zero]
        repeat (go_big_quiet_step (first
          | (go_at_call 57; with_reducible exact turned_q _ 7 7 rfl _ _ _ (by decide) (by decide))
          | (go_at_call 57; with_reducible exact turned_q _ 18 18 rfl _ _ _ (by decide) (by decide))
          | (go_at_call 57; with_reducible exact turned_q _ 17 17 rfl _ _ _ (by decide) (by decide))
          | (go_at_call 57; with_reducible exact turned_q _ 19 19 rfl _ _ _ (by decide) (by decide))))
        refine wpQuiet_nil ?_
        intro _ hw'
        obtain ⟨nq2, hw''⟩ := hw'
        subst hw''
        go_wp2_with fail
        go_roundw
        case rel =>
          rw [turns2, turns2, more_eq2]
          exact ⟨k + 1, by omega, by go_num, RRel.next (RRel.drewN (n := nq + nq2) hR) hk64 HN.out⟩
        case measure => simp [intOf]; omega
    · obtain rfl : k = 64 := by omega
      have h4' : ArrAt wr (w.heap.size + 1 + 1 + 1) 44 (u32s (sched l 64)) := by simpa using h4
      obtain ⟨ws, hws⟩ : ∃ ws, ws = sched l 64 := ⟨_, rfl⟩
      rw [← hws] at h4'
      have hwl : ws.length = 64 := by rw [hws]; exact sched_length _ _
      have HW := Lib.hid hws
      clear h4 hws
      obtain ⟨a0, a1, a2, a3, a4, a5, a6, a7⟩ := st_cells42 h1
      have hHH : w.heap.size < wr.heap.size := h1.lt
      go_wp2_with fail
      have hQ0 : KeepQ w s ks ws wr.heap.size s (wr.alloc (Obj.cells (u32s s.list).toArray 42)) := ⟨h5.alloc (by omega) _, h1.alloc _, h2.alloc _, h3.alloc _, h4'.alloc _, arrAt_alloc wr _ 42 _ rfl, h4'.lt⟩
      obtain ⟨V, hV⟩ : ∃ V, V = wr.heap.size := ⟨_, rfl⟩
      rw [← hV] at hQ0 ⊢
      go_loopw [12] (fun i wx => ∃ k : Nat, k ≤ 64 ∧ i = .int .i64 k ∧ KeepQ w s ks ws V (rounds s ks ws k) wx) (fun i _ => 64 - (intOf i).toNat)
      case atStart => exact ⟨0, by omega, rfl, hQ0⟩
      case round =>
        clear hQ0 a0 a1 a2 a3 a4 a5 a6 a7 h1 h2 h3 h4' h5 hV hHH
        obtain ⟨k, hk, rfl, hQ⟩ := hrel
        by_cases hk64 : k < 64
        · obtain ⟨v, hv⟩ : ∃ t, t = rounds s ks ws k := ⟨_, rfl⟩
          rw [← hv] at hQ
          have HV := Lib.hid hv
          clear hv
          have hksl := HKS.out
          have hk1 := hQ.2.2.1.cell k (u32s_get ks k (by omega))
          have hw1 := hQ.2.2.2.2.1.cell k (u32s_get ws k (by omega))
          clear hksl
          obtain ⟨kk, hkk⟩ : ∃ x, x = ks.getD k 0 := ⟨_, rfl⟩
          obtain ⟨ww, hww⟩ : ∃ x, x = ws.getD k 0 := ⟨_, rfl⟩
          rw [← hkk] at hk1
          rw [← hww] at hw1
          have HK := Lib.hid hkk
          have HWW := Lib.hid hww
          clear hkk hww
          obtain ⟨a0, a1, a2, a3, a4, a5, a6, a7⟩ := st_cells42 hQ.2.2.2.2.2.1
          have f0 := hQ.2.2.2.2.2.1.free
          have F := Lib.hid f0
          clear f0
          have g0 := F.out 0
          have g1 := F.out 1
          have g2 := F.out 2
          have g3 := F.out 3
          have g4 := F.out 4
          have g5 := F.out 5
          have g6 := F.out 6
          have g7 := F.out 7
          have hVlt : V < wr.heap.size := hQ.2.2.2.2.2.1.lt
          go_wp2_with fail
          go_quiet (fail)
          go_wp2_with fail
          go_quiet ((first
            | (go_at_call 57; with_reducible exact turned_q _ 6 6 rfl _ _ _ (by decide) (by decide))
            | (go_at_call 57; with_reducible exact turned_q _ 11 11 rfl _ _ _ (by decide) (by decide))
            | (go_at_call 57; with_reducible exact turned_q _ 25 25 rfl _ _ _ (by decide) (by decide))))
          go_wp2_with fail
          go_quiet ((first
            | (go_at_call 57; with_reducible exact turned_q _ 2 2 rfl _ _ _ (by decide) (by decide))
            | (go_at_call 57; with_reducible exact turned_q _ 13 13 rfl _ _ _ (by decide) (by decide))
            | (go_at_call 57; with_reducible exact turned_q _ 22 22 rfl _ _ _ (by decide) (by decide))))
          go_wp2_with fail
          go_roundw
          case rel =>
            repeat apply Exists.intro
            refine ⟨?rr, ?ee⟩
            case ee => rfl
            case rr =>
              refine ⟨k + 1, by omega, ?_, ?_⟩
              · go_num
              have HT2 : rounds s ks ws (k + 1) = v.step kk ww := by rw [HV.out, HK.out, HWW.out]; rfl
              rw [HT2, turns3, turns3, tx_eq, txy_eq]
              exact KeepQ.set8 (hQ.drewN _) (v.step kk ww)
          case measure => simp [intOf]; omega
        · obtain rfl : k = 64 := by omega
          obtain ⟨v, hv⟩ : ∃ t, t = rounds s ks ws 64 := ⟨_, rfl⟩
          rw [← hv] at hQ
          have HV := Lib.hid hv
          clear hv
          go_wp2_with fail
          have hP0 : KeepPQ w s V v 0 wr := ⟨hQ.1, hQ.2.1, hQ.2.2.2.1, hQ.2.2.2.2.2⟩
          go_loopw [17] (fun i wx => ∃ k : Nat, k ≤ 8 ∧ i = .int .i64 k ∧ KeepPQ w s V v k wx) (fun i _ => 8 - (intOf i).toNat)
          case atStart => exact ⟨0, by omega, rfl, hP0⟩
          case round =>
            clear hP0 hQ
            obtain ⟨k, hk, rfl, hP⟩ := hrel
            by_cases hk8 : k < 8
            · obtain ⟨c1, c2, c3⟩ := hP.cells hk8
              obtain ⟨x1, e1⟩ : ∃ x, x = s.list.getD k 0 := ⟨_, rfl⟩
              obtain ⟨x2, e2⟩ : ∃ x, x = v.list.getD k 0 := ⟨_, rfl⟩
              have hN := hP.next hk8
              rw [← e1, ← e2] at hN
              rw [← e1] at c1
              rw [← e2] at c2
              clear e1 e2
              go_wp2_with fail
              go_still_tail 9, (by kernel_rfl)
              go_wp2_with fail
              go_roundw
              case rel =>
                repeat apply Exists.intro
                refine ⟨?rr, ?ee⟩
                case ee => rfl
                case rr => exact ⟨k + 1, by omega, by go_num, hN.drew⟩
              case measure => simp [intOf]; omega
            · obtain rfl : k = 8 := by omega
              have hH : ArrAt wr w.heap.size 42 (u32s (s.plus v).list) := hP.2.1
              have hZ := hP.2.2.1
              obtain ⟨a0, a1, a2, a3, a4, a5, a6, a7⟩ := st_cells42 hH
              obtain ⟨z0, z1, z2, z3, z4, z5, z6, z7⟩ := st_cells42 (s := ⟨0, 0, 0, 0, 0, 0, 0, 0⟩) hZ
              have y0 := hZ.free 0
              have y1 := hZ.free 1
              have y2 := hZ.free 2
              have y3 := hZ.free 3
              have y4 := hZ.free 4
              have y5 := hZ.free 5
              have y6 := hZ.free 6
              have y7 := hZ.free 7
              go_wp2_with fail
              refine bodyPost_ret (results_cell_row rfl _ _ (w.heap.size + 1 + 1) 42 (u32s (s.plus v).list).toArray (0, 0) _ rfl (set8Row42 hZ (s.plus v)) Try.underlying42 rfl (by kernel_rfl)) rfl ⟨?_, ?_⟩
              · have e : blockF s l ks = s.plus v := by rw [HV.out, HW.out]; rfl
                rw [e]
              · exact (((((((hP.1.setCell (by simp; omega) _).setCell (by simp; omega) _).setCell (by simp; omega) _).setCell (by simp; omega) _).setCell (by simp; omega) _).setCell (by simp; omega) _).setCell (by simp; omega) _).setCell (by simp; omega) _

end Go.Proofs.Ytjkafmjikfbafaa
