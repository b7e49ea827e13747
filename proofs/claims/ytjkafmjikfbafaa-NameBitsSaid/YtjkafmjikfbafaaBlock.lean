/- The walk of sha.block: its words are blockF's. -/
import Derived.Test.YtjkafmjikfbafaaBlockL
namespace Go.Proofs.Ytjkafmjikfbafaa
open Go.RowKit
set_option maxRecDepth 100000
set_option linter.unusedSimpArgs false
set_option linter.unusedVariables false

theorem arrAt_alloc3 (w : World) (o o2 : Obj) (c : Array Value) (t : TypeId) (l : List Value) (h : c = l.toArray) : ArrAt (((w.alloc o).alloc o2).alloc (.cells c t)) (w.heap.size + 1 + 1) t l := by
  have := arrAt_alloc2 (w.alloc o) o2 c t l h
  rw [World.size_alloc] at this
  exact this
theorem set8Row {wx : World} {b : Nat} (h : ArrAt wx b 43 (u32s (List.replicate 8 0))) (r : St) :
    ArrAt ((((((((wx.setCell ⟨b, 0, none⟩ (.int .u32 r.a.toNat)).setCell ⟨b, 1, none⟩ (.int .u32 r.b.toNat)).setCell ⟨b, 2, none⟩ (.int .u32 r.c.toNat)).setCell ⟨b, 3, none⟩ (.int .u32 r.d.toNat)).setCell ⟨b, 4, none⟩ (.int .u32 r.e.toNat)).setCell ⟨b, 5, none⟩ (.int .u32 r.f.toNat)).setCell ⟨b, 6, none⟩ (.int .u32 r.g.toNat)).setCell ⟨b, 7, none⟩ (.int .u32 r.h.toNat)) b 43 (u32s r.list) :=
  ((((((((h.set 0 _).set 1 _).set 2 _).set 3 _).set 4 _).set 5 _).set 6 _).set 7 _)

set_option maxHeartbeats 4000000 in
theorem block_any (s : St) (l : List UInt8) (ks : List UInt32) (bb off cap kb : Nat) (w : World) (hl : l.length = 64) (hk : ks.length = 64)
    (hb : BytesAt w bb off l) (hbb : bb < w.heap.size) (hka : ArrAt w kb 44 (u32s ks)) :
    Calls Try.prog 30 #[.agg (u32s s.list).toArray, .slice (some ⟨bb, off, none⟩) 64 cap, .pointer (some ⟨kb, 0, none⟩)] w fun e w' => e = .returned (.agg (u32s (blockF s l ks).list).toArray) ∧ Below w.heap.size w w' := by
  go_enter Try.func30, Try.ntmps30
  go_wp2_with fail
  go_loopw [15] (fun i wr => ∃ k : Nat, k ≤ 64 ∧ i = .int .i64 k ∧ SchedRel w l s k wr) (fun i _ => 64 - (intOf i).toNat)
  case atStart =>
    refine ⟨0, by omega, rfl, ?_, ?_, ?_, ?_⟩
    · exact ((arrAt_alloc w _ 43 _ rfl).alloc _).alloc _
    · exact (arrAt_alloc2 _ _ _ 43 _ rfl).alloc _
    · exact arrAt_alloc3 _ _ _ _ 44 _ rfl
    · exact (((Below.refl _ _).alloc (Nat.le_refl _) _).alloc (by simp) _).alloc (by simp; omega) _
  case round =>
    obtain ⟨k, hk, rfl, h1, h2, h3, h4⟩ := hrel
    by_cases hk64 : k < 64
    · by_cases hk16 : k < 16
      · have hby : ∀ j, j < 4 → wr.cell? ⟨bb, off + (4 * k + j), none⟩ = some (.int .u8 (l.getD (4 * k + j) 0).toNat) := by
          intro j hj
          rw [← hb (4 * k + j) (by omega)]
          exact World.cell?_of_block (w := w) (h4.block _ hbb)
        obtain ⟨b0, e0⟩ : ∃ b0, b0 = l.getD (4 * k) 0 := ⟨_, rfl⟩
        obtain ⟨b1, e1⟩ : ∃ b0, b0 = l.getD (4 * k + 1) 0 := ⟨_, rfl⟩
        obtain ⟨b2, e2⟩ : ∃ b0, b0 = l.getD (4 * k + 2) 0 := ⟨_, rfl⟩
        obtain ⟨b3, e3⟩ : ∃ b0, b0 = l.getD (4 * k + 3) 0 := ⟨_, rfl⟩
        have c0 := hby 0 (by omega)
        have c1 := hby 1 (by omega)
        have c2 := hby 2 (by omega)
        have c3 := hby 3 (by omega)
        rw [Nat.add_zero] at c0
        rw [← e0] at c0
        rw [← e1] at c1
        rw [← e2] at c2
        rw [← e3] at c3
        have E0 := Lib.hid e0
        have E1 := Lib.hid e1
        have E2 := Lib.hid e2
        have E3 := Lib.hid e3
        clear e0 e1 e2 e3 hby
        have n1 : IntKind.i64.wrap (4 * (k : Int)) = 4 * (k : Int) := IntWalk.i64_in _ (by omega)
        have n2 : IntKind.i64.wrap (4 * (k : Int) + 1) = 4 * (k : Int) + 1 := IntWalk.i64_in _ (by omega)
        have n3 : IntKind.i64.wrap (4 * (k : Int) + 2) = 4 * (k : Int) + 2 := IntWalk.i64_in _ (by omega)
        have n4 : IntKind.i64.wrap (4 * (k : Int) + 3) = 4 * (k : Int) + 3 := IntWalk.i64_in _ (by omega)
        have m1 : (4 * (k : Int)).toNat = 4 * k := by omega
        have m2 : (4 * (k : Int) + 1).toNat = 4 * k + 1 := by omega
        have m3 : (4 * (k : Int) + 2).toNat = 4 * k + 2 := by omega
        have m4 : (4 * (k : Int) + 3).toNat = 4 * k + 3 := by omega
        go_wp2_with fail
        have q1 : (0 : Int) ≤ 4 * (k : Int) := by omega
        have q2 : 4 * (k : Int) < 64 := by omega
        have q3 : (0 : Int) ≤ 4 * (k : Int) + 1 := by omega
        have q4 : 4 * (k : Int) + 1 < 64 := by omega
        have q5 : (0 : Int) ≤ 4 * (k : Int) + 2 := by omega
        have q6 : 4 * (k : Int) + 2 < 64 := by omega
        have q7 : (0 : Int) ≤ 4 * (k : Int) + 3 := by omega
        have q8 : 4 * (k : Int) + 3 < 64 := by omega
        have f2 := h3.cell (v := .int .u32 0) k (row_zero (sched_length l k) hk64)
        have f3 := h3.free k
        have f4 := h3.lt
        go_still_tail 35, (by kernel_rfl)
        go_wp2_with fail
        go_roundw
        case rel =>
          have HH : bits BinOp.or IntKind.u32
                  (bits BinOp.or IntKind.u32
                    (bits BinOp.or IntKind.u32 ((b0.toNat : Int) % 4294967296 * 16777216 % 4294967296)
                      ((b1.toNat : Int) % 4294967296 * 65536 % 4294967296)) ((b2.toNat : Int) % 4294967296 * 256 % 4294967296)) ((b3.toNat : Int) % 4294967296) = ((wordAt l k).toNat : Int) := by
            unfold wordAt; rw [← E0.out, ← E1.out, ← E2.out, ← E3.out]; exact bytes_word b0 b1 b2 b3
          rw [HH]
          exact ⟨k + 1, by omega, by go_num, (SchedRel.next h1 h2 h3 h4 hk64 (by rw [if_pos hk16])).drew⟩
        case measure => simp [intOf]; omega
      · have hlt : w.heap.size + 1 + 1 < wr.heap.size := h3.lt
        have g1 := row_old (m := 64) (sched_length l k) (show k - 16 < k by omega)
        have g2 := row_old (m := 64) (sched_length l k) (show k - 15 < k by omega)
        have g3 := row_old (m := 64) (sched_length l k) (show k - 7 < k by omega)
        have g4 := row_old (m := 64) (sched_length l k) (show k - 2 < k by omega)
        have f2 := h3.cell (v := .int .u32 0) k (row_zero (sched_length l k) hk64)
        have f3 := h3.free k
        obtain ⟨x1, e1⟩ : ∃ x, x = (sched l k).getD (k - 16) 0 := ⟨_, rfl⟩
        obtain ⟨x2, e2⟩ : ∃ x, x = (sched l k).getD (k - 15) 0 := ⟨_, rfl⟩
        obtain ⟨x3, e3⟩ : ∃ x, x = (sched l k).getD (k - 7) 0 := ⟨_, rfl⟩
        obtain ⟨x4, e4⟩ : ∃ x, x = (sched l k).getD (k - 2) 0 := ⟨_, rfl⟩
        rw [← e1] at g1
        rw [← e2] at g2
        rw [← e3] at g3
        rw [← e4] at g4
        have E1 := Lib.hid e1
        have E2 := Lib.hid e2
        have E3 := Lib.hid e3
        have E4 := Lib.hid e4
        have hK0 : KeepS w s k (u32s (sched l k ++ List.replicate (64 - k) 0)) wr := ⟨h4, h1, h2, _, h3, fun _ => rfl⟩
        obtain ⟨row, hrow⟩ : ∃ r, r = u32s (sched l k ++ List.replicate (64 - k) 0) := ⟨_, rfl⟩
        rw [← hrow] at hK0
        have hrl : k < row.length := by rw [hrow]; simp [u32s_length, sched_length]; omega
        rw [← hrow] at g1 g2 g3 g4
        have h16 : 16 ≤ k := by omega
        have HR := Lib.hid hrow
        clear e1 e2 e3 e4 hrow h1 h2 h3 h4 hb hka
        have n1 : IntKind.i64.wrap ((k : Int) - 16) = (k : Int) - 16 := IntWalk.i64_in _ (by omega)
        have n2 : IntKind.i64.wrap ((k : Int) - 15) = (k : Int) - 15 := IntWalk.i64_in _ (by omega)
        have n3 : IntKind.i64.wrap ((k : Int) - 7) = (k : Int) - 7 := IntWalk.i64_in _ (by omega)
        have n4 : IntKind.i64.wrap ((k : Int) - 2) = (k : Int) - 2 := IntWalk.i64_in _ (by omega)
        have m1 : ((k : Int) - 16).toNat = k - 16 := by omega
        have m2 : ((k : Int) - 15).toNat = k - 15 := by omega
        have m3 : ((k : Int) - 7).toNat = k - 7 := by omega
        have m4 : ((k : Int) - 2).toNat = k - 2 := by omega
        have p1 : (16 : Int) ≤ (k : Int) := by omega
        have p2 : (15 : Int) ≤ (k : Int) := by omega
        have p3 : (7 : Int) ≤ (k : Int) := by omega
        have p4 : (2 : Int) ≤ (k : Int) := by omega
        have q1 : (0 : Int) ≤ (k : Int) - 16 := by omega
        have q2 : (k : Int) - 16 < 64 := by omega
        have q3 : (0 : Int) ≤ (k : Int) - 15 := by omega
        have q4 : (k : Int) - 15 < 64 := by omega
        have q5 : (0 : Int) ≤ (k : Int) - 7 := by omega
        have q6 : (k : Int) - 7 < 64 := by omega
        have q7 : (0 : Int) ≤ (k : Int) - 2 := by omega
        have q8 : (k : Int) - 2 < 64 := by omega
        go_wp2_with fail
        have c1 : k - 16 ≠ k := by omega
        have c2 : k - 15 ≠ k := by omega
        have c3 : k - 7 ≠ k := by omega
        have c4 : k - 2 ≠ k := by omega
        go_region_held3 (fun wx => wx.cell? ⟨w.heap.size + 1 + 1, k - 16, none⟩ = some (.int .u32 x1.toNat) ∧ wx.cell? ⟨w.heap.size + 1 + 1, k - 15, none⟩ = some (.int .u32 x2.toNat) ∧
            wx.cell? ⟨w.heap.size + 1 + 1, k - 7, none⟩ = some (.int .u32 x3.toNat) ∧ wx.cell? ⟨w.heap.size + 1 + 1, k - 2, none⟩ = some (.int .u32 x4.toNat) ∧ wx.cell? ⟨w.heap.size + 1 + 1, k, none⟩ = some (heldCell wx ⟨w.heap.size + 1 + 1, k, none⟩) ∧ wx.frozen? ⟨w.heap.size + 1 + 1, k, none⟩ = false ∧ KeepS w s k row wx) (exact KeepS.all (by (repeat (first | assumption | refine keepS_drew ?_ | refine keepS_alloc ?_ _ | refine keepS_set ?_ _))) hrl h16 g1 g2 g3 g4)
          (first
            | (go_at_call 53; ((with_reducible refine (right2 x2 7 18 _ _ ⟨by omega, by omega⟩ ⟨by omega, by omega⟩ ?_ ?_).mono ?_); (first | exact (arrAt_alloc2 _ _ _ 3 _ rfl).cell 0 rfl | exact (arrAt_alloc2 _ _ _ 3 _ rfl).cell 1 rfl | exact (arrAt_alloc2 _ _ _ 3 _ rfl).cell 2 rfl | exact (arrAt_alloc _ _ 3 _ rfl).cell 0 rfl | exact (arrAt_alloc _ _ 3 _ rfl).cell 1 rfl | exact (arrAt_alloc _ _ 3 _ rfl).cell 2 rfl | exact ((arrAt_alloc _ _ 3 _ rfl).alloc _).cell 0 rfl | exact ((arrAt_alloc _ _ 3 _ rfl).alloc _).cell 1 rfl | exact ((arrAt_alloc _ _ 3 _ rfl).alloc _).cell 2 rfl); (first | exact (arrAt_alloc2 _ _ _ 3 _ rfl).cell 0 rfl | exact (arrAt_alloc2 _ _ _ 3 _ rfl).cell 1 rfl | exact (arrAt_alloc2 _ _ _ 3 _ rfl).cell 2 rfl | exact (arrAt_alloc _ _ 3 _ rfl).cell 0 rfl | exact (arrAt_alloc _ _ 3 _ rfl).cell 1 rfl | exact (arrAt_alloc _ _ 3 _ rfl).cell 2 rfl | exact ((arrAt_alloc _ _ 3 _ rfl).alloc _).cell 0 rfl | exact ((arrAt_alloc _ _ 3 _ rfl).alloc _).cell 1 rfl | exact ((arrAt_alloc _ _ 3 _ rfl).alloc _).cell 2 rfl); (rintro e wx ⟨rfl, rfl⟩)))
            | (go_at_call 53; ((with_reducible refine (right2 x4 17 19 _ _ ⟨by omega, by omega⟩ ⟨by omega, by omega⟩ ?_ ?_).mono ?_); (first | exact (arrAt_alloc2 _ _ _ 3 _ rfl).cell 0 rfl | exact (arrAt_alloc2 _ _ _ 3 _ rfl).cell 1 rfl | exact (arrAt_alloc2 _ _ _ 3 _ rfl).cell 2 rfl | exact (arrAt_alloc _ _ 3 _ rfl).cell 0 rfl | exact (arrAt_alloc _ _ 3 _ rfl).cell 1 rfl | exact (arrAt_alloc _ _ 3 _ rfl).cell 2 rfl | exact ((arrAt_alloc _ _ 3 _ rfl).alloc _).cell 0 rfl | exact ((arrAt_alloc _ _ 3 _ rfl).alloc _).cell 1 rfl | exact ((arrAt_alloc _ _ 3 _ rfl).alloc _).cell 2 rfl); (first | exact (arrAt_alloc2 _ _ _ 3 _ rfl).cell 0 rfl | exact (arrAt_alloc2 _ _ _ 3 _ rfl).cell 1 rfl | exact (arrAt_alloc2 _ _ _ 3 _ rfl).cell 2 rfl | exact (arrAt_alloc _ _ 3 _ rfl).cell 0 rfl | exact (arrAt_alloc _ _ 3 _ rfl).cell 1 rfl | exact (arrAt_alloc _ _ 3 _ rfl).cell 2 rfl | exact ((arrAt_alloc _ _ 3 _ rfl).alloc _).cell 0 rfl | exact ((arrAt_alloc _ _ 3 _ rfl).alloc _).cell 1 rfl | exact ((arrAt_alloc _ _ 3 _ rfl).alloc _).cell 2 rfl); (rintro e wx ⟨rfl, rfl⟩))))
        all_goals
          go_wp2_with fail
          go_roundw
          case rel =>
            have HH := more_eq x1 x2 x3 x4
            simp only [IntKind.wrap_u32] at HH
            rw [HH]
            exact ⟨k + 1, by omega, by go_num, (KeepS.next (HR.out ▸ (by (repeat (first | assumption | refine keepS_drew ?_ | refine keepS_alloc ?_ _ | refine keepS_set ?_ _)))) hk64 (by rw [if_neg hk16, E1.out, E2.out, E3.out, E4.out])).drew⟩
          case measure => simp [intOf]; omega
    · obtain rfl : k = 64 := by omega
      have h3' : ArrAt wr (w.heap.size + 1 + 1) 44 (u32s (sched l 64)) := by simpa using h3
      obtain ⟨ws, hws⟩ : ∃ ws, ws = sched l 64 := ⟨_, rfl⟩
      rw [← hws] at h3'
      have hwl : ws.length = 64 := by rw [hws]; exact sched_length _ _
      have hka' : ArrAt wr kb 44 (u32s ks) := by
        have := h4.block kb hka.lt
        unfold ArrAt; rw [this]; exact hka
      have HW := Lib.hid hws
      clear h3 hws hb
      obtain ⟨a0, a1, a2, a3, a4, a5, a6, a7⟩ := st_cells h1
      have hHH : w.heap.size < wr.heap.size := h1.lt
      go_wp2_with fail
      have hR0 : KeepR w s ws wr.heap.size s (wr.alloc (Obj.cells (u32s s.list).toArray 43)) := ⟨h4.alloc (by omega) _, h1.alloc _, h2.alloc _, h3'.alloc _, arrAt_alloc wr _ 43 _ rfl, h3'.lt⟩
      obtain ⟨V, hV⟩ : ∃ V, V = wr.heap.size := ⟨_, rfl⟩
      rw [← hV] at hR0 ⊢
      go_loopw [96] (fun i wx => ∃ k : Nat, k ≤ 64 ∧ i = .int .i64 k ∧ KeepR w s ws V (rounds s ks ws k) wx) (fun i _ => 64 - (intOf i).toNat)
      case atStart => exact ⟨0, by omega, rfl, hR0⟩
      case round =>
        clear hR0 a0 a1 a2 a3 a4 a5 a6 a7 h1 h2 h3' h4 hV hka' hHH
        obtain ⟨k, hk, rfl, hR⟩ := hrel
        have hkl : kb < w.heap.size := hka.lt
        by_cases hk64 : k < 64
        · obtain ⟨t, ht⟩ : ∃ t, t = rounds s ks ws k := ⟨_, rfl⟩
          rw [← ht] at hR
          have HT := Lib.hid ht
          clear ht
          have hk1 : (u32s ks)[k]? = some (.int .u32 (ks.getD k 0).toNat) := u32s_get ks k (by omega)
          have hw1 : (u32s ws)[k]? = some (.int .u32 (ws.getD k 0).toNat) := u32s_get ws k (by omega)
          obtain ⟨kk, hkk⟩ : ∃ x, x = ks.getD k 0 := ⟨_, rfl⟩
          obtain ⟨ww, hww⟩ : ∃ x, x = ws.getD k 0 := ⟨_, rfl⟩
          rw [← hkk] at hk1
          rw [← hww] at hw1
          have HK := Lib.hid hkk
          have HWW := Lib.hid hww
          clear hkk hww
          go_wp2_with fail
          go_region_held3 (fun wx => (wx.cell? ⟨V, 0, none⟩ = some (.int .u32 t.a.toNat) ∧ wx.cell? ⟨V, 1, none⟩ = some (.int .u32 t.b.toNat) ∧ wx.cell? ⟨V, 2, none⟩ = some (.int .u32 t.c.toNat) ∧ wx.cell? ⟨V, 3, none⟩ = some (.int .u32 t.d.toNat) ∧
              wx.cell? ⟨V, 4, none⟩ = some (.int .u32 t.e.toNat) ∧ wx.cell? ⟨V, 5, none⟩ = some (.int .u32 t.f.toNat) ∧ wx.cell? ⟨V, 6, none⟩ = some (.int .u32 t.g.toNat) ∧ wx.cell? ⟨V, 7, none⟩ = some (.int .u32 t.h.toNat)) ∧
              wx.cell? ⟨kb, k, none⟩ = some (.int .u32 kk.toNat) ∧ wx.cell? ⟨w.heap.size + 1 + 1, k, none⟩ = some (.int .u32 ww.toNat) ∧ (wx.frozen? ⟨V, 0, none⟩ = false ∧ wx.frozen? ⟨V, 1, none⟩ = false ∧ wx.frozen? ⟨V, 2, none⟩ = false ∧ wx.frozen? ⟨V, 3, none⟩ = false ∧ wx.frozen? ⟨V, 4, none⟩ = false ∧ wx.frozen? ⟨V, 5, none⟩ = false ∧ wx.frozen? ⟨V, 6, none⟩ = false ∧ wx.frozen? ⟨V, 7, none⟩ = false) ∧ KeepR w s ws V t wx) (exact KeepR.all (by (repeat (first | assumption | refine keepR_drew ?_ | refine keepR_alloc ?_ _))) hka hk1 hw1)
            (first | (go_at_call 53; ((with_reducible refine (right3 t.e 6 11 25 _ _ (by omega) ?_ ?_ ?_).mono ?_); (first | exact (arrAt_alloc2 _ _ _ 3 _ rfl).cell 0 rfl | exact (arrAt_alloc2 _ _ _ 3 _ rfl).cell 1 rfl | exact (arrAt_alloc2 _ _ _ 3 _ rfl).cell 2 rfl | exact (arrAt_alloc _ _ 3 _ rfl).cell 0 rfl | exact (arrAt_alloc _ _ 3 _ rfl).cell 1 rfl | exact (arrAt_alloc _ _ 3 _ rfl).cell 2 rfl | exact ((arrAt_alloc _ _ 3 _ rfl).alloc _).cell 0 rfl | exact ((arrAt_alloc _ _ 3 _ rfl).alloc _).cell 1 rfl | exact ((arrAt_alloc _ _ 3 _ rfl).alloc _).cell 2 rfl); (first | exact (arrAt_alloc2 _ _ _ 3 _ rfl).cell 0 rfl | exact (arrAt_alloc2 _ _ _ 3 _ rfl).cell 1 rfl | exact (arrAt_alloc2 _ _ _ 3 _ rfl).cell 2 rfl | exact (arrAt_alloc _ _ 3 _ rfl).cell 0 rfl | exact (arrAt_alloc _ _ 3 _ rfl).cell 1 rfl | exact (arrAt_alloc _ _ 3 _ rfl).cell 2 rfl | exact ((arrAt_alloc _ _ 3 _ rfl).alloc _).cell 0 rfl | exact ((arrAt_alloc _ _ 3 _ rfl).alloc _).cell 1 rfl | exact ((arrAt_alloc _ _ 3 _ rfl).alloc _).cell 2 rfl); (first | exact (arrAt_alloc2 _ _ _ 3 _ rfl).cell 0 rfl | exact (arrAt_alloc2 _ _ _ 3 _ rfl).cell 1 rfl | exact (arrAt_alloc2 _ _ _ 3 _ rfl).cell 2 rfl | exact (arrAt_alloc _ _ 3 _ rfl).cell 0 rfl | exact (arrAt_alloc _ _ 3 _ rfl).cell 1 rfl | exact (arrAt_alloc _ _ 3 _ rfl).cell 2 rfl | exact ((arrAt_alloc _ _ 3 _ rfl).alloc _).cell 0 rfl | exact ((arrAt_alloc _ _ 3 _ rfl).alloc _).cell 1 rfl | exact ((arrAt_alloc _ _ 3 _ rfl).alloc _).cell 2 rfl); (rintro e wx ⟨rfl, rfl⟩))))
          go_wp2_with fail
          go_region_held3 (fun wx => (wx.cell? ⟨V, 0, none⟩ = some (.int .u32 t.a.toNat) ∧ wx.cell? ⟨V, 1, none⟩ = some (.int .u32 t.b.toNat) ∧ wx.cell? ⟨V, 2, none⟩ = some (.int .u32 t.c.toNat) ∧ wx.cell? ⟨V, 3, none⟩ = some (.int .u32 t.d.toNat) ∧
              wx.cell? ⟨V, 4, none⟩ = some (.int .u32 t.e.toNat) ∧ wx.cell? ⟨V, 5, none⟩ = some (.int .u32 t.f.toNat) ∧ wx.cell? ⟨V, 6, none⟩ = some (.int .u32 t.g.toNat) ∧ wx.cell? ⟨V, 7, none⟩ = some (.int .u32 t.h.toNat)) ∧
              wx.cell? ⟨kb, k, none⟩ = some (.int .u32 kk.toNat) ∧ wx.cell? ⟨w.heap.size + 1 + 1, k, none⟩ = some (.int .u32 ww.toNat) ∧ (wx.frozen? ⟨V, 0, none⟩ = false ∧ wx.frozen? ⟨V, 1, none⟩ = false ∧ wx.frozen? ⟨V, 2, none⟩ = false ∧ wx.frozen? ⟨V, 3, none⟩ = false ∧ wx.frozen? ⟨V, 4, none⟩ = false ∧ wx.frozen? ⟨V, 5, none⟩ = false ∧ wx.frozen? ⟨V, 6, none⟩ = false ∧ wx.frozen? ⟨V, 7, none⟩ = false) ∧ KeepR w s ws V t wx) (exact KeepR.all (by (repeat (first | assumption | refine keepR_drew ?_ | refine keepR_alloc ?_ _))) hka hk1 hw1)
            (first | (go_at_call 53; ((with_reducible refine (right3 t.a 2 13 22 _ _ (by omega) ?_ ?_ ?_).mono ?_); (first | exact (arrAt_alloc2 _ _ _ 3 _ rfl).cell 0 rfl | exact (arrAt_alloc2 _ _ _ 3 _ rfl).cell 1 rfl | exact (arrAt_alloc2 _ _ _ 3 _ rfl).cell 2 rfl | exact (arrAt_alloc _ _ 3 _ rfl).cell 0 rfl | exact (arrAt_alloc _ _ 3 _ rfl).cell 1 rfl | exact (arrAt_alloc _ _ 3 _ rfl).cell 2 rfl | exact ((arrAt_alloc _ _ 3 _ rfl).alloc _).cell 0 rfl | exact ((arrAt_alloc _ _ 3 _ rfl).alloc _).cell 1 rfl | exact ((arrAt_alloc _ _ 3 _ rfl).alloc _).cell 2 rfl); (first | exact (arrAt_alloc2 _ _ _ 3 _ rfl).cell 0 rfl | exact (arrAt_alloc2 _ _ _ 3 _ rfl).cell 1 rfl | exact (arrAt_alloc2 _ _ _ 3 _ rfl).cell 2 rfl | exact (arrAt_alloc _ _ 3 _ rfl).cell 0 rfl | exact (arrAt_alloc _ _ 3 _ rfl).cell 1 rfl | exact (arrAt_alloc _ _ 3 _ rfl).cell 2 rfl | exact ((arrAt_alloc _ _ 3 _ rfl).alloc _).cell 0 rfl | exact ((arrAt_alloc _ _ 3 _ rfl).alloc _).cell 1 rfl | exact ((arrAt_alloc _ _ 3 _ rfl).alloc _).cell 2 rfl); (first | exact (arrAt_alloc2 _ _ _ 3 _ rfl).cell 0 rfl | exact (arrAt_alloc2 _ _ _ 3 _ rfl).cell 1 rfl | exact (arrAt_alloc2 _ _ _ 3 _ rfl).cell 2 rfl | exact (arrAt_alloc _ _ 3 _ rfl).cell 0 rfl | exact (arrAt_alloc _ _ 3 _ rfl).cell 1 rfl | exact (arrAt_alloc _ _ 3 _ rfl).cell 2 rfl | exact ((arrAt_alloc _ _ 3 _ rfl).alloc _).cell 0 rfl | exact ((arrAt_alloc _ _ 3 _ rfl).alloc _).cell 1 rfl | exact ((arrAt_alloc _ _ 3 _ rfl).alloc _).cell 2 rfl); (rintro e wx ⟨rfl, rfl⟩))))
          obtain ⟨⟨a0, a1, a2, a3, a4, a5, a6, a7⟩, _, _, ⟨f0, f1, f2, f3, f4, f5, f6, f7⟩, _⟩ := KeepR.all hR hka hk1 hw1
          have hVlt : V < wr.heap.size := hR.2.2.2.2.1.lt
          go_wp2_with fail
          go_roundw
          case rel =>
            repeat apply Exists.intro
            refine ⟨?rr, ?ee⟩
            case ee => rfl
            case rr =>
              refine ⟨k + 1, by omega, ?_, ?_⟩
              · go_num
              have HT2 : rounds s ks ws (k + 1) = t.step kk ww := by rw [HT.out, HK.out, HWW.out]; rfl
              rw [HT2, tx_eq, txy_eq]
              exact keepR_drew (keepR_drew (keepR_alloc (keepR_alloc (KeepR.set8 hR (t.step kk ww)) _) _))
          case measure => simp [intOf]; omega
        · obtain rfl : k = 64 := by omega
          obtain ⟨t, ht⟩ : ∃ t, t = rounds s ks ws 64 := ⟨_, rfl⟩
          rw [← ht] at hR
          have HT := Lib.hid ht
          clear ht
          go_wp2_with fail
          have hP0 : KeepP w s V t 0 wr := ⟨hR.1, hR.2.1, hR.2.2.1, hR.2.2.2.2⟩
          go_loopw [174] (fun i wx => ∃ k : Nat, k ≤ 8 ∧ i = .int .i64 k ∧ KeepP w s V t k wx) (fun i _ => 8 - (intOf i).toNat)
          case atStart => exact ⟨0, by omega, rfl, hP0⟩
          case round =>
            clear hP0 hR
            obtain ⟨k, hk, rfl, hP⟩ := hrel
            by_cases hk8 : k < 8
            · obtain ⟨c1, c2, c3⟩ := hP.cells hk8
              obtain ⟨x1, e1⟩ : ∃ x, x = s.list.getD k 0 := ⟨_, rfl⟩
              obtain ⟨x2, e2⟩ : ∃ x, x = t.list.getD k 0 := ⟨_, rfl⟩
              have hN := hP.next hk8
              rw [← e1, ← e2] at hN
              rw [← e1] at c1
              rw [← e2] at c2
              clear e1 e2
              go_wp2_with fail
              go_still_tail 8, (by kernel_rfl)
              go_wp2_with fail
              go_roundw
              case rel =>
                repeat apply Exists.intro
                refine ⟨?rr, ?ee⟩
                case ee => rfl
                case rr => exact ⟨k + 1, by omega, by go_num, hN.drew⟩
              case measure => simp [intOf]; omega
            · obtain rfl : k = 8 := by omega
              have hH : ArrAt wr w.heap.size 43 (u32s (s.plus t).list) := hP.2.1
              have hZ := hP.2.2.1
              obtain ⟨a0, a1, a2, a3, a4, a5, a6, a7⟩ := st_cells hH
              obtain ⟨z0, z1, z2, z3, z4, z5, z6, z7⟩ := st_cells (s := ⟨0, 0, 0, 0, 0, 0, 0, 0⟩) hZ
              have y0 := hZ.free 0
              have y1 := hZ.free 1
              have y2 := hZ.free 2
              have y3 := hZ.free 3
              have y4 := hZ.free 4
              have y5 := hZ.free 5
              have y6 := hZ.free 6
              have y7 := hZ.free 7
              go_wp2_with fail
              refine bodyPost_ret (results_cell_row rfl _ _ (w.heap.size + 1) 43 (u32s (s.plus t).list).toArray (0, 0) _ rfl (set8Row hZ (s.plus t)) Try.underlying43 rfl (by kernel_rfl)) rfl ⟨?_, ?_⟩
              · have e : blockF s l ks = s.plus t := by rw [HT.out, HW.out]; rfl
                rw [e]
              · exact (((((((hP.1.setCell (by simp) _).setCell (by simp) _).setCell (by simp) _).setCell (by simp) _).setCell (by simp) _).setCell (by simp) _).setCell (by simp) _).setCell (by simp) _

end Go.Proofs.Ytjkafmjikfbafaa
