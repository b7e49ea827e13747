/- The walk of the iterator of sha.blocks: it hands over the blocks of the padded bytes, in order. -/
import Derived.Test.YtjkafmjikfbafaaOwnM
import Derived.Test.YtjkafmjikfbafaaSumL
import Derived.RangeFuncNested
import Derived.RangeFuncBound
import Derived.Shelf.Abstract
import Derived.Shelf.RegionOpen
import Derived.WalkKit
import Derived.TacticsInMore
import Derived.LoopNIn
import Derived.LoopIn
namespace Go.Proofs.Ytjkafmjikfbafaa
open Go.RowKit Go.Shelf Go.Lib
set_option maxRecDepth 100000
set_option linter.unusedSimpArgs false
set_option linter.unusedVariables false
attribute [local go_sem] Oper.semAt_some

/-- What is handed over: where it lies, and its bytes. -/
structure Blk where
  (g off cap : Nat)
  (l : List UInt8)
def encB (x : Blk) : Array Value := #[.slice (some ⟨x.g, x.off, none⟩) 64 x.cap]
def HdB (x : Blk) (W : World) : Prop := BytesAt W x.g x.off x.l ∧ x.l.length = 64 ∧ ∃ cs t fr, W.heap[x.g]? = some (.cells cs t fr)
theorem hdB_put (W : World) (l : Nat) (o o' : Obj) (x : Blk) (hl : W.heap[l]? = some o) (ho : o.isCells = false) (h : HdB x W) : HdB x (W.putObj l o') := by
  obtain ⟨h1, h2, cs, t, fr, h3⟩ := h
  have hne : l ≠ x.g := by
    intro e; subst e; rw [hl] at h3; injection h3 with h3; subst h3; simp [Obj.isCells] at ho
  have hs := World.putObj_heap_other (w := W) (o := o') (Ne.symm hne)
  exact ⟨h1.same hs, h2, cs, t, fr, hs.trans h3⟩

def sliceLen (v : Value) : Nat := match v with | .slice _ n _ => n | _ => 0
theorem conv_grown (w : World) (s : ByteArray) : w.grownBy (bytesWorld w 5 s) none :=
  ⟨rfl, rfl, rfl, by rw [bytesWorld_size]; omega, fun k hk _ => bytesWorld_at_old w 5 s k hk⟩
theorem info5m : (Try.prog.info? 5).map (fun i => (i.zero, i.size, i.bytes)) = some (some (.int .u8 0), 1, 1) := by kernel_rfl
theorem one_byte (w : World) (x : Int) (m : Nat) (hx : x = (m : Int) % 256) : ∀ (j : Nat) (u : Value), (u8s [UInt8.ofNat m])[j]? = some u → (w.alloc (Obj.cells #[.int .u8 x] 5)).cell? ((⟨w.heap.size, 0, none⟩ : Addr).add j) = some u := by
  intro j u hu
  subst hx
  rw [Addr.add_lit, Nat.zero_add]
  have : u8s [UInt8.ofNat m] = [.int .u8 ((m : Int) % 256)] := by simp [u8s]
  rw [this] at hu
  exact (arrAt_alloc w _ 5 [.int .u8 ((m : Int) % 256)] rfl).cell j hu

/-- What the iterator keeps while it pads. -/
def ItRel (J : List Blk → World → Prop) (W : World) (Bs : Nat) (s : ByteArray) (v : Value) (l : List UInt8) (wr : World) : Prop :=
  OwnM wr W.heap.size v l ∧ J [] wr ∧ wr.heap[Bs]? = some (.cells #[.string s] 9 (0, 0)) ∧ W.heap.size ≤ wr.heap.size
theorem ItRel.app {J : List Blk → World → Prop} {W wr w' : World} {Bs : Nat} {s : ByteArray} {v v' : Value} {l l' : List UInt8} (hJ : AbF W.heap.size J) (hBs : Bs < W.heap.size) (h : ItRel J W Bs s v l wr) (o : Obj)
    (hg : (wr.alloc o).grownBy w' v.ownBlock) (hown : OwnM w' W.heap.size v' l') : ItRel J W Bs s v' l' w' := by
  obtain ⟨h1, h2, h3, h4⟩ := h
  have hlt := fun k hk => (h1.lt k hk).1
  refine ⟨hown, hJ _ _ _ _ (hJ.alloc o h2) hg (fun r hr => hlt r hr), ?_, ?_⟩
  · rw [hg.block Bs (by rw [World.size_alloc]; omega) (fun e => by have := hlt _ e.symm; omega), Below.heap_alloc wr o Bs (by omega)]
    exact h3
  · have := hg.size; rw [World.size_alloc] at this; omega
theorem ItRel.cell {J : List Blk → World → Prop} {W wr : World} {Bs : Nat} {s : ByteArray} {v : Value} {l : List UInt8} (h : ItRel J W Bs s v l wr) : wr.cell? ⟨Bs, 0, none⟩ = some (.string s) := by
  rw [cell_of_row wr Bs 0 _ _ _ h.2.2.1]; rfl
theorem OwnM.form {w : World} {B : Nat} {v : Value} {l : List UInt8} (h : OwnM w B v l) : ∃ g cap, v = .slice (some ⟨g, 0, none⟩) l.length cap := by
  obtain ⟨g, cap, cur, fz, rfl, _⟩ := h; exact ⟨g, cap, rfl⟩

theorem pad2_succ (l : List UInt8) (k : Nat) : pad2 l (k + 1) = pad2 l k ++ [UInt8.ofNat (l.length * 8 / 2 ^ (8 * (7 - k)))] := by
  rw [pad2, pad2, lenB_succ, List.append_assoc]
/-- What the iterator keeps while it hands over: its row of the padded bytes. -/
def ItHand (J : List Blk → World → Prop) (B g : Nat) (P : List UInt8) (pre : List Blk) (wr : World) : Prop :=
  BytesAt wr g 0 P ∧ (∃ cs t fr, wr.heap[g]? = some (.cells cs t fr)) ∧ J pre wr ∧ B ≤ g
theorem ItHand.kept {J : List Blk → World → Prop} {B g : Nat} {P : List UInt8} {pre pre' : List Blk} {wr w' : World} (h : ItHand J B g P pre wr) (hk : KpC B wr w') (hJ : J pre' w') : ItHand J B g P pre' w' := by
  obtain ⟨h1, ⟨cs, t, fr, h2⟩, h3, h4⟩ := h
  have h5 := hk.2 g cs t fr h4 h2
  exact ⟨h1.same (h5.trans h2.symm), ⟨cs, t, fr, h5⟩, hJ, h4⟩
theorem ItHand.hd {J : List Blk → World → Prop} {B g : Nat} {P : List UInt8} {pre : List Blk} {wr : World} (h : ItHand J B g P pre wr) (j cap : Nat) (hj : 64 * j + 64 ≤ P.length) : HdB ⟨g, 64 * j, cap, chunk P j⟩ wr := by
  obtain ⟨h1, h2, h3, h4⟩ := h
  have h5 := (h1.drop (64 * j)).take 64
  rw [Nat.zero_add] at h5
  exact ⟨h5, by unfold chunk; rw [List.length_take, List.length_drop]; omega, h2⟩

set_option maxHeartbeats 4000000 in
theorem iter_in (F : Fence) (n : Nat) (h52 : F.fn 52) (hro : F.round = none) (hn : 1 ≤ n) (l Bs B : Nat) (s : ByteArray) (hs : s.size ≤ 1099511627776) (J : List Blk → World → Prop) (W : World)
    (hJ : AbF W.heap.size J) (hB : B ≤ W.heap.size)
    (hY : ∀ pre x W1, J pre W1 → pre.length < (padF s.data.toList).length / 64 → HdB x W1 → YieldAt F (n - 1) Try.prog l (encB x) W1 fun e W' => e = .returned (.bool true) ∧ J (pre ++ [x]) W' ∧ KpC B W1 W')
    (hBs : W.heap[Bs]? = some (.cells #[.string s] 9 (0, 0))) (h0 : J [] W) :
    CallsIn F n Try.prog 52 #[.func (.yield l) #[] #[], .pointer (some ⟨Bs, 0, none⟩)] W fun e W' => (∃ v, e = .returned v) ∧
      ∃ xs, xs.map (·.l) = (List.range ((padF s.data.toList).length / 64)).map (chunk (padF s.data.toList)) ∧ J xs W' := by
  obtain ⟨i0, hi, hz0, hz1, hz2⟩ := info_parts info5m
  have hc1 := cell_of_row W Bs 0 _ _ _ hBs
  refine callsIn_of_wp Try.func52 rfl h52 ?_ hro
  simp only [Try.ntmps52, List.size_toArray, List.length_cons, List.length_nil, Nat.reduceAdd, Nat.reduceSub, Array.replicate_succ, Array.replicate_zero, List.push_toArray, List.append_toArray, List.nil_append, List.cons_append]
  have hBlt : Bs < W.heap.size := (Array.getElem?_eq_some_iff.1 hBs).1
  have hconv := Lib.run_convert_string_bytes W 9 27 5 s Try.underlying9 Try.underlying27 Try.underlying5
  have hoc := ownM_conv W W.heap.size s (Nat.le_refl _) (by simp only [maxLen]; omega)
  have hbc := conv_grown W s
  have hzc := bytesWorld_size W 5 s
  obtain ⟨Wc, hWc⟩ : ∃ x, x = bytesWorld W 5 s := ⟨_, rfl⟩
  rw [← hWc] at hconv hoc hbc hzc
  obtain ⟨c0, hc0⟩ : ∃ x, x = grownCap W s.size 0 5 := ⟨_, rfl⟩
  rw [← hc0] at hconv hoc
  obtain ⟨ls, hls⟩ : ∃ x, x = s.data.toList := ⟨_, rfl⟩
  have hlen : ls.length = s.size := by rw [hls]; simp
  rw [← hls] at hoc hY ⊢
  have HLEN := Lib.hid hlen
  have HY := Lib.hid hY
  have H0 := Lib.hid h0
  have HJ := Lib.hid hJ
  have hr0 : ItRel J W Bs s (.slice (some ⟨W.heap.size, 0, none⟩) s.size c0) ls Wc := ⟨hoc, hJ _ _ _ _ h0 hbc (fun r hr => by cases hr), (hbc.block Bs hBlt (by simp)).trans hBs, by omega⟩
  have HR0 := Lib.hid hr0
  have HO := Lib.hid hoc
  have HZ := Lib.hid hzc
  clear hWc hc0 hls hlen hoc hzc hY h0 hJ
  gi_wp2_with (gi_at_builtin; refine wpListIn_append_M _ rfl _ _ 27 rfl W.heap.size i0 Try.underlying27 hi hz0 hz1 hz2 _ ls rfl (HO.out.alloc _) ⟨Wc.heap.size, 0, none⟩ 1 1 [128] rfl rfl ?c1 ?c2 ?c3 ?c4 ?_)
  case c1 => exact one_byte Wc _ 128 rfl
  case c2 => rw [HLEN.out]; simp only [maxLen]; omega
  case c3 => rw [HLEN.out]; omega
  case c4 => rw [World.size_alloc, HZ.out]; omega
  intro v1 w1 hown hg
  have hr1 := HR0.out.app HJ.out hBlt _ hg hown
  have HR1 := Lib.hid hr1
  clear hr1 hown hg hbc hconv HR0 HO hc1 hBs HZ
  gi_wp2_with fail
  gi_loopw [3] (fun v wr => ∃ j : Nat, j ≤ zeros ls.length ∧ ItRel J W Bs s v (pad1 ls j) wr) (fun v _ => s.size + 65 - sliceLen v)
  case atStart => exact ⟨0, by omega, by rw [pad1, List.replicate_zero, List.append_nil]; exact HR1.out⟩
  case round =>
    clear HR1
    obtain ⟨j, hj, hR⟩ := hrel
    obtain ⟨g, cap, rfl⟩ := hR.1.form
    have hz := zeros_lt ls.length
    have hp := pad1_length ls j
    have hlen := HLEN.out
    obtain ⟨p, hpe⟩ : ∃ p, p = (pad1 ls j).length := ⟨_, rfl⟩
    rw [← hpe] at hp hR ⊢
    have hown := hR.1
    have hcs := hR.cell
    have hw8 := hR.2.2.2
    have HR := Lib.hid hR
    have HOW := Lib.hid hown
    have HP := Lib.hid hpe
    have hpb : p ≤ 1099511627841 := by omega
    have hpb2 : p + 1 ≤ maxLen := by simp only [maxLen]; omega
    have HP2 := Lib.hid hp
    have HPB2 := Lib.hid hpb2
    by_cases hjz : j = zeros ls.length
    · have hm : ((p : Int) % 64 != 56) = false := by
        rw [bne_eq_false_iff_eq]
        have := (zeros_mod ls.length j hj).2 hjz
        omega
      clear hp hpe hlen hR hown hpb2
      gi_wp2_with fail
      have hp0 : pad1 ls j = pad2 ls 0 := by rw [hjz, pad2]; simp [lenB]
      have hr0 := HR.out
      rw [hp0] at hr0
      have hpn : p = ls.length + 1 + zeros ls.length := by rw [HP2.out, hjz]
      have HPN := Lib.hid hpn
      have HR0 := Lib.hid hr0
      clear hp0 hr0 hjz hpn hm HR HOW HP HP2 HPB2 hcs hw8
      gi_loopw [3, 16] (fun v i wr => ∃ k : Nat, k ≤ 8 ∧ i = .int .i64 k ∧ ItRel J W Bs s v (pad2 ls k) wr) (fun _ i _ => 8 - (intOf i).toNat)
      case atStart => exact ⟨0, by omega, rfl, HR0.out⟩
      case round =>
        clear HR0
        obtain ⟨k, hk, rfl, hR⟩ := hrel
        obtain ⟨g, cap, rfl⟩ := hR.1.form
        have hown := hR.1
        have hcs := hR.cell
        have hw8 := hR.2.2.2
        have hp := pad2_length ls k
        have hlen := HLEN.out
        obtain ⟨q, hqe⟩ : ∃ p, p = (pad2 ls k).length := ⟨_, rfl⟩
        rw [← hqe] at hR hown hp ⊢
        have HR := Lib.hid hR
        have HOW := Lib.hid hown
        have HQ := Lib.hid hqe
        have HQ2 := Lib.hid hp
        have hqb : q ≤ 1099511627849 := by omega
        have hqb2 : q + 1 ≤ maxLen := by simp only [maxLen]; omega
        have HQB2 := Lib.hid hqb2
        by_cases hk8 : k < 8
        · have a1 : (0 : Int) ≤ 7 - (k : Int) := by omega
          have a1' : (k : Int) ≤ 7 := by omega
          have a2 : (0 : Int) ≤ 8 * (7 - (k : Int)) := by omega
          have a3 : (8 * (7 - (k : Int))).toNat = 8 * (7 - k) := by omega
          have a4 : min (8 * (7 - k)) 64 = 8 * (7 - k) := by omega
          have hx : ((s.size : Int) * 8 / 2 ^ (8 * (7 - k)) % 256) = ((ls.length * 8 / 2 ^ (8 * (7 - k)) : Nat) : Int) % 256 := by
            rw [hlen, Int.natCast_ediv]; simp
          have HX := Lib.hid hx
          clear hx hown hR hp hlen hqe hqb2
          gi_wp2_with (gi_at_builtin; refine wpListIn_append_M _ rfl _ _ 27 rfl W.heap.size i0 Try.underlying27 hi hz0 hz1 hz2 _ (pad2 ls k) rfl (HOW.out.alloc _) ⟨wr.heap.size, 0, none⟩ 1 1 [UInt8.ofNat (ls.length * 8 / 2 ^ (8 * (7 - k)))] rfl rfl ?f1 ?f2 ?f3 ?f4 ?_)
          case f1 => exact one_byte wr _ _ HX.out
          case f2 => rw [← HQ.out]; exact HQB2.out
          case f3 => rw [← HQ.out]; omega
          case f4 => rw [World.size_alloc]; omega
          intro v2 w2 hown hg
          have hr2 := HR.out.app HJ.out hBlt _ hg hown
          rw [← pad2_succ] at hr2
          have HR2 := Lib.hid hr2
          clear hr2 hown hg
          gi_wp2_with fail
          go_roundw
          case rel => exact ⟨k + 1, by omega, by go_num, HR2.out⟩
          case measure => simp [intOf]; omega
        · obtain rfl : k = 8 := by omega
          obtain ⟨g1, cap1, hv1, hBg, hby, hlc, hcm, hgl, hcells⟩ := hown.bytes
          rw [← hqe] at hv1
          obtain ⟨rfl, rfl⟩ : g = g1 ∧ cap = cap1 := by
            injection hv1 with e1 e2 e3
            injection e1 with e1
            injection e1 with e1
            exact ⟨e1, e3⟩
          rw [← hqe] at hlc
          have hPm := padF_mod ls
          obtain ⟨P, hPe⟩ : ∃ P, P = padF ls := ⟨_, rfl⟩
          have hP2 : pad2 ls 8 = P := by rw [hPe]; rfl
          rw [hP2] at hqe hby
          rw [← hPe] at hPm HY
          have HPE := Lib.hid hPe
          rw [← hqe] at hPm HY
          obtain ⟨M, hM⟩ : ∃ M, q = 64 * M := ⟨q / 64, by omega⟩
          have hqM : q / 64 = M := by omega
          rw [hqM] at HY
          have hI0 : ItHand J B g P [] wr := ⟨hby, hcells, hR.2.1, by omega⟩
          have HI0 := Lib.hid hI0
          have HM := Lib.hid hM
          have HQP := Lib.hid hqe
          unfold maxLen at hcm
          clear hI0 hM hqe hby hcells hR hown hp hPe hP2 hPm hv1 hqM hlen HR HOW HQ HQ2 HQB2 hcs hw8 hqb2 hk hk8
          gi_wp2_with fail
          gi_loopw [3] (fun v wr => ∃ (j : Nat) (pre : List Blk) (A : Option Addr) (c r : Nat), j ≤ M ∧ v = .slice A r c ∧ r = 64 * (M - j) ∧ c ≤ 9223372036854775807 ∧ (j < M → A = some ⟨g, 64 * j, none⟩ ∧ r ≤ c) ∧ (pre.map (·.l) = (List.range j).map (chunk P) ∧ pre.length = j) ∧ ItHand J B g P pre wr) (fun v _ => sliceLen v)
          case atStart => exact ⟨0, [], _, cap, q, by omega, rfl, by rw [HM.out, Nat.sub_zero], hcm, fun _ => ⟨rfl, hlc⟩, ⟨rfl, rfl⟩, HI0.out⟩
          case round =>
            clear HI0
            obtain ⟨j, pre, A, c, r, hj, rfl, hr, hcM, hA, ⟨hpre, hprl⟩, hI⟩ := hrel
            by_cases hjM : j < M
            · obtain ⟨rfl, hrc⟩ := hA hjM
              have hd := hI.hd j c (by rw [← HQP.out, HM.out]; omega)
              obtain ⟨fn, tmps, assign, body, hy, hRr⟩ := HY.out pre ⟨g, 64 * j, c, chunk P j⟩ wr hI.2.2.1 (by omega) hd
              dsimp only [encB] at hy
              have r64 : 64 ≤ r := by omega
              have HRR := Lib.hid hr
              have HI := Lib.hid hI
              have HPRE := Lib.hid hpre
              have HPRL := Lib.hid hprl
              clear hr hI hpre hprl hd hA
              rcases Nat.lt_or_ge 64 c with hc64 | hc64
              · gi_wp2_with fail
                refine hRr.mono ?_
                rintro e W3 ⟨rfl, hJ3, hk3⟩
                have hI3 := HI.out.kept hk3 hJ3
                have HI3 := Lib.hid hI3
                clear hI3 hk3 hJ3 hRr hy
                gi_wp2_with fail
                go_roundw
                case rel =>
                  repeat apply Exists.intro
                  refine ⟨?rr, ?ee⟩
                  case ee => rfl
                  case rr =>
                    refine ⟨j + 1, pre ++ [⟨g, 64 * j, c, chunk P j⟩], _, _, _, by omega, rfl, by have := HRR.out; omega, by omega, fun h => ⟨by rw [show 64 * (j + 1) = 64 * j + 64 by omega], by omega⟩, ⟨?_, ?_⟩, HI3.out⟩
                    · rw [List.map_append, HPRE.out, List.range_succ, List.map_append]; rfl
                    · rw [List.length_append, HPRL.out]; rfl
                case measure => simp [sliceLen]; omega
              · obtain rfl : c = 64 := by omega
                gi_wp2_with fail
                refine hRr.mono ?_
                rintro e W3 ⟨rfl, hJ3, hk3⟩
                have hI3 := HI.out.kept hk3 hJ3
                have HI3 := Lib.hid hI3
                clear hI3 hk3 hJ3 hRr hy
                gi_wp2_with fail
                go_roundw
                case rel =>
                  repeat apply Exists.intro
                  refine ⟨?rr, ?ee⟩
                  case ee => rfl
                  case rr =>
                    refine ⟨j + 1, pre ++ [⟨g, 64 * j, 64, chunk P j⟩], _, _, _, by omega, rfl, by have := HRR.out; omega, by omega, fun h => by have := HRR.out; omega, ⟨?_, ?_⟩, HI3.out⟩
                    · rw [List.map_append, HPRE.out, List.range_succ, List.map_append]; rfl
                    · rw [List.length_append, HPRL.out]; rfl
                case measure => simp [sliceLen]; omega
            · obtain rfl : j = M := by omega
              have hr0 : ¬ 0 < r := by omega
              have HPRE := Lib.hid hpre
              have HI := Lib.hid hI
              clear hr hpre hI hA hprl
              gi_wp2_with fail
              go_end0
              refine ⟨⟨_, rfl⟩, pre, ?_, HI.out.2.2.1⟩
              rw [← HPE.out, show P.length / 64 = j by rw [← HQP.out, HM.out]; omega]
              exact HPRE.out
    · have hm : ((p : Int) % 64 != 56) = true := by
        rw [bne_iff_ne]
        intro e
        exact hjz ((zeros_mod ls.length j hj).1 (by omega))
      clear hp hpe hlen hR hown hpb2
      gi_wp2_with (gi_at_builtin; refine wpListIn_append_M _ rfl _ _ 27 rfl W.heap.size i0 Try.underlying27 hi hz0 hz1 hz2 _ (pad1 ls j) rfl (HOW.out.alloc _) ⟨wr.heap.size, 0, none⟩ 1 1 [0] rfl rfl ?d1 ?d2 ?d3 ?d4 ?_)
      case d1 => exact one_byte wr _ 0 rfl
      case d2 => rw [← HP.out]; exact HPB2.out
      case d3 => rw [← HP.out]; omega
      case d4 => rw [World.size_alloc]; omega
      intro v2 w2 hown hg
      have hr2 := HR.out.app HJ.out hBlt _ hg hown
      rw [← pad1_succ] at hr2
      have hl2 : ∃ g2 cap2, v2 = .slice (some ⟨g2, 0, none⟩) (p + 1) cap2 := by
        obtain ⟨g2, cap2, hv⟩ := hown.form
        refine ⟨g2, cap2, ?_⟩
        rw [hv, List.length_append, ← HP.out]; rfl
      obtain ⟨g2, cap2, rfl⟩ := hl2
      have HR2 := Lib.hid hr2
      clear hr2 hown hg
      gi_wp2_with fail
      go_roundw
      case rel => exact ⟨j + 1, by omega, HR2.out⟩
      case measure => have h3 := HP2.out; have h4 := HLEN.out; simp only [sliceLen]; omega

theorem iter_seq (F : Fence) (n : Nat) (h52 : F.fn 52) (hro : F.round = none) (hn : 1 ≤ n) (Bs B : Nat) (s : ByteArray) (hs : s.size ≤ 1099511627776) (w : World) (hBs : w.heap[Bs]? = some (.cells #[.string s] 9 (0, 0))) (hB : B ≤ w.heap.size) :
    SeqH F n Try.prog 52 #[.pointer (some ⟨Bs, 0, none⟩)] encB HdB B (fun xs => xs.map (·.l) = (List.range ((padF s.data.toList).length / 64)).map (chunk (padF s.data.toList))) ((padF s.data.toList).length / 64) w :=
  fun l J W hW hJ hY h0 => iter_in F n h52 hro hn l Bs B s hs J W hJ (by have := hW.size; omega) hY ((hW.block Bs (Array.getElem?_eq_some_iff.1 hBs).1).trans hBs) h0

set_option maxHeartbeats 1000000 in
theorem blocks_in (F : Fence) (n : Nat) (h29 : F.fn 29) (hro : F.round = none) (s : ByteArray) (w : World) :
    CallsIn F n Try.prog 29 #[.string s] w fun e w' => e = .returned (.func (.func 52) #[] #[.pointer (some ⟨w.heap.size, 0, none⟩)]) ∧ w' = w.alloc (.cells #[.string s] 9) := by
  refine callsIn_of_wp Try.func29 rfl h29 ?_ hro
  simp only [Try.ntmps29, List.size_toArray, List.length_cons, List.length_nil, Nat.reduceAdd, Nat.reduceSub, Array.replicate_succ, Array.replicate_zero, List.push_toArray, List.append_toArray, List.nil_append, List.cons_append]
  gi_wp2
  go_ret
  exact ⟨rfl, rfl⟩

end Go.Proofs.Ytjkafmjikfbafaa
