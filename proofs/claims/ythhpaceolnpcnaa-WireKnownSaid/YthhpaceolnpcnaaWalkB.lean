/- The walks of the reader of package wire: NewReader, take, and what is asked of a reader's memory. -/
import Derived.Test.YthhpaceolnpcnaaWalkA
namespace Go.Proofs.Ythhpaceolnpcnaa
open Go.RowKit
set_option maxRecDepth 100000
set_option linter.unusedSimpArgs false
set_option linter.unusedVariables false

/-- A slice of bytes that the reader at block p holds: nothing, or bytes in the block ahead of its own. -/
def SlAt (w : World) (p : Nat) (sl : Value) (l : List UInt8) : Prop :=
  (l = [] ∧ ∃ a c, sl = .slice a 0 c) ∨ ∃ b off cap, b + 1 = p ∧ sl = .slice (some ⟨b, off, none⟩) l.length cap ∧ l.length ≤ cap ∧ BytesAt w b off l

/-- At block p lies a reader that has l left. -/
def RdAt (w : World) (p : Nat) (l : List UInt8) (lost : Bool) : Prop :=
  l.length ≤ 140737488351232 ∧ ∃ sl, ArrAt w p 45 [sl, .bool lost] ∧ SlAt w p sl l

theorem RdAt.same {w w' : World} {p : Nat} {l : List UInt8} {lost : Bool} (h : RdAt w p l lost) (h1 : w'.heap[p]? = w.heap[p]?) (h2 : ∀ b, b + 1 = p → w'.heap[b]? = w.heap[b]?) : RdAt w' p l lost := by
  obtain ⟨hl, sl, ha, hs⟩ := h
  refine ⟨hl, sl, by unfold ArrAt; rw [h1]; exact ha, ?_⟩
  rcases hs with hs | ⟨b, off, cap, hb, rfl, hc, hby⟩
  · exact Or.inl hs
  · exact Or.inr ⟨b, off, cap, hb, rfl, hc, hby.same (h2 b hb)⟩

theorem RdAt.lt {w : World} {p : Nat} {l : List UInt8} {lost : Bool} (h : RdAt w p l lost) : p < w.heap.size := by
  obtain ⟨_, sl, ha, _⟩ := h
  exact ha.lt

theorem RdAt.grown {w w' : World} {p : Nat} {l : List UInt8} {lost : Bool} {row : Option Nat} (h : RdAt w p l lost) (hg : w.grownBy w' row) (h1 : row ≠ some p) (h2 : ∀ q, row = some q → q + 1 ≠ p) : RdAt w' p l lost := by
  have hlt := h.lt
  refine h.same (hg.block p hlt (fun e => h1 e.symm)) (fun b hb => hg.block b (by omega) (fun e => h2 b e.symm hb))

theorem RdAt.below {w w' : World} {B p : Nat} {l : List UInt8} {lost : Bool} (h : RdAt w p l lost) (hg : Below B w w') (hp : p < B) : RdAt w' p l lost :=
  h.same (hg.block p hp) (fun b hb => hg.block b (by omega))

theorem putText_any (s t : ByteArray) (w : World) (hs : s.size ≤ 140737488351232) (ht : t.size ≤ 140737488351232) :
    Calls Try.prog 11 #[.string s, .string t] w fun e w' => e = .returned (.string (s ++ ⟨(enc t.size).toArray⟩ ++ t)) ∧ Below w.heap.size w w' := by
  have hlen : s.size + (enc t.size).length + t.size ≤ 9223372036854775807 := by have := enc_len t.size (by omega); omega
  go_enter Try.func11, Try.ntmps11
  go_wp2_with (go_at_call 9; refine (putNum_any s t.size _ (by omega) hs).mono ?_; rintro e w' ⟨rfl, hb⟩)
  go_ret
  exact ⟨rfl, hb⟩

theorem newReader_any (s : ByteArray) (w : World) (hs : s.size ≤ 140737488351232) :
    Calls Try.prog 14 #[.string s] w fun e w' => e = .returned (.pointer (some ⟨w.heap.size + 1, 0, none⟩)) ∧ RdAt w' (w.heap.size + 1) s.data.toList false ∧ w.grownBy w' none := by
  obtain ⟨cap, w1, hcap, hcv, hz, hb, hg⟩ := run_conv_bytes (P := Try.prog) w 9 27 5 s Try.underlying9 Try.underlying27 Try.underlying5
  go_enter Try.func14, Try.ntmps14
  go_wp2
  go_ret
  refine ⟨rfl, ⟨by simpa using hs, .slice (some ⟨w.heap.size, 0, none⟩) s.size cap, ?_, Or.inr ⟨w.heap.size, 0, cap, rfl, by simp, by simpa using hcap, ?_⟩⟩, ?_⟩
  · have := arrAt_alloc w1 #[.slice (some ⟨w.heap.size, 0, none⟩) s.size cap, .bool false] 45 [.slice (some ⟨w.heap.size, 0, none⟩) s.size cap, .bool false] rfl
    rwa [hz] at this
  · exact hb.same (Below.heap_alloc _ _ _ (by omega))
  · exact ⟨hg.os, hg.tape, hg.output, by simp; omega, fun k hk hn => by rw [Below.heap_alloc _ _ _ (by omega)]; exact hg.block k hk hn⟩

/-- What take does where so many bytes stand there. -/
def Took (w : World) (p : Nat) (l : List UInt8) (lost : Bool) (r : Nat) (e : Ending) (w' : World) : Prop :=
  ∃ b off cap, e = .returned (.slice (some ⟨b, off, none⟩) r cap) ∧ BytesAt w' b off (l.take r) ∧ RdAt w' p (l.drop r) lost ∧ w.grownBy w' (some p)
/-- .. and where they don't: the reader is lost. -/
def TookNo (w : World) (p : Nat) (e : Ending) (w' : World) : Prop :=
  e = .returned (.slice none 0 0) ∧ RdAt w' p [] true ∧ w.grownBy w' (some p)

theorem grownBy_setCell (w : World) (b i : Nat) (v : Value) : w.grownBy (w.setCell ⟨b, i, none⟩ v) (some b) :=
  ⟨rfl, rfl, rfl, by simp [World.setCell], fun k _ hk => Below.heap_setCell _ _ _ _ (fun e => hk (by simp [e]))⟩

theorem World.grownBy_trans {w w1 w2 : World} {row : Option Nat} (h : w.grownBy w1 row) (k : w1.grownBy w2 row) : w.grownBy w2 row :=
  ⟨k.os.trans h.os, k.tape.trans h.tape, k.output.trans h.output, Nat.le_trans h.size k.size, fun i hi hr => (k.block i (Nat.lt_of_lt_of_le hi h.size) hr).trans (h.block i hi hr)⟩

theorem took_mk {w w' : World} {p b off cap r : Nat} {l : List UInt8} {lost : Bool} {e : Ending} {u : Value} (ha : ArrAt w p 45 [.slice (some ⟨b, off, none⟩) l.length cap, .bool lost]) (hbp : b + 1 = p) (hl : l.length ≤ 140737488351232) (hby : BytesAt w b off l) (hle : r ≤ l.length) (hcap : l.length ≤ cap)
    (hu : ¬ cap = r → u = .slice (some ⟨b, off + r, none⟩) (l.length - r) (cap - r)) (he : e = .returned (.slice (some ⟨b, off, none⟩) r cap)) (hw : w' = w.setCell ⟨p, 0, none⟩ u) (hu0 : cap = r → ∃ a c, u = .slice a 0 c) : Took w p l lost r e w' := by
  subst hw
  have hby' : BytesAt (w.setCell ⟨p, 0, none⟩ u) b off l := hby.same (Below.heap_setCell _ _ _ _ (by simp; omega))
  refine ⟨b, off, cap, he, hby'.take r, ⟨by simp; omega, u, by simpa using ha.set 0 u, ?_⟩, grownBy_setCell _ _ _ _⟩
  by_cases hc : cap = r
  · exact Or.inl ⟨List.drop_eq_nil_of_le (by omega), hu0 hc⟩
  · exact Or.inr ⟨b, off + r, cap - r, hbp, by rw [hu hc]; simp, by simp; omega, hby'.drop r⟩

theorem tookNo_mk {w w' : World} {p : Nat} {lost : Bool} {e : Ending} {v : Value} (ha : ArrAt w p 45 [v, .bool lost]) (he : e = .returned (.slice none 0 0)) (hw : w' = (w.setCell ⟨p, 0, none⟩ (.slice none 0 0)).setCell ⟨p, 1, none⟩ (.bool true)) : TookNo w p e w' := by
  subst hw
  exact ⟨he, ⟨by simp, .slice none 0 0, by simpa using (ha.set 0 (.slice none 0 0)).set 1 (.bool true), Or.inl ⟨rfl, none, 0, rfl⟩⟩, World.grownBy_trans (grownBy_setCell _ _ _ _) (grownBy_setCell _ _ _ _)⟩

def MinIs (m : Nat) (w : World) (e : Ending) (w' : World) : Prop := e = .returned (.int .i64 m) ∧ w = w'

theorem closure_le (q n : Nat) (a : Option Addr) (len cap : Nat) (w : World) (hq : ArrAt w q 22 [.int .u64 n]) (hn2 : n < 18446744073709551616) (hle : n ≤ len) (hlen : len ≤ 140737488351232) :
    Calls Try.prog 26 #[.slice a len cap, .pointer (some ⟨q, 0, none⟩)] w (MinIs n w) := by
  have c0 := hq.cell (v := .int .u64 n) 0 rfl
  go_enter Try.func26, Try.ntmps26
  go_wp2
  go_ret
  exact ⟨rfl, rfl⟩

theorem closure_gt (q n : Nat) (a : Option Addr) (len cap : Nat) (w : World) (hq : ArrAt w q 22 [.int .u64 n]) (hn2 : n < 18446744073709551616) (hgt : len < n) (hlen : len ≤ 140737488351232) :
    Calls Try.prog 26 #[.slice a len cap, .pointer (some ⟨q, 0, none⟩)] w (MinIs (len + 1) w) := by
  have c0 := hq.cell (v := .int .u64 n) 0 rfl
  by_cases he : n = len + 1
  · subst he
    go_enter Try.func26, Try.ntmps26
    go_wp2
    go_ret
    exact ⟨rfl, rfl⟩
  · go_enter Try.func26, Try.ntmps26
    go_wp2
    go_ret
    exact ⟨rfl, rfl⟩

set_option maxHeartbeats 1000000 in
theorem take_row (p : Nat) (l : List UInt8) (lost : Bool) (w : World) (h : RdAt w p l lost)  (hr : 0 < rowLen l) (hle : rowLen l ≤ l.length) :
    Calls Try.prog 23 #[.pointer (some ⟨p, 0, none⟩), .func (.func 24) #[] #[]] w (Took w p l lost (rowLen l)) := by
  obtain ⟨hl, sl, ha, hs⟩ := h
  rcases hs with ⟨rfl, _⟩ | ⟨b, off, cap, hbp, rfl, hcap, hby⟩
  · exact absurd hle (by simp; omega)
  have hrow := row_any w b off cap l hl hby
  obtain ⟨r, hr'⟩ : ∃ r, r = rowLen l := ⟨_, rfl⟩
  rw [← hr'] at hr hle hrow ⊢
  have c0 := ha.cell (v := .slice (some ⟨b, off, none⟩) l.length cap) 0 rfl
  have c1 := ha.cell (v := .bool lost) 1 rfl
  have f0 := ha.free 0
  clear hr'
  by_cases hcr : cap = r
  · subst hcr
    go_enter Try.func23, Try.ntmps23
    go_wp2_with (go_at_call 24; refine hrow.mono ?_; rintro e w' ⟨rfl, rfl⟩)
    go_ret
    exact took_mk ha hbp hl hby hle hcap (fun h => absurd rfl h) rfl rfl (fun _ => ⟨_, _, rfl⟩)
  · go_enter Try.func23, Try.ntmps23
    go_wp2_with (go_at_call 24; refine hrow.mono ?_; rintro e w' ⟨rfl, rfl⟩)
    go_ret
    exact took_mk ha hbp hl hby hle hcap (fun _ => rfl) rfl rfl (fun h => absurd h hcr)

set_option maxHeartbeats 1000000 in
theorem take_text (p : Nat) (l : List UInt8) (lost : Bool) (w : World) (h : RdAt w p l lost) (q n : Nat) (hq : ArrAt w q 22 [.int .u64 n]) (hn : 0 < n) (hn2 : n < 18446744073709551616) (hr : 0 < n) (hle : n ≤ l.length) :
    Calls Try.prog 23 #[.pointer (some ⟨p, 0, none⟩), .func (.func 26) #[] #[.pointer (some ⟨q, 0, none⟩)]] w (Took w p l lost (n)) := by
  obtain ⟨hl, sl, ha, hs⟩ := h
  rcases hs with ⟨rfl, _⟩ | ⟨b, off, cap, hbp, rfl, hcap, hby⟩
  · exact absurd hle (by simp; omega)
  have hrow := closure_le q n (some ⟨b, off, none⟩) l.length cap w hq hn2 hle (by omega)
  obtain ⟨r, hr'⟩ : ∃ r, r = n := ⟨_, rfl⟩
  rw [← hr'] at hr hle hrow ⊢
  have c0 := ha.cell (v := .slice (some ⟨b, off, none⟩) l.length cap) 0 rfl
  have c1 := ha.cell (v := .bool lost) 1 rfl
  have f0 := ha.free 0
  clear hr'
  by_cases hcr : cap = r
  · subst hcr
    go_enter Try.func23, Try.ntmps23
    go_wp2_with (go_at_call 26; refine hrow.mono ?_; rintro e w' ⟨rfl, rfl⟩)
    go_ret
    exact took_mk ha hbp hl hby hle hcap (fun h => absurd rfl h) rfl rfl (fun _ => ⟨_, _, rfl⟩)
  · go_enter Try.func23, Try.ntmps23
    go_wp2_with (go_at_call 26; refine hrow.mono ?_; rintro e w' ⟨rfl, rfl⟩)
    go_ret
    exact took_mk ha hbp hl hby hle hcap (fun _ => rfl) rfl rfl (fun h => absurd h hcr)

set_option maxHeartbeats 1000000 in
theorem takeno_row (p : Nat) (l : List UInt8) (lost : Bool) (w : World) (h : RdAt w p l lost)  (hr : rowLen l = 0) :
    Calls Try.prog 23 #[.pointer (some ⟨p, 0, none⟩), .func (.func 24) #[] #[]] w (TookNo w p) := by
  obtain ⟨hl, sl, ha, hs⟩ := h
  rcases hs with ⟨rfl, a, cap, rfl⟩ | ⟨b, off, cap, hbp, rfl, hcap, hby⟩
  · have hrow := row_empty a cap w
    have c0 := ha.cell (v := .slice a 0 cap) 0 rfl
    have c1 := ha.cell (v := .bool lost) 1 rfl
    have f0 := ha.free 0
    have f1 := ha.free 1
    have c1' : (w.setCell ⟨p, 0, none⟩ (.slice none 0 0)).cell? ⟨p, 1, none⟩ = some (.bool lost) := (ha.set 0 _).cell 1 rfl
    go_enter Try.func23, Try.ntmps23
    go_wp2_with (go_at_call 24; refine hrow.mono ?_; rintro e w' ⟨rfl, rfl⟩)
    go_ret
    exact tookNo_mk ha rfl rfl
  · have hrow := row_any w b off cap l hl hby
    have c0 := ha.cell (v := .slice (some ⟨b, off, none⟩) l.length cap) 0 rfl
    have c1 := ha.cell (v := .bool lost) 1 rfl
    have f0 := ha.free 0
    have f1 := ha.free 1
    have c1' : (w.setCell ⟨p, 0, none⟩ (.slice none 0 0)).cell? ⟨p, 1, none⟩ = some (.bool lost) := (ha.set 0 _).cell 1 rfl
    rw [hr] at hrow
    go_enter Try.func23, Try.ntmps23
    go_wp2_with (go_at_call 24; refine hrow.mono ?_; rintro e w' ⟨rfl, rfl⟩)
    go_ret
    exact tookNo_mk ha rfl rfl

set_option maxHeartbeats 1000000 in
theorem takeno_text (p : Nat) (l : List UInt8) (lost : Bool) (w : World) (h : RdAt w p l lost) (q n : Nat) (hq : ArrAt w q 22 [.int .u64 n]) (hn : 0 < n) (hn2 : n < 18446744073709551616) (hr : l.length < n) :
    Calls Try.prog 23 #[.pointer (some ⟨p, 0, none⟩), .func (.func 26) #[] #[.pointer (some ⟨q, 0, none⟩)]] w (TookNo w p) := by
  obtain ⟨hl, sl, ha, hs⟩ := h
  rcases hs with ⟨rfl, a, cap, rfl⟩ | ⟨b, off, cap, hbp, rfl, hcap, hby⟩
  · have hrow := closure_gt q n a 0 cap w hq hn2 hn (by omega)
    have c0 := ha.cell (v := .slice a 0 cap) 0 rfl
    have c1 := ha.cell (v := .bool lost) 1 rfl
    have f0 := ha.free 0
    have f1 := ha.free 1
    have c1' : (w.setCell ⟨p, 0, none⟩ (.slice none 0 0)).cell? ⟨p, 1, none⟩ = some (.bool lost) := (ha.set 0 _).cell 1 rfl
    go_enter Try.func23, Try.ntmps23
    go_wp2_with (go_at_call 26; refine hrow.mono ?_; rintro e w' ⟨rfl, rfl⟩)
    go_ret
    exact tookNo_mk ha rfl rfl
  · have hrow := closure_gt q n (some ⟨b, off, none⟩) l.length cap w hq hn2 hr (by omega)
    have c0 := ha.cell (v := .slice (some ⟨b, off, none⟩) l.length cap) 0 rfl
    have c1 := ha.cell (v := .bool lost) 1 rfl
    have f0 := ha.free 0
    have f1 := ha.free 1
    have c1' : (w.setCell ⟨p, 0, none⟩ (.slice none 0 0)).cell? ⟨p, 1, none⟩ = some (.bool lost) := (ha.set 0 _).cell 1 rfl
    go_enter Try.func23, Try.ntmps23
    go_wp2_with (go_at_call 26; refine hrow.mono ?_; rintro e w' ⟨rfl, rfl⟩)
    go_ret
    exact tookNo_mk ha rfl rfl



end Go.Proofs.Ythhpaceolnpcnaa
