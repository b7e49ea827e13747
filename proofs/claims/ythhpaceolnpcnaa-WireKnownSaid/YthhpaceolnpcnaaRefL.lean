/- The contracts of both readers, over lists of bytes. -/
import Derived.Test.YthhpaceolnpcnaaWorks
namespace Go.Proofs.Ythhpaceolnpcnaa
open Go.RowKit
set_option maxRecDepth 100000
set_option linter.unusedSimpArgs false
set_option linter.unusedVariables false

def ofBytes (l : List UInt8) : ByteArray := ⟨l.toArray⟩
theorem ofBytes_data (l : List UInt8) : (ofBytes l).data.toList = l := rfl
theorem ofBytes_size (l : List UInt8) : (ofBytes l).size = l.length := rfl
theorem eq_ofBytes {s : ByteArray} {l : List UInt8} (h : s.data.toList = l) : s = ofBytes l := by subst h; rfl

theorem numOf_len {l : List UInt8} {lost : Bool} {n : Nat} {l' : List UInt8} {lost' : Bool} (h : numOf l lost = (n, l', lost')) : l'.length ≤ l.length ∧ n < 18446744073709551616 := by
  unfold numOf at h
  cases hr : rd l with
  | none => simp [hr] at h; obtain ⟨rfl, rfl, _⟩ := h; simp
  | some x =>
    obtain ⟨m, r⟩ := x
    simp [hr] at h
    obtain ⟨rfl, rfl, _⟩ := h
    exact ⟨rd_short hr, (rd_inv hr).1⟩

theorem textOf_len {l : List UInt8} {lost : Bool} {t : List UInt8} {l' : List UInt8} {lost' : Bool} (h : textOf l lost = (t, l', lost')) : l'.length ≤ l.length ∧ t.length ≤ l.length := by
  unfold textOf rdText at h
  cases hr : rd l with
  | none => simp [hr] at h; obtain ⟨rfl, rfl, _⟩ := h; simp
  | some x =>
    obtain ⟨m, r⟩ := x
    have := rd_short hr
    by_cases hm : m ≤ r.length
    · simp [hr, hm] at h
      obtain ⟨rfl, rfl, _⟩ := h
      simp; omega
    · simp [hr, hm] at h
      obtain ⟨rfl, rfl, _⟩ := h
      simp

def DNum (w : World) (q n : Nat) (l : List UInt8) (lost : Bool) (e : Ending) (w' : World) : Prop :=
  e = .returned (.int .u64 n) ∧ DAt w' q (ofBytes l) lost ∧ w.grownBy w' (some q)
def DText (w : World) (q : Nat) (t l : List UInt8) (lost : Bool) (e : Ending) (w' : World) : Prop :=
  e = .returned (.string (ofBytes t)) ∧ DAt w' q (ofBytes l) lost ∧ w.grownBy w' (some q)

theorem dnum_is {q : Nat} {l : List UInt8} {lost : Bool} {w : World} (h : DAt w q (ofBytes l) lost) (hl : l.length ≤ 140737488351232) {n : Nat} {l' : List UInt8} {lost' : Bool} (hn : numOf l lost = (n, l', lost')) :
    Calls Try.prog 16 #[.pointer (some ⟨q, 0, none⟩)] w (DNum w q n l' lost') := by
  have := refNum_any q (ofBytes l) lost w h (by rw [ofBytes_size]; exact hl)
  rw [ofBytes_data, hn] at this
  refine this.mono ?_
  rintro e w' ⟨rfl, ⟨s, hs, hd⟩, hg⟩
  rw [eq_ofBytes hs] at hd
  exact ⟨rfl, hd, hg⟩

theorem dtext_is {q : Nat} {l : List UInt8} {lost : Bool} {w : World} (h : DAt w q (ofBytes l) lost) (hl : l.length ≤ 140737488351232) {t : List UInt8} {l' : List UInt8} {lost' : Bool} (hn : textOf l lost = (t, l', lost')) :
    Calls Try.prog 18 #[.pointer (some ⟨q, 0, none⟩)] w (DText w q t l' lost') := by
  have := refText_any q (ofBytes l) lost w h (by rw [ofBytes_size]; exact hl)
  rw [ofBytes_data, hn] at this
  refine this.mono ?_
  rintro e w' ⟨⟨u, hu, rfl⟩, ⟨s, hs, hd⟩, hg⟩
  rw [eq_ofBytes hs] at hd
  rw [eq_ofBytes hu]
  exact ⟨rfl, hd, hg⟩

theorem dend_is {q : Nat} {l : List UInt8} {lost : Bool} {w : World} (h : DAt w q (ofBytes l) lost) :
    Calls Try.prog 22 #[.pointer (some ⟨q, 0, none⟩)] w (BoolIs (!lost && l.isEmpty) w) := by
  have := refEnd_any q (ofBytes l) lost w h
  rw [Lib.toList_data, ofBytes_data] at this
  exact this

theorem DAt.grown {w w' : World} {q : Nat} {s : ByteArray} {lost : Bool} {row : Option Nat} (h : DAt w q s lost) (hg : w.grownBy w' row) (hr : some q ≠ row) : DAt w' q s lost := ArrAt.grown h hg hr
theorem DAt.below {w w' : World} {B q : Nat} {s : ByteArray} {lost : Bool} (h : DAt w q s lost) (hb : Below B w w') (hq : q < B) : DAt w' q s lost := by
  unfold DAt ArrAt; rw [hb.block q hq]; exact h

/-- A cell of a slice of integers that came in. -/
theorem row_get {k : IntKind} {w : World} {x : Addr} {zs : List Int} (hcell : ∀ i, i < zs.length → w.cell? (x.add i) = some (.int k (zs.getD i 0))) (j : Nat) (hj : j < zs.length) :
    ∃ b o, x = ⟨b, o, none⟩ ∧ b < w.heap.size ∧ w.cell? ⟨b, o + j, none⟩ = some (.int k (zs.getD j 0)) := by
  obtain ⟨b, o, spot⟩ := x
  have h0 := hcell 0 (by omega)
  have hspot : spot = none := by simpa [Addr.add] using World.cell?_spot h0
  subst hspot
  have hj' := hcell j hj
  rw [Addr.add_lit] at h0 hj'
  exact ⟨b, o, rfl, World.block_lt_of_cell? _ _ h0, hj'⟩

def PutOut (w : World) (X : ByteArray) (e : Ending) (w' : World) : Prop := e = .returned (.string X) ∧ Below w.heap.size w w'

theorem put_is (n : Nat) (w : World) (hn : n < 18446744073709551616) {X : ByteArray} (hX : X = ofBytes (enc n)) : Calls Try.prog 9 #[.string ⟨#[]⟩, .int .u64 n] w (PutOut w X) := by
  subst hX
  refine (putNum_any ⟨#[]⟩ n w hn (Nat.zero_le _)).mono ?_
  rintro e w' ⟨rfl, hb⟩
  refine ⟨?_, hb⟩
  rw [← mk_append]
  rfl

theorem numOf_enc (n : Nat) (rest : List UInt8) (lost : Bool) (hn : n < 18446744073709551616) : numOf (enc n ++ rest) lost = (n, rest, lost) := by
  simp [numOf, rd_enc n rest hn]


end Go.Proofs.Ythhpaceolnpcnaa
