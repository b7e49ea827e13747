/- The reader and the search of expressions, plain: what the program's functions compute, on lists. No program in sight. -/
namespace Go.Proofs.Ytnhlinkkfoojmaa
set_option linter.unusedVariables false

/-- A step: its set (256 long), its kind, a number. Kinds: 0 takes, 1 begins, 2 ends, 3 splits, 4 goes, 5 marks, 6 done. -/
structure Stp where
  has : List Bool
  kind : Nat
  to : Nat
deriving DecidableEq, Inhabited

def noSet : List Bool := List.replicate 256 false
def oneSet (c : UInt8) : List Bool := noSet.set c.toNat true
/-- The bytes from a to b come in. -/
def addRange (a b : UInt8) (h : List Bool) : List Bool := (List.range (b.toNat + 1 - a.toNat)).foldl (fun h k => h.set (a.toNat + k) true) h

/-- The reader. -/
structure Rdr where
  l : List Stp
  groups : Nat
  i : Nat
  deep : Nat
  first : Bool
deriving DecidableEq, Inhabited

def Rdr.add (r : Rdr) (s : Stp) : Rdr := { r with l := r.l ++ [s] }
def Rdr.at' (s : List UInt8) (r : Rdr) (t : List UInt8) : Bool := t.isPrefixOf (s.drop r.i)
def Rdr.single (r : Rdr) (c : UInt8) : Rdr := r.add ⟨oneSet c, 0, 0⟩
def Rdr.point (r : Rdr) : Rdr := r.add ⟨List.replicate 256 true, 0, 0⟩

/-- The bytes of a set, as they are written. -/
def setOf : List UInt8 → List Bool → Option (List Bool)
  | a :: 45 :: b :: rest, h => if a ≤ b then setOf rest (addRange a b h) else none
  | a :: rest, h => setOf rest (h.set a.toNat true)
  | [], h => some h
termination_by l _ => l.length

def Rdr.square (s : List UInt8) (r : Rdr) : Option Rdr :=
  let neg := r.at' s [94]
  let i := if neg then r.i + 1 else r.i
  if i < s.length then
    match (s.drop (i + 1)).findIdx? (· == 93) with
    | none => none
    | some j =>
      match setOf ((s.drop i).take (j + 1)) noSet with
      | none => none
      | some h => some ({ r with i := i + (j + 1) + 1 }.add ⟨h.map (· != neg), 0, 0⟩)
  else none

/-- A star behind the steps from one on. -/
def again (l : List Stp) (from_ : Nat) : List Stp :=
  let tail := (l.drop from_).map fun s => if s.kind = 3 ∨ s.kind = 4 then { s with to := s.to + 1 } else s
  l.take from_ ++ [⟨noSet, 3, l.length + 2⟩] ++ tail ++ [⟨noSet, 4, from_⟩]

mutual
/-- Pieces up to the end: the reader, and whether all may match nothing. -/
def pieces : Nat → List UInt8 → Rdr → Bool → Option (Rdr × Bool)
  | 0, _, _, _ => none
  | f + 1, s, r, all =>
    if r.i < s.length ∧ (r.deep = 0 ∨ r.at' s [92, 41] = false) then
      match piece f s r with
      | none => none
      | some (r1, empty, star) =>
        if star = true ∧ r1.at' s [42] = true then
          let r2 := { r1 with i := r1.i + 1 }
          if empty = false ∧ r2.at' s [42] = false then pieces f s { r2 with l := again r2.l r.l.length } (all && true) else none
        else pieces f s r1 (all && empty)
    else some ({ r with first := false }, all)
/-- One piece: may it match nothing, may a star stand behind it. -/
def piece : Nat → List UInt8 → Rdr → Option (Rdr × Bool × Bool)
  | 0, _, _ => none
  | f + 1, s, r =>
    let c := s.getD r.i 0
    let r1 := { r with i := r.i + 1, first := false }
    if c = 94 ∧ r.first = true then
      let r2 := r1.add ⟨noSet, 1, 0⟩
      some ({ r2 with first := r2.at' s [42] }, true, false)
    else if c = 36 ∧ (r1.i = s.length ∨ (0 < r1.deep ∧ r1.at' s [92, 41] = true)) then some (r1.add ⟨noSet, 2, 0⟩, true, false)
    else if c = 46 then some (r1.point, false, true)
    else if c = 91 then (r1.square s).map fun r2 => (r2, false, true)
    else if c = 92 then (stroke f s r1).map fun x => (x.1, x.2, true)
    else if c ≠ 42 ∨ r.first = true then some (r1.single c, false, true)
    else none
/-- A stroke, and what stands behind it. -/
def stroke : Nat → List UInt8 → Rdr → Option (Rdr × Bool)
  | 0, _, _ => none
  | f + 1, s, r =>
    if r.i < s.length then
      let c := s.getD r.i 0
      let r1 := { r with i := r.i + 1 }
      if c = 40 then group f s r1
      else if c = 110 then some (r1.single 10, false)
      else if c ∈ ([46, 42, 91, 93, 94, 36, 47, 92] : List UInt8) then some (r1.single c, false)
      else none
    else none
/-- A group. -/
def group : Nat → List UInt8 → Rdr → Option (Rdr × Bool)
  | 0, _, _ => none
  | f + 1, s, r =>
    let n := r.groups + 1
    if n ≤ 9 then
      let r1 := { r with groups := n, l := r.l ++ [⟨noSet, 5, 2 * n⟩], deep := r.deep + 1, first := true }
      match pieces f s r1 true with
      | none => none
      | some (r2, empty) =>
        if r2.at' s [92, 41] = true then some ({ r2 with i := r2.i + 2, deep := r2.deep - 1, l := r2.l ++ [⟨noSet, 5, 2 * n + 1⟩] }, empty) else none
    else none
end

/-- An expression: its steps and how many groups it has. -/
def compile (s : List UInt8) : Option (List Stp × Nat) :=
  match pieces (4 * s.length + 8) s ⟨[], 0, 0, 0, true⟩ true with
  | none => none
  | some (r, _) => some (r.l ++ [⟨noSet, 6, 0⟩], r.groups)

/-! ### The search -/
def goesOn (l : List Stp) (n at_ size : Nat) : List Nat :=
  let s := l.getD n default
  if s.kind = 1 then (if 0 < at_ then [] else [n + 1])
  else if s.kind = 2 then (if at_ < size then [] else [n + 1])
  else if s.kind = 3 then [n + 1, s.to]
  else if s.kind = 4 then [s.to]
  else if s.kind = 5 then [n + 1]
  else []

/-- Fronts: where the part begins, by steps. -/
abbrev Front := List (Option Nat)
def Front.old (f : Front) (n begin_ : Nat) : Bool := match f.getD n none with | some b => decide (b ≤ begin_) | none => false

mutual
def enter : Nat → List Stp → Front → Nat → Nat → Nat → Nat → Front
  | 0, _, f, _, _, _, _ => f
  | u + 1, l, f, n, begin_, at_, size => if f.old n begin_ then f else enterAll u l (f.set n (some begin_)) (goesOn l n at_ size) begin_ at_ size
def enterAll : Nat → List Stp → Front → List Nat → Nat → Nat → Nat → Front
  | _, _, f, [], _, _, _ => f
  | 0, _, f, _ :: _, _, _, _ => f
  | u + 1, l, f, k :: ks, begin_, at_, size => enterAll u l (enter u l f k begin_ at_ size) ks begin_ at_ size
end
def fuelOf (l : List Stp) : Nat := 4 * l.length + 8
def blank (l : List Stp) : Front := List.replicate l.length none

/-- One byte further on. -/
def nextFront (l : List Stp) (f : Front) (c : UInt8) (at_ size : Nat) : Front × Bool :=
  (List.range l.length).foldl (fun (x : Front × Bool) n =>
    match f.getD n none with
    | some b => if (l.getD n default).kind = 0 ∧ (l.getD n default).has.getD c.toNat false = true then (enter (fuelOf l) l x.1 (n + 1) b (at_ + 1) size, true) else x
    | none => x) (blank l, false)

def wholeLoop : Nat → List Stp → List UInt8 → Front → Nat → Option (Nat × Nat) → Option (Nat × Nat)
  | 0, _, _, _, _, sp => sp
  | u + 1, l, s, f, at_, sp =>
    let f1 := if sp.isNone then enter (fuelOf l) l f 0 at_ at_ s.length else f
    let sp1 := match f1.getD (l.length - 1) none with
      | some b => (match sp with | none => some (b, at_) | some (b0, _) => if b ≤ b0 then some (b, at_) else sp)
      | none => sp
    if at_ = s.length then sp1
    else
      let x := nextFront l f1 (s.getD at_ 0) at_ s.length
      if x.2 || sp1.isNone then wholeLoop u l s x.1 (at_ + 1) sp1 else sp1
def whole (l : List Stp) (s : List UInt8) (from_ : Nat) : Option (Nat × Nat) := wholeLoop (s.length + 2) l s (blank l) from_ none

/-- From which steps the part's end can be reached: one round at a place, the next place's answer at hand. -/
def canStep (l : List Stp) (s : List UInt8) (hi at_ : Nat) (nxt : List Bool) (cur : List Bool) (n : Nat) : Bool :=
  let x := l.getD n default
  if x.kind = 0 then decide (at_ < hi) && x.has.getD (s.getD at_ 0).toNat false && nxt.getD (n + 1) false
  else if x.kind = 6 then decide (at_ = hi)
  else (goesOn l n at_ s.length).any fun k => cur.getD k false
def reachRound (l : List Stp) (s : List UInt8) (hi at_ : Nat) (nxt : List Bool) (cur : List Bool) : List Bool :=
  (List.range l.length).reverse.foldl (fun cur n => cur.set n (cur.getD n false || canStep l s hi at_ nxt cur n)) cur
def reachAt (l : List Stp) (s : List UInt8) (hi at_ : Nat) (nxt : List Bool) : List Bool :=
  (List.range 11).foldl (fun cur _ => reachRound l s hi at_ nxt cur) (List.replicate l.length false)
/-- .. of each place from at_ up to the end, the first ahead. -/
def reach (l : List Stp) (s : List UInt8) (hi : Nat) : Nat → Nat → List (List Bool)
  | 0, at_ => [reachAt l s hi at_ []]
  | d + 1, at_ => let r := reach l s hi d (at_ + 1); reachAt l s hi at_ (r.headD []) :: r

def places : Nat → List Stp → List UInt8 → Nat → List (List Bool) → Nat → Nat → List (Int × Int) → List (Int × Int)
  | 0, _, _, _, _, _, _, out => out
  | u + 1, l, s, lo, can, n, at_, out =>
    let x := l.getD n default
    if x.kind = 6 then out
    else if x.kind = 0 then places u l s lo can (n + 1) (at_ + 1) out
    else if x.kind = 5 then
      let o := out.getD (x.to / 2) (-1, -1)
      places u l s lo can (n + 1) at_ (out.set (x.to / 2) (if x.to % 2 = 0 then ((at_ : Int), o.2) else (o.1, (at_ : Int))))
    else if x.kind = 3 then (if (can.getD (at_ - lo) []).getD (n + 1) false then places u l s lo can (n + 1) at_ out else places u l s lo can x.to at_ out)
    else if x.kind = 4 then places u l s lo can x.to at_ out
    else places u l s lo can (n + 1) at_ out

def find (l : List Stp) (groups : Nat) (s : List UInt8) (from_ : Nat) : Option (List (Int × Int)) :=
  if s.length < from_ then none
  else match whole l s from_ with
    | none => none
    | some (lo, hi) =>
      let out := (List.replicate (groups + 1) ((-1 : Int), (-1 : Int))).set 0 ((lo : Int), (hi : Int))
      some (places ((hi - lo + 1) * (4 * l.length + 4)) l s lo (reach l s hi (hi - lo) lo) 0 lo out)
end Go.Proofs.Ytnhlinkkfoojmaa
