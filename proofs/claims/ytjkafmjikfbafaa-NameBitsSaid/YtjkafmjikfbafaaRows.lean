/-
  No cell of these rows narrows 'for every input' (looked for: loops, veiled, ifaces, maps, wideKeys, modest, calm, conditions, laid).
  DERIVED. THE GIVEN ROWS OF THIS SEAT. 10 by the template 'for every input the law returns true; each argument reads behind the call as it read before'; 0 by the template 'total and deterministic' (their statements: YtjkafmjikfbafaaTotals.lean).
  GIVEN WITH THE SEED: the statements are not yours to turn. If you find one false, say at which input.
  Laid BY PROGRAM, IN A SANDBOX (cutbox-rows.mjs): the forced cells as the released guide's own fill.sh prints them over the translation 62dff378d5fecf75… (all of the seat's roots in one cut). By AI agents, Wed Nov 11 2026. No macro, syntax, notation, axiom, sorry.
-/
import Derived.Test.YtjkafmjikfbafaaChecked
import GoSem.Claim
import GoSem.ClaimJoined
import GoSem.ClaimMapViews
import Derived.JoinedTies
import Derived.KernelRfl
namespace Go.Proofs.Ytjkafmjikfbafaa
/- THE CELL 'sum', in the pinned program and in every row, IS THE sha256 OF THE DUMP (.gsa) THAT YtjkafmjikfbafaaProg.lean LOADS. Nothing in Lean hashes anything: it is a label: what it is worth is what the hold of that sum in a sandbox is worth. -/
noncomputable def Try.pinned : Pinned := { name := "ytjkafmjikfbafaa", sum := "62dff378d5fecf7577b9c51917182b10c7800337188ea7de5a50ecf131a2f06c", checked := Try.checked }
namespace Rows
def none {H : Type} : Left H := { results := [], args := [] }

/-- 'whisklaw02.ShaIs': WHATEVER THE INPUT: true; the input reads as it did. -/
def shaIsSpec : ChangeSpec := { name := "shaIs", fn := fun _ => fun
  | [d] => { results := [.lit (.bool true)], args := [d] }
  | _ => none }
def shaIsRow : OpenClaim := { program := "ytjkafmjikfbafaa", sum := "62dff378d5fecf7577b9c51917182b10c7800337188ea7de5a50ecf131a2f06c", func := "whisk/whisklaw02.ShaIs", spec := "shaIs", inPlace := ["math/bits.Add64"], unfollowed := true, recurses := true, apart := false }
def ShaIsSaid : Prop := shaIsRow.holds Try.pinned (OpenSpec.ofChange shaIsSpec)

/-- ITS FALSE NEIGHBOUR: 'it returns false'. Refute it at one input. -/
def shaIsWrong : ChangeSpec := { name := "shaIs", fn := fun _ => fun
  | [d] => { results := [.lit (.bool false)], args := [d] }
  | _ => none }
def ShaIsWrongFalsely : Prop := shaIsRow.holds Try.pinned (OpenSpec.ofChange shaIsWrong)

/-- 'whisklaw02.ShaLong': WHATEVER THE INPUT: true; the input reads as it did. -/
def shaLongSpec : ChangeSpec := { name := "shaLong", fn := fun _ => fun
  | [d1, d2] => { results := [.lit (.bool true)], args := [d1, d2] }
  | _ => none }
def shaLongRow : OpenClaim := { program := "ytjkafmjikfbafaa", sum := "62dff378d5fecf7577b9c51917182b10c7800337188ea7de5a50ecf131a2f06c", func := "whisk/whisklaw02.ShaLong", spec := "shaLong", inPlace := ["math/bits.Add64"], unfollowed := true, recurses := true, apart := false }
def ShaLongSaid : Prop := shaLongRow.holds Try.pinned (OpenSpec.ofChange shaLongSpec)

/-- ITS FALSE NEIGHBOUR: 'it returns false'. Refute it at one input. -/
def shaLongWrong : ChangeSpec := { name := "shaLong", fn := fun _ => fun
  | [d1, d2] => { results := [.lit (.bool false)], args := [d1, d2] }
  | _ => none }
def ShaLongWrongFalsely : Prop := shaLongRow.holds Try.pinned (OpenSpec.ofChange shaLongWrong)

/-- 'whisklaw02.ShaSame': WHATEVER THE INPUT: true; the input reads as it did. -/
def shaSameSpec : ChangeSpec := { name := "shaSame", fn := fun _ => fun
  | [d1, d2] => { results := [.lit (.bool true)], args := [d1, d2] }
  | _ => none }
def shaSameRow : OpenClaim := { program := "ytjkafmjikfbafaa", sum := "62dff378d5fecf7577b9c51917182b10c7800337188ea7de5a50ecf131a2f06c", func := "whisk/whisklaw02.ShaSame", spec := "shaSame", inPlace := ["math/bits.Add64"], unfollowed := true, recurses := true, apart := false }
def ShaSameSaid : Prop := shaSameRow.holds Try.pinned (OpenSpec.ofChange shaSameSpec)

/-- ITS FALSE NEIGHBOUR: 'it returns false'. Refute it at one input. -/
def shaSameWrong : ChangeSpec := { name := "shaSame", fn := fun _ => fun
  | [d1, d2] => { results := [.lit (.bool false)], args := [d1, d2] }
  | _ => none }
def ShaSameWrongFalsely : Prop := shaSameRow.holds Try.pinned (OpenSpec.ofChange shaSameWrong)

/-- 'whisklaw02.ShaApart': WHATEVER THE INPUT: true; the input reads as it did. -/
def shaApartSpec : ChangeSpec := { name := "shaApart", fn := fun _ => fun
  | [d] => { results := [.lit (.bool true)], args := [d] }
  | _ => none }
def shaApartRow : OpenClaim := { program := "ytjkafmjikfbafaa", sum := "62dff378d5fecf7577b9c51917182b10c7800337188ea7de5a50ecf131a2f06c", func := "whisk/whisklaw02.ShaApart", spec := "shaApart", inPlace := ["math/bits.Add64"], unfollowed := true, recurses := true, apart := false }
def ShaApartSaid : Prop := shaApartRow.holds Try.pinned (OpenSpec.ofChange shaApartSpec)

/-- ITS FALSE NEIGHBOUR: 'it returns false'. Refute it at one input. -/
def shaApartWrong : ChangeSpec := { name := "shaApart", fn := fun _ => fun
  | [d] => { results := [.lit (.bool false)], args := [d] }
  | _ => none }
def ShaApartWrongFalsely : Prop := shaApartRow.holds Try.pinned (OpenSpec.ofChange shaApartWrong)

/-- 'whisklaw02.ShaKnown': WHATEVER THE INPUT: true; the input reads as it did. -/
def shaKnownSpec : ChangeSpec := { name := "shaKnown", fn := fun _ => fun
  | [] => { results := [.lit (.bool true)], args := [] }
  | _ => none }
def shaKnownRow : OpenClaim := { program := "ytjkafmjikfbafaa", sum := "62dff378d5fecf7577b9c51917182b10c7800337188ea7de5a50ecf131a2f06c", func := "whisk/whisklaw02.ShaKnown", spec := "shaKnown", inPlace := ["math/bits.Add64"], unfollowed := true, recurses := true, apart := false }
def ShaKnownSaid : Prop := shaKnownRow.holds Try.pinned (OpenSpec.ofChange shaKnownSpec)

/-- ITS FALSE NEIGHBOUR: 'it returns false'. Refute it at one input. -/
def shaKnownWrong : ChangeSpec := { name := "shaKnown", fn := fun _ => fun
  | [] => { results := [.lit (.bool false)], args := [] }
  | _ => none }
def ShaKnownWrongFalsely : Prop := shaKnownRow.holds Try.pinned (OpenSpec.ofChange shaKnownWrong)

/-- 'whisklaw03.NameHashes': WHATEVER THE INPUT: true; the input reads as it did. -/
def nameHashesSpec : ChangeSpec := { name := "nameHashes", fn := fun _ => fun
  | [d] => { results := [.lit (.bool true)], args := [d] }
  | _ => none }
def nameHashesRow : OpenClaim := { program := "ytjkafmjikfbafaa", sum := "62dff378d5fecf7577b9c51917182b10c7800337188ea7de5a50ecf131a2f06c", func := "whisk/whisklaw03.NameHashes", spec := "nameHashes", inPlace := ["math/bits.Add64", "internal/abi.NoEscape", "internal/bytealg.IndexByteString"], unfollowed := true, recurses := true, apart := false }
def NameHashesSaid : Prop := nameHashesRow.holds Try.pinned (OpenSpec.ofChange nameHashesSpec)

/-- ITS FALSE NEIGHBOUR: 'it returns false'. Refute it at one input. -/
def nameHashesWrong : ChangeSpec := { name := "nameHashes", fn := fun _ => fun
  | [d] => { results := [.lit (.bool false)], args := [d] }
  | _ => none }
def NameHashesWrongFalsely : Prop := nameHashesRow.holds Try.pinned (OpenSpec.ofChange nameHashesWrong)

/-- 'whisklaw03.NameAsks': WHATEVER THE INPUT: true; the input reads as it did. -/
def nameAsksSpec : ChangeSpec := { name := "nameAsks", fn := fun _ => fun
  | [d1, d2] => { results := [.lit (.bool true)], args := [d1, d2] }
  | _ => none }
def nameAsksRow : OpenClaim := { program := "ytjkafmjikfbafaa", sum := "62dff378d5fecf7577b9c51917182b10c7800337188ea7de5a50ecf131a2f06c", func := "whisk/whisklaw03.NameAsks", spec := "nameAsks", inPlace := ["internal/bytealg.IndexByteString", "math/bits.Add64", "internal/abi.NoEscape"], unfollowed := true, recurses := true, apart := false }
def NameAsksSaid : Prop := nameAsksRow.holds Try.pinned (OpenSpec.ofChange nameAsksSpec)

/-- ITS FALSE NEIGHBOUR: 'it returns false'. Refute it at one input. -/
def nameAsksWrong : ChangeSpec := { name := "nameAsks", fn := fun _ => fun
  | [d1, d2] => { results := [.lit (.bool false)], args := [d1, d2] }
  | _ => none }
def NameAsksWrongFalsely : Prop := nameAsksRow.holds Try.pinned (OpenSpec.ofChange nameAsksWrong)

/-- 'whisklaw03.NameBits': WHATEVER THE INPUT: true; the input reads as it did. -/
def nameBitsSpec : ChangeSpec := { name := "nameBits", fn := fun _ => fun
  | [d1, d2] => { results := [.lit (.bool true)], args := [d1, d2] }
  | _ => none }
def nameBitsRow : OpenClaim := { program := "ytjkafmjikfbafaa", sum := "62dff378d5fecf7577b9c51917182b10c7800337188ea7de5a50ecf131a2f06c", func := "whisk/whisklaw03.NameBits", spec := "nameBits", inPlace := ["math/bits.Add64", "internal/abi.NoEscape", "internal/bytealg.IndexByteString"], unfollowed := true, recurses := true, apart := false }
def NameBitsSaid : Prop := nameBitsRow.holds Try.pinned (OpenSpec.ofChange nameBitsSpec)

/-- ITS FALSE NEIGHBOUR: 'it returns false'. Refute it at one input. -/
def nameBitsWrong : ChangeSpec := { name := "nameBits", fn := fun _ => fun
  | [d1, d2] => { results := [.lit (.bool false)], args := [d1, d2] }
  | _ => none }
def NameBitsWrongFalsely : Prop := nameBitsRow.holds Try.pinned (OpenSpec.ofChange nameBitsWrong)

/-- 'whisklaw03.NameBack': WHATEVER THE INPUT: true; the input reads as it did. -/
def nameBackSpec : ChangeSpec := { name := "nameBack", fn := fun _ => fun
  | [d1, d2] => { results := [.lit (.bool true)], args := [d1, d2] }
  | _ => none }
def nameBackRow : OpenClaim := { program := "ytjkafmjikfbafaa", sum := "62dff378d5fecf7577b9c51917182b10c7800337188ea7de5a50ecf131a2f06c", func := "whisk/whisklaw03.NameBack", spec := "nameBack", inPlace := ["math/bits.Add64", "internal/abi.NoEscape", "internal/bytealg.IndexByteString"], unfollowed := true, recurses := true, apart := false }
def NameBackSaid : Prop := nameBackRow.holds Try.pinned (OpenSpec.ofChange nameBackSpec)

/-- ITS FALSE NEIGHBOUR: 'it returns false'. Refute it at one input. -/
def nameBackWrong : ChangeSpec := { name := "nameBack", fn := fun _ => fun
  | [d1, d2] => { results := [.lit (.bool false)], args := [d1, d2] }
  | _ => none }
def NameBackWrongFalsely : Prop := nameBackRow.holds Try.pinned (OpenSpec.ofChange nameBackWrong)

/-- 'whisklaw03.NameKnown': WHATEVER THE INPUT: true; the input reads as it did. -/
def nameKnownSpec : ChangeSpec := { name := "nameKnown", fn := fun _ => fun
  | [] => { results := [.lit (.bool true)], args := [] }
  | _ => none }
def nameKnownRow : OpenClaim := { program := "ytjkafmjikfbafaa", sum := "62dff378d5fecf7577b9c51917182b10c7800337188ea7de5a50ecf131a2f06c", func := "whisk/whisklaw03.NameKnown", spec := "nameKnown", inPlace := ["internal/bytealg.IndexByteString", "math/bits.Add64", "internal/abi.NoEscape"], unfollowed := true, recurses := true, apart := false }
def NameKnownSaid : Prop := nameKnownRow.holds Try.pinned (OpenSpec.ofChange nameKnownSpec)

/-- ITS FALSE NEIGHBOUR: 'it returns false'. Refute it at one input. -/
def nameKnownWrong : ChangeSpec := { name := "nameKnown", fn := fun _ => fun
  | [] => { results := [.lit (.bool false)], args := [] }
  | _ => none }
def NameKnownWrongFalsely : Prop := nameKnownRow.holds Try.pinned (OpenSpec.ofChange nameKnownWrong)

/- THE SECOND FORM. 'bulk': how many values and letters a reading holds, each counted each time it is reached (what is shared counts as often as it is met; a slice's spare places count too). A statement '..UptoSaid' is the law's where the arguments, and the package variables that the reading takes, are together of bulk at most 1048576: NARROWER than '..Said'. Prove '..Said' where nothing that the law and all that it calls make is longer than what came in: it says more and counts as full. Else prove '..UptoSaid'. A law counts once. -/
mutual
def uptoBulk {H : Type} : DataW H → Nat
  | .lit (.string bytes) => bytes.length + 1
  | .lit _ => 1
  | .nil => 1
  | .ptr d => uptoBulk d + 1
  | .slice elems spare => uptoBulkAll elems + uptoBulkAll spare + 1
  | .agg parts => uptoBulkAll parts + 1
  | .iface _ d => uptoBulk d + 1
  | .map entries => uptoBulkEntries entries + 1
  | .held _ => 1
def uptoBulkAll {H : Type} : List (DataW H) → Nat
  | [] => 0
  | d :: r => uptoBulk d + uptoBulkAll r
def uptoBulkEntries {H : Type} : List (Lit × DataW H) → Nat
  | [] => 0
  | x :: r => uptoBulkEntry x + uptoBulkEntries r
def uptoBulkEntry {H : Type} : Lit × DataW H → Nat
  | (.string bytes, d) => bytes.length + uptoBulk d + 1
  | (_, d) => uptoBulk d + 1
 end
def uptoSmall : (H : Type) → List (DataW H) → Bool := fun _ ds => decide (uptoBulkAll ds ≤ 1048576)
def OpenSpec.upto (s : _root_.Go.ChangeSpec) : _root_.Go.OpenSpec := { _root_.Go.OpenSpec.ofChange s with cond := some uptoSmall }

/-- 'whisklaw02.ShaIs', WHERE WHAT IT READS IS OF BULK AT MOST 1048576: true; the input reads as it did. -/
def shaIsUptoRow : OpenClaim := { program := "ytjkafmjikfbafaa", sum := "62dff378d5fecf7577b9c51917182b10c7800337188ea7de5a50ecf131a2f06c", func := "whisk/whisklaw02.ShaIs", spec := "shaIs", inPlace := ["math/bits.Add64"], unfollowed := true, recurses := true, apart := false, narrowed := true }
def ShaIsUptoSaid : Prop := shaIsUptoRow.holds Try.pinned (OpenSpec.upto shaIsSpec)

/-- 'whisklaw02.ShaLong', WHERE WHAT IT READS IS OF BULK AT MOST 1048576: true; the input reads as it did. -/
def shaLongUptoRow : OpenClaim := { program := "ytjkafmjikfbafaa", sum := "62dff378d5fecf7577b9c51917182b10c7800337188ea7de5a50ecf131a2f06c", func := "whisk/whisklaw02.ShaLong", spec := "shaLong", inPlace := ["math/bits.Add64"], unfollowed := true, recurses := true, apart := false, narrowed := true }
def ShaLongUptoSaid : Prop := shaLongUptoRow.holds Try.pinned (OpenSpec.upto shaLongSpec)

/-- 'whisklaw02.ShaSame', WHERE WHAT IT READS IS OF BULK AT MOST 1048576: true; the input reads as it did. -/
def shaSameUptoRow : OpenClaim := { program := "ytjkafmjikfbafaa", sum := "62dff378d5fecf7577b9c51917182b10c7800337188ea7de5a50ecf131a2f06c", func := "whisk/whisklaw02.ShaSame", spec := "shaSame", inPlace := ["math/bits.Add64"], unfollowed := true, recurses := true, apart := false, narrowed := true }
def ShaSameUptoSaid : Prop := shaSameUptoRow.holds Try.pinned (OpenSpec.upto shaSameSpec)

/-- 'whisklaw02.ShaApart', WHERE WHAT IT READS IS OF BULK AT MOST 1048576: true; the input reads as it did. -/
def shaApartUptoRow : OpenClaim := { program := "ytjkafmjikfbafaa", sum := "62dff378d5fecf7577b9c51917182b10c7800337188ea7de5a50ecf131a2f06c", func := "whisk/whisklaw02.ShaApart", spec := "shaApart", inPlace := ["math/bits.Add64"], unfollowed := true, recurses := true, apart := false, narrowed := true }
def ShaApartUptoSaid : Prop := shaApartUptoRow.holds Try.pinned (OpenSpec.upto shaApartSpec)

/-- 'whisklaw02.ShaKnown', WHERE WHAT IT READS IS OF BULK AT MOST 1048576: true; the input reads as it did. -/
def shaKnownUptoRow : OpenClaim := { program := "ytjkafmjikfbafaa", sum := "62dff378d5fecf7577b9c51917182b10c7800337188ea7de5a50ecf131a2f06c", func := "whisk/whisklaw02.ShaKnown", spec := "shaKnown", inPlace := ["math/bits.Add64"], unfollowed := true, recurses := true, apart := false, narrowed := true }
def ShaKnownUptoSaid : Prop := shaKnownUptoRow.holds Try.pinned (OpenSpec.upto shaKnownSpec)

/-- 'whisklaw03.NameHashes', WHERE WHAT IT READS IS OF BULK AT MOST 1048576: true; the input reads as it did. -/
def nameHashesUptoRow : OpenClaim := { program := "ytjkafmjikfbafaa", sum := "62dff378d5fecf7577b9c51917182b10c7800337188ea7de5a50ecf131a2f06c", func := "whisk/whisklaw03.NameHashes", spec := "nameHashes", inPlace := ["math/bits.Add64", "internal/abi.NoEscape", "internal/bytealg.IndexByteString"], unfollowed := true, recurses := true, apart := false, narrowed := true }
def NameHashesUptoSaid : Prop := nameHashesUptoRow.holds Try.pinned (OpenSpec.upto nameHashesSpec)

/-- 'whisklaw03.NameAsks', WHERE WHAT IT READS IS OF BULK AT MOST 1048576: true; the input reads as it did. -/
def nameAsksUptoRow : OpenClaim := { program := "ytjkafmjikfbafaa", sum := "62dff378d5fecf7577b9c51917182b10c7800337188ea7de5a50ecf131a2f06c", func := "whisk/whisklaw03.NameAsks", spec := "nameAsks", inPlace := ["internal/bytealg.IndexByteString", "math/bits.Add64", "internal/abi.NoEscape"], unfollowed := true, recurses := true, apart := false, narrowed := true }
def NameAsksUptoSaid : Prop := nameAsksUptoRow.holds Try.pinned (OpenSpec.upto nameAsksSpec)

/-- 'whisklaw03.NameBits', WHERE WHAT IT READS IS OF BULK AT MOST 1048576: true; the input reads as it did. -/
def nameBitsUptoRow : OpenClaim := { program := "ytjkafmjikfbafaa", sum := "62dff378d5fecf7577b9c51917182b10c7800337188ea7de5a50ecf131a2f06c", func := "whisk/whisklaw03.NameBits", spec := "nameBits", inPlace := ["math/bits.Add64", "internal/abi.NoEscape", "internal/bytealg.IndexByteString"], unfollowed := true, recurses := true, apart := false, narrowed := true }
def NameBitsUptoSaid : Prop := nameBitsUptoRow.holds Try.pinned (OpenSpec.upto nameBitsSpec)

/-- 'whisklaw03.NameBack', WHERE WHAT IT READS IS OF BULK AT MOST 1048576: true; the input reads as it did. -/
def nameBackUptoRow : OpenClaim := { program := "ytjkafmjikfbafaa", sum := "62dff378d5fecf7577b9c51917182b10c7800337188ea7de5a50ecf131a2f06c", func := "whisk/whisklaw03.NameBack", spec := "nameBack", inPlace := ["math/bits.Add64", "internal/abi.NoEscape", "internal/bytealg.IndexByteString"], unfollowed := true, recurses := true, apart := false, narrowed := true }
def NameBackUptoSaid : Prop := nameBackUptoRow.holds Try.pinned (OpenSpec.upto nameBackSpec)

/-- 'whisklaw03.NameKnown', WHERE WHAT IT READS IS OF BULK AT MOST 1048576: true; the input reads as it did. -/
def nameKnownUptoRow : OpenClaim := { program := "ytjkafmjikfbafaa", sum := "62dff378d5fecf7577b9c51917182b10c7800337188ea7de5a50ecf131a2f06c", func := "whisk/whisklaw03.NameKnown", spec := "nameKnown", inPlace := ["internal/bytealg.IndexByteString", "math/bits.Add64", "internal/abi.NoEscape"], unfollowed := true, recurses := true, apart := false, narrowed := true }
def NameKnownUptoSaid : Prop := nameKnownUptoRow.holds Try.pinned (OpenSpec.upto nameKnownSpec)

end Rows
end Go.Proofs.Ytjkafmjikfbafaa
