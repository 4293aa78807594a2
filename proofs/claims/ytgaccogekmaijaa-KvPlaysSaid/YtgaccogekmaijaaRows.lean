/-
  No cell of these rows narrows 'for every input' (looked for: loops, veiled, ifaces, maps, wideKeys, modest, calm, conditions, laid).
  DERIVED. THE GIVEN ROWS OF THIS SEAT. 5 by the template 'for every input the law returns true; each argument reads behind the call as it read before'; 0 by the template 'total and deterministic' (their statements: YtgaccogekmaijaaTotals.lean).
  GIVEN WITH THE SEED: the statements are not yours to turn. If you find one false, say at which input.
  Laid BY PROGRAM, IN A SANDBOX (cutbox-rows.mjs): the forced cells as the released guide's own fill.sh prints them over the translation 49b1d322164efa71… (all of the seat's roots in one cut). By AI agents, Wed Nov 11 2026. No macro, syntax, notation, axiom, sorry.
-/
import Derived.Test.YtgaccogekmaijaaChecked
import GoSem.Claim
import GoSem.ClaimJoined
import GoSem.ClaimMapViews
import Derived.JoinedTies
import Derived.KernelRfl
namespace Go.Proofs.Ytgaccogekmaijaa
/- THE CELL 'sum', in the pinned program and in every row, IS THE sha256 OF THE DUMP (.gsa) THAT YtgaccogekmaijaaProg.lean LOADS. Nothing in Lean hashes anything: it is a label: what it is worth is what the hold of that sum in a sandbox is worth. -/
noncomputable def Try.pinned : Pinned := { name := "ytgaccogekmaijaa", sum := "49b1d322164efa718cdfce129f1271b1670272775a784ef440dc8063733c8697", checked := Try.checked }
namespace Rows
def none {H : Type} : Left H := { results := [], args := [] }

/-- 'frankinglaw7.KvRange': WHATEVER THE INPUT: true; the input reads as it did. -/
def kvRangeSpec : ChangeSpec := { name := "kvRange", fn := fun _ => fun
  | [d1, d2] => { results := [.lit (.bool true)], args := [d1, d2] }
  | _ => none }
def kvRangeRow : OpenClaim := { program := "ytgaccogekmaijaa", sum := "49b1d322164efa718cdfce129f1271b1670272775a784ef440dc8063733c8697", func := "franking/frankinglaw7.KvRange", spec := "kvRange", inPlace := ["slices.overlaps[string]"], unfollowed := true, recurses := true, apart := false }
def KvRangeSaid : Prop := kvRangeRow.holds Try.pinned (OpenSpec.ofChange kvRangeSpec)

/-- ITS FALSE NEIGHBOUR: 'it returns false'. Refute it at one input. -/
def kvRangeWrong : ChangeSpec := { name := "kvRange", fn := fun _ => fun
  | [d1, d2] => { results := [.lit (.bool false)], args := [d1, d2] }
  | _ => none }
def KvRangeWrongFalsely : Prop := kvRangeRow.holds Try.pinned (OpenSpec.ofChange kvRangeWrong)

/-- 'frankinglaw7.KvApart': WHATEVER THE INPUT: true; the input reads as it did. -/
def kvApartSpec : ChangeSpec := { name := "kvApart", fn := fun _ => fun
  | [d] => { results := [.lit (.bool true)], args := [d] }
  | _ => none }
def kvApartRow : OpenClaim := { program := "ytgaccogekmaijaa", sum := "49b1d322164efa718cdfce129f1271b1670272775a784ef440dc8063733c8697", func := "franking/frankinglaw7.KvApart", spec := "kvApart", inPlace := ["slices.overlaps[string]"], unfollowed := true, recurses := true, apart := false }
def KvApartSaid : Prop := kvApartRow.holds Try.pinned (OpenSpec.ofChange kvApartSpec)

/-- ITS FALSE NEIGHBOUR: 'it returns false'. Refute it at one input. -/
def kvApartWrong : ChangeSpec := { name := "kvApart", fn := fun _ => fun
  | [d] => { results := [.lit (.bool false)], args := [d] }
  | _ => none }
def KvApartWrongFalsely : Prop := kvApartRow.holds Try.pinned (OpenSpec.ofChange kvApartWrong)

/-- 'frankinglaw7.KvKnown': WHATEVER THE INPUT: true; the input reads as it did. -/
def kvKnownSpec : ChangeSpec := { name := "kvKnown", fn := fun _ => fun
  | [] => { results := [.lit (.bool true)], args := [] }
  | _ => none }
def kvKnownRow : OpenClaim := { program := "ytgaccogekmaijaa", sum := "49b1d322164efa718cdfce129f1271b1670272775a784ef440dc8063733c8697", func := "franking/frankinglaw7.KvKnown", spec := "kvKnown", inPlace := ["slices.overlaps[string]"], unfollowed := true, recurses := true, apart := false }
def KvKnownSaid : Prop := kvKnownRow.holds Try.pinned (OpenSpec.ofChange kvKnownSpec)

/-- ITS FALSE NEIGHBOUR: 'it returns false'. Refute it at one input. -/
def kvKnownWrong : ChangeSpec := { name := "kvKnown", fn := fun _ => fun
  | [] => { results := [.lit (.bool false)], args := [] }
  | _ => none }
def KvKnownWrongFalsely : Prop := kvKnownRow.holds Try.pinned (OpenSpec.ofChange kvKnownWrong)

/-- 'frankinglaw7.KvPlays': WHATEVER THE INPUT: true; the input reads as it did. -/
def kvPlaysSpec : ChangeSpec := { name := "kvPlays", fn := fun _ => fun
  | [d1, d2, d3, d4, d5] => { results := [.lit (.bool true)], args := [d1, d2, d3, d4, d5] }
  | _ => none }
def kvPlaysRow : OpenClaim := { program := "ytgaccogekmaijaa", sum := "49b1d322164efa718cdfce129f1271b1670272775a784ef440dc8063733c8697", func := "franking/frankinglaw7.KvPlays", spec := "kvPlays", inPlace := ["slices.overlaps[string]"], unfollowed := true, recurses := true, apart := false }
def KvPlaysSaid : Prop := kvPlaysRow.holds Try.pinned (OpenSpec.ofChange kvPlaysSpec)

/-- ITS FALSE NEIGHBOUR: 'it returns false'. Refute it at one input. -/
def kvPlaysWrong : ChangeSpec := { name := "kvPlays", fn := fun _ => fun
  | [d1, d2, d3, d4, d5] => { results := [.lit (.bool false)], args := [d1, d2, d3, d4, d5] }
  | _ => none }
def KvPlaysWrongFalsely : Prop := kvPlaysRow.holds Try.pinned (OpenSpec.ofChange kvPlaysWrong)

/-- 'frankinglaw7.KvBack': WHATEVER THE INPUT: true; the input reads as it did. -/
def kvBackSpec : ChangeSpec := { name := "kvBack", fn := fun _ => fun
  | [d] => { results := [.lit (.bool true)], args := [d] }
  | _ => none }
def kvBackRow : OpenClaim := { program := "ytgaccogekmaijaa", sum := "49b1d322164efa718cdfce129f1271b1670272775a784ef440dc8063733c8697", func := "franking/frankinglaw7.KvBack", spec := "kvBack", inPlace := ["slices.overlaps[string]"], unfollowed := true, recurses := true, apart := false }
def KvBackSaid : Prop := kvBackRow.holds Try.pinned (OpenSpec.ofChange kvBackSpec)

/-- ITS FALSE NEIGHBOUR: 'it returns false'. Refute it at one input. -/
def kvBackWrong : ChangeSpec := { name := "kvBack", fn := fun _ => fun
  | [d] => { results := [.lit (.bool false)], args := [d] }
  | _ => none }
def KvBackWrongFalsely : Prop := kvBackRow.holds Try.pinned (OpenSpec.ofChange kvBackWrong)

/- THE SECOND FORM. 'bulk': how many values and letters a reading holds, each counted each time it is reached (what is shared counts as often as it is met; a slice's spare places count too). A statement '..UptoSaid' is the law's where the arguments, and the package variables that the reading takes, are together of bulk at most 1048576: NARROWER than '..Said'. Prove '..Said' where nothing that the law and all that it calls make is longer than what came in: it says more and counts as full. Else prove '..UptoSaid'. A law counts once. -/
mutual
def uptoBulk {H : Type} : DataW H → Nat
  | .lit (.string bytes) => bytes.length + 1
  | .lit _ => 1
  | .nil => 1
  | .ptr d => uptoBulk d + 1
  | .slice elems spare => uptoBulkAll elems + uptoBulkAll spare + 1
  | .agg parts => uptoBulkAll parts + 1
  | .iface _ d => uptoBulk d + 1
  | .map entries => uptoBulkEntries entries + 1
  | .held _ => 1
def uptoBulkAll {H : Type} : List (DataW H) → Nat
  | [] => 0
  | d :: r => uptoBulk d + uptoBulkAll r
def uptoBulkEntries {H : Type} : List (Lit × DataW H) → Nat
  | [] => 0
  | x :: r => uptoBulkEntry x + uptoBulkEntries r
def uptoBulkEntry {H : Type} : Lit × DataW H → Nat
  | (.string bytes, d) => bytes.length + uptoBulk d + 1
  | (_, d) => uptoBulk d + 1
 end
def uptoSmall : (H : Type) → List (DataW H) → Bool := fun _ ds => decide (uptoBulkAll ds ≤ 1048576)
def OpenSpec.upto (s : _root_.Go.ChangeSpec) : _root_.Go.OpenSpec := { _root_.Go.OpenSpec.ofChange s with cond := some uptoSmall }

/-- 'frankinglaw7.KvRange', WHERE WHAT IT READS IS OF BULK AT MOST 1048576: true; the input reads as it did. -/
def kvRangeUptoRow : OpenClaim := { program := "ytgaccogekmaijaa", sum := "49b1d322164efa718cdfce129f1271b1670272775a784ef440dc8063733c8697", func := "franking/frankinglaw7.KvRange", spec := "kvRange", inPlace := ["slices.overlaps[string]"], unfollowed := true, recurses := true, apart := false, narrowed := true }
def KvRangeUptoSaid : Prop := kvRangeUptoRow.holds Try.pinned (OpenSpec.upto kvRangeSpec)

/-- 'frankinglaw7.KvApart', WHERE WHAT IT READS IS OF BULK AT MOST 1048576: true; the input reads as it did. -/
def kvApartUptoRow : OpenClaim := { program := "ytgaccogekmaijaa", sum := "49b1d322164efa718cdfce129f1271b1670272775a784ef440dc8063733c8697", func := "franking/frankinglaw7.KvApart", spec := "kvApart", inPlace := ["slices.overlaps[string]"], unfollowed := true, recurses := true, apart := false, narrowed := true }
def KvApartUptoSaid : Prop := kvApartUptoRow.holds Try.pinned (OpenSpec.upto kvApartSpec)

/-- 'frankinglaw7.KvKnown', WHERE WHAT IT READS IS OF BULK AT MOST 1048576: true; the input reads as it did. -/
def kvKnownUptoRow : OpenClaim := { program := "ytgaccogekmaijaa", sum := "49b1d322164efa718cdfce129f1271b1670272775a784ef440dc8063733c8697", func := "franking/frankinglaw7.KvKnown", spec := "kvKnown", inPlace := ["slices.overlaps[string]"], unfollowed := true, recurses := true, apart := false, narrowed := true }
def KvKnownUptoSaid : Prop := kvKnownUptoRow.holds Try.pinned (OpenSpec.upto kvKnownSpec)

/-- 'frankinglaw7.KvPlays', WHERE WHAT IT READS IS OF BULK AT MOST 1048576: true; the input reads as it did. -/
def kvPlaysUptoRow : OpenClaim := { program := "ytgaccogekmaijaa", sum := "49b1d322164efa718cdfce129f1271b1670272775a784ef440dc8063733c8697", func := "franking/frankinglaw7.KvPlays", spec := "kvPlays", inPlace := ["slices.overlaps[string]"], unfollowed := true, recurses := true, apart := false, narrowed := true }
def KvPlaysUptoSaid : Prop := kvPlaysUptoRow.holds Try.pinned (OpenSpec.upto kvPlaysSpec)

/-- 'frankinglaw7.KvBack', WHERE WHAT IT READS IS OF BULK AT MOST 1048576: true; the input reads as it did. -/
def kvBackUptoRow : OpenClaim := { program := "ytgaccogekmaijaa", sum := "49b1d322164efa718cdfce129f1271b1670272775a784ef440dc8063733c8697", func := "franking/frankinglaw7.KvBack", spec := "kvBack", inPlace := ["slices.overlaps[string]"], unfollowed := true, recurses := true, apart := false, narrowed := true }
def KvBackUptoSaid : Prop := kvBackUptoRow.holds Try.pinned (OpenSpec.upto kvBackSpec)

end Rows
end Go.Proofs.Ytgaccogekmaijaa
