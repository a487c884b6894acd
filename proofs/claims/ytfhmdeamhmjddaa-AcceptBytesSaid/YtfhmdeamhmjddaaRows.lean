/-
  No cell of these rows narrows 'for every input' (looked for: loops, veiled, ifaces, maps, wideKeys, modest, calm, conditions, laid).
  DERIVED. THE GIVEN ROWS OF THIS SEAT. 5 by the template 'for every input the law returns true; each argument reads behind the call as it read before'; 0 by the template 'total and deterministic' (their statements: YtfhmdeamhmjddaaTotals.lean).
  GIVEN WITH THE SEED: the statements are not yours to turn. If you find one false, say at which input.
  Laid BY PROGRAM, IN A SANDBOX (cutbox-rows.mjs): the forced cells as the released guide's own fill.sh prints them over the translation 9bc50ad6fa38a893… (all of the seat's roots in one cut). By AI agents, Wed Nov 11 2026. No macro, syntax, notation, axiom, sorry.
-/
import Derived.Test.YtfhmdeamhmjddaaChecked
import GoSem.Claim
import GoSem.ClaimJoined
import GoSem.ClaimMapViews
import Derived.JoinedTies
import Derived.KernelRfl
namespace Go.Proofs.Ytfhmdeamhmjddaa
/- THE CELL 'sum', in the pinned program and in every row, IS THE sha256 OF THE DUMP (.gsa) THAT YtfhmdeamhmjddaaProg.lean LOADS. Nothing in Lean hashes anything: it is a label: what it is worth is what the hold of that sum in a sandbox is worth. -/
noncomputable def Try.pinned : Pinned := { name := "ytfhmdeamhmjddaa", sum := "9bc50ad6fa38a8931d0b930d3e3c46883787ca25f8449a7e655e4977b4c30d24", checked := Try.checked }
namespace Rows
def none {H : Type} : Left H := { results := [], args := [] }

/-- 'chatelainelaw16.AcceptDigests': WHATEVER THE INPUT: true; the input reads as it did. -/
def acceptDigestsSpec : ChangeSpec := { name := "acceptDigests", fn := fun _ => fun
  | [d1, d2] => { results := [.lit (.bool true)], args := [d1, d2] }
  | _ => none }
def acceptDigestsRow : OpenClaim := { program := "ytfhmdeamhmjddaa", sum := "9bc50ad6fa38a8931d0b930d3e3c46883787ca25f8449a7e655e4977b4c30d24", func := "chatelaine/chatelainelaw16.AcceptDigests", spec := "acceptDigests", inPlace := ["slices.overlaps[chatelaine/msg.Entry]"], unfollowed := true, recurses := true, apart := false }
def AcceptDigestsSaid : Prop := acceptDigestsRow.holds Try.pinned (OpenSpec.ofChange acceptDigestsSpec)

/-- ITS FALSE NEIGHBOUR: 'it returns false'. Refute it at one input. -/
def acceptDigestsWrong : ChangeSpec := { name := "acceptDigests", fn := fun _ => fun
  | [d1, d2] => { results := [.lit (.bool false)], args := [d1, d2] }
  | _ => none }
def AcceptDigestsWrongFalsely : Prop := acceptDigestsRow.holds Try.pinned (OpenSpec.ofChange acceptDigestsWrong)

/-- 'chatelainelaw16.AcceptKeeps': WHATEVER THE INPUT: true; the input reads as it did. -/
def acceptKeepsSpec : ChangeSpec := { name := "acceptKeeps", fn := fun _ => fun
  | [d1, d2] => { results := [.lit (.bool true)], args := [d1, d2] }
  | _ => none }
def acceptKeepsRow : OpenClaim := { program := "ytfhmdeamhmjddaa", sum := "9bc50ad6fa38a8931d0b930d3e3c46883787ca25f8449a7e655e4977b4c30d24", func := "chatelaine/chatelainelaw16.AcceptKeeps", spec := "acceptKeeps", inPlace := ["slices.overlaps[chatelaine/msg.Entry]"], unfollowed := true, recurses := true, apart := false }
def AcceptKeepsSaid : Prop := acceptKeepsRow.holds Try.pinned (OpenSpec.ofChange acceptKeepsSpec)

/-- ITS FALSE NEIGHBOUR: 'it returns false'. Refute it at one input. -/
def acceptKeepsWrong : ChangeSpec := { name := "acceptKeeps", fn := fun _ => fun
  | [d1, d2] => { results := [.lit (.bool false)], args := [d1, d2] }
  | _ => none }
def AcceptKeepsWrongFalsely : Prop := acceptKeepsRow.holds Try.pinned (OpenSpec.ofChange acceptKeepsWrong)

/-- 'chatelainelaw16.AcceptFull': WHATEVER THE INPUT: true; the input reads as it did. -/
def acceptFullSpec : ChangeSpec := { name := "acceptFull", fn := fun _ => fun
  | [d1, d2, d3] => { results := [.lit (.bool true)], args := [d1, d2, d3] }
  | _ => none }
def acceptFullRow : OpenClaim := { program := "ytfhmdeamhmjddaa", sum := "9bc50ad6fa38a8931d0b930d3e3c46883787ca25f8449a7e655e4977b4c30d24", func := "chatelaine/chatelainelaw16.AcceptFull", spec := "acceptFull", inPlace := ["slices.overlaps[chatelaine/msg.Entry]"], unfollowed := true, recurses := true, apart := false }
def AcceptFullSaid : Prop := acceptFullRow.holds Try.pinned (OpenSpec.ofChange acceptFullSpec)

/-- ITS FALSE NEIGHBOUR: 'it returns false'. Refute it at one input. -/
def acceptFullWrong : ChangeSpec := { name := "acceptFull", fn := fun _ => fun
  | [d1, d2, d3] => { results := [.lit (.bool false)], args := [d1, d2, d3] }
  | _ => none }
def AcceptFullWrongFalsely : Prop := acceptFullRow.holds Try.pinned (OpenSpec.ofChange acceptFullWrong)

/-- 'chatelainelaw16.AcceptPlays': WHATEVER THE INPUT: true; the input reads as it did. -/
def acceptPlaysSpec : ChangeSpec := { name := "acceptPlays", fn := fun _ => fun
  | [d1, d2] => { results := [.lit (.bool true)], args := [d1, d2] }
  | _ => none }
def acceptPlaysRow : OpenClaim := { program := "ytfhmdeamhmjddaa", sum := "9bc50ad6fa38a8931d0b930d3e3c46883787ca25f8449a7e655e4977b4c30d24", func := "chatelaine/chatelainelaw16.AcceptPlays", spec := "acceptPlays", inPlace := ["slices.overlaps[chatelaine/msg.Entry]"], unfollowed := true, recurses := true, apart := false }
def AcceptPlaysSaid : Prop := acceptPlaysRow.holds Try.pinned (OpenSpec.ofChange acceptPlaysSpec)

/-- ITS FALSE NEIGHBOUR: 'it returns false'. Refute it at one input. -/
def acceptPlaysWrong : ChangeSpec := { name := "acceptPlays", fn := fun _ => fun
  | [d1, d2] => { results := [.lit (.bool false)], args := [d1, d2] }
  | _ => none }
def AcceptPlaysWrongFalsely : Prop := acceptPlaysRow.holds Try.pinned (OpenSpec.ofChange acceptPlaysWrong)

/-- 'chatelainelaw16.AcceptBytes': WHATEVER THE INPUT: true; the input reads as it did. -/
def acceptBytesSpec : ChangeSpec := { name := "acceptBytes", fn := fun _ => fun
  | [d1, d2, d3] => { results := [.lit (.bool true)], args := [d1, d2, d3] }
  | _ => none }
def acceptBytesRow : OpenClaim := { program := "ytfhmdeamhmjddaa", sum := "9bc50ad6fa38a8931d0b930d3e3c46883787ca25f8449a7e655e4977b4c30d24", func := "chatelaine/chatelainelaw16.AcceptBytes", spec := "acceptBytes", inPlace := ["slices.overlaps[chatelaine/msg.Entry]"], unfollowed := true, recurses := true, apart := false }
def AcceptBytesSaid : Prop := acceptBytesRow.holds Try.pinned (OpenSpec.ofChange acceptBytesSpec)

/-- ITS FALSE NEIGHBOUR: 'it returns false'. Refute it at one input. -/
def acceptBytesWrong : ChangeSpec := { name := "acceptBytes", fn := fun _ => fun
  | [d1, d2, d3] => { results := [.lit (.bool false)], args := [d1, d2, d3] }
  | _ => none }
def AcceptBytesWrongFalsely : Prop := acceptBytesRow.holds Try.pinned (OpenSpec.ofChange acceptBytesWrong)

/- THE SECOND FORM. 'bulk': how many values and letters a reading holds, each counted each time it is reached (what is shared counts as often as it is met; a slice's spare places count too). A statement '..UptoSaid' is the law's where the arguments, and the package variables that the reading takes, are together of bulk at most 1048576: NARROWER than '..Said'. Prove '..Said' where nothing that the law and all that it calls make is longer than what came in: it says more and counts as full. Else prove '..UptoSaid'. A law counts once. -/
mutual
def uptoBulk {H : Type} : DataW H → Nat
  | .lit (.string bytes) => bytes.length + 1
  | .lit _ => 1
  | .nil => 1
  | .ptr d => uptoBulk d + 1
  | .slice elems spare => uptoBulkAll elems + uptoBulkAll spare + 1
  | .agg parts => uptoBulkAll parts + 1
  | .iface _ d => uptoBulk d + 1
  | .map entries => uptoBulkEntries entries + 1
  | .held _ => 1
def uptoBulkAll {H : Type} : List (DataW H) → Nat
  | [] => 0
  | d :: r => uptoBulk d + uptoBulkAll r
def uptoBulkEntries {H : Type} : List (Lit × DataW H) → Nat
  | [] => 0
  | x :: r => uptoBulkEntry x + uptoBulkEntries r
def uptoBulkEntry {H : Type} : Lit × DataW H → Nat
  | (.string bytes, d) => bytes.length + uptoBulk d + 1
  | (_, d) => uptoBulk d + 1
 end
def uptoSmall : (H : Type) → List (DataW H) → Bool := fun _ ds => decide (uptoBulkAll ds ≤ 1048576)
def OpenSpec.upto (s : _root_.Go.ChangeSpec) : _root_.Go.OpenSpec := { _root_.Go.OpenSpec.ofChange s with cond := some uptoSmall }

/-- 'chatelainelaw16.AcceptDigests', WHERE WHAT IT READS IS OF BULK AT MOST 1048576: true; the input reads as it did. -/
def acceptDigestsUptoRow : OpenClaim := { program := "ytfhmdeamhmjddaa", sum := "9bc50ad6fa38a8931d0b930d3e3c46883787ca25f8449a7e655e4977b4c30d24", func := "chatelaine/chatelainelaw16.AcceptDigests", spec := "acceptDigests", inPlace := ["slices.overlaps[chatelaine/msg.Entry]"], unfollowed := true, recurses := true, apart := false, narrowed := true }
def AcceptDigestsUptoSaid : Prop := acceptDigestsUptoRow.holds Try.pinned (OpenSpec.upto acceptDigestsSpec)

/-- 'chatelainelaw16.AcceptKeeps', WHERE WHAT IT READS IS OF BULK AT MOST 1048576: true; the input reads as it did. -/
def acceptKeepsUptoRow : OpenClaim := { program := "ytfhmdeamhmjddaa", sum := "9bc50ad6fa38a8931d0b930d3e3c46883787ca25f8449a7e655e4977b4c30d24", func := "chatelaine/chatelainelaw16.AcceptKeeps", spec := "acceptKeeps", inPlace := ["slices.overlaps[chatelaine/msg.Entry]"], unfollowed := true, recurses := true, apart := false, narrowed := true }
def AcceptKeepsUptoSaid : Prop := acceptKeepsUptoRow.holds Try.pinned (OpenSpec.upto acceptKeepsSpec)

/-- 'chatelainelaw16.AcceptFull', WHERE WHAT IT READS IS OF BULK AT MOST 1048576: true; the input reads as it did. -/
def acceptFullUptoRow : OpenClaim := { program := "ytfhmdeamhmjddaa", sum := "9bc50ad6fa38a8931d0b930d3e3c46883787ca25f8449a7e655e4977b4c30d24", func := "chatelaine/chatelainelaw16.AcceptFull", spec := "acceptFull", inPlace := ["slices.overlaps[chatelaine/msg.Entry]"], unfollowed := true, recurses := true, apart := false, narrowed := true }
def AcceptFullUptoSaid : Prop := acceptFullUptoRow.holds Try.pinned (OpenSpec.upto acceptFullSpec)

/-- 'chatelainelaw16.AcceptPlays', WHERE WHAT IT READS IS OF BULK AT MOST 1048576: true; the input reads as it did. -/
def acceptPlaysUptoRow : OpenClaim := { program := "ytfhmdeamhmjddaa", sum := "9bc50ad6fa38a8931d0b930d3e3c46883787ca25f8449a7e655e4977b4c30d24", func := "chatelaine/chatelainelaw16.AcceptPlays", spec := "acceptPlays", inPlace := ["slices.overlaps[chatelaine/msg.Entry]"], unfollowed := true, recurses := true, apart := false, narrowed := true }
def AcceptPlaysUptoSaid : Prop := acceptPlaysUptoRow.holds Try.pinned (OpenSpec.upto acceptPlaysSpec)

/-- 'chatelainelaw16.AcceptBytes', WHERE WHAT IT READS IS OF BULK AT MOST 1048576: true; the input reads as it did. -/
def acceptBytesUptoRow : OpenClaim := { program := "ytfhmdeamhmjddaa", sum := "9bc50ad6fa38a8931d0b930d3e3c46883787ca25f8449a7e655e4977b4c30d24", func := "chatelaine/chatelainelaw16.AcceptBytes", spec := "acceptBytes", inPlace := ["slices.overlaps[chatelaine/msg.Entry]"], unfollowed := true, recurses := true, apart := false, narrowed := true }
def AcceptBytesUptoSaid : Prop := acceptBytesUptoRow.holds Try.pinned (OpenSpec.upto acceptBytesSpec)

end Rows
end Go.Proofs.Ytfhmdeamhmjddaa
