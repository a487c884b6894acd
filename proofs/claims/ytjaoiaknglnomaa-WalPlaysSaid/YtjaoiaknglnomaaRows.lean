/-
  No cell of these rows narrows 'for every input' (looked for: loops, veiled, ifaces, maps, wideKeys, modest, calm, conditions, laid).
  DERIVED. THE GIVEN ROWS OF THIS SEAT. 11 by the template 'for every input the law returns true; each argument reads behind the call as it read before'; 0 by the template 'total and deterministic' (their statements: YtjaoiaknglnomaaTotals.lean).
  GIVEN WITH THE SEED: the statements are not yours to turn. If you find one false, say at which input.
  Laid BY PROGRAM, IN A SANDBOX (cutbox-rows.mjs): the forced cells as the released guide's own fill.sh prints them over the translation e69e6bbcbde1001c… (all of the seat's roots in one cut). By AI agents, Wed Nov 11 2026. No macro, syntax, notation, axiom, sorry.
-/
import Derived.Test.YtjaoiaknglnomaaChecked
import GoSem.Claim
import GoSem.ClaimJoined
import GoSem.ClaimMapViews
import Derived.JoinedTies
import Derived.KernelRfl
namespace Go.Proofs.Ytjaoiaknglnomaa
/- THE CELL 'sum', in the pinned program and in every row, IS THE sha256 OF THE DUMP (.gsa) THAT YtjaoiaknglnomaaProg.lean LOADS. Nothing in Lean hashes anything: it is a label: what it is worth is what the hold of that sum in a sandbox is worth. -/
noncomputable def Try.pinned : Pinned := { name := "ytjaoiaknglnomaa", sum := "e69e6bbcbde1001cc2eafb69d298e597b07cc8f7790b4c715b2bbf6f8adb76bc", checked := Try.checked }
namespace Rows
def none {H : Type} : Left H := { results := [], args := [] }

/-- 'chatelainelaw11.DiskKeeps': WHATEVER THE INPUT: true; the input reads as it did. -/
def diskKeepsSpec : ChangeSpec := { name := "diskKeeps", fn := fun _ => fun
  | [d1, d2, d3] => { results := [.lit (.bool true)], args := [d1, d2, d3] }
  | _ => none }
def diskKeepsRow : OpenClaim := { program := "ytjaoiaknglnomaa", sum := "e69e6bbcbde1001cc2eafb69d298e597b07cc8f7790b4c715b2bbf6f8adb76bc", func := "chatelaine/chatelainelaw11.DiskKeeps", spec := "diskKeeps", apart := false }
def DiskKeepsSaid : Prop := diskKeepsRow.holds Try.pinned (OpenSpec.ofChange diskKeepsSpec)

/-- ITS FALSE NEIGHBOUR: 'it returns false'. Refute it at one input. -/
def diskKeepsWrong : ChangeSpec := { name := "diskKeeps", fn := fun _ => fun
  | [d1, d2, d3] => { results := [.lit (.bool false)], args := [d1, d2, d3] }
  | _ => none }
def DiskKeepsWrongFalsely : Prop := diskKeepsRow.holds Try.pinned (OpenSpec.ofChange diskKeepsWrong)

/-- 'chatelainelaw11.DiskRoom': WHATEVER THE INPUT: true; the input reads as it did. -/
def diskRoomSpec : ChangeSpec := { name := "diskRoom", fn := fun _ => fun
  | [d1, d2] => { results := [.lit (.bool true)], args := [d1, d2] }
  | _ => none }
def diskRoomRow : OpenClaim := { program := "ytjaoiaknglnomaa", sum := "e69e6bbcbde1001cc2eafb69d298e597b07cc8f7790b4c715b2bbf6f8adb76bc", func := "chatelaine/chatelainelaw11.DiskRoom", spec := "diskRoom", apart := false }
def DiskRoomSaid : Prop := diskRoomRow.holds Try.pinned (OpenSpec.ofChange diskRoomSpec)

/-- ITS FALSE NEIGHBOUR: 'it returns false'. Refute it at one input. -/
def diskRoomWrong : ChangeSpec := { name := "diskRoom", fn := fun _ => fun
  | [d1, d2] => { results := [.lit (.bool false)], args := [d1, d2] }
  | _ => none }
def DiskRoomWrongFalsely : Prop := diskRoomRow.holds Try.pinned (OpenSpec.ofChange diskRoomWrong)

/-- 'chatelainelaw12.TwinLong': WHATEVER THE INPUT: true; the input reads as it did. -/
def twinLongSpec : ChangeSpec := { name := "twinLong", fn := fun _ => fun
  | [d] => { results := [.lit (.bool true)], args := [d] }
  | _ => none }
def twinLongRow : OpenClaim := { program := "ytjaoiaknglnomaa", sum := "e69e6bbcbde1001cc2eafb69d298e597b07cc8f7790b4c715b2bbf6f8adb76bc", func := "chatelaine/chatelainelaw12.TwinLong", spec := "twinLong", apart := false }
def TwinLongSaid : Prop := twinLongRow.holds Try.pinned (OpenSpec.ofChange twinLongSpec)

/-- ITS FALSE NEIGHBOUR: 'it returns false'. Refute it at one input. -/
def twinLongWrong : ChangeSpec := { name := "twinLong", fn := fun _ => fun
  | [d] => { results := [.lit (.bool false)], args := [d] }
  | _ => none }
def TwinLongWrongFalsely : Prop := twinLongRow.holds Try.pinned (OpenSpec.ofChange twinLongWrong)

/-- 'chatelainelaw12.TwinOpens': WHATEVER THE INPUT: true; the input reads as it did. -/
def twinOpensSpec : ChangeSpec := { name := "twinOpens", fn := fun _ => fun
  | [d1, d2, d3] => { results := [.lit (.bool true)], args := [d1, d2, d3] }
  | _ => none }
def twinOpensRow : OpenClaim := { program := "ytjaoiaknglnomaa", sum := "e69e6bbcbde1001cc2eafb69d298e597b07cc8f7790b4c715b2bbf6f8adb76bc", func := "chatelaine/chatelainelaw12.TwinOpens", spec := "twinOpens", apart := false }
def TwinOpensSaid : Prop := twinOpensRow.holds Try.pinned (OpenSpec.ofChange twinOpensSpec)

/-- ITS FALSE NEIGHBOUR: 'it returns false'. Refute it at one input. -/
def twinOpensWrong : ChangeSpec := { name := "twinOpens", fn := fun _ => fun
  | [d1, d2, d3] => { results := [.lit (.bool false)], args := [d1, d2, d3] }
  | _ => none }
def TwinOpensWrongFalsely : Prop := twinOpensRow.holds Try.pinned (OpenSpec.ofChange twinOpensWrong)

/-- 'chatelainelaw12.TwinSpoilt': WHATEVER THE INPUT: true; the input reads as it did. -/
def twinSpoiltSpec : ChangeSpec := { name := "twinSpoilt", fn := fun _ => fun
  | [d] => { results := [.lit (.bool true)], args := [d] }
  | _ => none }
def twinSpoiltRow : OpenClaim := { program := "ytjaoiaknglnomaa", sum := "e69e6bbcbde1001cc2eafb69d298e597b07cc8f7790b4c715b2bbf6f8adb76bc", func := "chatelaine/chatelainelaw12.TwinSpoilt", spec := "twinSpoilt", apart := false }
def TwinSpoiltSaid : Prop := twinSpoiltRow.holds Try.pinned (OpenSpec.ofChange twinSpoiltSpec)

/-- ITS FALSE NEIGHBOUR: 'it returns false'. Refute it at one input. -/
def twinSpoiltWrong : ChangeSpec := { name := "twinSpoilt", fn := fun _ => fun
  | [d] => { results := [.lit (.bool false)], args := [d] }
  | _ => none }
def TwinSpoiltWrongFalsely : Prop := twinSpoiltRow.holds Try.pinned (OpenSpec.ofChange twinSpoiltWrong)

/-- 'chatelainelaw12.TwinCounts': WHATEVER THE INPUT: true; the input reads as it did. -/
def twinCountsSpec : ChangeSpec := { name := "twinCounts", fn := fun _ => fun
  | [d1, d2] => { results := [.lit (.bool true)], args := [d1, d2] }
  | _ => none }
def twinCountsRow : OpenClaim := { program := "ytjaoiaknglnomaa", sum := "e69e6bbcbde1001cc2eafb69d298e597b07cc8f7790b4c715b2bbf6f8adb76bc", func := "chatelaine/chatelainelaw12.TwinCounts", spec := "twinCounts", apart := false }
def TwinCountsSaid : Prop := twinCountsRow.holds Try.pinned (OpenSpec.ofChange twinCountsSpec)

/-- ITS FALSE NEIGHBOUR: 'it returns false'. Refute it at one input. -/
def twinCountsWrong : ChangeSpec := { name := "twinCounts", fn := fun _ => fun
  | [d1, d2] => { results := [.lit (.bool false)], args := [d1, d2] }
  | _ => none }
def TwinCountsWrongFalsely : Prop := twinCountsRow.holds Try.pinned (OpenSpec.ofChange twinCountsWrong)

/-- 'chatelainelaw12.TwinKeeps': WHATEVER THE INPUT: true; the input reads as it did. -/
def twinKeepsSpec : ChangeSpec := { name := "twinKeeps", fn := fun _ => fun
  | [d1, d2, d3] => { results := [.lit (.bool true)], args := [d1, d2, d3] }
  | _ => none }
def twinKeepsRow : OpenClaim := { program := "ytjaoiaknglnomaa", sum := "e69e6bbcbde1001cc2eafb69d298e597b07cc8f7790b4c715b2bbf6f8adb76bc", func := "chatelaine/chatelainelaw12.TwinKeeps", spec := "twinKeeps", apart := false }
def TwinKeepsSaid : Prop := twinKeepsRow.holds Try.pinned (OpenSpec.ofChange twinKeepsSpec)

/-- ITS FALSE NEIGHBOUR: 'it returns false'. Refute it at one input. -/
def twinKeepsWrong : ChangeSpec := { name := "twinKeeps", fn := fun _ => fun
  | [d1, d2, d3] => { results := [.lit (.bool false)], args := [d1, d2, d3] }
  | _ => none }
def TwinKeepsWrongFalsely : Prop := twinKeepsRow.holds Try.pinned (OpenSpec.ofChange twinKeepsWrong)

/-- 'chatelainelaw13.WalBig': WHATEVER THE INPUT: true; the input reads as it did. -/
def walBigSpec : ChangeSpec := { name := "walBig", fn := fun _ => fun
  | [d] => { results := [.lit (.bool true)], args := [d] }
  | _ => none }
def walBigRow : OpenClaim := { program := "ytjaoiaknglnomaa", sum := "e69e6bbcbde1001cc2eafb69d298e597b07cc8f7790b4c715b2bbf6f8adb76bc", func := "chatelaine/chatelainelaw13.WalBig", spec := "walBig", inPlace := ["internal/abi.NoEscape"], apart := false }
def WalBigSaid : Prop := walBigRow.holds Try.pinned (OpenSpec.ofChange walBigSpec)

/-- ITS FALSE NEIGHBOUR: 'it returns false'. Refute it at one input. -/
def walBigWrong : ChangeSpec := { name := "walBig", fn := fun _ => fun
  | [d] => { results := [.lit (.bool false)], args := [d] }
  | _ => none }
def WalBigWrongFalsely : Prop := walBigRow.holds Try.pinned (OpenSpec.ofChange walBigWrong)

/-- 'chatelainelaw13.WalKeeps': WHATEVER THE INPUT: true; the input reads as it did. -/
def walKeepsSpec : ChangeSpec := { name := "walKeeps", fn := fun _ => fun
  | [d1, d2, d3] => { results := [.lit (.bool true)], args := [d1, d2, d3] }
  | _ => none }
def walKeepsRow : OpenClaim := { program := "ytjaoiaknglnomaa", sum := "e69e6bbcbde1001cc2eafb69d298e597b07cc8f7790b4c715b2bbf6f8adb76bc", func := "chatelaine/chatelainelaw13.WalKeeps", spec := "walKeeps", inPlace := ["internal/abi.NoEscape"], apart := false }
def WalKeepsSaid : Prop := walKeepsRow.holds Try.pinned (OpenSpec.ofChange walKeepsSpec)

/-- ITS FALSE NEIGHBOUR: 'it returns false'. Refute it at one input. -/
def walKeepsWrong : ChangeSpec := { name := "walKeeps", fn := fun _ => fun
  | [d1, d2, d3] => { results := [.lit (.bool false)], args := [d1, d2, d3] }
  | _ => none }
def WalKeepsWrongFalsely : Prop := walKeepsRow.holds Try.pinned (OpenSpec.ofChange walKeepsWrong)

/-- 'chatelainelaw13.WalOpening': WHATEVER THE INPUT: true; the input reads as it did. -/
def walOpeningSpec : ChangeSpec := { name := "walOpening", fn := fun _ => fun
  | [d1, d2, d3] => { results := [.lit (.bool true)], args := [d1, d2, d3] }
  | _ => none }
def walOpeningRow : OpenClaim := { program := "ytjaoiaknglnomaa", sum := "e69e6bbcbde1001cc2eafb69d298e597b07cc8f7790b4c715b2bbf6f8adb76bc", func := "chatelaine/chatelainelaw13.WalOpening", spec := "walOpening", inPlace := ["internal/abi.NoEscape"], apart := false }
def WalOpeningSaid : Prop := walOpeningRow.holds Try.pinned (OpenSpec.ofChange walOpeningSpec)

/-- ITS FALSE NEIGHBOUR: 'it returns false'. Refute it at one input. -/
def walOpeningWrong : ChangeSpec := { name := "walOpening", fn := fun _ => fun
  | [d1, d2, d3] => { results := [.lit (.bool false)], args := [d1, d2, d3] }
  | _ => none }
def WalOpeningWrongFalsely : Prop := walOpeningRow.holds Try.pinned (OpenSpec.ofChange walOpeningWrong)

/-- 'chatelainelaw13.WalPlays': WHATEVER THE INPUT: true; the input reads as it did. -/
def walPlaysSpec : ChangeSpec := { name := "walPlays", fn := fun _ => fun
  | [d] => { results := [.lit (.bool true)], args := [d] }
  | _ => none }
def walPlaysRow : OpenClaim := { program := "ytjaoiaknglnomaa", sum := "e69e6bbcbde1001cc2eafb69d298e597b07cc8f7790b4c715b2bbf6f8adb76bc", func := "chatelaine/chatelainelaw13.WalPlays", spec := "walPlays", inPlace := ["internal/abi.NoEscape"], apart := false }
def WalPlaysSaid : Prop := walPlaysRow.holds Try.pinned (OpenSpec.ofChange walPlaysSpec)

/-- ITS FALSE NEIGHBOUR: 'it returns false'. Refute it at one input. -/
def walPlaysWrong : ChangeSpec := { name := "walPlays", fn := fun _ => fun
  | [d] => { results := [.lit (.bool false)], args := [d] }
  | _ => none }
def WalPlaysWrongFalsely : Prop := walPlaysRow.holds Try.pinned (OpenSpec.ofChange walPlaysWrong)

/- THE SECOND FORM. 'bulk': how many values and letters a reading holds, each counted each time it is reached (what is shared counts as often as it is met; a slice's spare places count too). A statement '..UptoSaid' is the law's where the arguments, and the package variables that the reading takes, are together of bulk at most 1048576: NARROWER than '..Said'. Prove '..Said' where nothing that the law and all that it calls make is longer than what came in: it says more and counts as full. Else prove '..UptoSaid'. A law counts once. -/
mutual
def uptoBulk {H : Type} : DataW H → Nat
  | .lit (.string bytes) => bytes.length + 1
  | .lit _ => 1
  | .nil => 1
  | .ptr d => uptoBulk d + 1
  | .slice elems spare => uptoBulkAll elems + uptoBulkAll spare + 1
  | .agg parts => uptoBulkAll parts + 1
  | .iface _ d => uptoBulk d + 1
  | .map entries => uptoBulkEntries entries + 1
  | .held _ => 1
def uptoBulkAll {H : Type} : List (DataW H) → Nat
  | [] => 0
  | d :: r => uptoBulk d + uptoBulkAll r
def uptoBulkEntries {H : Type} : List (Lit × DataW H) → Nat
  | [] => 0
  | x :: r => uptoBulkEntry x + uptoBulkEntries r
def uptoBulkEntry {H : Type} : Lit × DataW H → Nat
  | (.string bytes, d) => bytes.length + uptoBulk d + 1
  | (_, d) => uptoBulk d + 1
 end
def uptoSmall : (H : Type) → List (DataW H) → Bool := fun _ ds => decide (uptoBulkAll ds ≤ 1048576)
def OpenSpec.upto (s : _root_.Go.ChangeSpec) : _root_.Go.OpenSpec := { _root_.Go.OpenSpec.ofChange s with cond := some uptoSmall }

/-- 'chatelainelaw11.DiskKeeps', WHERE WHAT IT READS IS OF BULK AT MOST 1048576: true; the input reads as it did. -/
def diskKeepsUptoRow : OpenClaim := { program := "ytjaoiaknglnomaa", sum := "e69e6bbcbde1001cc2eafb69d298e597b07cc8f7790b4c715b2bbf6f8adb76bc", func := "chatelaine/chatelainelaw11.DiskKeeps", spec := "diskKeeps", apart := false, narrowed := true }
def DiskKeepsUptoSaid : Prop := diskKeepsUptoRow.holds Try.pinned (OpenSpec.upto diskKeepsSpec)

/-- 'chatelainelaw11.DiskRoom', WHERE WHAT IT READS IS OF BULK AT MOST 1048576: true; the input reads as it did. -/
def diskRoomUptoRow : OpenClaim := { program := "ytjaoiaknglnomaa", sum := "e69e6bbcbde1001cc2eafb69d298e597b07cc8f7790b4c715b2bbf6f8adb76bc", func := "chatelaine/chatelainelaw11.DiskRoom", spec := "diskRoom", apart := false, narrowed := true }
def DiskRoomUptoSaid : Prop := diskRoomUptoRow.holds Try.pinned (OpenSpec.upto diskRoomSpec)

/-- 'chatelainelaw12.TwinLong', WHERE WHAT IT READS IS OF BULK AT MOST 1048576: true; the input reads as it did. -/
def twinLongUptoRow : OpenClaim := { program := "ytjaoiaknglnomaa", sum := "e69e6bbcbde1001cc2eafb69d298e597b07cc8f7790b4c715b2bbf6f8adb76bc", func := "chatelaine/chatelainelaw12.TwinLong", spec := "twinLong", apart := false, narrowed := true }
def TwinLongUptoSaid : Prop := twinLongUptoRow.holds Try.pinned (OpenSpec.upto twinLongSpec)

/-- 'chatelainelaw12.TwinOpens', WHERE WHAT IT READS IS OF BULK AT MOST 1048576: true; the input reads as it did. -/
def twinOpensUptoRow : OpenClaim := { program := "ytjaoiaknglnomaa", sum := "e69e6bbcbde1001cc2eafb69d298e597b07cc8f7790b4c715b2bbf6f8adb76bc", func := "chatelaine/chatelainelaw12.TwinOpens", spec := "twinOpens", apart := false, narrowed := true }
def TwinOpensUptoSaid : Prop := twinOpensUptoRow.holds Try.pinned (OpenSpec.upto twinOpensSpec)

/-- 'chatelainelaw12.TwinSpoilt', WHERE WHAT IT READS IS OF BULK AT MOST 1048576: true; the input reads as it did. -/
def twinSpoiltUptoRow : OpenClaim := { program := "ytjaoiaknglnomaa", sum := "e69e6bbcbde1001cc2eafb69d298e597b07cc8f7790b4c715b2bbf6f8adb76bc", func := "chatelaine/chatelainelaw12.TwinSpoilt", spec := "twinSpoilt", apart := false, narrowed := true }
def TwinSpoiltUptoSaid : Prop := twinSpoiltUptoRow.holds Try.pinned (OpenSpec.upto twinSpoiltSpec)

/-- 'chatelainelaw12.TwinCounts', WHERE WHAT IT READS IS OF BULK AT MOST 1048576: true; the input reads as it did. -/
def twinCountsUptoRow : OpenClaim := { program := "ytjaoiaknglnomaa", sum := "e69e6bbcbde1001cc2eafb69d298e597b07cc8f7790b4c715b2bbf6f8adb76bc", func := "chatelaine/chatelainelaw12.TwinCounts", spec := "twinCounts", apart := false, narrowed := true }
def TwinCountsUptoSaid : Prop := twinCountsUptoRow.holds Try.pinned (OpenSpec.upto twinCountsSpec)

/-- 'chatelainelaw12.TwinKeeps', WHERE WHAT IT READS IS OF BULK AT MOST 1048576: true; the input reads as it did. -/
def twinKeepsUptoRow : OpenClaim := { program := "ytjaoiaknglnomaa", sum := "e69e6bbcbde1001cc2eafb69d298e597b07cc8f7790b4c715b2bbf6f8adb76bc", func := "chatelaine/chatelainelaw12.TwinKeeps", spec := "twinKeeps", apart := false, narrowed := true }
def TwinKeepsUptoSaid : Prop := twinKeepsUptoRow.holds Try.pinned (OpenSpec.upto twinKeepsSpec)

/-- 'chatelainelaw13.WalBig', WHERE WHAT IT READS IS OF BULK AT MOST 1048576: true; the input reads as it did. -/
def walBigUptoRow : OpenClaim := { program := "ytjaoiaknglnomaa", sum := "e69e6bbcbde1001cc2eafb69d298e597b07cc8f7790b4c715b2bbf6f8adb76bc", func := "chatelaine/chatelainelaw13.WalBig", spec := "walBig", inPlace := ["internal/abi.NoEscape"], apart := false, narrowed := true }
def WalBigUptoSaid : Prop := walBigUptoRow.holds Try.pinned (OpenSpec.upto walBigSpec)

/-- 'chatelainelaw13.WalKeeps', WHERE WHAT IT READS IS OF BULK AT MOST 1048576: true; the input reads as it did. -/
def walKeepsUptoRow : OpenClaim := { program := "ytjaoiaknglnomaa", sum := "e69e6bbcbde1001cc2eafb69d298e597b07cc8f7790b4c715b2bbf6f8adb76bc", func := "chatelaine/chatelainelaw13.WalKeeps", spec := "walKeeps", inPlace := ["internal/abi.NoEscape"], apart := false, narrowed := true }
def WalKeepsUptoSaid : Prop := walKeepsUptoRow.holds Try.pinned (OpenSpec.upto walKeepsSpec)

/-- 'chatelainelaw13.WalOpening', WHERE WHAT IT READS IS OF BULK AT MOST 1048576: true; the input reads as it did. -/
def walOpeningUptoRow : OpenClaim := { program := "ytjaoiaknglnomaa", sum := "e69e6bbcbde1001cc2eafb69d298e597b07cc8f7790b4c715b2bbf6f8adb76bc", func := "chatelaine/chatelainelaw13.WalOpening", spec := "walOpening", inPlace := ["internal/abi.NoEscape"], apart := false, narrowed := true }
def WalOpeningUptoSaid : Prop := walOpeningUptoRow.holds Try.pinned (OpenSpec.upto walOpeningSpec)

/-- 'chatelainelaw13.WalPlays', WHERE WHAT IT READS IS OF BULK AT MOST 1048576: true; the input reads as it did. -/
def walPlaysUptoRow : OpenClaim := { program := "ytjaoiaknglnomaa", sum := "e69e6bbcbde1001cc2eafb69d298e597b07cc8f7790b4c715b2bbf6f8adb76bc", func := "chatelaine/chatelainelaw13.WalPlays", spec := "walPlays", inPlace := ["internal/abi.NoEscape"], apart := false, narrowed := true }
def WalPlaysUptoSaid : Prop := walPlaysUptoRow.holds Try.pinned (OpenSpec.upto walPlaysSpec)

end Rows
end Go.Proofs.Ytjaoiaknglnomaa
