/-
  No cell of these rows narrows 'for every input' (looked for: loops, veiled, ifaces, maps, wideKeys, modest, calm, conditions, laid).
  DERIVED. THE GIVEN ROWS OF THIS SEAT. 6 by the template 'for every input the law returns true; each argument reads behind the call as it read before'; 0 by the template 'total and deterministic' (their statements: YtbmkindgbabobaaTotals.lean).
  GIVEN WITH THE SEED: the statements are not yours to turn. If you find one false, say at which input.
  Laid BY PROGRAM, IN A SANDBOX (cutbox-rows.mjs): the forced cells as the released guide's own fill.sh prints them over the translation 4cac822be0ea5aac… (all of the seat's roots in one cut). By AI agents, Wed Nov 11 2026. No macro, syntax, notation, axiom, sorry.
-/
import Derived.Test.YtbmkindgbabobaaChecked
import GoSem.Claim
import GoSem.ClaimJoined
import GoSem.ClaimMapViews
import Derived.JoinedTies
import Derived.KernelRfl
namespace Go.Proofs.Ytbmkindgbabobaa
/- THE CELL 'sum', in the pinned program and in every row, IS THE sha256 OF THE DUMP (.gsa) THAT YtbmkindgbabobaaProg.lean LOADS. Nothing in Lean hashes anything: it is a label: what it is worth is what the hold of that sum in a sandbox is worth. -/
noncomputable def Try.pinned : Pinned := { name := "ytbmkindgbabobaa", sum := "4cac822be0ea5aac19f150491e186731728e5ffc585ee4f1d64f9e8061986420", checked := Try.checked }
namespace Rows
def none {H : Type} : Left H := { results := [], args := [] }

/-- 'trellislaw16.WireFrames': WHATEVER THE INPUT: true; the input reads as it did. -/
def wireFramesSpec : ChangeSpec := { name := "wireFrames", fn := fun _ => fun
  | [d1, d2, d3] => { results := [.lit (.bool true)], args := [d1, d2, d3] }
  | _ => none }
def wireFramesRow : OpenClaim := { program := "ytbmkindgbabobaa", sum := "4cac822be0ea5aac19f150491e186731728e5ffc585ee4f1d64f9e8061986420", func := "trellis/trellislaw16.WireFrames", spec := "wireFrames", apart := false }
def WireFramesSaid : Prop := wireFramesRow.holds Try.pinned (OpenSpec.ofChange wireFramesSpec)

/-- ITS FALSE NEIGHBOUR: 'it returns false'. Refute it at one input. -/
def wireFramesWrong : ChangeSpec := { name := "wireFrames", fn := fun _ => fun
  | [d1, d2, d3] => { results := [.lit (.bool false)], args := [d1, d2, d3] }
  | _ => none }
def WireFramesWrongFalsely : Prop := wireFramesRow.holds Try.pinned (OpenSpec.ofChange wireFramesWrong)

/-- 'trellislaw16.WireReads': WHATEVER THE INPUT: true; the input reads as it did. -/
def wireReadsSpec : ChangeSpec := { name := "wireReads", fn := fun _ => fun
  | [d1, d2] => { results := [.lit (.bool true)], args := [d1, d2] }
  | _ => none }
def wireReadsRow : OpenClaim := { program := "ytbmkindgbabobaa", sum := "4cac822be0ea5aac19f150491e186731728e5ffc585ee4f1d64f9e8061986420", func := "trellis/trellislaw16.WireReads", spec := "wireReads", unfollowed := true, recurses := true, leaving := true, apart := false }
def WireReadsSaid : Prop := wireReadsRow.holds Try.pinned (OpenSpec.ofChange wireReadsSpec)

/-- ITS FALSE NEIGHBOUR: 'it returns false'. Refute it at one input. -/
def wireReadsWrong : ChangeSpec := { name := "wireReads", fn := fun _ => fun
  | [d1, d2] => { results := [.lit (.bool false)], args := [d1, d2] }
  | _ => none }
def WireReadsWrongFalsely : Prop := wireReadsRow.holds Try.pinned (OpenSpec.ofChange wireReadsWrong)

/-- 'trellislaw16.WireOwn': WHATEVER THE INPUT: true; the input reads as it did. -/
def wireOwnSpec : ChangeSpec := { name := "wireOwn", fn := fun _ => fun
  | [d1, d2] => { results := [.lit (.bool true)], args := [d1, d2] }
  | _ => none }
def wireOwnRow : OpenClaim := { program := "ytbmkindgbabobaa", sum := "4cac822be0ea5aac19f150491e186731728e5ffc585ee4f1d64f9e8061986420", func := "trellis/trellislaw16.WireOwn", spec := "wireOwn", unfollowed := true, recurses := true, leaving := true, apart := false }
def WireOwnSaid : Prop := wireOwnRow.holds Try.pinned (OpenSpec.ofChange wireOwnSpec)

/-- ITS FALSE NEIGHBOUR: 'it returns false'. Refute it at one input. -/
def wireOwnWrong : ChangeSpec := { name := "wireOwn", fn := fun _ => fun
  | [d1, d2] => { results := [.lit (.bool false)], args := [d1, d2] }
  | _ => none }
def WireOwnWrongFalsely : Prop := wireOwnRow.holds Try.pinned (OpenSpec.ofChange wireOwnWrong)

/-- 'trellislaw16.WireNone': WHATEVER THE INPUT: true; the input reads as it did. -/
def wireNoneSpec : ChangeSpec := { name := "wireNone", fn := fun _ => fun
  | [d] => { results := [.lit (.bool true)], args := [d] }
  | _ => none }
def wireNoneRow : OpenClaim := { program := "ytbmkindgbabobaa", sum := "4cac822be0ea5aac19f150491e186731728e5ffc585ee4f1d64f9e8061986420", func := "trellis/trellislaw16.WireNone", spec := "wireNone", unfollowed := true, recurses := true, leaving := true, apart := false }
def WireNoneSaid : Prop := wireNoneRow.holds Try.pinned (OpenSpec.ofChange wireNoneSpec)

/-- ITS FALSE NEIGHBOUR: 'it returns false'. Refute it at one input. -/
def wireNoneWrong : ChangeSpec := { name := "wireNone", fn := fun _ => fun
  | [d] => { results := [.lit (.bool false)], args := [d] }
  | _ => none }
def WireNoneWrongFalsely : Prop := wireNoneRow.holds Try.pinned (OpenSpec.ofChange wireNoneWrong)

/-- 'trellislaw16.WireBit': WHATEVER THE INPUT: true; the input reads as it did. -/
def wireBitSpec : ChangeSpec := { name := "wireBit", fn := fun _ => fun
  | [d1, d2, d3, d4] => { results := [.lit (.bool true)], args := [d1, d2, d3, d4] }
  | _ => none }
def wireBitRow : OpenClaim := { program := "ytbmkindgbabobaa", sum := "4cac822be0ea5aac19f150491e186731728e5ffc585ee4f1d64f9e8061986420", func := "trellis/trellislaw16.WireBit", spec := "wireBit", unfollowed := true, recurses := true, leaving := true, apart := false }
def WireBitSaid : Prop := wireBitRow.holds Try.pinned (OpenSpec.ofChange wireBitSpec)

/-- ITS FALSE NEIGHBOUR: 'it returns false'. Refute it at one input. -/
def wireBitWrong : ChangeSpec := { name := "wireBit", fn := fun _ => fun
  | [d1, d2, d3, d4] => { results := [.lit (.bool false)], args := [d1, d2, d3, d4] }
  | _ => none }
def WireBitWrongFalsely : Prop := wireBitRow.holds Try.pinned (OpenSpec.ofChange wireBitWrong)

/-- 'trellislaw16.WireGarbage': WHATEVER THE INPUT: true; the input reads as it did. -/
def wireGarbageSpec : ChangeSpec := { name := "wireGarbage", fn := fun _ => fun
  | [d1, d2, d3] => { results := [.lit (.bool true)], args := [d1, d2, d3] }
  | _ => none }
def wireGarbageRow : OpenClaim := { program := "ytbmkindgbabobaa", sum := "4cac822be0ea5aac19f150491e186731728e5ffc585ee4f1d64f9e8061986420", func := "trellis/trellislaw16.WireGarbage", spec := "wireGarbage", unfollowed := true, recurses := true, leaving := true, apart := false }
def WireGarbageSaid : Prop := wireGarbageRow.holds Try.pinned (OpenSpec.ofChange wireGarbageSpec)

/-- ITS FALSE NEIGHBOUR: 'it returns false'. Refute it at one input. -/
def wireGarbageWrong : ChangeSpec := { name := "wireGarbage", fn := fun _ => fun
  | [d1, d2, d3] => { results := [.lit (.bool false)], args := [d1, d2, d3] }
  | _ => none }
def WireGarbageWrongFalsely : Prop := wireGarbageRow.holds Try.pinned (OpenSpec.ofChange wireGarbageWrong)

/- THE SECOND FORM. 'bulk': how many values and letters a reading holds, each counted each time it is reached (what is shared counts as often as it is met; a slice's spare places count too). A statement '..UptoSaid' is the law's where the arguments, and the package variables that the reading takes, are together of bulk at most 1048576: NARROWER than '..Said'. Prove '..Said' where nothing that the law and all that it calls make is longer than what came in: it says more and counts as full. Else prove '..UptoSaid'. A law counts once. -/
mutual
def uptoBulk {H : Type} : DataW H → Nat
  | .lit (.string bytes) => bytes.length + 1
  | .lit _ => 1
  | .nil => 1
  | .ptr d => uptoBulk d + 1
  | .slice elems spare => uptoBulkAll elems + uptoBulkAll spare + 1
  | .agg parts => uptoBulkAll parts + 1
  | .iface _ d => uptoBulk d + 1
  | .map entries => uptoBulkEntries entries + 1
  | .held _ => 1
def uptoBulkAll {H : Type} : List (DataW H) → Nat
  | [] => 0
  | d :: r => uptoBulk d + uptoBulkAll r
def uptoBulkEntries {H : Type} : List (Lit × DataW H) → Nat
  | [] => 0
  | x :: r => uptoBulkEntry x + uptoBulkEntries r
def uptoBulkEntry {H : Type} : Lit × DataW H → Nat
  | (.string bytes, d) => bytes.length + uptoBulk d + 1
  | (_, d) => uptoBulk d + 1
 end
def uptoSmall : (H : Type) → List (DataW H) → Bool := fun _ ds => decide (uptoBulkAll ds ≤ 1048576)
def OpenSpec.upto (s : _root_.Go.ChangeSpec) : _root_.Go.OpenSpec := { _root_.Go.OpenSpec.ofChange s with cond := some uptoSmall }

/-- 'trellislaw16.WireFrames', WHERE WHAT IT READS IS OF BULK AT MOST 1048576: true; the input reads as it did. -/
def wireFramesUptoRow : OpenClaim := { program := "ytbmkindgbabobaa", sum := "4cac822be0ea5aac19f150491e186731728e5ffc585ee4f1d64f9e8061986420", func := "trellis/trellislaw16.WireFrames", spec := "wireFrames", apart := false, narrowed := true }
def WireFramesUptoSaid : Prop := wireFramesUptoRow.holds Try.pinned (OpenSpec.upto wireFramesSpec)

/-- 'trellislaw16.WireReads', WHERE WHAT IT READS IS OF BULK AT MOST 1048576: true; the input reads as it did. -/
def wireReadsUptoRow : OpenClaim := { program := "ytbmkindgbabobaa", sum := "4cac822be0ea5aac19f150491e186731728e5ffc585ee4f1d64f9e8061986420", func := "trellis/trellislaw16.WireReads", spec := "wireReads", unfollowed := true, recurses := true, leaving := true, apart := false, narrowed := true }
def WireReadsUptoSaid : Prop := wireReadsUptoRow.holds Try.pinned (OpenSpec.upto wireReadsSpec)

/-- 'trellislaw16.WireOwn', WHERE WHAT IT READS IS OF BULK AT MOST 1048576: true; the input reads as it did. -/
def wireOwnUptoRow : OpenClaim := { program := "ytbmkindgbabobaa", sum := "4cac822be0ea5aac19f150491e186731728e5ffc585ee4f1d64f9e8061986420", func := "trellis/trellislaw16.WireOwn", spec := "wireOwn", unfollowed := true, recurses := true, leaving := true, apart := false, narrowed := true }
def WireOwnUptoSaid : Prop := wireOwnUptoRow.holds Try.pinned (OpenSpec.upto wireOwnSpec)

/-- 'trellislaw16.WireNone', WHERE WHAT IT READS IS OF BULK AT MOST 1048576: true; the input reads as it did. -/
def wireNoneUptoRow : OpenClaim := { program := "ytbmkindgbabobaa", sum := "4cac822be0ea5aac19f150491e186731728e5ffc585ee4f1d64f9e8061986420", func := "trellis/trellislaw16.WireNone", spec := "wireNone", unfollowed := true, recurses := true, leaving := true, apart := false, narrowed := true }
def WireNoneUptoSaid : Prop := wireNoneUptoRow.holds Try.pinned (OpenSpec.upto wireNoneSpec)

/-- 'trellislaw16.WireBit', WHERE WHAT IT READS IS OF BULK AT MOST 1048576: true; the input reads as it did. -/
def wireBitUptoRow : OpenClaim := { program := "ytbmkindgbabobaa", sum := "4cac822be0ea5aac19f150491e186731728e5ffc585ee4f1d64f9e8061986420", func := "trellis/trellislaw16.WireBit", spec := "wireBit", unfollowed := true, recurses := true, leaving := true, apart := false, narrowed := true }
def WireBitUptoSaid : Prop := wireBitUptoRow.holds Try.pinned (OpenSpec.upto wireBitSpec)

/-- 'trellislaw16.WireGarbage', WHERE WHAT IT READS IS OF BULK AT MOST 1048576: true; the input reads as it did. -/
def wireGarbageUptoRow : OpenClaim := { program := "ytbmkindgbabobaa", sum := "4cac822be0ea5aac19f150491e186731728e5ffc585ee4f1d64f9e8061986420", func := "trellis/trellislaw16.WireGarbage", spec := "wireGarbage", unfollowed := true, recurses := true, leaving := true, apart := false, narrowed := true }
def WireGarbageUptoSaid : Prop := wireGarbageUptoRow.holds Try.pinned (OpenSpec.upto wireGarbageSpec)

end Rows
end Go.Proofs.Ytbmkindgbabobaa
