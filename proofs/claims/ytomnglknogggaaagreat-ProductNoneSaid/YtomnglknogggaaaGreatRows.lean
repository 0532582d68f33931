/-
  No cell of these rows narrows 'for every input' (looked for: loops, veiled, ifaces, maps, wideKeys, modest, calm, conditions, laid).
  DERIVED. THE GIVEN ROWS OF THIS SEAT. 9 by the template 'for every input the law returns true; each argument reads behind the call as it read before'; 0 by the template 'total and deterministic' (their statements: YtomnglknogggaaaGreatTotals.lean).
  GIVEN WITH THE SEED: the statements are not yours to turn. If you find one false, say at which input.
  Laid BY PROGRAM, IN A SANDBOX (cutbox-rows.mjs): the forced cells as the released guide's own fill.sh prints them over the translation 14cbea15aa15de0b… (all of the seat's roots in one cut). By AI agents, Wed Nov 11 2026. No macro, syntax, notation, axiom, sorry.
-/
import Derived.Test.YtomnglknogggaaaGreatChecked
import GoSem.Claim
import GoSem.ClaimJoined
import GoSem.ClaimMapViews
import Derived.JoinedTies
import Derived.KernelRfl
namespace Go.Proofs.YtomnglknogggaaaGreat
/- THE CELL 'sum', in the pinned program and in every row, IS THE sha256 OF THE DUMP (.gsa) THAT YtomnglknogggaaaGreatProg.lean LOADS. Nothing in Lean hashes anything: it is a label: what it is worth is what the hold of that sum in a sandbox is worth. -/
noncomputable def Tryz.pinned : Pinned := { name := "ytomnglknogggaaagreat", sum := "14cbea15aa15de0b9e7cd3ca3148500a08a594dc87c911249a5b3176e2038c45", checked := Tryz.checked }
namespace Rows
def none {H : Type} : Left H := { results := [], args := [] }

/-- 'priorylaw25.CellQueues': WHATEVER THE INPUT: true; the input reads as it did. -/
def cellQueuesSpec : ChangeSpec := { name := "cellQueues", fn := fun _ => fun
  | [d1, d2, d3] => { results := [.lit (.bool true)], args := [d1, d2, d3] }
  | _ => none }
def cellQueuesRow : OpenClaim := { program := "ytomnglknogggaaagreat", sum := "14cbea15aa15de0b9e7cd3ca3148500a08a594dc87c911249a5b3176e2038c45", func := "priory/priorylaw25.CellQueues", spec := "cellQueues", inPlace := ["maps.clone"], unfollowed := true, recurses := true, apart := false }
def CellQueuesSaid : Prop := cellQueuesRow.holds Tryz.pinned (OpenSpec.ofChange cellQueuesSpec)

/-- ITS FALSE NEIGHBOUR: 'it returns false'. Refute it at one input. -/
def cellQueuesWrong : ChangeSpec := { name := "cellQueues", fn := fun _ => fun
  | [d1, d2, d3] => { results := [.lit (.bool false)], args := [d1, d2, d3] }
  | _ => none }
def CellQueuesWrongFalsely : Prop := cellQueuesRow.holds Tryz.pinned (OpenSpec.ofChange cellQueuesWrong)

/-- 'priorylaw25.CellQuota': WHATEVER THE INPUT: true; the input reads as it did. -/
def cellQuotaSpec : ChangeSpec := { name := "cellQuota", fn := fun _ => fun
  | [d1, d2, d3] => { results := [.lit (.bool true)], args := [d1, d2, d3] }
  | _ => none }
def cellQuotaRow : OpenClaim := { program := "ytomnglknogggaaagreat", sum := "14cbea15aa15de0b9e7cd3ca3148500a08a594dc87c911249a5b3176e2038c45", func := "priory/priorylaw25.CellQuota", spec := "cellQuota", inPlace := ["maps.clone"], unfollowed := true, recurses := true, apart := false }
def CellQuotaSaid : Prop := cellQuotaRow.holds Tryz.pinned (OpenSpec.ofChange cellQuotaSpec)

/-- ITS FALSE NEIGHBOUR: 'it returns false'. Refute it at one input. -/
def cellQuotaWrong : ChangeSpec := { name := "cellQuota", fn := fun _ => fun
  | [d1, d2, d3] => { results := [.lit (.bool false)], args := [d1, d2, d3] }
  | _ => none }
def CellQuotaWrongFalsely : Prop := cellQuotaRow.holds Tryz.pinned (OpenSpec.ofChange cellQuotaWrong)

/-- 'priorylaw25.CellTwice': WHATEVER THE INPUT: true; the input reads as it did. -/
def cellTwiceSpec : ChangeSpec := { name := "cellTwice", fn := fun _ => fun
  | [d1, d2, d3] => { results := [.lit (.bool true)], args := [d1, d2, d3] }
  | _ => none }
def cellTwiceRow : OpenClaim := { program := "ytomnglknogggaaagreat", sum := "14cbea15aa15de0b9e7cd3ca3148500a08a594dc87c911249a5b3176e2038c45", func := "priory/priorylaw25.CellTwice", spec := "cellTwice", inPlace := ["maps.clone"], unfollowed := true, recurses := true, apart := false }
def CellTwiceSaid : Prop := cellTwiceRow.holds Tryz.pinned (OpenSpec.ofChange cellTwiceSpec)

/-- ITS FALSE NEIGHBOUR: 'it returns false'. Refute it at one input. -/
def cellTwiceWrong : ChangeSpec := { name := "cellTwice", fn := fun _ => fun
  | [d1, d2, d3] => { results := [.lit (.bool false)], args := [d1, d2, d3] }
  | _ => none }
def CellTwiceWrongFalsely : Prop := cellTwiceRow.holds Tryz.pinned (OpenSpec.ofChange cellTwiceWrong)

/-- 'priorylaw25.CellPlays': WHATEVER THE INPUT: true; the input reads as it did. -/
def cellPlaysSpec : ChangeSpec := { name := "cellPlays", fn := fun _ => fun
  | [d1, d2, d3] => { results := [.lit (.bool true)], args := [d1, d2, d3] }
  | _ => none }
def cellPlaysRow : OpenClaim := { program := "ytomnglknogggaaagreat", sum := "14cbea15aa15de0b9e7cd3ca3148500a08a594dc87c911249a5b3176e2038c45", func := "priory/priorylaw25.CellPlays", spec := "cellPlays", inPlace := ["maps.clone"], unfollowed := true, recurses := true, apart := false }
def CellPlaysSaid : Prop := cellPlaysRow.holds Tryz.pinned (OpenSpec.ofChange cellPlaysSpec)

/-- ITS FALSE NEIGHBOUR: 'it returns false'. Refute it at one input. -/
def cellPlaysWrong : ChangeSpec := { name := "cellPlays", fn := fun _ => fun
  | [d1, d2, d3] => { results := [.lit (.bool false)], args := [d1, d2, d3] }
  | _ => none }
def CellPlaysWrongFalsely : Prop := cellPlaysRow.holds Tryz.pinned (OpenSpec.ofChange cellPlaysWrong)

/-- 'priorylaw25.CellNone': WHATEVER THE INPUT: true; the input reads as it did. -/
def cellNoneSpec : ChangeSpec := { name := "cellNone", fn := fun _ => fun
  | [d1, d2] => { results := [.lit (.bool true)], args := [d1, d2] }
  | _ => none }
def cellNoneRow : OpenClaim := { program := "ytomnglknogggaaagreat", sum := "14cbea15aa15de0b9e7cd3ca3148500a08a594dc87c911249a5b3176e2038c45", func := "priory/priorylaw25.CellNone", spec := "cellNone", inPlace := ["maps.clone"], unfollowed := true, recurses := true, apart := false }
def CellNoneSaid : Prop := cellNoneRow.holds Tryz.pinned (OpenSpec.ofChange cellNoneSpec)

/-- ITS FALSE NEIGHBOUR: 'it returns false'. Refute it at one input. -/
def cellNoneWrong : ChangeSpec := { name := "cellNone", fn := fun _ => fun
  | [d1, d2] => { results := [.lit (.bool false)], args := [d1, d2] }
  | _ => none }
def CellNoneWrongFalsely : Prop := cellNoneRow.holds Tryz.pinned (OpenSpec.ofChange cellNoneWrong)

/-- 'priorylaw26.ProductOwn': WHATEVER THE INPUT: true; the input reads as it did. -/
def productOwnSpec : ChangeSpec := { name := "productOwn", fn := fun _ => fun
  | [d1, d2] => { results := [.lit (.bool true)], args := [d1, d2] }
  | _ => none }
def productOwnRow : OpenClaim := { program := "ytomnglknogggaaagreat", sum := "14cbea15aa15de0b9e7cd3ca3148500a08a594dc87c911249a5b3176e2038c45", func := "priory/priorylaw26.ProductOwn", spec := "productOwn", inPlace := ["maps.clone"], unfollowed := true, recurses := true, apart := false }
def ProductOwnSaid : Prop := productOwnRow.holds Tryz.pinned (OpenSpec.ofChange productOwnSpec)

/-- ITS FALSE NEIGHBOUR: 'it returns false'. Refute it at one input. -/
def productOwnWrong : ChangeSpec := { name := "productOwn", fn := fun _ => fun
  | [d1, d2] => { results := [.lit (.bool false)], args := [d1, d2] }
  | _ => none }
def ProductOwnWrongFalsely : Prop := productOwnRow.holds Tryz.pinned (OpenSpec.ofChange productOwnWrong)

/-- 'priorylaw26.ProductApart': WHATEVER THE INPUT: true; the input reads as it did. -/
def productApartSpec : ChangeSpec := { name := "productApart", fn := fun _ => fun
  | [d1, d2] => { results := [.lit (.bool true)], args := [d1, d2] }
  | _ => none }
def productApartRow : OpenClaim := { program := "ytomnglknogggaaagreat", sum := "14cbea15aa15de0b9e7cd3ca3148500a08a594dc87c911249a5b3176e2038c45", func := "priory/priorylaw26.ProductApart", spec := "productApart", inPlace := ["maps.clone"], unfollowed := true, recurses := true, apart := false }
def ProductApartSaid : Prop := productApartRow.holds Tryz.pinned (OpenSpec.ofChange productApartSpec)

/-- ITS FALSE NEIGHBOUR: 'it returns false'. Refute it at one input. -/
def productApartWrong : ChangeSpec := { name := "productApart", fn := fun _ => fun
  | [d1, d2] => { results := [.lit (.bool false)], args := [d1, d2] }
  | _ => none }
def ProductApartWrongFalsely : Prop := productApartRow.holds Tryz.pinned (OpenSpec.ofChange productApartWrong)

/-- 'priorylaw26.ProductPlays': WHATEVER THE INPUT: true; the input reads as it did. -/
def productPlaysSpec : ChangeSpec := { name := "productPlays", fn := fun _ => fun
  | [d1, d2] => { results := [.lit (.bool true)], args := [d1, d2] }
  | _ => none }
def productPlaysRow : OpenClaim := { program := "ytomnglknogggaaagreat", sum := "14cbea15aa15de0b9e7cd3ca3148500a08a594dc87c911249a5b3176e2038c45", func := "priory/priorylaw26.ProductPlays", spec := "productPlays", inPlace := ["maps.clone"], unfollowed := true, recurses := true, apart := false }
def ProductPlaysSaid : Prop := productPlaysRow.holds Tryz.pinned (OpenSpec.ofChange productPlaysSpec)

/-- ITS FALSE NEIGHBOUR: 'it returns false'. Refute it at one input. -/
def productPlaysWrong : ChangeSpec := { name := "productPlays", fn := fun _ => fun
  | [d1, d2] => { results := [.lit (.bool false)], args := [d1, d2] }
  | _ => none }
def ProductPlaysWrongFalsely : Prop := productPlaysRow.holds Tryz.pinned (OpenSpec.ofChange productPlaysWrong)

/-- 'priorylaw26.ProductNone': WHATEVER THE INPUT: true; the input reads as it did. -/
def productNoneSpec : ChangeSpec := { name := "productNone", fn := fun _ => fun
  | [d1, d2, d3] => { results := [.lit (.bool true)], args := [d1, d2, d3] }
  | _ => none }
def productNoneRow : OpenClaim := { program := "ytomnglknogggaaagreat", sum := "14cbea15aa15de0b9e7cd3ca3148500a08a594dc87c911249a5b3176e2038c45", func := "priory/priorylaw26.ProductNone", spec := "productNone", inPlace := ["maps.clone"], unfollowed := true, recurses := true, apart := false }
def ProductNoneSaid : Prop := productNoneRow.holds Tryz.pinned (OpenSpec.ofChange productNoneSpec)

/-- ITS FALSE NEIGHBOUR: 'it returns false'. Refute it at one input. -/
def productNoneWrong : ChangeSpec := { name := "productNone", fn := fun _ => fun
  | [d1, d2, d3] => { results := [.lit (.bool false)], args := [d1, d2, d3] }
  | _ => none }
def ProductNoneWrongFalsely : Prop := productNoneRow.holds Tryz.pinned (OpenSpec.ofChange productNoneWrong)

/- THE SECOND FORM. 'bulk': how many values and letters a reading holds, each counted each time it is reached (what is shared counts as often as it is met; a slice's spare places count too). A statement '..UptoSaid' is the law's where the arguments, and the package variables that the reading takes, are together of bulk at most 1048576: NARROWER than '..Said'. Prove '..Said' where nothing that the law and all that it calls make is longer than what came in: it says more and counts as full. Else prove '..UptoSaid'. A law counts once. -/
mutual
def uptoBulk {H : Type} : DataW H → Nat
  | .lit (.string bytes) => bytes.length + 1
  | .lit _ => 1
  | .nil => 1
  | .ptr d => uptoBulk d + 1
  | .slice elems spare => uptoBulkAll elems + uptoBulkAll spare + 1
  | .agg parts => uptoBulkAll parts + 1
  | .iface _ d => uptoBulk d + 1
  | .map entries => uptoBulkEntries entries + 1
  | .held _ => 1
def uptoBulkAll {H : Type} : List (DataW H) → Nat
  | [] => 0
  | d :: r => uptoBulk d + uptoBulkAll r
def uptoBulkEntries {H : Type} : List (Lit × DataW H) → Nat
  | [] => 0
  | x :: r => uptoBulkEntry x + uptoBulkEntries r
def uptoBulkEntry {H : Type} : Lit × DataW H → Nat
  | (.string bytes, d) => bytes.length + uptoBulk d + 1
  | (_, d) => uptoBulk d + 1
 end
def uptoSmall : (H : Type) → List (DataW H) → Bool := fun _ ds => decide (uptoBulkAll ds ≤ 1048576)
def OpenSpec.upto (s : _root_.Go.ChangeSpec) : _root_.Go.OpenSpec := { _root_.Go.OpenSpec.ofChange s with cond := some uptoSmall }

/-- 'priorylaw25.CellQueues', WHERE WHAT IT READS IS OF BULK AT MOST 1048576: true; the input reads as it did. -/
def cellQueuesUptoRow : OpenClaim := { program := "ytomnglknogggaaagreat", sum := "14cbea15aa15de0b9e7cd3ca3148500a08a594dc87c911249a5b3176e2038c45", func := "priory/priorylaw25.CellQueues", spec := "cellQueues", inPlace := ["maps.clone"], unfollowed := true, recurses := true, apart := false, narrowed := true }
def CellQueuesUptoSaid : Prop := cellQueuesUptoRow.holds Tryz.pinned (OpenSpec.upto cellQueuesSpec)

/-- 'priorylaw25.CellQuota', WHERE WHAT IT READS IS OF BULK AT MOST 1048576: true; the input reads as it did. -/
def cellQuotaUptoRow : OpenClaim := { program := "ytomnglknogggaaagreat", sum := "14cbea15aa15de0b9e7cd3ca3148500a08a594dc87c911249a5b3176e2038c45", func := "priory/priorylaw25.CellQuota", spec := "cellQuota", inPlace := ["maps.clone"], unfollowed := true, recurses := true, apart := false, narrowed := true }
def CellQuotaUptoSaid : Prop := cellQuotaUptoRow.holds Tryz.pinned (OpenSpec.upto cellQuotaSpec)

/-- 'priorylaw25.CellTwice', WHERE WHAT IT READS IS OF BULK AT MOST 1048576: true; the input reads as it did. -/
def cellTwiceUptoRow : OpenClaim := { program := "ytomnglknogggaaagreat", sum := "14cbea15aa15de0b9e7cd3ca3148500a08a594dc87c911249a5b3176e2038c45", func := "priory/priorylaw25.CellTwice", spec := "cellTwice", inPlace := ["maps.clone"], unfollowed := true, recurses := true, apart := false, narrowed := true }
def CellTwiceUptoSaid : Prop := cellTwiceUptoRow.holds Tryz.pinned (OpenSpec.upto cellTwiceSpec)

/-- 'priorylaw25.CellPlays', WHERE WHAT IT READS IS OF BULK AT MOST 1048576: true; the input reads as it did. -/
def cellPlaysUptoRow : OpenClaim := { program := "ytomnglknogggaaagreat", sum := "14cbea15aa15de0b9e7cd3ca3148500a08a594dc87c911249a5b3176e2038c45", func := "priory/priorylaw25.CellPlays", spec := "cellPlays", inPlace := ["maps.clone"], unfollowed := true, recurses := true, apart := false, narrowed := true }
def CellPlaysUptoSaid : Prop := cellPlaysUptoRow.holds Tryz.pinned (OpenSpec.upto cellPlaysSpec)

/-- 'priorylaw25.CellNone', WHERE WHAT IT READS IS OF BULK AT MOST 1048576: true; the input reads as it did. -/
def cellNoneUptoRow : OpenClaim := { program := "ytomnglknogggaaagreat", sum := "14cbea15aa15de0b9e7cd3ca3148500a08a594dc87c911249a5b3176e2038c45", func := "priory/priorylaw25.CellNone", spec := "cellNone", inPlace := ["maps.clone"], unfollowed := true, recurses := true, apart := false, narrowed := true }
def CellNoneUptoSaid : Prop := cellNoneUptoRow.holds Tryz.pinned (OpenSpec.upto cellNoneSpec)

/-- 'priorylaw26.ProductOwn', WHERE WHAT IT READS IS OF BULK AT MOST 1048576: true; the input reads as it did. -/
def productOwnUptoRow : OpenClaim := { program := "ytomnglknogggaaagreat", sum := "14cbea15aa15de0b9e7cd3ca3148500a08a594dc87c911249a5b3176e2038c45", func := "priory/priorylaw26.ProductOwn", spec := "productOwn", inPlace := ["maps.clone"], unfollowed := true, recurses := true, apart := false, narrowed := true }
def ProductOwnUptoSaid : Prop := productOwnUptoRow.holds Tryz.pinned (OpenSpec.upto productOwnSpec)

/-- 'priorylaw26.ProductApart', WHERE WHAT IT READS IS OF BULK AT MOST 1048576: true; the input reads as it did. -/
def productApartUptoRow : OpenClaim := { program := "ytomnglknogggaaagreat", sum := "14cbea15aa15de0b9e7cd3ca3148500a08a594dc87c911249a5b3176e2038c45", func := "priory/priorylaw26.ProductApart", spec := "productApart", inPlace := ["maps.clone"], unfollowed := true, recurses := true, apart := false, narrowed := true }
def ProductApartUptoSaid : Prop := productApartUptoRow.holds Tryz.pinned (OpenSpec.upto productApartSpec)

/-- 'priorylaw26.ProductPlays', WHERE WHAT IT READS IS OF BULK AT MOST 1048576: true; the input reads as it did. -/
def productPlaysUptoRow : OpenClaim := { program := "ytomnglknogggaaagreat", sum := "14cbea15aa15de0b9e7cd3ca3148500a08a594dc87c911249a5b3176e2038c45", func := "priory/priorylaw26.ProductPlays", spec := "productPlays", inPlace := ["maps.clone"], unfollowed := true, recurses := true, apart := false, narrowed := true }
def ProductPlaysUptoSaid : Prop := productPlaysUptoRow.holds Tryz.pinned (OpenSpec.upto productPlaysSpec)

/-- 'priorylaw26.ProductNone', WHERE WHAT IT READS IS OF BULK AT MOST 1048576: true; the input reads as it did. -/
def productNoneUptoRow : OpenClaim := { program := "ytomnglknogggaaagreat", sum := "14cbea15aa15de0b9e7cd3ca3148500a08a594dc87c911249a5b3176e2038c45", func := "priory/priorylaw26.ProductNone", spec := "productNone", inPlace := ["maps.clone"], unfollowed := true, recurses := true, apart := false, narrowed := true }
def ProductNoneUptoSaid : Prop := productNoneUptoRow.holds Tryz.pinned (OpenSpec.upto productNoneSpec)

end Rows
end Go.Proofs.YtomnglknogggaaaGreat
