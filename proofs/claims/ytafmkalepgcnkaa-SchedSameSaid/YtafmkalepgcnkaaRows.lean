/-
  No cell of these rows narrows 'for every input' (looked for: loops, veiled, ifaces, maps, wideKeys, modest, calm, conditions, laid).
  DERIVED. THE GIVEN ROWS OF THIS SEAT. 9 by the template 'for every input the law returns true; each argument reads behind the call as it read before'; 0 by the template 'total and deterministic' (their statements: YtafmkalepgcnkaaTotals.lean).
  GIVEN WITH THE SEED: the statements are not yours to turn. If you find one false, say at which input.
  Laid BY PROGRAM, IN A SANDBOX (cutbox-rows.mjs): the forced cells as the released guide's own fill.sh prints them over the translation 95c6c07051295885… (all of the seat's roots in one cut). By AI agents, Wed Nov 11 2026. No macro, syntax, notation, axiom, sorry.
-/
import Derived.Test.YtafmkalepgcnkaaChecked
import GoSem.Claim
import GoSem.ClaimJoined
import GoSem.ClaimMapViews
import Derived.JoinedTies
import Derived.KernelRfl
namespace Go.Proofs.Ytafmkalepgcnkaa
/- THE CELL 'sum', in the pinned program and in every row, IS THE sha256 OF THE DUMP (.gsa) THAT YtafmkalepgcnkaaProg.lean LOADS. Nothing in Lean hashes anything: it is a label: what it is worth is what the hold of that sum in a sandbox is worth. -/
noncomputable def Try.pinned : Pinned := { name := "ytafmkalepgcnkaa", sum := "95c6c070512958850b4d474619800c1be2d74776879cb48caa7e6254b80a7609", checked := Try.checked }
namespace Rows
def none {H : Type} : Left H := { results := [], args := [] }

/-- 'anabranchlaw17.BackoffTicks': WHATEVER THE INPUT: true; the input reads as it did. -/
def backoffTicksSpec : ChangeSpec := { name := "backoffTicks", fn := fun _ => fun
  | [d] => { results := [.lit (.bool true)], args := [d] }
  | _ => none }
def backoffTicksRow : OpenClaim := { program := "ytafmkalepgcnkaa", sum := "95c6c070512958850b4d474619800c1be2d74776879cb48caa7e6254b80a7609", func := "anabranch/anabranchlaw17.BackoffTicks", spec := "backoffTicks", apart := false }
def BackoffTicksSaid : Prop := backoffTicksRow.holds Try.pinned (OpenSpec.ofChange backoffTicksSpec)

/-- ITS FALSE NEIGHBOUR: 'it returns false'. Refute it at one input. -/
def backoffTicksWrong : ChangeSpec := { name := "backoffTicks", fn := fun _ => fun
  | [d] => { results := [.lit (.bool false)], args := [d] }
  | _ => none }
def BackoffTicksWrongFalsely : Prop := backoffTicksRow.holds Try.pinned (OpenSpec.ofChange backoffTicksWrong)

/-- 'anabranchlaw17.BackoffNone': WHATEVER THE INPUT: true; the input reads as it did. -/
def backoffNoneSpec : ChangeSpec := { name := "backoffNone", fn := fun _ => fun
  | [d1, d2] => { results := [.lit (.bool true)], args := [d1, d2] }
  | _ => none }
def backoffNoneRow : OpenClaim := { program := "ytafmkalepgcnkaa", sum := "95c6c070512958850b4d474619800c1be2d74776879cb48caa7e6254b80a7609", func := "anabranch/anabranchlaw17.BackoffNone", spec := "backoffNone", apart := false }
def BackoffNoneSaid : Prop := backoffNoneRow.holds Try.pinned (OpenSpec.ofChange backoffNoneSpec)

/-- ITS FALSE NEIGHBOUR: 'it returns false'. Refute it at one input. -/
def backoffNoneWrong : ChangeSpec := { name := "backoffNone", fn := fun _ => fun
  | [d1, d2] => { results := [.lit (.bool false)], args := [d1, d2] }
  | _ => none }
def BackoffNoneWrongFalsely : Prop := backoffNoneRow.holds Try.pinned (OpenSpec.ofChange backoffNoneWrong)

/-- 'anabranchlaw27.AddrsPlaces': WHATEVER THE INPUT: true; the input reads as it did. -/
def addrsPlacesSpec : ChangeSpec := { name := "addrsPlaces", fn := fun _ => fun
  | [d1, d2] => { results := [.lit (.bool true)], args := [d1, d2] }
  | _ => none }
def addrsPlacesRow : OpenClaim := { program := "ytafmkalepgcnkaa", sum := "95c6c070512958850b4d474619800c1be2d74776879cb48caa7e6254b80a7609", func := "anabranch/anabranchlaw27.AddrsPlaces", spec := "addrsPlaces", apart := false }
def AddrsPlacesSaid : Prop := addrsPlacesRow.holds Try.pinned (OpenSpec.ofChange addrsPlacesSpec)

/-- ITS FALSE NEIGHBOUR: 'it returns false'. Refute it at one input. -/
def addrsPlacesWrong : ChangeSpec := { name := "addrsPlaces", fn := fun _ => fun
  | [d1, d2] => { results := [.lit (.bool false)], args := [d1, d2] }
  | _ => none }
def AddrsPlacesWrongFalsely : Prop := addrsPlacesRow.holds Try.pinned (OpenSpec.ofChange addrsPlacesWrong)

/-- 'anabranchlaw27.AddrsDoes': WHATEVER THE INPUT: true; the input reads as it did. -/
def addrsDoesSpec : ChangeSpec := { name := "addrsDoes", fn := fun _ => fun
  | [d1, d2, d3] => { results := [.lit (.bool true)], args := [d1, d2, d3] }
  | _ => none }
def addrsDoesRow : OpenClaim := { program := "ytafmkalepgcnkaa", sum := "95c6c070512958850b4d474619800c1be2d74776879cb48caa7e6254b80a7609", func := "anabranch/anabranchlaw27.AddrsDoes", spec := "addrsDoes", apart := false }
def AddrsDoesSaid : Prop := addrsDoesRow.holds Try.pinned (OpenSpec.ofChange addrsDoesSpec)

/-- ITS FALSE NEIGHBOUR: 'it returns false'. Refute it at one input. -/
def addrsDoesWrong : ChangeSpec := { name := "addrsDoes", fn := fun _ => fun
  | [d1, d2, d3] => { results := [.lit (.bool false)], args := [d1, d2, d3] }
  | _ => none }
def AddrsDoesWrongFalsely : Prop := addrsDoesRow.holds Try.pinned (OpenSpec.ofChange addrsDoesWrong)

/-- 'anabranchlaw27.AddrsUndo': WHATEVER THE INPUT: true; the input reads as it did. -/
def addrsUndoSpec : ChangeSpec := { name := "addrsUndo", fn := fun _ => fun
  | [d1, d2, d3, d4] => { results := [.lit (.bool true)], args := [d1, d2, d3, d4] }
  | _ => none }
def addrsUndoRow : OpenClaim := { program := "ytafmkalepgcnkaa", sum := "95c6c070512958850b4d474619800c1be2d74776879cb48caa7e6254b80a7609", func := "anabranch/anabranchlaw27.AddrsUndo", spec := "addrsUndo", apart := false }
def AddrsUndoSaid : Prop := addrsUndoRow.holds Try.pinned (OpenSpec.ofChange addrsUndoSpec)

/-- ITS FALSE NEIGHBOUR: 'it returns false'. Refute it at one input. -/
def addrsUndoWrong : ChangeSpec := { name := "addrsUndo", fn := fun _ => fun
  | [d1, d2, d3, d4] => { results := [.lit (.bool false)], args := [d1, d2, d3, d4] }
  | _ => none }
def AddrsUndoWrongFalsely : Prop := addrsUndoRow.holds Try.pinned (OpenSpec.ofChange addrsUndoWrong)

/-- 'anabranchlaw31.SchedSame': WHATEVER THE INPUT: true; the input reads as it did. -/
def schedSameSpec : ChangeSpec := { name := "schedSame", fn := fun _ => fun
  | [d1, d2] => { results := [.lit (.bool true)], args := [d1, d2] }
  | _ => none }
def schedSameRow : OpenClaim := { program := "ytafmkalepgcnkaa", sum := "95c6c070512958850b4d474619800c1be2d74776879cb48caa7e6254b80a7609", func := "anabranch/anabranchlaw31.SchedSame", spec := "schedSame", unfollowed := true, recurses := true, apart := false }
def SchedSameSaid : Prop := schedSameRow.holds Try.pinned (OpenSpec.ofChange schedSameSpec)

/-- ITS FALSE NEIGHBOUR: 'it returns false'. Refute it at one input. -/
def schedSameWrong : ChangeSpec := { name := "schedSame", fn := fun _ => fun
  | [d1, d2] => { results := [.lit (.bool false)], args := [d1, d2] }
  | _ => none }
def SchedSameWrongFalsely : Prop := schedSameRow.holds Try.pinned (OpenSpec.ofChange schedSameWrong)

/-- 'anabranchlaw31.SchedOrders': WHATEVER THE INPUT: true; the input reads as it did. -/
def schedOrdersSpec : ChangeSpec := { name := "schedOrders", fn := fun _ => fun
  | [d] => { results := [.lit (.bool true)], args := [d] }
  | _ => none }
def schedOrdersRow : OpenClaim := { program := "ytafmkalepgcnkaa", sum := "95c6c070512958850b4d474619800c1be2d74776879cb48caa7e6254b80a7609", func := "anabranch/anabranchlaw31.SchedOrders", spec := "schedOrders", unfollowed := true, recurses := true, apart := false }
def SchedOrdersSaid : Prop := schedOrdersRow.holds Try.pinned (OpenSpec.ofChange schedOrdersSpec)

/-- ITS FALSE NEIGHBOUR: 'it returns false'. Refute it at one input. -/
def schedOrdersWrong : ChangeSpec := { name := "schedOrders", fn := fun _ => fun
  | [d] => { results := [.lit (.bool false)], args := [d] }
  | _ => none }
def SchedOrdersWrongFalsely : Prop := schedOrdersRow.holds Try.pinned (OpenSpec.ofChange schedOrdersWrong)

/-- 'anabranchlaw31.SchedStrict': WHATEVER THE INPUT: true; the input reads as it did. -/
def schedStrictSpec : ChangeSpec := { name := "schedStrict", fn := fun _ => fun
  | [d1, d2, d3] => { results := [.lit (.bool true)], args := [d1, d2, d3] }
  | _ => none }
def schedStrictRow : OpenClaim := { program := "ytafmkalepgcnkaa", sum := "95c6c070512958850b4d474619800c1be2d74776879cb48caa7e6254b80a7609", func := "anabranch/anabranchlaw31.SchedStrict", spec := "schedStrict", unfollowed := true, recurses := true, apart := false }
def SchedStrictSaid : Prop := schedStrictRow.holds Try.pinned (OpenSpec.ofChange schedStrictSpec)

/-- ITS FALSE NEIGHBOUR: 'it returns false'. Refute it at one input. -/
def schedStrictWrong : ChangeSpec := { name := "schedStrict", fn := fun _ => fun
  | [d1, d2, d3] => { results := [.lit (.bool false)], args := [d1, d2, d3] }
  | _ => none }
def SchedStrictWrongFalsely : Prop := schedStrictRow.holds Try.pinned (OpenSpec.ofChange schedStrictWrong)

/-- 'anabranchlaw31.SchedSpreads': WHATEVER THE INPUT: true; the input reads as it did. -/
def schedSpreadsSpec : ChangeSpec := { name := "schedSpreads", fn := fun _ => fun
  | [d1, d2, d3] => { results := [.lit (.bool true)], args := [d1, d2, d3] }
  | _ => none }
def schedSpreadsRow : OpenClaim := { program := "ytafmkalepgcnkaa", sum := "95c6c070512958850b4d474619800c1be2d74776879cb48caa7e6254b80a7609", func := "anabranch/anabranchlaw31.SchedSpreads", spec := "schedSpreads", unfollowed := true, recurses := true, apart := false }
def SchedSpreadsSaid : Prop := schedSpreadsRow.holds Try.pinned (OpenSpec.ofChange schedSpreadsSpec)

/-- ITS FALSE NEIGHBOUR: 'it returns false'. Refute it at one input. -/
def schedSpreadsWrong : ChangeSpec := { name := "schedSpreads", fn := fun _ => fun
  | [d1, d2, d3] => { results := [.lit (.bool false)], args := [d1, d2, d3] }
  | _ => none }
def SchedSpreadsWrongFalsely : Prop := schedSpreadsRow.holds Try.pinned (OpenSpec.ofChange schedSpreadsWrong)

/- THE SECOND FORM. 'bulk': how many values and letters a reading holds, each counted each time it is reached (what is shared counts as often as it is met; a slice's spare places count too). A statement '..UptoSaid' is the law's where the arguments, and the package variables that the reading takes, are together of bulk at most 1048576: NARROWER than '..Said'. Prove '..Said' where nothing that the law and all that it calls make is longer than what came in: it says more and counts as full. Else prove '..UptoSaid'. A law counts once. -/
mutual
def uptoBulk {H : Type} : DataW H → Nat
  | .lit (.string bytes) => bytes.length + 1
  | .lit _ => 1
  | .nil => 1
  | .ptr d => uptoBulk d + 1
  | .slice elems spare => uptoBulkAll elems + uptoBulkAll spare + 1
  | .agg parts => uptoBulkAll parts + 1
  | .iface _ d => uptoBulk d + 1
  | .map entries => uptoBulkEntries entries + 1
  | .held _ => 1
def uptoBulkAll {H : Type} : List (DataW H) → Nat
  | [] => 0
  | d :: r => uptoBulk d + uptoBulkAll r
def uptoBulkEntries {H : Type} : List (Lit × DataW H) → Nat
  | [] => 0
  | x :: r => uptoBulkEntry x + uptoBulkEntries r
def uptoBulkEntry {H : Type} : Lit × DataW H → Nat
  | (.string bytes, d) => bytes.length + uptoBulk d + 1
  | (_, d) => uptoBulk d + 1
 end
def uptoSmall : (H : Type) → List (DataW H) → Bool := fun _ ds => decide (uptoBulkAll ds ≤ 1048576)
def OpenSpec.upto (s : _root_.Go.ChangeSpec) : _root_.Go.OpenSpec := { _root_.Go.OpenSpec.ofChange s with cond := some uptoSmall }

/-- 'anabranchlaw17.BackoffTicks', WHERE WHAT IT READS IS OF BULK AT MOST 1048576: true; the input reads as it did. -/
def backoffTicksUptoRow : OpenClaim := { program := "ytafmkalepgcnkaa", sum := "95c6c070512958850b4d474619800c1be2d74776879cb48caa7e6254b80a7609", func := "anabranch/anabranchlaw17.BackoffTicks", spec := "backoffTicks", apart := false, narrowed := true }
def BackoffTicksUptoSaid : Prop := backoffTicksUptoRow.holds Try.pinned (OpenSpec.upto backoffTicksSpec)

/-- 'anabranchlaw17.BackoffNone', WHERE WHAT IT READS IS OF BULK AT MOST 1048576: true; the input reads as it did. -/
def backoffNoneUptoRow : OpenClaim := { program := "ytafmkalepgcnkaa", sum := "95c6c070512958850b4d474619800c1be2d74776879cb48caa7e6254b80a7609", func := "anabranch/anabranchlaw17.BackoffNone", spec := "backoffNone", apart := false, narrowed := true }
def BackoffNoneUptoSaid : Prop := backoffNoneUptoRow.holds Try.pinned (OpenSpec.upto backoffNoneSpec)

/-- 'anabranchlaw27.AddrsPlaces', WHERE WHAT IT READS IS OF BULK AT MOST 1048576: true; the input reads as it did. -/
def addrsPlacesUptoRow : OpenClaim := { program := "ytafmkalepgcnkaa", sum := "95c6c070512958850b4d474619800c1be2d74776879cb48caa7e6254b80a7609", func := "anabranch/anabranchlaw27.AddrsPlaces", spec := "addrsPlaces", apart := false, narrowed := true }
def AddrsPlacesUptoSaid : Prop := addrsPlacesUptoRow.holds Try.pinned (OpenSpec.upto addrsPlacesSpec)

/-- 'anabranchlaw27.AddrsDoes', WHERE WHAT IT READS IS OF BULK AT MOST 1048576: true; the input reads as it did. -/
def addrsDoesUptoRow : OpenClaim := { program := "ytafmkalepgcnkaa", sum := "95c6c070512958850b4d474619800c1be2d74776879cb48caa7e6254b80a7609", func := "anabranch/anabranchlaw27.AddrsDoes", spec := "addrsDoes", apart := false, narrowed := true }
def AddrsDoesUptoSaid : Prop := addrsDoesUptoRow.holds Try.pinned (OpenSpec.upto addrsDoesSpec)

/-- 'anabranchlaw27.AddrsUndo', WHERE WHAT IT READS IS OF BULK AT MOST 1048576: true; the input reads as it did. -/
def addrsUndoUptoRow : OpenClaim := { program := "ytafmkalepgcnkaa", sum := "95c6c070512958850b4d474619800c1be2d74776879cb48caa7e6254b80a7609", func := "anabranch/anabranchlaw27.AddrsUndo", spec := "addrsUndo", apart := false, narrowed := true }
def AddrsUndoUptoSaid : Prop := addrsUndoUptoRow.holds Try.pinned (OpenSpec.upto addrsUndoSpec)

/-- 'anabranchlaw31.SchedSame', WHERE WHAT IT READS IS OF BULK AT MOST 1048576: true; the input reads as it did. -/
def schedSameUptoRow : OpenClaim := { program := "ytafmkalepgcnkaa", sum := "95c6c070512958850b4d474619800c1be2d74776879cb48caa7e6254b80a7609", func := "anabranch/anabranchlaw31.SchedSame", spec := "schedSame", unfollowed := true, recurses := true, apart := false, narrowed := true }
def SchedSameUptoSaid : Prop := schedSameUptoRow.holds Try.pinned (OpenSpec.upto schedSameSpec)

/-- 'anabranchlaw31.SchedOrders', WHERE WHAT IT READS IS OF BULK AT MOST 1048576: true; the input reads as it did. -/
def schedOrdersUptoRow : OpenClaim := { program := "ytafmkalepgcnkaa", sum := "95c6c070512958850b4d474619800c1be2d74776879cb48caa7e6254b80a7609", func := "anabranch/anabranchlaw31.SchedOrders", spec := "schedOrders", unfollowed := true, recurses := true, apart := false, narrowed := true }
def SchedOrdersUptoSaid : Prop := schedOrdersUptoRow.holds Try.pinned (OpenSpec.upto schedOrdersSpec)

/-- 'anabranchlaw31.SchedStrict', WHERE WHAT IT READS IS OF BULK AT MOST 1048576: true; the input reads as it did. -/
def schedStrictUptoRow : OpenClaim := { program := "ytafmkalepgcnkaa", sum := "95c6c070512958850b4d474619800c1be2d74776879cb48caa7e6254b80a7609", func := "anabranch/anabranchlaw31.SchedStrict", spec := "schedStrict", unfollowed := true, recurses := true, apart := false, narrowed := true }
def SchedStrictUptoSaid : Prop := schedStrictUptoRow.holds Try.pinned (OpenSpec.upto schedStrictSpec)

/-- 'anabranchlaw31.SchedSpreads', WHERE WHAT IT READS IS OF BULK AT MOST 1048576: true; the input reads as it did. -/
def schedSpreadsUptoRow : OpenClaim := { program := "ytafmkalepgcnkaa", sum := "95c6c070512958850b4d474619800c1be2d74776879cb48caa7e6254b80a7609", func := "anabranch/anabranchlaw31.SchedSpreads", spec := "schedSpreads", unfollowed := true, recurses := true, apart := false, narrowed := true }
def SchedSpreadsUptoSaid : Prop := schedSpreadsUptoRow.holds Try.pinned (OpenSpec.upto schedSpreadsSpec)

end Rows
end Go.Proofs.Ytafmkalepgcnkaa
