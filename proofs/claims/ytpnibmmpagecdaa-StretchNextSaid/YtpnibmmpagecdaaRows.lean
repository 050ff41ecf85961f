/-
  No cell of these rows narrows 'for every input' (looked for: loops, veiled, ifaces, maps, wideKeys, modest, calm, conditions, laid).
  DERIVED. THE GIVEN ROWS OF THIS SEAT. 8 by the template 'for every input the law returns true; each argument reads behind the call as it read before'; 0 by the template 'total and deterministic' (their statements: YtpnibmmpagecdaaTotals.lean).
  GIVEN WITH THE SEED: the statements are not yours to turn. If you find one false, say at which input.
  Laid BY PROGRAM, IN A SANDBOX (cutbox-rows.mjs): the forced cells as the released guide's own fill.sh prints them over the translation b08cc4265656ac0a… (all of the seat's roots in one cut). By AI agents, Wed Nov 11 2026. No macro, syntax, notation, axiom, sorry.
-/
import Derived.Test.YtpnibmmpagecdaaChecked
import GoSem.Claim
import GoSem.ClaimJoined
import GoSem.ClaimMapViews
import Derived.JoinedTies
import Derived.KernelRfl
namespace Go.Proofs.Ytpnibmmpagecdaa
/- THE CELL 'sum', in the pinned program and in every row, IS THE sha256 OF THE DUMP (.gsa) THAT YtpnibmmpagecdaaProg.lean LOADS. Nothing in Lean hashes anything: it is a label: what it is worth is what the hold of that sum in a sandbox is worth. -/
noncomputable def Try.pinned : Pinned := { name := "ytpnibmmpagecdaa", sum := "b08cc4265656ac0aa25ff6daa9a36420e669f24d6c11af6c2f5cf22d1e702c31", checked := Try.checked }
namespace Rows
def none {H : Type} : Left H := { results := [], args := [] }

/-- 'anabranchlaw02.CircOrder': WHATEVER THE INPUT: true; the input reads as it did. -/
def circOrderSpec : ChangeSpec := { name := "circOrder", fn := fun _ => fun
  | [d1, d2, d3] => { results := [.lit (.bool true)], args := [d1, d2, d3] }
  | _ => none }
def circOrderRow : OpenClaim := { program := "ytpnibmmpagecdaa", sum := "b08cc4265656ac0aa25ff6daa9a36420e669f24d6c11af6c2f5cf22d1e702c31", func := "anabranch/anabranchlaw02.CircOrder", spec := "circOrder", apart := false }
def CircOrderSaid : Prop := circOrderRow.holds Try.pinned (OpenSpec.ofChange circOrderSpec)

/-- ITS FALSE NEIGHBOUR: 'it returns false'. Refute it at one input. -/
def circOrderWrong : ChangeSpec := { name := "circOrder", fn := fun _ => fun
  | [d1, d2, d3] => { results := [.lit (.bool false)], args := [d1, d2, d3] }
  | _ => none }
def CircOrderWrongFalsely : Prop := circOrderRow.holds Try.pinned (OpenSpec.ofChange circOrderWrong)

/-- 'anabranchlaw02.CircWithin': WHATEVER THE INPUT: true; the input reads as it did. -/
def circWithinSpec : ChangeSpec := { name := "circWithin", fn := fun _ => fun
  | [d1, d2, d3] => { results := [.lit (.bool true)], args := [d1, d2, d3] }
  | _ => none }
def circWithinRow : OpenClaim := { program := "ytpnibmmpagecdaa", sum := "b08cc4265656ac0aa25ff6daa9a36420e669f24d6c11af6c2f5cf22d1e702c31", func := "anabranch/anabranchlaw02.CircWithin", spec := "circWithin", apart := false }
def CircWithinSaid : Prop := circWithinRow.holds Try.pinned (OpenSpec.ofChange circWithinSpec)

/-- ITS FALSE NEIGHBOUR: 'it returns false'. Refute it at one input. -/
def circWithinWrong : ChangeSpec := { name := "circWithin", fn := fun _ => fun
  | [d1, d2, d3] => { results := [.lit (.bool false)], args := [d1, d2, d3] }
  | _ => none }
def CircWithinWrongFalsely : Prop := circWithinRow.holds Try.pinned (OpenSpec.ofChange circWithinWrong)

/-- 'anabranchlaw02.CircSteps': WHATEVER THE INPUT: true; the input reads as it did. -/
def circStepsSpec : ChangeSpec := { name := "circSteps", fn := fun _ => fun
  | [d1, d2, d3] => { results := [.lit (.bool true)], args := [d1, d2, d3] }
  | _ => none }
def circStepsRow : OpenClaim := { program := "ytpnibmmpagecdaa", sum := "b08cc4265656ac0aa25ff6daa9a36420e669f24d6c11af6c2f5cf22d1e702c31", func := "anabranch/anabranchlaw02.CircSteps", spec := "circSteps", apart := false }
def CircStepsSaid : Prop := circStepsRow.holds Try.pinned (OpenSpec.ofChange circStepsSpec)

/-- ITS FALSE NEIGHBOUR: 'it returns false'. Refute it at one input. -/
def circStepsWrong : ChangeSpec := { name := "circSteps", fn := fun _ => fun
  | [d1, d2, d3] => { results := [.lit (.bool false)], args := [d1, d2, d3] }
  | _ => none }
def CircStepsWrongFalsely : Prop := circStepsRow.holds Try.pinned (OpenSpec.ofChange circStepsWrong)

/-- 'anabranchlaw02.CircTells': WHATEVER THE INPUT: true; the input reads as it did. -/
def circTellsSpec : ChangeSpec := { name := "circTells", fn := fun _ => fun
  | [d1, d2, d3] => { results := [.lit (.bool true)], args := [d1, d2, d3] }
  | _ => none }
def circTellsRow : OpenClaim := { program := "ytpnibmmpagecdaa", sum := "b08cc4265656ac0aa25ff6daa9a36420e669f24d6c11af6c2f5cf22d1e702c31", func := "anabranch/anabranchlaw02.CircTells", spec := "circTells", apart := false }
def CircTellsSaid : Prop := circTellsRow.holds Try.pinned (OpenSpec.ofChange circTellsSpec)

/-- ITS FALSE NEIGHBOUR: 'it returns false'. Refute it at one input. -/
def circTellsWrong : ChangeSpec := { name := "circTells", fn := fun _ => fun
  | [d1, d2, d3] => { results := [.lit (.bool false)], args := [d1, d2, d3] }
  | _ => none }
def CircTellsWrongFalsely : Prop := circTellsRow.holds Try.pinned (OpenSpec.ofChange circTellsWrong)

/-- 'anabranchlaw03.StretchNext': WHATEVER THE INPUT: true; the input reads as it did. -/
def stretchNextSpec : ChangeSpec := { name := "stretchNext", fn := fun _ => fun
  | [d1, d2, d3] => { results := [.lit (.bool true)], args := [d1, d2, d3] }
  | _ => none }
def stretchNextRow : OpenClaim := { program := "ytpnibmmpagecdaa", sum := "b08cc4265656ac0aa25ff6daa9a36420e669f24d6c11af6c2f5cf22d1e702c31", func := "anabranch/anabranchlaw03.StretchNext", spec := "stretchNext", apart := false }
def StretchNextSaid : Prop := stretchNextRow.holds Try.pinned (OpenSpec.ofChange stretchNextSpec)

/-- ITS FALSE NEIGHBOUR: 'it returns false'. Refute it at one input. -/
def stretchNextWrong : ChangeSpec := { name := "stretchNext", fn := fun _ => fun
  | [d1, d2, d3] => { results := [.lit (.bool false)], args := [d1, d2, d3] }
  | _ => none }
def StretchNextWrongFalsely : Prop := stretchNextRow.holds Try.pinned (OpenSpec.ofChange stretchNextWrong)

/-- 'anabranchlaw03.StretchTells': WHATEVER THE INPUT: true; the input reads as it did. -/
def stretchTellsSpec : ChangeSpec := { name := "stretchTells", fn := fun _ => fun
  | [d1, d2, d3] => { results := [.lit (.bool true)], args := [d1, d2, d3] }
  | _ => none }
def stretchTellsRow : OpenClaim := { program := "ytpnibmmpagecdaa", sum := "b08cc4265656ac0aa25ff6daa9a36420e669f24d6c11af6c2f5cf22d1e702c31", func := "anabranch/anabranchlaw03.StretchTells", spec := "stretchTells", apart := false }
def StretchTellsSaid : Prop := stretchTellsRow.holds Try.pinned (OpenSpec.ofChange stretchTellsSpec)

/-- ITS FALSE NEIGHBOUR: 'it returns false'. Refute it at one input. -/
def stretchTellsWrong : ChangeSpec := { name := "stretchTells", fn := fun _ => fun
  | [d1, d2, d3] => { results := [.lit (.bool false)], args := [d1, d2, d3] }
  | _ => none }
def StretchTellsWrongFalsely : Prop := stretchTellsRow.holds Try.pinned (OpenSpec.ofChange stretchTellsWrong)

/-- 'anabranchlaw03.StretchBack': WHATEVER THE INPUT: true; the input reads as it did. -/
def stretchBackSpec : ChangeSpec := { name := "stretchBack", fn := fun _ => fun
  | [d1, d2] => { results := [.lit (.bool true)], args := [d1, d2] }
  | _ => none }
def stretchBackRow : OpenClaim := { program := "ytpnibmmpagecdaa", sum := "b08cc4265656ac0aa25ff6daa9a36420e669f24d6c11af6c2f5cf22d1e702c31", func := "anabranch/anabranchlaw03.StretchBack", spec := "stretchBack", apart := false }
def StretchBackSaid : Prop := stretchBackRow.holds Try.pinned (OpenSpec.ofChange stretchBackSpec)

/-- ITS FALSE NEIGHBOUR: 'it returns false'. Refute it at one input. -/
def stretchBackWrong : ChangeSpec := { name := "stretchBack", fn := fun _ => fun
  | [d1, d2] => { results := [.lit (.bool false)], args := [d1, d2] }
  | _ => none }
def StretchBackWrongFalsely : Prop := stretchBackRow.holds Try.pinned (OpenSpec.ofChange stretchBackWrong)

/-- 'anabranchlaw03.StretchStays': WHATEVER THE INPUT: true; the input reads as it did. -/
def stretchStaysSpec : ChangeSpec := { name := "stretchStays", fn := fun _ => fun
  | [d1, d2, d3] => { results := [.lit (.bool true)], args := [d1, d2, d3] }
  | _ => none }
def stretchStaysRow : OpenClaim := { program := "ytpnibmmpagecdaa", sum := "b08cc4265656ac0aa25ff6daa9a36420e669f24d6c11af6c2f5cf22d1e702c31", func := "anabranch/anabranchlaw03.StretchStays", spec := "stretchStays", apart := false }
def StretchStaysSaid : Prop := stretchStaysRow.holds Try.pinned (OpenSpec.ofChange stretchStaysSpec)

/-- ITS FALSE NEIGHBOUR: 'it returns false'. Refute it at one input. -/
def stretchStaysWrong : ChangeSpec := { name := "stretchStays", fn := fun _ => fun
  | [d1, d2, d3] => { results := [.lit (.bool false)], args := [d1, d2, d3] }
  | _ => none }
def StretchStaysWrongFalsely : Prop := stretchStaysRow.holds Try.pinned (OpenSpec.ofChange stretchStaysWrong)

/- THE SECOND FORM. 'bulk': how many values and letters a reading holds, each counted each time it is reached (what is shared counts as often as it is met; a slice's spare places count too). A statement '..UptoSaid' is the law's where the arguments, and the package variables that the reading takes, are together of bulk at most 1048576: NARROWER than '..Said'. Prove '..Said' where nothing that the law and all that it calls make is longer than what came in: it says more and counts as full. Else prove '..UptoSaid'. A law counts once. -/
mutual
def uptoBulk {H : Type} : DataW H → Nat
  | .lit (.string bytes) => bytes.length + 1
  | .lit _ => 1
  | .nil => 1
  | .ptr d => uptoBulk d + 1
  | .slice elems spare => uptoBulkAll elems + uptoBulkAll spare + 1
  | .agg parts => uptoBulkAll parts + 1
  | .iface _ d => uptoBulk d + 1
  | .map entries => uptoBulkEntries entries + 1
  | .held _ => 1
def uptoBulkAll {H : Type} : List (DataW H) → Nat
  | [] => 0
  | d :: r => uptoBulk d + uptoBulkAll r
def uptoBulkEntries {H : Type} : List (Lit × DataW H) → Nat
  | [] => 0
  | x :: r => uptoBulkEntry x + uptoBulkEntries r
def uptoBulkEntry {H : Type} : Lit × DataW H → Nat
  | (.string bytes, d) => bytes.length + uptoBulk d + 1
  | (_, d) => uptoBulk d + 1
 end
def uptoSmall : (H : Type) → List (DataW H) → Bool := fun _ ds => decide (uptoBulkAll ds ≤ 1048576)
def OpenSpec.upto (s : _root_.Go.ChangeSpec) : _root_.Go.OpenSpec := { _root_.Go.OpenSpec.ofChange s with cond := some uptoSmall }

/-- 'anabranchlaw02.CircOrder', WHERE WHAT IT READS IS OF BULK AT MOST 1048576: true; the input reads as it did. -/
def circOrderUptoRow : OpenClaim := { program := "ytpnibmmpagecdaa", sum := "b08cc4265656ac0aa25ff6daa9a36420e669f24d6c11af6c2f5cf22d1e702c31", func := "anabranch/anabranchlaw02.CircOrder", spec := "circOrder", apart := false, narrowed := true }
def CircOrderUptoSaid : Prop := circOrderUptoRow.holds Try.pinned (OpenSpec.upto circOrderSpec)

/-- 'anabranchlaw02.CircWithin', WHERE WHAT IT READS IS OF BULK AT MOST 1048576: true; the input reads as it did. -/
def circWithinUptoRow : OpenClaim := { program := "ytpnibmmpagecdaa", sum := "b08cc4265656ac0aa25ff6daa9a36420e669f24d6c11af6c2f5cf22d1e702c31", func := "anabranch/anabranchlaw02.CircWithin", spec := "circWithin", apart := false, narrowed := true }
def CircWithinUptoSaid : Prop := circWithinUptoRow.holds Try.pinned (OpenSpec.upto circWithinSpec)

/-- 'anabranchlaw02.CircSteps', WHERE WHAT IT READS IS OF BULK AT MOST 1048576: true; the input reads as it did. -/
def circStepsUptoRow : OpenClaim := { program := "ytpnibmmpagecdaa", sum := "b08cc4265656ac0aa25ff6daa9a36420e669f24d6c11af6c2f5cf22d1e702c31", func := "anabranch/anabranchlaw02.CircSteps", spec := "circSteps", apart := false, narrowed := true }
def CircStepsUptoSaid : Prop := circStepsUptoRow.holds Try.pinned (OpenSpec.upto circStepsSpec)

/-- 'anabranchlaw02.CircTells', WHERE WHAT IT READS IS OF BULK AT MOST 1048576: true; the input reads as it did. -/
def circTellsUptoRow : OpenClaim := { program := "ytpnibmmpagecdaa", sum := "b08cc4265656ac0aa25ff6daa9a36420e669f24d6c11af6c2f5cf22d1e702c31", func := "anabranch/anabranchlaw02.CircTells", spec := "circTells", apart := false, narrowed := true }
def CircTellsUptoSaid : Prop := circTellsUptoRow.holds Try.pinned (OpenSpec.upto circTellsSpec)

/-- 'anabranchlaw03.StretchNext', WHERE WHAT IT READS IS OF BULK AT MOST 1048576: true; the input reads as it did. -/
def stretchNextUptoRow : OpenClaim := { program := "ytpnibmmpagecdaa", sum := "b08cc4265656ac0aa25ff6daa9a36420e669f24d6c11af6c2f5cf22d1e702c31", func := "anabranch/anabranchlaw03.StretchNext", spec := "stretchNext", apart := false, narrowed := true }
def StretchNextUptoSaid : Prop := stretchNextUptoRow.holds Try.pinned (OpenSpec.upto stretchNextSpec)

/-- 'anabranchlaw03.StretchTells', WHERE WHAT IT READS IS OF BULK AT MOST 1048576: true; the input reads as it did. -/
def stretchTellsUptoRow : OpenClaim := { program := "ytpnibmmpagecdaa", sum := "b08cc4265656ac0aa25ff6daa9a36420e669f24d6c11af6c2f5cf22d1e702c31", func := "anabranch/anabranchlaw03.StretchTells", spec := "stretchTells", apart := false, narrowed := true }
def StretchTellsUptoSaid : Prop := stretchTellsUptoRow.holds Try.pinned (OpenSpec.upto stretchTellsSpec)

/-- 'anabranchlaw03.StretchBack', WHERE WHAT IT READS IS OF BULK AT MOST 1048576: true; the input reads as it did. -/
def stretchBackUptoRow : OpenClaim := { program := "ytpnibmmpagecdaa", sum := "b08cc4265656ac0aa25ff6daa9a36420e669f24d6c11af6c2f5cf22d1e702c31", func := "anabranch/anabranchlaw03.StretchBack", spec := "stretchBack", apart := false, narrowed := true }
def StretchBackUptoSaid : Prop := stretchBackUptoRow.holds Try.pinned (OpenSpec.upto stretchBackSpec)

/-- 'anabranchlaw03.StretchStays', WHERE WHAT IT READS IS OF BULK AT MOST 1048576: true; the input reads as it did. -/
def stretchStaysUptoRow : OpenClaim := { program := "ytpnibmmpagecdaa", sum := "b08cc4265656ac0aa25ff6daa9a36420e669f24d6c11af6c2f5cf22d1e702c31", func := "anabranch/anabranchlaw03.StretchStays", spec := "stretchStays", apart := false, narrowed := true }
def StretchStaysUptoSaid : Prop := stretchStaysUptoRow.holds Try.pinned (OpenSpec.upto stretchStaysSpec)

end Rows
end Go.Proofs.Ytpnibmmpagecdaa
