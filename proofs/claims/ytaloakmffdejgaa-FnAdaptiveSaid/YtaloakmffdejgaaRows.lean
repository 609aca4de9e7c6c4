/-
  No cell of these rows narrows 'for every input' (looked for: loops, veiled, ifaces, maps, wideKeys, modest, calm, conditions, laid).
  DERIVED. THE GIVEN ROWS OF THIS SEAT. 5 by the template 'for every input the law returns true; each argument reads behind the call as it read before'; 0 by the template 'total and deterministic' (their statements: YtaloakmffdejgaaTotals.lean).
  GIVEN WITH THE SEED: the statements are not yours to turn. If you find one false, say at which input.
  Laid BY PROGRAM, IN A SANDBOX (cutbox-rows.mjs): the forced cells as the released guide's own fill.sh prints them over the translation 1514ea5896c0b693… (all of the seat's roots in one cut). By AI agents, Wed Nov 11 2026. No macro, syntax, notation, axiom, sorry.
-/
import Derived.Test.YtaloakmffdejgaaChecked
import GoSem.Claim
import GoSem.ClaimJoined
import GoSem.ClaimMapViews
import Derived.JoinedTies
import Derived.KernelRfl
namespace Go.Proofs.Ytaloakmffdejgaa
/- THE CELL 'sum', in the pinned program and in every row, IS THE sha256 OF THE DUMP (.gsa) THAT YtaloakmffdejgaaProg.lean LOADS. Nothing in Lean hashes anything: it is a label: what it is worth is what the hold of that sum in a sandbox is worth. -/
noncomputable def Try.pinned : Pinned := { name := "ytaloakmffdejgaa", sum := "1514ea5896c0b6931fa0fd8ed18fce143690bda25e355ed2ab6880be8b39d386", checked := Try.checked }
namespace Rows
def none {H : Type} : Left H := { results := [], args := [] }

/-- 'laws.FnTop': WHATEVER THE INPUT: true; the input reads as it did. -/
def fnTopSpec : ChangeSpec := { name := "fnTop", fn := fun _ => fun
  | [d] => { results := [.lit (.bool true)], args := [d] }
  | _ => none }
def fnTopRow : OpenClaim := { program := "ytaloakmffdejgaa", sum := "1514ea5896c0b6931fa0fd8ed18fce143690bda25e355ed2ab6880be8b39d386", func := "loop.example/g00907/laws.FnTop", spec := "fnTop", unfollowed := true, recurses := true, apart := false }
def FnTopSaid : Prop := fnTopRow.holds Try.pinned (OpenSpec.ofChange fnTopSpec)

/-- ITS FALSE NEIGHBOUR: 'it returns false'. Refute it at one input. -/
def fnTopWrong : ChangeSpec := { name := "fnTop", fn := fun _ => fun
  | [d] => { results := [.lit (.bool false)], args := [d] }
  | _ => none }
def FnTopWrongFalsely : Prop := fnTopRow.holds Try.pinned (OpenSpec.ofChange fnTopWrong)

/-- 'laws.FnGroups': WHATEVER THE INPUT: true; the input reads as it did. -/
def fnGroupsSpec : ChangeSpec := { name := "fnGroups", fn := fun _ => fun
  | [d] => { results := [.lit (.bool true)], args := [d] }
  | _ => none }
def fnGroupsRow : OpenClaim := { program := "ytaloakmffdejgaa", sum := "1514ea5896c0b6931fa0fd8ed18fce143690bda25e355ed2ab6880be8b39d386", func := "loop.example/g00907/laws.FnGroups", spec := "fnGroups", unfollowed := true, recurses := true, apart := false }
def FnGroupsSaid : Prop := fnGroupsRow.holds Try.pinned (OpenSpec.ofChange fnGroupsSpec)

/-- ITS FALSE NEIGHBOUR: 'it returns false'. Refute it at one input. -/
def fnGroupsWrong : ChangeSpec := { name := "fnGroups", fn := fun _ => fun
  | [d] => { results := [.lit (.bool false)], args := [d] }
  | _ => none }
def FnGroupsWrongFalsely : Prop := fnGroupsRow.holds Try.pinned (OpenSpec.ofChange fnGroupsWrong)

/-- 'laws.FnAdaptive': WHATEVER THE INPUT: true; the input reads as it did. -/
def fnAdaptiveSpec : ChangeSpec := { name := "fnAdaptive", fn := fun _ => fun
  | [d] => { results := [.lit (.bool true)], args := [d] }
  | _ => none }
def fnAdaptiveRow : OpenClaim := { program := "ytaloakmffdejgaa", sum := "1514ea5896c0b6931fa0fd8ed18fce143690bda25e355ed2ab6880be8b39d386", func := "loop.example/g00907/laws.FnAdaptive", spec := "fnAdaptive", unfollowed := true, recurses := true, apart := false }
def FnAdaptiveSaid : Prop := fnAdaptiveRow.holds Try.pinned (OpenSpec.ofChange fnAdaptiveSpec)

/-- ITS FALSE NEIGHBOUR: 'it returns false'. Refute it at one input. -/
def fnAdaptiveWrong : ChangeSpec := { name := "fnAdaptive", fn := fun _ => fun
  | [d] => { results := [.lit (.bool false)], args := [d] }
  | _ => none }
def FnAdaptiveWrongFalsely : Prop := fnAdaptiveRow.holds Try.pinned (OpenSpec.ofChange fnAdaptiveWrong)

/-- 'laws.FnPolyphase': WHATEVER THE INPUT: true; the input reads as it did. -/
def fnPolyphaseSpec : ChangeSpec := { name := "fnPolyphase", fn := fun _ => fun
  | [d] => { results := [.lit (.bool true)], args := [d] }
  | _ => none }
def fnPolyphaseRow : OpenClaim := { program := "ytaloakmffdejgaa", sum := "1514ea5896c0b6931fa0fd8ed18fce143690bda25e355ed2ab6880be8b39d386", func := "loop.example/g00907/laws.FnPolyphase", spec := "fnPolyphase", unfollowed := true, recurses := true, apart := false }
def FnPolyphaseSaid : Prop := fnPolyphaseRow.holds Try.pinned (OpenSpec.ofChange fnPolyphaseSpec)

/-- ITS FALSE NEIGHBOUR: 'it returns false'. Refute it at one input. -/
def fnPolyphaseWrong : ChangeSpec := { name := "fnPolyphase", fn := fun _ => fun
  | [d] => { results := [.lit (.bool false)], args := [d] }
  | _ => none }
def FnPolyphaseWrongFalsely : Prop := fnPolyphaseRow.holds Try.pinned (OpenSpec.ofChange fnPolyphaseWrong)

/-- 'laws.FnDecisions': WHATEVER THE INPUT: true; the input reads as it did. -/
def fnDecisionsSpec : ChangeSpec := { name := "fnDecisions", fn := fun _ => fun
  | [d] => { results := [.lit (.bool true)], args := [d] }
  | _ => none }
def fnDecisionsRow : OpenClaim := { program := "ytaloakmffdejgaa", sum := "1514ea5896c0b6931fa0fd8ed18fce143690bda25e355ed2ab6880be8b39d386", func := "loop.example/g00907/laws.FnDecisions", spec := "fnDecisions", unfollowed := true, recurses := true, apart := false }
def FnDecisionsSaid : Prop := fnDecisionsRow.holds Try.pinned (OpenSpec.ofChange fnDecisionsSpec)

/-- ITS FALSE NEIGHBOUR: 'it returns false'. Refute it at one input. -/
def fnDecisionsWrong : ChangeSpec := { name := "fnDecisions", fn := fun _ => fun
  | [d] => { results := [.lit (.bool false)], args := [d] }
  | _ => none }
def FnDecisionsWrongFalsely : Prop := fnDecisionsRow.holds Try.pinned (OpenSpec.ofChange fnDecisionsWrong)

/- THE SECOND FORM. 'bulk': how many values and letters a reading holds, each counted each time it is reached (what is shared counts as often as it is met; a slice's spare places count too). A statement '..UptoSaid' is the law's where the arguments, and the package variables that the reading takes, are together of bulk at most 1048576: NARROWER than '..Said'. Prove '..Said' where nothing that the law and all that it calls make is longer than what came in: it says more and counts as full. Else prove '..UptoSaid'. A law counts once. -/
mutual
def uptoBulk {H : Type} : DataW H → Nat
  | .lit (.string bytes) => bytes.length + 1
  | .lit _ => 1
  | .nil => 1
  | .ptr d => uptoBulk d + 1
  | .slice elems spare => uptoBulkAll elems + uptoBulkAll spare + 1
  | .agg parts => uptoBulkAll parts + 1
  | .iface _ d => uptoBulk d + 1
  | .map entries => uptoBulkEntries entries + 1
  | .held _ => 1
def uptoBulkAll {H : Type} : List (DataW H) → Nat
  | [] => 0
  | d :: r => uptoBulk d + uptoBulkAll r
def uptoBulkEntries {H : Type} : List (Lit × DataW H) → Nat
  | [] => 0
  | x :: r => uptoBulkEntry x + uptoBulkEntries r
def uptoBulkEntry {H : Type} : Lit × DataW H → Nat
  | (.string bytes, d) => bytes.length + uptoBulk d + 1
  | (_, d) => uptoBulk d + 1
 end
def uptoSmall : (H : Type) → List (DataW H) → Bool := fun _ ds => decide (uptoBulkAll ds ≤ 1048576)
def OpenSpec.upto (s : _root_.Go.ChangeSpec) : _root_.Go.OpenSpec := { _root_.Go.OpenSpec.ofChange s with cond := some uptoSmall }

/-- 'laws.FnTop', WHERE WHAT IT READS IS OF BULK AT MOST 1048576: true; the input reads as it did. -/
def fnTopUptoRow : OpenClaim := { program := "ytaloakmffdejgaa", sum := "1514ea5896c0b6931fa0fd8ed18fce143690bda25e355ed2ab6880be8b39d386", func := "loop.example/g00907/laws.FnTop", spec := "fnTop", unfollowed := true, recurses := true, apart := false, narrowed := true }
def FnTopUptoSaid : Prop := fnTopUptoRow.holds Try.pinned (OpenSpec.upto fnTopSpec)

/-- 'laws.FnGroups', WHERE WHAT IT READS IS OF BULK AT MOST 1048576: true; the input reads as it did. -/
def fnGroupsUptoRow : OpenClaim := { program := "ytaloakmffdejgaa", sum := "1514ea5896c0b6931fa0fd8ed18fce143690bda25e355ed2ab6880be8b39d386", func := "loop.example/g00907/laws.FnGroups", spec := "fnGroups", unfollowed := true, recurses := true, apart := false, narrowed := true }
def FnGroupsUptoSaid : Prop := fnGroupsUptoRow.holds Try.pinned (OpenSpec.upto fnGroupsSpec)

/-- 'laws.FnAdaptive', WHERE WHAT IT READS IS OF BULK AT MOST 1048576: true; the input reads as it did. -/
def fnAdaptiveUptoRow : OpenClaim := { program := "ytaloakmffdejgaa", sum := "1514ea5896c0b6931fa0fd8ed18fce143690bda25e355ed2ab6880be8b39d386", func := "loop.example/g00907/laws.FnAdaptive", spec := "fnAdaptive", unfollowed := true, recurses := true, apart := false, narrowed := true }
def FnAdaptiveUptoSaid : Prop := fnAdaptiveUptoRow.holds Try.pinned (OpenSpec.upto fnAdaptiveSpec)

/-- 'laws.FnPolyphase', WHERE WHAT IT READS IS OF BULK AT MOST 1048576: true; the input reads as it did. -/
def fnPolyphaseUptoRow : OpenClaim := { program := "ytaloakmffdejgaa", sum := "1514ea5896c0b6931fa0fd8ed18fce143690bda25e355ed2ab6880be8b39d386", func := "loop.example/g00907/laws.FnPolyphase", spec := "fnPolyphase", unfollowed := true, recurses := true, apart := false, narrowed := true }
def FnPolyphaseUptoSaid : Prop := fnPolyphaseUptoRow.holds Try.pinned (OpenSpec.upto fnPolyphaseSpec)

/-- 'laws.FnDecisions', WHERE WHAT IT READS IS OF BULK AT MOST 1048576: true; the input reads as it did. -/
def fnDecisionsUptoRow : OpenClaim := { program := "ytaloakmffdejgaa", sum := "1514ea5896c0b6931fa0fd8ed18fce143690bda25e355ed2ab6880be8b39d386", func := "loop.example/g00907/laws.FnDecisions", spec := "fnDecisions", unfollowed := true, recurses := true, apart := false, narrowed := true }
def FnDecisionsUptoSaid : Prop := fnDecisionsUptoRow.holds Try.pinned (OpenSpec.upto fnDecisionsSpec)

end Rows
end Go.Proofs.Ytaloakmffdejgaa
