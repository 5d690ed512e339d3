/-
  No cell of these rows narrows 'for every input' (looked for: loops, veiled, ifaces, maps, wideKeys, modest, calm, conditions, laid).
  DERIVED. THE GIVEN ROWS OF THIS SEAT. 16 by the template 'for every input the law returns true; each argument reads behind the call as it read before'; 0 by the template 'total and deterministic' (their statements: YthilnfccfjcgfaaGreatTotals.lean).
  GIVEN WITH THE SEED: the statements are not yours to turn. If you find one false, say at which input.
  Laid BY PROGRAM, IN A SANDBOX (cutbox-rows.mjs): the forced cells as the released guide's own fill.sh prints them over the translation 421d96a5c4ab5daf… (all of the seat's roots in one cut). By AI agents, Wed Nov 11 2026. No macro, syntax, notation, axiom, sorry.
-/
import Derived.Test.YthilnfccfjcgfaaGreatChecked
import GoSem.Claim
import GoSem.ClaimJoined
import GoSem.ClaimMapViews
import Derived.JoinedTies
import Derived.KernelRfl
namespace Go.Proofs.YthilnfccfjcgfaaGreat
/- THE CELL 'sum', in the pinned program and in every row, IS THE sha256 OF THE DUMP (.gsa) THAT YthilnfccfjcgfaaGreatProg.lean LOADS. Nothing in Lean hashes anything: it is a label: what it is worth is what the hold of that sum in a sandbox is worth. -/
noncomputable def Tryz.pinned : Pinned := { name := "ythilnfccfjcgfaagreat", sum := "421d96a5c4ab5daf6ac0096575c28e1459944b2b606e450bb7b56d1f9c74071e", checked := Tryz.checked }
namespace Rows
def none {H : Type} : Left H := { results := [], args := [] }

/-- 'laws.FnExactStatus': WHATEVER THE INPUT: true; the input reads as it did. -/
def fnExactStatusSpec : ChangeSpec := { name := "fnExactStatus", fn := fun _ => fun
  | [d1, d2] => { results := [.lit (.bool true)], args := [d1, d2] }
  | _ => none }
def fnExactStatusRow : OpenClaim := { program := "ythilnfccfjcgfaagreat", sum := "421d96a5c4ab5daf6ac0096575c28e1459944b2b606e450bb7b56d1f9c74071e", func := "loop.example/g00679/laws.FnExactStatus", spec := "fnExactStatus", unfollowed := true, recurses := true, plainKeys := false, apart := false }
def FnExactStatusSaid : Prop := fnExactStatusRow.holds Tryz.pinned (OpenSpec.ofChange fnExactStatusSpec)

/-- ITS FALSE NEIGHBOUR: 'it returns false'. Refute it at one input. -/
def fnExactStatusWrong : ChangeSpec := { name := "fnExactStatus", fn := fun _ => fun
  | [d1, d2] => { results := [.lit (.bool false)], args := [d1, d2] }
  | _ => none }
def FnExactStatusWrongFalsely : Prop := fnExactStatusRow.holds Tryz.pinned (OpenSpec.ofChange fnExactStatusWrong)

/-- 'laws.FnExactChoices': WHATEVER THE INPUT: true; the input reads as it did. -/
def fnExactChoicesSpec : ChangeSpec := { name := "fnExactChoices", fn := fun _ => fun
  | [d1, d2, d3] => { results := [.lit (.bool true)], args := [d1, d2, d3] }
  | _ => none }
def fnExactChoicesRow : OpenClaim := { program := "ythilnfccfjcgfaagreat", sum := "421d96a5c4ab5daf6ac0096575c28e1459944b2b606e450bb7b56d1f9c74071e", func := "loop.example/g00679/laws.FnExactChoices", spec := "fnExactChoices", unfollowed := true, recurses := true, plainKeys := false, apart := false }
def FnExactChoicesSaid : Prop := fnExactChoicesRow.holds Tryz.pinned (OpenSpec.ofChange fnExactChoicesSpec)

/-- ITS FALSE NEIGHBOUR: 'it returns false'. Refute it at one input. -/
def fnExactChoicesWrong : ChangeSpec := { name := "fnExactChoices", fn := fun _ => fun
  | [d1, d2, d3] => { results := [.lit (.bool false)], args := [d1, d2, d3] }
  | _ => none }
def FnExactChoicesWrongFalsely : Prop := fnExactChoicesRow.holds Tryz.pinned (OpenSpec.ofChange fnExactChoicesWrong)

/-- 'laws.FnExactBlocks': WHATEVER THE INPUT: true; the input reads as it did. -/
def fnExactBlocksSpec : ChangeSpec := { name := "fnExactBlocks", fn := fun _ => fun
  | [d1, d2, d3] => { results := [.lit (.bool true)], args := [d1, d2, d3] }
  | _ => none }
def fnExactBlocksRow : OpenClaim := { program := "ythilnfccfjcgfaagreat", sum := "421d96a5c4ab5daf6ac0096575c28e1459944b2b606e450bb7b56d1f9c74071e", func := "loop.example/g00679/laws.FnExactBlocks", spec := "fnExactBlocks", unfollowed := true, recurses := true, plainKeys := false, apart := false }
def FnExactBlocksSaid : Prop := fnExactBlocksRow.holds Tryz.pinned (OpenSpec.ofChange fnExactBlocksSpec)

/-- ITS FALSE NEIGHBOUR: 'it returns false'. Refute it at one input. -/
def fnExactBlocksWrong : ChangeSpec := { name := "fnExactBlocks", fn := fun _ => fun
  | [d1, d2, d3] => { results := [.lit (.bool false)], args := [d1, d2, d3] }
  | _ => none }
def FnExactBlocksWrongFalsely : Prop := fnExactBlocksRow.holds Tryz.pinned (OpenSpec.ofChange fnExactBlocksWrong)

/-- 'laws.FnExactWhyStuck': WHATEVER THE INPUT: true; the input reads as it did. -/
def fnExactWhyStuckSpec : ChangeSpec := { name := "fnExactWhyStuck", fn := fun _ => fun
  | [d1, d2, d3] => { results := [.lit (.bool true)], args := [d1, d2, d3] }
  | _ => none }
def fnExactWhyStuckRow : OpenClaim := { program := "ythilnfccfjcgfaagreat", sum := "421d96a5c4ab5daf6ac0096575c28e1459944b2b606e450bb7b56d1f9c74071e", func := "loop.example/g00679/laws.FnExactWhyStuck", spec := "fnExactWhyStuck", inPlace := ["internal/abi.NoEscape", "internal/bytealg.MakeNoZero"], unfollowed := true, recurses := true, plainKeys := false, apart := false }
def FnExactWhyStuckSaid : Prop := fnExactWhyStuckRow.holds Tryz.pinned (OpenSpec.ofChange fnExactWhyStuckSpec)

/-- ITS FALSE NEIGHBOUR: 'it returns false'. Refute it at one input. -/
def fnExactWhyStuckWrong : ChangeSpec := { name := "fnExactWhyStuck", fn := fun _ => fun
  | [d1, d2, d3] => { results := [.lit (.bool false)], args := [d1, d2, d3] }
  | _ => none }
def FnExactWhyStuckWrongFalsely : Prop := fnExactWhyStuckRow.holds Tryz.pinned (OpenSpec.ofChange fnExactWhyStuckWrong)

/-- 'laws.FnExactReadyCases': WHATEVER THE INPUT: true; the input reads as it did. -/
def fnExactReadyCasesSpec : ChangeSpec := { name := "fnExactReadyCases", fn := fun _ => fun
  | [d1, d2, d3] => { results := [.lit (.bool true)], args := [d1, d2, d3] }
  | _ => none }
def fnExactReadyCasesRow : OpenClaim := { program := "ythilnfccfjcgfaagreat", sum := "421d96a5c4ab5daf6ac0096575c28e1459944b2b606e450bb7b56d1f9c74071e", func := "loop.example/g00679/laws.FnExactReadyCases", spec := "fnExactReadyCases", unfollowed := true, recurses := true, plainKeys := false, apart := false }
def FnExactReadyCasesSaid : Prop := fnExactReadyCasesRow.holds Tryz.pinned (OpenSpec.ofChange fnExactReadyCasesSpec)

/-- ITS FALSE NEIGHBOUR: 'it returns false'. Refute it at one input. -/
def fnExactReadyCasesWrong : ChangeSpec := { name := "fnExactReadyCases", fn := fun _ => fun
  | [d1, d2, d3] => { results := [.lit (.bool false)], args := [d1, d2, d3] }
  | _ => none }
def FnExactReadyCasesWrongFalsely : Prop := fnExactReadyCasesRow.holds Tryz.pinned (OpenSpec.ofChange fnExactReadyCasesWrong)

/-- 'laws.FnExactWake': WHATEVER THE INPUT: true; the input reads as it did. -/
def fnExactWakeSpec : ChangeSpec := { name := "fnExactWake", fn := fun _ => fun
  | [d1, d2, d3, d4, d5, d6] => { results := [.lit (.bool true)], args := [d1, d2, d3, d4, d5, d6] }
  | _ => none }
def fnExactWakeRow : OpenClaim := { program := "ythilnfccfjcgfaagreat", sum := "421d96a5c4ab5daf6ac0096575c28e1459944b2b606e450bb7b56d1f9c74071e", func := "loop.example/g00679/laws.FnExactWake", spec := "fnExactWake", unfollowed := true, recurses := true, plainKeys := false, apart := false }
def FnExactWakeSaid : Prop := fnExactWakeRow.holds Tryz.pinned (OpenSpec.ofChange fnExactWakeSpec)

/-- ITS FALSE NEIGHBOUR: 'it returns false'. Refute it at one input. -/
def fnExactWakeWrong : ChangeSpec := { name := "fnExactWake", fn := fun _ => fun
  | [d1, d2, d3, d4, d5, d6] => { results := [.lit (.bool false)], args := [d1, d2, d3, d4, d5, d6] }
  | _ => none }
def FnExactWakeWrongFalsely : Prop := fnExactWakeRow.holds Tryz.pinned (OpenSpec.ofChange fnExactWakeWrong)

/-- 'laws.FnExactHonest': WHATEVER THE INPUT: true; the input reads as it did. -/
def fnExactHonestSpec : ChangeSpec := { name := "fnExactHonest", fn := fun _ => fun
  | [d1, d2] => { results := [.lit (.bool true)], args := [d1, d2] }
  | _ => none }
def fnExactHonestRow : OpenClaim := { program := "ythilnfccfjcgfaagreat", sum := "421d96a5c4ab5daf6ac0096575c28e1459944b2b606e450bb7b56d1f9c74071e", func := "loop.example/g00679/laws.FnExactHonest", spec := "fnExactHonest", unfollowed := true, recurses := true, plainKeys := false, apart := false }
def FnExactHonestSaid : Prop := fnExactHonestRow.holds Tryz.pinned (OpenSpec.ofChange fnExactHonestSpec)

/-- ITS FALSE NEIGHBOUR: 'it returns false'. Refute it at one input. -/
def fnExactHonestWrong : ChangeSpec := { name := "fnExactHonest", fn := fun _ => fun
  | [d1, d2] => { results := [.lit (.bool false)], args := [d1, d2] }
  | _ => none }
def FnExactHonestWrongFalsely : Prop := fnExactHonestRow.holds Tryz.pinned (OpenSpec.ofChange fnExactHonestWrong)

/-- 'laws.FnExactPicks': WHATEVER THE INPUT: true; the input reads as it did. -/
def fnExactPicksSpec : ChangeSpec := { name := "fnExactPicks", fn := fun _ => fun
  | [d1, d2] => { results := [.lit (.bool true)], args := [d1, d2] }
  | _ => none }
def fnExactPicksRow : OpenClaim := { program := "ythilnfccfjcgfaagreat", sum := "421d96a5c4ab5daf6ac0096575c28e1459944b2b606e450bb7b56d1f9c74071e", func := "loop.example/g00679/laws.FnExactPicks", spec := "fnExactPicks", unfollowed := true, recurses := true, plainKeys := false, apart := false }
def FnExactPicksSaid : Prop := fnExactPicksRow.holds Tryz.pinned (OpenSpec.ofChange fnExactPicksSpec)

/-- ITS FALSE NEIGHBOUR: 'it returns false'. Refute it at one input. -/
def fnExactPicksWrong : ChangeSpec := { name := "fnExactPicks", fn := fun _ => fun
  | [d1, d2] => { results := [.lit (.bool false)], args := [d1, d2] }
  | _ => none }
def FnExactPicksWrongFalsely : Prop := fnExactPicksRow.holds Tryz.pinned (OpenSpec.ofChange fnExactPicksWrong)

/-- 'laws.FnExactDoShared': WHATEVER THE INPUT: true; the input reads as it did. -/
def fnExactDoSharedSpec : ChangeSpec := { name := "fnExactDoShared", fn := fun _ => fun
  | [d1, d2, d3, d4] => { results := [.lit (.bool true)], args := [d1, d2, d3, d4] }
  | _ => none }
def fnExactDoSharedRow : OpenClaim := { program := "ythilnfccfjcgfaagreat", sum := "421d96a5c4ab5daf6ac0096575c28e1459944b2b606e450bb7b56d1f9c74071e", func := "loop.example/g00679/laws.FnExactDoShared", spec := "fnExactDoShared", unfollowed := true, recurses := true, plainKeys := false, apart := false }
def FnExactDoSharedSaid : Prop := fnExactDoSharedRow.holds Tryz.pinned (OpenSpec.ofChange fnExactDoSharedSpec)

/-- ITS FALSE NEIGHBOUR: 'it returns false'. Refute it at one input. -/
def fnExactDoSharedWrong : ChangeSpec := { name := "fnExactDoShared", fn := fun _ => fun
  | [d1, d2, d3, d4] => { results := [.lit (.bool false)], args := [d1, d2, d3, d4] }
  | _ => none }
def FnExactDoSharedWrongFalsely : Prop := fnExactDoSharedRow.holds Tryz.pinned (OpenSpec.ofChange fnExactDoSharedWrong)

/-- 'laws.FnExactCheck': WHATEVER THE INPUT: true; the input reads as it did. -/
def fnExactCheckSpec : ChangeSpec := { name := "fnExactCheck", fn := fun _ => fun
  | [d1, d2] => { results := [.lit (.bool true)], args := [d1, d2] }
  | _ => none }
def fnExactCheckRow : OpenClaim := { program := "ythilnfccfjcgfaagreat", sum := "421d96a5c4ab5daf6ac0096575c28e1459944b2b606e450bb7b56d1f9c74071e", func := "loop.example/g00679/laws.FnExactCheck", spec := "fnExactCheck", unfollowed := true, recurses := true, plainKeys := false, apart := false }
def FnExactCheckSaid : Prop := fnExactCheckRow.holds Tryz.pinned (OpenSpec.ofChange fnExactCheckSpec)

/-- ITS FALSE NEIGHBOUR: 'it returns false'. Refute it at one input. -/
def fnExactCheckWrong : ChangeSpec := { name := "fnExactCheck", fn := fun _ => fun
  | [d1, d2] => { results := [.lit (.bool false)], args := [d1, d2] }
  | _ => none }
def FnExactCheckWrongFalsely : Prop := fnExactCheckRow.holds Tryz.pinned (OpenSpec.ofChange fnExactCheckWrong)

/-- 'laws.FnExactReaches': WHATEVER THE INPUT: true; the input reads as it did. -/
def fnExactReachesSpec : ChangeSpec := { name := "fnExactReaches", fn := fun _ => fun
  | [d1, d2] => { results := [.lit (.bool true)], args := [d1, d2] }
  | _ => none }
def fnExactReachesRow : OpenClaim := { program := "ythilnfccfjcgfaagreat", sum := "421d96a5c4ab5daf6ac0096575c28e1459944b2b606e450bb7b56d1f9c74071e", func := "loop.example/g00679/laws.FnExactReaches", spec := "fnExactReaches", unfollowed := true, recurses := true, plainKeys := false, apart := false }
def FnExactReachesSaid : Prop := fnExactReachesRow.holds Tryz.pinned (OpenSpec.ofChange fnExactReachesSpec)

/-- ITS FALSE NEIGHBOUR: 'it returns false'. Refute it at one input. -/
def fnExactReachesWrong : ChangeSpec := { name := "fnExactReaches", fn := fun _ => fun
  | [d1, d2] => { results := [.lit (.bool false)], args := [d1, d2] }
  | _ => none }
def FnExactReachesWrongFalsely : Prop := fnExactReachesRow.holds Tryz.pinned (OpenSpec.ofChange fnExactReachesWrong)

/-- 'laws.FnExactRunTurns': WHATEVER THE INPUT: true; the input reads as it did. -/
def fnExactRunTurnsSpec : ChangeSpec := { name := "fnExactRunTurns", fn := fun _ => fun
  | [d1, d2] => { results := [.lit (.bool true)], args := [d1, d2] }
  | _ => none }
def fnExactRunTurnsRow : OpenClaim := { program := "ythilnfccfjcgfaagreat", sum := "421d96a5c4ab5daf6ac0096575c28e1459944b2b606e450bb7b56d1f9c74071e", func := "loop.example/g00679/laws.FnExactRunTurns", spec := "fnExactRunTurns", unfollowed := true, recurses := true, plainKeys := false, apart := false }
def FnExactRunTurnsSaid : Prop := fnExactRunTurnsRow.holds Tryz.pinned (OpenSpec.ofChange fnExactRunTurnsSpec)

/-- ITS FALSE NEIGHBOUR: 'it returns false'. Refute it at one input. -/
def fnExactRunTurnsWrong : ChangeSpec := { name := "fnExactRunTurns", fn := fun _ => fun
  | [d1, d2] => { results := [.lit (.bool false)], args := [d1, d2] }
  | _ => none }
def FnExactRunTurnsWrongFalsely : Prop := fnExactRunTurnsRow.holds Tryz.pinned (OpenSpec.ofChange fnExactRunTurnsWrong)

/-- 'laws.FnExactStep': WHATEVER THE INPUT: true; the input reads as it did. -/
def fnExactStepSpec : ChangeSpec := { name := "fnExactStep", fn := fun _ => fun
  | [d1, d2, d3] => { results := [.lit (.bool true)], args := [d1, d2, d3] }
  | _ => none }
def fnExactStepRow : OpenClaim := { program := "ythilnfccfjcgfaagreat", sum := "421d96a5c4ab5daf6ac0096575c28e1459944b2b606e450bb7b56d1f9c74071e", func := "loop.example/g00679/laws.FnExactStep", spec := "fnExactStep", unfollowed := true, recurses := true, plainKeys := false, apart := false }
def FnExactStepSaid : Prop := fnExactStepRow.holds Tryz.pinned (OpenSpec.ofChange fnExactStepSpec)

/-- ITS FALSE NEIGHBOUR: 'it returns false'. Refute it at one input. -/
def fnExactStepWrong : ChangeSpec := { name := "fnExactStep", fn := fun _ => fun
  | [d1, d2, d3] => { results := [.lit (.bool false)], args := [d1, d2, d3] }
  | _ => none }
def FnExactStepWrongFalsely : Prop := fnExactStepRow.holds Tryz.pinned (OpenSpec.ofChange fnExactStepWrong)

/-- 'laws.FnExactDoEvent': WHATEVER THE INPUT: true; the input reads as it did. -/
def fnExactDoEventSpec : ChangeSpec := { name := "fnExactDoEvent", fn := fun _ => fun
  | [d1, d2, d3] => { results := [.lit (.bool true)], args := [d1, d2, d3] }
  | _ => none }
def fnExactDoEventRow : OpenClaim := { program := "ythilnfccfjcgfaagreat", sum := "421d96a5c4ab5daf6ac0096575c28e1459944b2b606e450bb7b56d1f9c74071e", func := "loop.example/g00679/laws.FnExactDoEvent", spec := "fnExactDoEvent", unfollowed := true, recurses := true, plainKeys := false, apart := false }
def FnExactDoEventSaid : Prop := fnExactDoEventRow.holds Tryz.pinned (OpenSpec.ofChange fnExactDoEventSpec)

/-- ITS FALSE NEIGHBOUR: 'it returns false'. Refute it at one input. -/
def fnExactDoEventWrong : ChangeSpec := { name := "fnExactDoEvent", fn := fun _ => fun
  | [d1, d2, d3] => { results := [.lit (.bool false)], args := [d1, d2, d3] }
  | _ => none }
def FnExactDoEventWrongFalsely : Prop := fnExactDoEventRow.holds Tryz.pinned (OpenSpec.ofChange fnExactDoEventWrong)

/-- 'laws.FnExactSteps': WHATEVER THE INPUT: true; the input reads as it did. -/
def fnExactStepsSpec : ChangeSpec := { name := "fnExactSteps", fn := fun _ => fun
  | [d1, d2, d3] => { results := [.lit (.bool true)], args := [d1, d2, d3] }
  | _ => none }
def fnExactStepsRow : OpenClaim := { program := "ythilnfccfjcgfaagreat", sum := "421d96a5c4ab5daf6ac0096575c28e1459944b2b606e450bb7b56d1f9c74071e", func := "loop.example/g00679/laws.FnExactSteps", spec := "fnExactSteps", unfollowed := true, recurses := true, plainKeys := false, apart := false }
def FnExactStepsSaid : Prop := fnExactStepsRow.holds Tryz.pinned (OpenSpec.ofChange fnExactStepsSpec)

/-- ITS FALSE NEIGHBOUR: 'it returns false'. Refute it at one input. -/
def fnExactStepsWrong : ChangeSpec := { name := "fnExactSteps", fn := fun _ => fun
  | [d1, d2, d3] => { results := [.lit (.bool false)], args := [d1, d2, d3] }
  | _ => none }
def FnExactStepsWrongFalsely : Prop := fnExactStepsRow.holds Tryz.pinned (OpenSpec.ofChange fnExactStepsWrong)

/-- 'laws.FnExactRecord': WHATEVER THE INPUT: true; the input reads as it did. -/
def fnExactRecordSpec : ChangeSpec := { name := "fnExactRecord", fn := fun _ => fun
  | [d1, d2] => { results := [.lit (.bool true)], args := [d1, d2] }
  | _ => none }
def fnExactRecordRow : OpenClaim := { program := "ythilnfccfjcgfaagreat", sum := "421d96a5c4ab5daf6ac0096575c28e1459944b2b606e450bb7b56d1f9c74071e", func := "loop.example/g00679/laws.FnExactRecord", spec := "fnExactRecord", unfollowed := true, recurses := true, plainKeys := false, apart := false }
def FnExactRecordSaid : Prop := fnExactRecordRow.holds Tryz.pinned (OpenSpec.ofChange fnExactRecordSpec)

/-- ITS FALSE NEIGHBOUR: 'it returns false'. Refute it at one input. -/
def fnExactRecordWrong : ChangeSpec := { name := "fnExactRecord", fn := fun _ => fun
  | [d1, d2] => { results := [.lit (.bool false)], args := [d1, d2] }
  | _ => none }
def FnExactRecordWrongFalsely : Prop := fnExactRecordRow.holds Tryz.pinned (OpenSpec.ofChange fnExactRecordWrong)

/- THE SECOND FORM. 'bulk': how many values and letters a reading holds, each counted each time it is reached (what is shared counts as often as it is met; a slice's spare places count too). A statement '..UptoSaid' is the law's where the arguments, and the package variables that the reading takes, are together of bulk at most 1048576: NARROWER than '..Said'. Prove '..Said' where nothing that the law and all that it calls make is longer than what came in: it says more and counts as full. Else prove '..UptoSaid'. A law counts once. -/
mutual
def uptoBulk {H : Type} : DataW H → Nat
  | .lit (.string bytes) => bytes.length + 1
  | .lit _ => 1
  | .nil => 1
  | .ptr d => uptoBulk d + 1
  | .slice elems spare => uptoBulkAll elems + uptoBulkAll spare + 1
  | .agg parts => uptoBulkAll parts + 1
  | .iface _ d => uptoBulk d + 1
  | .map entries => uptoBulkEntries entries + 1
  | .held _ => 1
def uptoBulkAll {H : Type} : List (DataW H) → Nat
  | [] => 0
  | d :: r => uptoBulk d + uptoBulkAll r
def uptoBulkEntries {H : Type} : List (Lit × DataW H) → Nat
  | [] => 0
  | x :: r => uptoBulkEntry x + uptoBulkEntries r
def uptoBulkEntry {H : Type} : Lit × DataW H → Nat
  | (.string bytes, d) => bytes.length + uptoBulk d + 1
  | (_, d) => uptoBulk d + 1
 end
def uptoSmall : (H : Type) → List (DataW H) → Bool := fun _ ds => decide (uptoBulkAll ds ≤ 1048576)
def OpenSpec.upto (s : _root_.Go.ChangeSpec) : _root_.Go.OpenSpec := { _root_.Go.OpenSpec.ofChange s with cond := some uptoSmall }

/-- 'laws.FnExactStatus', WHERE WHAT IT READS IS OF BULK AT MOST 1048576: true; the input reads as it did. -/
def fnExactStatusUptoRow : OpenClaim := { program := "ythilnfccfjcgfaagreat", sum := "421d96a5c4ab5daf6ac0096575c28e1459944b2b606e450bb7b56d1f9c74071e", func := "loop.example/g00679/laws.FnExactStatus", spec := "fnExactStatus", unfollowed := true, recurses := true, plainKeys := false, apart := false, narrowed := true }
def FnExactStatusUptoSaid : Prop := fnExactStatusUptoRow.holds Tryz.pinned (OpenSpec.upto fnExactStatusSpec)

/-- 'laws.FnExactChoices', WHERE WHAT IT READS IS OF BULK AT MOST 1048576: true; the input reads as it did. -/
def fnExactChoicesUptoRow : OpenClaim := { program := "ythilnfccfjcgfaagreat", sum := "421d96a5c4ab5daf6ac0096575c28e1459944b2b606e450bb7b56d1f9c74071e", func := "loop.example/g00679/laws.FnExactChoices", spec := "fnExactChoices", unfollowed := true, recurses := true, plainKeys := false, apart := false, narrowed := true }
def FnExactChoicesUptoSaid : Prop := fnExactChoicesUptoRow.holds Tryz.pinned (OpenSpec.upto fnExactChoicesSpec)

/-- 'laws.FnExactBlocks', WHERE WHAT IT READS IS OF BULK AT MOST 1048576: true; the input reads as it did. -/
def fnExactBlocksUptoRow : OpenClaim := { program := "ythilnfccfjcgfaagreat", sum := "421d96a5c4ab5daf6ac0096575c28e1459944b2b606e450bb7b56d1f9c74071e", func := "loop.example/g00679/laws.FnExactBlocks", spec := "fnExactBlocks", unfollowed := true, recurses := true, plainKeys := false, apart := false, narrowed := true }
def FnExactBlocksUptoSaid : Prop := fnExactBlocksUptoRow.holds Tryz.pinned (OpenSpec.upto fnExactBlocksSpec)

/-- 'laws.FnExactWhyStuck', WHERE WHAT IT READS IS OF BULK AT MOST 1048576: true; the input reads as it did. -/
def fnExactWhyStuckUptoRow : OpenClaim := { program := "ythilnfccfjcgfaagreat", sum := "421d96a5c4ab5daf6ac0096575c28e1459944b2b606e450bb7b56d1f9c74071e", func := "loop.example/g00679/laws.FnExactWhyStuck", spec := "fnExactWhyStuck", inPlace := ["internal/abi.NoEscape", "internal/bytealg.MakeNoZero"], unfollowed := true, recurses := true, plainKeys := false, apart := false, narrowed := true }
def FnExactWhyStuckUptoSaid : Prop := fnExactWhyStuckUptoRow.holds Tryz.pinned (OpenSpec.upto fnExactWhyStuckSpec)

/-- 'laws.FnExactReadyCases', WHERE WHAT IT READS IS OF BULK AT MOST 1048576: true; the input reads as it did. -/
def fnExactReadyCasesUptoRow : OpenClaim := { program := "ythilnfccfjcgfaagreat", sum := "421d96a5c4ab5daf6ac0096575c28e1459944b2b606e450bb7b56d1f9c74071e", func := "loop.example/g00679/laws.FnExactReadyCases", spec := "fnExactReadyCases", unfollowed := true, recurses := true, plainKeys := false, apart := false, narrowed := true }
def FnExactReadyCasesUptoSaid : Prop := fnExactReadyCasesUptoRow.holds Tryz.pinned (OpenSpec.upto fnExactReadyCasesSpec)

/-- 'laws.FnExactWake', WHERE WHAT IT READS IS OF BULK AT MOST 1048576: true; the input reads as it did. -/
def fnExactWakeUptoRow : OpenClaim := { program := "ythilnfccfjcgfaagreat", sum := "421d96a5c4ab5daf6ac0096575c28e1459944b2b606e450bb7b56d1f9c74071e", func := "loop.example/g00679/laws.FnExactWake", spec := "fnExactWake", unfollowed := true, recurses := true, plainKeys := false, apart := false, narrowed := true }
def FnExactWakeUptoSaid : Prop := fnExactWakeUptoRow.holds Tryz.pinned (OpenSpec.upto fnExactWakeSpec)

/-- 'laws.FnExactHonest', WHERE WHAT IT READS IS OF BULK AT MOST 1048576: true; the input reads as it did. -/
def fnExactHonestUptoRow : OpenClaim := { program := "ythilnfccfjcgfaagreat", sum := "421d96a5c4ab5daf6ac0096575c28e1459944b2b606e450bb7b56d1f9c74071e", func := "loop.example/g00679/laws.FnExactHonest", spec := "fnExactHonest", unfollowed := true, recurses := true, plainKeys := false, apart := false, narrowed := true }
def FnExactHonestUptoSaid : Prop := fnExactHonestUptoRow.holds Tryz.pinned (OpenSpec.upto fnExactHonestSpec)

/-- 'laws.FnExactPicks', WHERE WHAT IT READS IS OF BULK AT MOST 1048576: true; the input reads as it did. -/
def fnExactPicksUptoRow : OpenClaim := { program := "ythilnfccfjcgfaagreat", sum := "421d96a5c4ab5daf6ac0096575c28e1459944b2b606e450bb7b56d1f9c74071e", func := "loop.example/g00679/laws.FnExactPicks", spec := "fnExactPicks", unfollowed := true, recurses := true, plainKeys := false, apart := false, narrowed := true }
def FnExactPicksUptoSaid : Prop := fnExactPicksUptoRow.holds Tryz.pinned (OpenSpec.upto fnExactPicksSpec)

/-- 'laws.FnExactDoShared', WHERE WHAT IT READS IS OF BULK AT MOST 1048576: true; the input reads as it did. -/
def fnExactDoSharedUptoRow : OpenClaim := { program := "ythilnfccfjcgfaagreat", sum := "421d96a5c4ab5daf6ac0096575c28e1459944b2b606e450bb7b56d1f9c74071e", func := "loop.example/g00679/laws.FnExactDoShared", spec := "fnExactDoShared", unfollowed := true, recurses := true, plainKeys := false, apart := false, narrowed := true }
def FnExactDoSharedUptoSaid : Prop := fnExactDoSharedUptoRow.holds Tryz.pinned (OpenSpec.upto fnExactDoSharedSpec)

/-- 'laws.FnExactCheck', WHERE WHAT IT READS IS OF BULK AT MOST 1048576: true; the input reads as it did. -/
def fnExactCheckUptoRow : OpenClaim := { program := "ythilnfccfjcgfaagreat", sum := "421d96a5c4ab5daf6ac0096575c28e1459944b2b606e450bb7b56d1f9c74071e", func := "loop.example/g00679/laws.FnExactCheck", spec := "fnExactCheck", unfollowed := true, recurses := true, plainKeys := false, apart := false, narrowed := true }
def FnExactCheckUptoSaid : Prop := fnExactCheckUptoRow.holds Tryz.pinned (OpenSpec.upto fnExactCheckSpec)

/-- 'laws.FnExactReaches', WHERE WHAT IT READS IS OF BULK AT MOST 1048576: true; the input reads as it did. -/
def fnExactReachesUptoRow : OpenClaim := { program := "ythilnfccfjcgfaagreat", sum := "421d96a5c4ab5daf6ac0096575c28e1459944b2b606e450bb7b56d1f9c74071e", func := "loop.example/g00679/laws.FnExactReaches", spec := "fnExactReaches", unfollowed := true, recurses := true, plainKeys := false, apart := false, narrowed := true }
def FnExactReachesUptoSaid : Prop := fnExactReachesUptoRow.holds Tryz.pinned (OpenSpec.upto fnExactReachesSpec)

/-- 'laws.FnExactRunTurns', WHERE WHAT IT READS IS OF BULK AT MOST 1048576: true; the input reads as it did. -/
def fnExactRunTurnsUptoRow : OpenClaim := { program := "ythilnfccfjcgfaagreat", sum := "421d96a5c4ab5daf6ac0096575c28e1459944b2b606e450bb7b56d1f9c74071e", func := "loop.example/g00679/laws.FnExactRunTurns", spec := "fnExactRunTurns", unfollowed := true, recurses := true, plainKeys := false, apart := false, narrowed := true }
def FnExactRunTurnsUptoSaid : Prop := fnExactRunTurnsUptoRow.holds Tryz.pinned (OpenSpec.upto fnExactRunTurnsSpec)

/-- 'laws.FnExactStep', WHERE WHAT IT READS IS OF BULK AT MOST 1048576: true; the input reads as it did. -/
def fnExactStepUptoRow : OpenClaim := { program := "ythilnfccfjcgfaagreat", sum := "421d96a5c4ab5daf6ac0096575c28e1459944b2b606e450bb7b56d1f9c74071e", func := "loop.example/g00679/laws.FnExactStep", spec := "fnExactStep", unfollowed := true, recurses := true, plainKeys := false, apart := false, narrowed := true }
def FnExactStepUptoSaid : Prop := fnExactStepUptoRow.holds Tryz.pinned (OpenSpec.upto fnExactStepSpec)

/-- 'laws.FnExactDoEvent', WHERE WHAT IT READS IS OF BULK AT MOST 1048576: true; the input reads as it did. -/
def fnExactDoEventUptoRow : OpenClaim := { program := "ythilnfccfjcgfaagreat", sum := "421d96a5c4ab5daf6ac0096575c28e1459944b2b606e450bb7b56d1f9c74071e", func := "loop.example/g00679/laws.FnExactDoEvent", spec := "fnExactDoEvent", unfollowed := true, recurses := true, plainKeys := false, apart := false, narrowed := true }
def FnExactDoEventUptoSaid : Prop := fnExactDoEventUptoRow.holds Tryz.pinned (OpenSpec.upto fnExactDoEventSpec)

/-- 'laws.FnExactSteps', WHERE WHAT IT READS IS OF BULK AT MOST 1048576: true; the input reads as it did. -/
def fnExactStepsUptoRow : OpenClaim := { program := "ythilnfccfjcgfaagreat", sum := "421d96a5c4ab5daf6ac0096575c28e1459944b2b606e450bb7b56d1f9c74071e", func := "loop.example/g00679/laws.FnExactSteps", spec := "fnExactSteps", unfollowed := true, recurses := true, plainKeys := false, apart := false, narrowed := true }
def FnExactStepsUptoSaid : Prop := fnExactStepsUptoRow.holds Tryz.pinned (OpenSpec.upto fnExactStepsSpec)

/-- 'laws.FnExactRecord', WHERE WHAT IT READS IS OF BULK AT MOST 1048576: true; the input reads as it did. -/
def fnExactRecordUptoRow : OpenClaim := { program := "ythilnfccfjcgfaagreat", sum := "421d96a5c4ab5daf6ac0096575c28e1459944b2b606e450bb7b56d1f9c74071e", func := "loop.example/g00679/laws.FnExactRecord", spec := "fnExactRecord", unfollowed := true, recurses := true, plainKeys := false, apart := false, narrowed := true }
def FnExactRecordUptoSaid : Prop := fnExactRecordUptoRow.holds Tryz.pinned (OpenSpec.upto fnExactRecordSpec)

end Rows
end Go.Proofs.YthilnfccfjcgfaaGreat
