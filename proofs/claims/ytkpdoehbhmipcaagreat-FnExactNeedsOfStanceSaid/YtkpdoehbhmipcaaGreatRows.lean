/-
  No cell of these rows narrows 'for every input' (looked for: loops, veiled, ifaces, maps, wideKeys, modest, calm, conditions, laid).
  DERIVED. THE GIVEN ROWS OF THIS SEAT. 4 by the template 'for every input the law returns true; each argument reads behind the call as it read before'; 0 by the template 'total and deterministic' (their statements: YtkpdoehbhmipcaaGreatTotals.lean).
  GIVEN WITH THE SEED: the statements are not yours to turn. If you find one false, say at which input.
  Laid BY PROGRAM, IN A SANDBOX (cutbox-rows.mjs): the forced cells as the released guide's own fill.sh prints them over the translation 82edcaf74c0c6ae7… (all of the seat's roots in one cut). By AI agents, Wed Nov 11 2026. No macro, syntax, notation, axiom, sorry.
-/
import Derived.Test.YtkpdoehbhmipcaaGreatChecked
import GoSem.Claim
import GoSem.ClaimJoined
import GoSem.ClaimMapViews
import Derived.JoinedTies
import Derived.KernelRfl
namespace Go.Proofs.YtkpdoehbhmipcaaGreat
/- THE CELL 'sum', in the pinned program and in every row, IS THE sha256 OF THE DUMP (.gsa) THAT YtkpdoehbhmipcaaGreatProg.lean LOADS. Nothing in Lean hashes anything: it is a label: what it is worth is what the hold of that sum in a sandbox is worth. -/
noncomputable def Tryz.pinned : Pinned := { name := "ytkpdoehbhmipcaagreat", sum := "82edcaf74c0c6ae729bec29ce1705b8ff1c2680dd353279f53c9d15835f6690a", checked := Tryz.checked }
namespace Rows
def none {H : Type} : Left H := { results := [], args := [] }

/-- 'laws.FnEveryYard': WHATEVER THE INPUT: true; the input reads as it did. -/
def fnEveryYardSpec : ChangeSpec := { name := "fnEveryYard", fn := fun _ => fun
  | [d1, d2, d3] => { results := [.lit (.bool true)], args := [d1, d2, d3] }
  | _ => none }
def fnEveryYardRow : OpenClaim := { program := "ytkpdoehbhmipcaagreat", sum := "82edcaf74c0c6ae729bec29ce1705b8ff1c2680dd353279f53c9d15835f6690a", func := "loop.example/g00830/laws.FnEveryYard", spec := "fnEveryYard", unfollowed := true, recurses := true, apart := false }
def FnEveryYardSaid : Prop := fnEveryYardRow.holds Tryz.pinned (OpenSpec.ofChange fnEveryYardSpec)

/-- ITS FALSE NEIGHBOUR: 'it returns false'. Refute it at one input. -/
def fnEveryYardWrong : ChangeSpec := { name := "fnEveryYard", fn := fun _ => fun
  | [d1, d2, d3] => { results := [.lit (.bool false)], args := [d1, d2, d3] }
  | _ => none }
def FnEveryYardWrongFalsely : Prop := fnEveryYardRow.holds Tryz.pinned (OpenSpec.ofChange fnEveryYardWrong)

/-- 'laws.FnExactPlanLine': WHATEVER THE INPUT: true; the input reads as it did. -/
def fnExactPlanLineSpec : ChangeSpec := { name := "fnExactPlanLine", fn := fun _ => fun
  | [d1, d2] => { results := [.lit (.bool true)], args := [d1, d2] }
  | _ => none }
def fnExactPlanLineRow : OpenClaim := { program := "ytkpdoehbhmipcaagreat", sum := "82edcaf74c0c6ae729bec29ce1705b8ff1c2680dd353279f53c9d15835f6690a", func := "loop.example/g00830/laws.FnExactPlanLine", spec := "fnExactPlanLine", inPlace := ["internal/abi.NoEscape", "internal/bytealg.MakeNoZero"], unfollowed := true, recurses := true, apart := false }
def FnExactPlanLineSaid : Prop := fnExactPlanLineRow.holds Tryz.pinned (OpenSpec.ofChange fnExactPlanLineSpec)

/-- ITS FALSE NEIGHBOUR: 'it returns false'. Refute it at one input. -/
def fnExactPlanLineWrong : ChangeSpec := { name := "fnExactPlanLine", fn := fun _ => fun
  | [d1, d2] => { results := [.lit (.bool false)], args := [d1, d2] }
  | _ => none }
def FnExactPlanLineWrongFalsely : Prop := fnExactPlanLineRow.holds Tryz.pinned (OpenSpec.ofChange fnExactPlanLineWrong)

/-- 'laws.FnExactNeedsOfStance': WHATEVER THE INPUT: true; the input reads as it did. -/
def fnExactNeedsOfStanceSpec : ChangeSpec := { name := "fnExactNeedsOfStance", fn := fun _ => fun
  | [d] => { results := [.lit (.bool true)], args := [d] }
  | _ => none }
def fnExactNeedsOfStanceRow : OpenClaim := { program := "ytkpdoehbhmipcaagreat", sum := "82edcaf74c0c6ae729bec29ce1705b8ff1c2680dd353279f53c9d15835f6690a", func := "loop.example/g00830/laws.FnExactNeedsOfStance", spec := "fnExactNeedsOfStance", unfollowed := true, recurses := true, apart := false }
def FnExactNeedsOfStanceSaid : Prop := fnExactNeedsOfStanceRow.holds Tryz.pinned (OpenSpec.ofChange fnExactNeedsOfStanceSpec)

/-- ITS FALSE NEIGHBOUR: 'it returns false'. Refute it at one input. -/
def fnExactNeedsOfStanceWrong : ChangeSpec := { name := "fnExactNeedsOfStance", fn := fun _ => fun
  | [d] => { results := [.lit (.bool false)], args := [d] }
  | _ => none }
def FnExactNeedsOfStanceWrongFalsely : Prop := fnExactNeedsOfStanceRow.holds Tryz.pinned (OpenSpec.ofChange fnExactNeedsOfStanceWrong)

/-- 'laws.FnExactEquipPlan': WHATEVER THE INPUT: true; the input reads as it did. -/
def fnExactEquipPlanSpec : ChangeSpec := { name := "fnExactEquipPlan", fn := fun _ => fun
  | [d1, d2, d3, d4] => { results := [.lit (.bool true)], args := [d1, d2, d3, d4] }
  | _ => none }
def fnExactEquipPlanRow : OpenClaim := { program := "ytkpdoehbhmipcaagreat", sum := "82edcaf74c0c6ae729bec29ce1705b8ff1c2680dd353279f53c9d15835f6690a", func := "loop.example/g00830/laws.FnExactEquipPlan", spec := "fnExactEquipPlan", unfollowed := true, recurses := true, apart := false }
def FnExactEquipPlanSaid : Prop := fnExactEquipPlanRow.holds Tryz.pinned (OpenSpec.ofChange fnExactEquipPlanSpec)

/-- ITS FALSE NEIGHBOUR: 'it returns false'. Refute it at one input. -/
def fnExactEquipPlanWrong : ChangeSpec := { name := "fnExactEquipPlan", fn := fun _ => fun
  | [d1, d2, d3, d4] => { results := [.lit (.bool false)], args := [d1, d2, d3, d4] }
  | _ => none }
def FnExactEquipPlanWrongFalsely : Prop := fnExactEquipPlanRow.holds Tryz.pinned (OpenSpec.ofChange fnExactEquipPlanWrong)

/- THE SECOND FORM. 'bulk': how many values and letters a reading holds, each counted each time it is reached (what is shared counts as often as it is met; a slice's spare places count too). A statement '..UptoSaid' is the law's where the arguments, and the package variables that the reading takes, are together of bulk at most 1048576: NARROWER than '..Said'. Prove '..Said' where nothing that the law and all that it calls make is longer than what came in: it says more and counts as full. Else prove '..UptoSaid'. A law counts once. -/
mutual
def uptoBulk {H : Type} : DataW H → Nat
  | .lit (.string bytes) => bytes.length + 1
  | .lit _ => 1
  | .nil => 1
  | .ptr d => uptoBulk d + 1
  | .slice elems spare => uptoBulkAll elems + uptoBulkAll spare + 1
  | .agg parts => uptoBulkAll parts + 1
  | .iface _ d => uptoBulk d + 1
  | .map entries => uptoBulkEntries entries + 1
  | .held _ => 1
def uptoBulkAll {H : Type} : List (DataW H) → Nat
  | [] => 0
  | d :: r => uptoBulk d + uptoBulkAll r
def uptoBulkEntries {H : Type} : List (Lit × DataW H) → Nat
  | [] => 0
  | x :: r => uptoBulkEntry x + uptoBulkEntries r
def uptoBulkEntry {H : Type} : Lit × DataW H → Nat
  | (.string bytes, d) => bytes.length + uptoBulk d + 1
  | (_, d) => uptoBulk d + 1
 end
def uptoSmall : (H : Type) → List (DataW H) → Bool := fun _ ds => decide (uptoBulkAll ds ≤ 1048576)
def OpenSpec.upto (s : _root_.Go.ChangeSpec) : _root_.Go.OpenSpec := { _root_.Go.OpenSpec.ofChange s with cond := some uptoSmall }

/-- 'laws.FnEveryYard', WHERE WHAT IT READS IS OF BULK AT MOST 1048576: true; the input reads as it did. -/
def fnEveryYardUptoRow : OpenClaim := { program := "ytkpdoehbhmipcaagreat", sum := "82edcaf74c0c6ae729bec29ce1705b8ff1c2680dd353279f53c9d15835f6690a", func := "loop.example/g00830/laws.FnEveryYard", spec := "fnEveryYard", unfollowed := true, recurses := true, apart := false, narrowed := true }
def FnEveryYardUptoSaid : Prop := fnEveryYardUptoRow.holds Tryz.pinned (OpenSpec.upto fnEveryYardSpec)

/-- 'laws.FnExactPlanLine', WHERE WHAT IT READS IS OF BULK AT MOST 1048576: true; the input reads as it did. -/
def fnExactPlanLineUptoRow : OpenClaim := { program := "ytkpdoehbhmipcaagreat", sum := "82edcaf74c0c6ae729bec29ce1705b8ff1c2680dd353279f53c9d15835f6690a", func := "loop.example/g00830/laws.FnExactPlanLine", spec := "fnExactPlanLine", inPlace := ["internal/abi.NoEscape", "internal/bytealg.MakeNoZero"], unfollowed := true, recurses := true, apart := false, narrowed := true }
def FnExactPlanLineUptoSaid : Prop := fnExactPlanLineUptoRow.holds Tryz.pinned (OpenSpec.upto fnExactPlanLineSpec)

/-- 'laws.FnExactNeedsOfStance', WHERE WHAT IT READS IS OF BULK AT MOST 1048576: true; the input reads as it did. -/
def fnExactNeedsOfStanceUptoRow : OpenClaim := { program := "ytkpdoehbhmipcaagreat", sum := "82edcaf74c0c6ae729bec29ce1705b8ff1c2680dd353279f53c9d15835f6690a", func := "loop.example/g00830/laws.FnExactNeedsOfStance", spec := "fnExactNeedsOfStance", unfollowed := true, recurses := true, apart := false, narrowed := true }
def FnExactNeedsOfStanceUptoSaid : Prop := fnExactNeedsOfStanceUptoRow.holds Tryz.pinned (OpenSpec.upto fnExactNeedsOfStanceSpec)

/-- 'laws.FnExactEquipPlan', WHERE WHAT IT READS IS OF BULK AT MOST 1048576: true; the input reads as it did. -/
def fnExactEquipPlanUptoRow : OpenClaim := { program := "ytkpdoehbhmipcaagreat", sum := "82edcaf74c0c6ae729bec29ce1705b8ff1c2680dd353279f53c9d15835f6690a", func := "loop.example/g00830/laws.FnExactEquipPlan", spec := "fnExactEquipPlan", unfollowed := true, recurses := true, apart := false, narrowed := true }
def FnExactEquipPlanUptoSaid : Prop := fnExactEquipPlanUptoRow.holds Tryz.pinned (OpenSpec.upto fnExactEquipPlanSpec)

end Rows
end Go.Proofs.YtkpdoehbhmipcaaGreat
