/-
  No cell of these rows narrows 'for every input' (looked for: loops, veiled, ifaces, maps, wideKeys, modest, calm, conditions, laid).
  DERIVED. THE GIVEN ROWS OF THIS SEAT. 7 by the template 'for every input the law returns true; each argument reads behind the call as it read before'; 0 by the template 'total and deterministic' (their statements: YtehdaknhabeiaaaGreatTotals.lean).
  GIVEN WITH THE SEED: the statements are not yours to turn. If you find one false, say at which input.
  Laid BY PROGRAM, IN A SANDBOX (cutbox-rows.mjs): the forced cells as the released guide's own fill.sh prints them over the translation ef1e369487819198… (all of the seat's roots in one cut). By AI agents, Wed Nov 11 2026. No macro, syntax, notation, axiom, sorry.
-/
import Derived.Test.YtehdaknhabeiaaaGreatChecked
import GoSem.Claim
import GoSem.ClaimJoined
import GoSem.ClaimMapViews
import Derived.JoinedTies
import Derived.KernelRfl
namespace Go.Proofs.YtehdaknhabeiaaaGreat
/- THE CELL 'sum', in the pinned program and in every row, IS THE sha256 OF THE DUMP (.gsa) THAT YtehdaknhabeiaaaGreatProg.lean LOADS. Nothing in Lean hashes anything: it is a label: what it is worth is what the hold of that sum in a sandbox is worth. -/
noncomputable def Tryz.pinned : Pinned := { name := "ytehdaknhabeiaaagreat", sum := "ef1e3694878191985d351055cfc60bd85f6717a237cf1a1881441c49efa40023", checked := Tryz.checked }
namespace Rows
def none {H : Type} : Left H := { results := [], args := [] }

/-- 'laws.FnExactIsSafeStance': WHATEVER THE INPUT: true; the input reads as it did. -/
def fnExactIsSafeStanceSpec : ChangeSpec := { name := "fnExactIsSafeStance", fn := fun _ => fun
  | [d1, d2] => { results := [.lit (.bool true)], args := [d1, d2] }
  | _ => none }
def fnExactIsSafeStanceRow : OpenClaim := { program := "ytehdaknhabeiaaagreat", sum := "ef1e3694878191985d351055cfc60bd85f6717a237cf1a1881441c49efa40023", func := "loop.example/g00830/laws.FnExactIsSafeStance", spec := "fnExactIsSafeStance", unfollowed := true, recurses := true, apart := false }
def FnExactIsSafeStanceSaid : Prop := fnExactIsSafeStanceRow.holds Tryz.pinned (OpenSpec.ofChange fnExactIsSafeStanceSpec)

/-- ITS FALSE NEIGHBOUR: 'it returns false'. Refute it at one input. -/
def fnExactIsSafeStanceWrong : ChangeSpec := { name := "fnExactIsSafeStance", fn := fun _ => fun
  | [d1, d2] => { results := [.lit (.bool false)], args := [d1, d2] }
  | _ => none }
def FnExactIsSafeStanceWrongFalsely : Prop := fnExactIsSafeStanceRow.holds Tryz.pinned (OpenSpec.ofChange fnExactIsSafeStanceWrong)

/-- 'laws.FnExactIsPlan': WHATEVER THE INPUT: true; the input reads as it did. -/
def fnExactIsPlanSpec : ChangeSpec := { name := "fnExactIsPlan", fn := fun _ => fun
  | [d1, d2] => { results := [.lit (.bool true)], args := [d1, d2] }
  | _ => none }
def fnExactIsPlanRow : OpenClaim := { program := "ytehdaknhabeiaaagreat", sum := "ef1e3694878191985d351055cfc60bd85f6717a237cf1a1881441c49efa40023", func := "loop.example/g00830/laws.FnExactIsPlan", spec := "fnExactIsPlan", unfollowed := true, recurses := true, apart := false }
def FnExactIsPlanSaid : Prop := fnExactIsPlanRow.holds Tryz.pinned (OpenSpec.ofChange fnExactIsPlanSpec)

/-- ITS FALSE NEIGHBOUR: 'it returns false'. Refute it at one input. -/
def fnExactIsPlanWrong : ChangeSpec := { name := "fnExactIsPlan", fn := fun _ => fun
  | [d1, d2] => { results := [.lit (.bool false)], args := [d1, d2] }
  | _ => none }
def FnExactIsPlanWrongFalsely : Prop := fnExactIsPlanRow.holds Tryz.pinned (OpenSpec.ofChange fnExactIsPlanWrong)

/-- 'laws.FnExactSafeStances': WHATEVER THE INPUT: true; the input reads as it did. -/
def fnExactSafeStancesSpec : ChangeSpec := { name := "fnExactSafeStances", fn := fun _ => fun
  | [d] => { results := [.lit (.bool true)], args := [d] }
  | _ => none }
def fnExactSafeStancesRow : OpenClaim := { program := "ytehdaknhabeiaaagreat", sum := "ef1e3694878191985d351055cfc60bd85f6717a237cf1a1881441c49efa40023", func := "loop.example/g00830/laws.FnExactSafeStances", spec := "fnExactSafeStances", unfollowed := true, recurses := true, apart := false }
def FnExactSafeStancesSaid : Prop := fnExactSafeStancesRow.holds Tryz.pinned (OpenSpec.ofChange fnExactSafeStancesSpec)

/-- ITS FALSE NEIGHBOUR: 'it returns false'. Refute it at one input. -/
def fnExactSafeStancesWrong : ChangeSpec := { name := "fnExactSafeStances", fn := fun _ => fun
  | [d] => { results := [.lit (.bool false)], args := [d] }
  | _ => none }
def FnExactSafeStancesWrongFalsely : Prop := fnExactSafeStancesRow.holds Tryz.pinned (OpenSpec.ofChange fnExactSafeStancesWrong)

/-- 'laws.FnExactReachable': WHATEVER THE INPUT: true; the input reads as it did. -/
def fnExactReachableSpec : ChangeSpec := { name := "fnExactReachable", fn := fun _ => fun
  | [d1, d2] => { results := [.lit (.bool true)], args := [d1, d2] }
  | _ => none }
def fnExactReachableRow : OpenClaim := { program := "ytehdaknhabeiaaagreat", sum := "ef1e3694878191985d351055cfc60bd85f6717a237cf1a1881441c49efa40023", func := "loop.example/g00830/laws.FnExactReachable", spec := "fnExactReachable", unfollowed := true, recurses := true, apart := false }
def FnExactReachableSaid : Prop := fnExactReachableRow.holds Tryz.pinned (OpenSpec.ofChange fnExactReachableSpec)

/-- ITS FALSE NEIGHBOUR: 'it returns false'. Refute it at one input. -/
def fnExactReachableWrong : ChangeSpec := { name := "fnExactReachable", fn := fun _ => fun
  | [d1, d2] => { results := [.lit (.bool false)], args := [d1, d2] }
  | _ => none }
def FnExactReachableWrongFalsely : Prop := fnExactReachableRow.holds Tryz.pinned (OpenSpec.ofChange fnExactReachableWrong)

/-- 'laws.FnExactLeastStances': WHATEVER THE INPUT: true; the input reads as it did. -/
def fnExactLeastStancesSpec : ChangeSpec := { name := "fnExactLeastStances", fn := fun _ => fun
  | [d1, d2, d3] => { results := [.lit (.bool true)], args := [d1, d2, d3] }
  | _ => none }
def fnExactLeastStancesRow : OpenClaim := { program := "ytehdaknhabeiaaagreat", sum := "ef1e3694878191985d351055cfc60bd85f6717a237cf1a1881441c49efa40023", func := "loop.example/g00830/laws.FnExactLeastStances", spec := "fnExactLeastStances", unfollowed := true, recurses := true, apart := false }
def FnExactLeastStancesSaid : Prop := fnExactLeastStancesRow.holds Tryz.pinned (OpenSpec.ofChange fnExactLeastStancesSpec)

/-- ITS FALSE NEIGHBOUR: 'it returns false'. Refute it at one input. -/
def fnExactLeastStancesWrong : ChangeSpec := { name := "fnExactLeastStances", fn := fun _ => fun
  | [d1, d2, d3] => { results := [.lit (.bool false)], args := [d1, d2, d3] }
  | _ => none }
def FnExactLeastStancesWrongFalsely : Prop := fnExactLeastStancesRow.holds Tryz.pinned (OpenSpec.ofChange fnExactLeastStancesWrong)

/-- 'laws.FnExactFindPlan': WHATEVER THE INPUT: true; the input reads as it did. -/
def fnExactFindPlanSpec : ChangeSpec := { name := "fnExactFindPlan", fn := fun _ => fun
  | [d1, d2, d3] => { results := [.lit (.bool true)], args := [d1, d2, d3] }
  | _ => none }
def fnExactFindPlanRow : OpenClaim := { program := "ytehdaknhabeiaaagreat", sum := "ef1e3694878191985d351055cfc60bd85f6717a237cf1a1881441c49efa40023", func := "loop.example/g00830/laws.FnExactFindPlan", spec := "fnExactFindPlan", unfollowed := true, recurses := true, apart := false }
def FnExactFindPlanSaid : Prop := fnExactFindPlanRow.holds Tryz.pinned (OpenSpec.ofChange fnExactFindPlanSpec)

/-- ITS FALSE NEIGHBOUR: 'it returns false'. Refute it at one input. -/
def fnExactFindPlanWrong : ChangeSpec := { name := "fnExactFindPlan", fn := fun _ => fun
  | [d1, d2, d3] => { results := [.lit (.bool false)], args := [d1, d2, d3] }
  | _ => none }
def FnExactFindPlanWrongFalsely : Prop := fnExactFindPlanRow.holds Tryz.pinned (OpenSpec.ofChange fnExactFindPlanWrong)

/-- 'laws.FnExactBlockingStances': WHATEVER THE INPUT: true; the input reads as it did. -/
def fnExactBlockingStancesSpec : ChangeSpec := { name := "fnExactBlockingStances", fn := fun _ => fun
  | [d1, d2, d3] => { results := [.lit (.bool true)], args := [d1, d2, d3] }
  | _ => none }
def fnExactBlockingStancesRow : OpenClaim := { program := "ytehdaknhabeiaaagreat", sum := "ef1e3694878191985d351055cfc60bd85f6717a237cf1a1881441c49efa40023", func := "loop.example/g00830/laws.FnExactBlockingStances", spec := "fnExactBlockingStances", unfollowed := true, recurses := true, apart := false }
def FnExactBlockingStancesSaid : Prop := fnExactBlockingStancesRow.holds Tryz.pinned (OpenSpec.ofChange fnExactBlockingStancesSpec)

/-- ITS FALSE NEIGHBOUR: 'it returns false'. Refute it at one input. -/
def fnExactBlockingStancesWrong : ChangeSpec := { name := "fnExactBlockingStances", fn := fun _ => fun
  | [d1, d2, d3] => { results := [.lit (.bool false)], args := [d1, d2, d3] }
  | _ => none }
def FnExactBlockingStancesWrongFalsely : Prop := fnExactBlockingStancesRow.holds Tryz.pinned (OpenSpec.ofChange fnExactBlockingStancesWrong)

/- THE SECOND FORM. 'bulk': how many values and letters a reading holds, each counted each time it is reached (what is shared counts as often as it is met; a slice's spare places count too). A statement '..UptoSaid' is the law's where the arguments, and the package variables that the reading takes, are together of bulk at most 1048576: NARROWER than '..Said'. Prove '..Said' where nothing that the law and all that it calls make is longer than what came in: it says more and counts as full. Else prove '..UptoSaid'. A law counts once. -/
mutual
def uptoBulk {H : Type} : DataW H → Nat
  | .lit (.string bytes) => bytes.length + 1
  | .lit _ => 1
  | .nil => 1
  | .ptr d => uptoBulk d + 1
  | .slice elems spare => uptoBulkAll elems + uptoBulkAll spare + 1
  | .agg parts => uptoBulkAll parts + 1
  | .iface _ d => uptoBulk d + 1
  | .map entries => uptoBulkEntries entries + 1
  | .held _ => 1
def uptoBulkAll {H : Type} : List (DataW H) → Nat
  | [] => 0
  | d :: r => uptoBulk d + uptoBulkAll r
def uptoBulkEntries {H : Type} : List (Lit × DataW H) → Nat
  | [] => 0
  | x :: r => uptoBulkEntry x + uptoBulkEntries r
def uptoBulkEntry {H : Type} : Lit × DataW H → Nat
  | (.string bytes, d) => bytes.length + uptoBulk d + 1
  | (_, d) => uptoBulk d + 1
 end
def uptoSmall : (H : Type) → List (DataW H) → Bool := fun _ ds => decide (uptoBulkAll ds ≤ 1048576)
def OpenSpec.upto (s : _root_.Go.ChangeSpec) : _root_.Go.OpenSpec := { _root_.Go.OpenSpec.ofChange s with cond := some uptoSmall }

/-- 'laws.FnExactIsSafeStance', WHERE WHAT IT READS IS OF BULK AT MOST 1048576: true; the input reads as it did. -/
def fnExactIsSafeStanceUptoRow : OpenClaim := { program := "ytehdaknhabeiaaagreat", sum := "ef1e3694878191985d351055cfc60bd85f6717a237cf1a1881441c49efa40023", func := "loop.example/g00830/laws.FnExactIsSafeStance", spec := "fnExactIsSafeStance", unfollowed := true, recurses := true, apart := false, narrowed := true }
def FnExactIsSafeStanceUptoSaid : Prop := fnExactIsSafeStanceUptoRow.holds Tryz.pinned (OpenSpec.upto fnExactIsSafeStanceSpec)

/-- 'laws.FnExactIsPlan', WHERE WHAT IT READS IS OF BULK AT MOST 1048576: true; the input reads as it did. -/
def fnExactIsPlanUptoRow : OpenClaim := { program := "ytehdaknhabeiaaagreat", sum := "ef1e3694878191985d351055cfc60bd85f6717a237cf1a1881441c49efa40023", func := "loop.example/g00830/laws.FnExactIsPlan", spec := "fnExactIsPlan", unfollowed := true, recurses := true, apart := false, narrowed := true }
def FnExactIsPlanUptoSaid : Prop := fnExactIsPlanUptoRow.holds Tryz.pinned (OpenSpec.upto fnExactIsPlanSpec)

/-- 'laws.FnExactSafeStances', WHERE WHAT IT READS IS OF BULK AT MOST 1048576: true; the input reads as it did. -/
def fnExactSafeStancesUptoRow : OpenClaim := { program := "ytehdaknhabeiaaagreat", sum := "ef1e3694878191985d351055cfc60bd85f6717a237cf1a1881441c49efa40023", func := "loop.example/g00830/laws.FnExactSafeStances", spec := "fnExactSafeStances", unfollowed := true, recurses := true, apart := false, narrowed := true }
def FnExactSafeStancesUptoSaid : Prop := fnExactSafeStancesUptoRow.holds Tryz.pinned (OpenSpec.upto fnExactSafeStancesSpec)

/-- 'laws.FnExactReachable', WHERE WHAT IT READS IS OF BULK AT MOST 1048576: true; the input reads as it did. -/
def fnExactReachableUptoRow : OpenClaim := { program := "ytehdaknhabeiaaagreat", sum := "ef1e3694878191985d351055cfc60bd85f6717a237cf1a1881441c49efa40023", func := "loop.example/g00830/laws.FnExactReachable", spec := "fnExactReachable", unfollowed := true, recurses := true, apart := false, narrowed := true }
def FnExactReachableUptoSaid : Prop := fnExactReachableUptoRow.holds Tryz.pinned (OpenSpec.upto fnExactReachableSpec)

/-- 'laws.FnExactLeastStances', WHERE WHAT IT READS IS OF BULK AT MOST 1048576: true; the input reads as it did. -/
def fnExactLeastStancesUptoRow : OpenClaim := { program := "ytehdaknhabeiaaagreat", sum := "ef1e3694878191985d351055cfc60bd85f6717a237cf1a1881441c49efa40023", func := "loop.example/g00830/laws.FnExactLeastStances", spec := "fnExactLeastStances", unfollowed := true, recurses := true, apart := false, narrowed := true }
def FnExactLeastStancesUptoSaid : Prop := fnExactLeastStancesUptoRow.holds Tryz.pinned (OpenSpec.upto fnExactLeastStancesSpec)

/-- 'laws.FnExactFindPlan', WHERE WHAT IT READS IS OF BULK AT MOST 1048576: true; the input reads as it did. -/
def fnExactFindPlanUptoRow : OpenClaim := { program := "ytehdaknhabeiaaagreat", sum := "ef1e3694878191985d351055cfc60bd85f6717a237cf1a1881441c49efa40023", func := "loop.example/g00830/laws.FnExactFindPlan", spec := "fnExactFindPlan", unfollowed := true, recurses := true, apart := false, narrowed := true }
def FnExactFindPlanUptoSaid : Prop := fnExactFindPlanUptoRow.holds Tryz.pinned (OpenSpec.upto fnExactFindPlanSpec)

/-- 'laws.FnExactBlockingStances', WHERE WHAT IT READS IS OF BULK AT MOST 1048576: true; the input reads as it did. -/
def fnExactBlockingStancesUptoRow : OpenClaim := { program := "ytehdaknhabeiaaagreat", sum := "ef1e3694878191985d351055cfc60bd85f6717a237cf1a1881441c49efa40023", func := "loop.example/g00830/laws.FnExactBlockingStances", spec := "fnExactBlockingStances", unfollowed := true, recurses := true, apart := false, narrowed := true }
def FnExactBlockingStancesUptoSaid : Prop := fnExactBlockingStancesUptoRow.holds Tryz.pinned (OpenSpec.upto fnExactBlockingStancesSpec)

end Rows
end Go.Proofs.YtehdaknhabeiaaaGreat
