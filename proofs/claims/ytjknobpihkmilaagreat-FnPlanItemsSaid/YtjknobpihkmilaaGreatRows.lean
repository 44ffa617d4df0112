/-
  No cell of these rows narrows 'for every input' (looked for: loops, veiled, ifaces, maps, wideKeys, modest, calm, conditions, laid).
  DERIVED. THE GIVEN ROWS OF THIS SEAT. 3 by the template 'for every input the law returns true; each argument reads behind the call as it read before'; 0 by the template 'total and deterministic' (their statements: YtjknobpihkmilaaGreatTotals.lean).
  GIVEN WITH THE SEED: the statements are not yours to turn. If you find one false, say at which input.
  Laid BY PROGRAM, IN A SANDBOX (cutbox-rows.mjs): the forced cells as the released guide's own fill.sh prints them over the translation ab50a9fdcf2ba112… (all of the seat's roots in one cut). By AI agents, Wed Nov 11 2026. No macro, syntax, notation, axiom, sorry.
-/
import Derived.Test.YtjknobpihkmilaaGreatChecked
import GoSem.Claim
import GoSem.ClaimJoined
import GoSem.ClaimMapViews
import Derived.JoinedTies
import Derived.KernelRfl
namespace Go.Proofs.YtjknobpihkmilaaGreat
/- THE CELL 'sum', in the pinned program and in every row, IS THE sha256 OF THE DUMP (.gsa) THAT YtjknobpihkmilaaGreatProg.lean LOADS. Nothing in Lean hashes anything: it is a label: what it is worth is what the hold of that sum in a sandbox is worth. -/
noncomputable def Tryz.pinned : Pinned := { name := "ytjknobpihkmilaagreat", sum := "ab50a9fdcf2ba1124a2f21b4f6c587d356ef55858249b06f615f18f018d2a76b", checked := Tryz.checked }
namespace Rows
def none {H : Type} : Left H := { results := [], args := [] }

/-- 'laws.FnPlans': WHATEVER THE INPUT: true; the input reads as it did. -/
def fnPlansSpec : ChangeSpec := { name := "fnPlans", fn := fun _ => fun
  | [d] => { results := [.lit (.bool true)], args := [d] }
  | _ => none }
def fnPlansRow : OpenClaim := { program := "ytjknobpihkmilaagreat", sum := "ab50a9fdcf2ba1124a2f21b4f6c587d356ef55858249b06f615f18f018d2a76b", func := "loop.example/g00830/laws.FnPlans", spec := "fnPlans", inPlace := ["internal/abi.NoEscape", "internal/bytealg.MakeNoZero"], unfollowed := true, recurses := true, apart := false }
def FnPlansSaid : Prop := fnPlansRow.holds Tryz.pinned (OpenSpec.ofChange fnPlansSpec)

/-- ITS FALSE NEIGHBOUR: 'it returns false'. Refute it at one input. -/
def fnPlansWrong : ChangeSpec := { name := "fnPlans", fn := fun _ => fun
  | [d] => { results := [.lit (.bool false)], args := [d] }
  | _ => none }
def FnPlansWrongFalsely : Prop := fnPlansRow.holds Tryz.pinned (OpenSpec.ofChange fnPlansWrong)

/-- 'laws.FnPlanItems': WHATEVER THE INPUT: true; the input reads as it did. -/
def fnPlanItemsSpec : ChangeSpec := { name := "fnPlanItems", fn := fun _ => fun
  | [d] => { results := [.lit (.bool true)], args := [d] }
  | _ => none }
def fnPlanItemsRow : OpenClaim := { program := "ytjknobpihkmilaagreat", sum := "ab50a9fdcf2ba1124a2f21b4f6c587d356ef55858249b06f615f18f018d2a76b", func := "loop.example/g00830/laws.FnPlanItems", spec := "fnPlanItems", unfollowed := true, recurses := true, apart := false }
def FnPlanItemsSaid : Prop := fnPlanItemsRow.holds Tryz.pinned (OpenSpec.ofChange fnPlanItemsSpec)

/-- ITS FALSE NEIGHBOUR: 'it returns false'. Refute it at one input. -/
def fnPlanItemsWrong : ChangeSpec := { name := "fnPlanItems", fn := fun _ => fun
  | [d] => { results := [.lit (.bool false)], args := [d] }
  | _ => none }
def FnPlanItemsWrongFalsely : Prop := fnPlanItemsRow.holds Tryz.pinned (OpenSpec.ofChange fnPlanItemsWrong)

/-- 'laws.FnExactIsSafeStance': WHATEVER THE INPUT: true; the input reads as it did. -/
def fnExactIsSafeStanceSpec : ChangeSpec := { name := "fnExactIsSafeStance", fn := fun _ => fun
  | [d1, d2] => { results := [.lit (.bool true)], args := [d1, d2] }
  | _ => none }
def fnExactIsSafeStanceRow : OpenClaim := { program := "ytjknobpihkmilaagreat", sum := "ab50a9fdcf2ba1124a2f21b4f6c587d356ef55858249b06f615f18f018d2a76b", func := "loop.example/g00830/laws.FnExactIsSafeStance", spec := "fnExactIsSafeStance", unfollowed := true, recurses := true, apart := false }
def FnExactIsSafeStanceSaid : Prop := fnExactIsSafeStanceRow.holds Tryz.pinned (OpenSpec.ofChange fnExactIsSafeStanceSpec)

/-- ITS FALSE NEIGHBOUR: 'it returns false'. Refute it at one input. -/
def fnExactIsSafeStanceWrong : ChangeSpec := { name := "fnExactIsSafeStance", fn := fun _ => fun
  | [d1, d2] => { results := [.lit (.bool false)], args := [d1, d2] }
  | _ => none }
def FnExactIsSafeStanceWrongFalsely : Prop := fnExactIsSafeStanceRow.holds Tryz.pinned (OpenSpec.ofChange fnExactIsSafeStanceWrong)

/- THE SECOND FORM. 'bulk': how many values and letters a reading holds, each counted each time it is reached (what is shared counts as often as it is met; a slice's spare places count too). A statement '..UptoSaid' is the law's where the arguments, and the package variables that the reading takes, are together of bulk at most 1048576: NARROWER than '..Said'. Prove '..Said' where nothing that the law and all that it calls make is longer than what came in: it says more and counts as full. Else prove '..UptoSaid'. A law counts once. -/
mutual
def uptoBulk {H : Type} : DataW H → Nat
  | .lit (.string bytes) => bytes.length + 1
  | .lit _ => 1
  | .nil => 1
  | .ptr d => uptoBulk d + 1
  | .slice elems spare => uptoBulkAll elems + uptoBulkAll spare + 1
  | .agg parts => uptoBulkAll parts + 1
  | .iface _ d => uptoBulk d + 1
  | .map entries => uptoBulkEntries entries + 1
  | .held _ => 1
def uptoBulkAll {H : Type} : List (DataW H) → Nat
  | [] => 0
  | d :: r => uptoBulk d + uptoBulkAll r
def uptoBulkEntries {H : Type} : List (Lit × DataW H) → Nat
  | [] => 0
  | x :: r => uptoBulkEntry x + uptoBulkEntries r
def uptoBulkEntry {H : Type} : Lit × DataW H → Nat
  | (.string bytes, d) => bytes.length + uptoBulk d + 1
  | (_, d) => uptoBulk d + 1
 end
def uptoSmall : (H : Type) → List (DataW H) → Bool := fun _ ds => decide (uptoBulkAll ds ≤ 1048576)
def OpenSpec.upto (s : _root_.Go.ChangeSpec) : _root_.Go.OpenSpec := { _root_.Go.OpenSpec.ofChange s with cond := some uptoSmall }

/-- 'laws.FnPlans', WHERE WHAT IT READS IS OF BULK AT MOST 1048576: true; the input reads as it did. -/
def fnPlansUptoRow : OpenClaim := { program := "ytjknobpihkmilaagreat", sum := "ab50a9fdcf2ba1124a2f21b4f6c587d356ef55858249b06f615f18f018d2a76b", func := "loop.example/g00830/laws.FnPlans", spec := "fnPlans", inPlace := ["internal/abi.NoEscape", "internal/bytealg.MakeNoZero"], unfollowed := true, recurses := true, apart := false, narrowed := true }
def FnPlansUptoSaid : Prop := fnPlansUptoRow.holds Tryz.pinned (OpenSpec.upto fnPlansSpec)

/-- 'laws.FnPlanItems', WHERE WHAT IT READS IS OF BULK AT MOST 1048576: true; the input reads as it did. -/
def fnPlanItemsUptoRow : OpenClaim := { program := "ytjknobpihkmilaagreat", sum := "ab50a9fdcf2ba1124a2f21b4f6c587d356ef55858249b06f615f18f018d2a76b", func := "loop.example/g00830/laws.FnPlanItems", spec := "fnPlanItems", unfollowed := true, recurses := true, apart := false, narrowed := true }
def FnPlanItemsUptoSaid : Prop := fnPlanItemsUptoRow.holds Tryz.pinned (OpenSpec.upto fnPlanItemsSpec)

/-- 'laws.FnExactIsSafeStance', WHERE WHAT IT READS IS OF BULK AT MOST 1048576: true; the input reads as it did. -/
def fnExactIsSafeStanceUptoRow : OpenClaim := { program := "ytjknobpihkmilaagreat", sum := "ab50a9fdcf2ba1124a2f21b4f6c587d356ef55858249b06f615f18f018d2a76b", func := "loop.example/g00830/laws.FnExactIsSafeStance", spec := "fnExactIsSafeStance", unfollowed := true, recurses := true, apart := false, narrowed := true }
def FnExactIsSafeStanceUptoSaid : Prop := fnExactIsSafeStanceUptoRow.holds Tryz.pinned (OpenSpec.upto fnExactIsSafeStanceSpec)

end Rows
end Go.Proofs.YtjknobpihkmilaaGreat
