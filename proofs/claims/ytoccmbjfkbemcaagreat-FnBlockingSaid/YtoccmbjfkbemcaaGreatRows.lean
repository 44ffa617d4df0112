/-
  No cell of these rows narrows 'for every input' (looked for: loops, veiled, ifaces, maps, wideKeys, modest, calm, conditions, laid).
  DERIVED. THE GIVEN ROWS OF THIS SEAT. 2 by the template 'for every input the law returns true; each argument reads behind the call as it read before'; 0 by the template 'total and deterministic' (their statements: YtoccmbjfkbemcaaGreatTotals.lean).
  GIVEN WITH THE SEED: the statements are not yours to turn. If you find one false, say at which input.
  Laid BY PROGRAM, IN A SANDBOX (cutbox-rows.mjs): the forced cells as the released guide's own fill.sh prints them over the translation 159e7486467ae292… (all of the seat's roots in one cut). By AI agents, Wed Nov 11 2026. No macro, syntax, notation, axiom, sorry.
-/
import Derived.Test.YtoccmbjfkbemcaaGreatChecked
import GoSem.Claim
import GoSem.ClaimJoined
import GoSem.ClaimMapViews
import Derived.JoinedTies
import Derived.KernelRfl
namespace Go.Proofs.YtoccmbjfkbemcaaGreat
/- THE CELL 'sum', in the pinned program and in every row, IS THE sha256 OF THE DUMP (.gsa) THAT YtoccmbjfkbemcaaGreatProg.lean LOADS. Nothing in Lean hashes anything: it is a label: what it is worth is what the hold of that sum in a sandbox is worth. -/
noncomputable def Tryz.pinned : Pinned := { name := "ytoccmbjfkbemcaagreat", sum := "159e7486467ae29204dae55f50d02980f4c0555af878a7bc2ecbc1e1d006ca94", checked := Tryz.checked }
namespace Rows
def none {H : Type} : Left H := { results := [], args := [] }

/-- 'laws.FnNearer': WHATEVER THE INPUT: true; the input reads as it did. -/
def fnNearerSpec : ChangeSpec := { name := "fnNearer", fn := fun _ => fun
  | [d] => { results := [.lit (.bool true)], args := [d] }
  | _ => none }
def fnNearerRow : OpenClaim := { program := "ytoccmbjfkbemcaagreat", sum := "159e7486467ae29204dae55f50d02980f4c0555af878a7bc2ecbc1e1d006ca94", func := "loop.example/g00830/laws.FnNearer", spec := "fnNearer", unfollowed := true, recurses := true, apart := false }
def FnNearerSaid : Prop := fnNearerRow.holds Tryz.pinned (OpenSpec.ofChange fnNearerSpec)

/-- ITS FALSE NEIGHBOUR: 'it returns false'. Refute it at one input. -/
def fnNearerWrong : ChangeSpec := { name := "fnNearer", fn := fun _ => fun
  | [d] => { results := [.lit (.bool false)], args := [d] }
  | _ => none }
def FnNearerWrongFalsely : Prop := fnNearerRow.holds Tryz.pinned (OpenSpec.ofChange fnNearerWrong)

/-- 'laws.FnBlocking': WHATEVER THE INPUT: true; the input reads as it did. -/
def fnBlockingSpec : ChangeSpec := { name := "fnBlocking", fn := fun _ => fun
  | [d] => { results := [.lit (.bool true)], args := [d] }
  | _ => none }
def fnBlockingRow : OpenClaim := { program := "ytoccmbjfkbemcaagreat", sum := "159e7486467ae29204dae55f50d02980f4c0555af878a7bc2ecbc1e1d006ca94", func := "loop.example/g00830/laws.FnBlocking", spec := "fnBlocking", unfollowed := true, recurses := true, apart := false }
def FnBlockingSaid : Prop := fnBlockingRow.holds Tryz.pinned (OpenSpec.ofChange fnBlockingSpec)

/-- ITS FALSE NEIGHBOUR: 'it returns false'. Refute it at one input. -/
def fnBlockingWrong : ChangeSpec := { name := "fnBlocking", fn := fun _ => fun
  | [d] => { results := [.lit (.bool false)], args := [d] }
  | _ => none }
def FnBlockingWrongFalsely : Prop := fnBlockingRow.holds Tryz.pinned (OpenSpec.ofChange fnBlockingWrong)

/- THE SECOND FORM. 'bulk': how many values and letters a reading holds, each counted each time it is reached (what is shared counts as often as it is met; a slice's spare places count too). A statement '..UptoSaid' is the law's where the arguments, and the package variables that the reading takes, are together of bulk at most 1048576: NARROWER than '..Said'. Prove '..Said' where nothing that the law and all that it calls make is longer than what came in: it says more and counts as full. Else prove '..UptoSaid'. A law counts once. -/
mutual
def uptoBulk {H : Type} : DataW H → Nat
  | .lit (.string bytes) => bytes.length + 1
  | .lit _ => 1
  | .nil => 1
  | .ptr d => uptoBulk d + 1
  | .slice elems spare => uptoBulkAll elems + uptoBulkAll spare + 1
  | .agg parts => uptoBulkAll parts + 1
  | .iface _ d => uptoBulk d + 1
  | .map entries => uptoBulkEntries entries + 1
  | .held _ => 1
def uptoBulkAll {H : Type} : List (DataW H) → Nat
  | [] => 0
  | d :: r => uptoBulk d + uptoBulkAll r
def uptoBulkEntries {H : Type} : List (Lit × DataW H) → Nat
  | [] => 0
  | x :: r => uptoBulkEntry x + uptoBulkEntries r
def uptoBulkEntry {H : Type} : Lit × DataW H → Nat
  | (.string bytes, d) => bytes.length + uptoBulk d + 1
  | (_, d) => uptoBulk d + 1
 end
def uptoSmall : (H : Type) → List (DataW H) → Bool := fun _ ds => decide (uptoBulkAll ds ≤ 1048576)
def OpenSpec.upto (s : _root_.Go.ChangeSpec) : _root_.Go.OpenSpec := { _root_.Go.OpenSpec.ofChange s with cond := some uptoSmall }

/-- 'laws.FnNearer', WHERE WHAT IT READS IS OF BULK AT MOST 1048576: true; the input reads as it did. -/
def fnNearerUptoRow : OpenClaim := { program := "ytoccmbjfkbemcaagreat", sum := "159e7486467ae29204dae55f50d02980f4c0555af878a7bc2ecbc1e1d006ca94", func := "loop.example/g00830/laws.FnNearer", spec := "fnNearer", unfollowed := true, recurses := true, apart := false, narrowed := true }
def FnNearerUptoSaid : Prop := fnNearerUptoRow.holds Tryz.pinned (OpenSpec.upto fnNearerSpec)

/-- 'laws.FnBlocking', WHERE WHAT IT READS IS OF BULK AT MOST 1048576: true; the input reads as it did. -/
def fnBlockingUptoRow : OpenClaim := { program := "ytoccmbjfkbemcaagreat", sum := "159e7486467ae29204dae55f50d02980f4c0555af878a7bc2ecbc1e1d006ca94", func := "loop.example/g00830/laws.FnBlocking", spec := "fnBlocking", unfollowed := true, recurses := true, apart := false, narrowed := true }
def FnBlockingUptoSaid : Prop := fnBlockingUptoRow.holds Tryz.pinned (OpenSpec.upto fnBlockingSpec)

end Rows
end Go.Proofs.YtoccmbjfkbemcaaGreat
