/-
  No cell of these rows narrows 'for every input' (looked for: loops, veiled, ifaces, maps, wideKeys, modest, calm, conditions, laid).
  DERIVED. THE GIVEN ROWS OF THIS SEAT. 5 by the template 'for every input the law returns true; each argument reads behind the call as it read before'; 0 by the template 'total and deterministic' (their statements: YtlkpocljgikpgaaTotals.lean).
  GIVEN WITH THE SEED: the statements are not yours to turn. If you find one false, say at which input.
  Laid BY PROGRAM, IN A SANDBOX (cutbox-rows.mjs): the forced cells as the released guide's own fill.sh prints them over the translation 6d35ad6a8604beba… (all of the seat's roots in one cut). By AI agents, Wed Nov 11 2026. No macro, syntax, notation, axiom, sorry.
-/
import Derived.Test.YtlkpocljgikpgaaChecked
import GoSem.Claim
import GoSem.ClaimJoined
import GoSem.ClaimMapViews
import Derived.JoinedTies
import Derived.KernelRfl
namespace Go.Proofs.Ytlkpocljgikpgaa
/- THE CELL 'sum', in the pinned program and in every row, IS THE sha256 OF THE DUMP (.gsa) THAT YtlkpocljgikpgaaProg.lean LOADS. Nothing in Lean hashes anything: it is a label: what it is worth is what the hold of that sum in a sandbox is worth. -/
noncomputable def Try.pinned : Pinned := { name := "ytlkpocljgikpgaa", sum := "6d35ad6a8604beba1bd0757670edb957ddbba3edec9c78584a59efd395769318", checked := Try.checked }
namespace Rows
def none {H : Type} : Left H := { results := [], args := [] }

/-- 'laws.FnShares': WHATEVER THE INPUT: true; the input reads as it did. -/
def fnSharesSpec : ChangeSpec := { name := "fnShares", fn := fun _ => fun
  | [d] => { results := [.lit (.bool true)], args := [d] }
  | _ => none }
def fnSharesRow : OpenClaim := { program := "ytlkpocljgikpgaa", sum := "6d35ad6a8604beba1bd0757670edb957ddbba3edec9c78584a59efd395769318", func := "loop.example/g00830/laws.FnShares", spec := "fnShares", unfollowed := true, recurses := true, apart := false }
def FnSharesSaid : Prop := fnSharesRow.holds Try.pinned (OpenSpec.ofChange fnSharesSpec)

/-- ITS FALSE NEIGHBOUR: 'it returns false'. Refute it at one input. -/
def fnSharesWrong : ChangeSpec := { name := "fnShares", fn := fun _ => fun
  | [d] => { results := [.lit (.bool false)], args := [d] }
  | _ => none }
def FnSharesWrongFalsely : Prop := fnSharesRow.holds Try.pinned (OpenSpec.ofChange fnSharesWrong)

/-- 'laws.FnExactSlingSquare': WHATEVER THE INPUT: true; the input reads as it did. -/
def fnExactSlingSquareSpec : ChangeSpec := { name := "fnExactSlingSquare", fn := fun _ => fun
  | [d1, d2, d3] => { results := [.lit (.bool true)], args := [d1, d2, d3] }
  | _ => none }
def fnExactSlingSquareRow : OpenClaim := { program := "ytlkpocljgikpgaa", sum := "6d35ad6a8604beba1bd0757670edb957ddbba3edec9c78584a59efd395769318", func := "loop.example/g00830/laws.FnExactSlingSquare", spec := "fnExactSlingSquare", unfollowed := true, recurses := true, apart := false }
def FnExactSlingSquareSaid : Prop := fnExactSlingSquareRow.holds Try.pinned (OpenSpec.ofChange fnExactSlingSquareSpec)

/-- ITS FALSE NEIGHBOUR: 'it returns false'. Refute it at one input. -/
def fnExactSlingSquareWrong : ChangeSpec := { name := "fnExactSlingSquare", fn := fun _ => fun
  | [d1, d2, d3] => { results := [.lit (.bool false)], args := [d1, d2, d3] }
  | _ => none }
def FnExactSlingSquareWrongFalsely : Prop := fnExactSlingSquareRow.holds Try.pinned (OpenSpec.ofChange fnExactSlingSquareWrong)

/-- 'laws.FnExactShareAt': WHATEVER THE INPUT: true; the input reads as it did. -/
def fnExactShareAtSpec : ChangeSpec := { name := "fnExactShareAt", fn := fun _ => fun
  | [d1, d2] => { results := [.lit (.bool true)], args := [d1, d2] }
  | _ => none }
def fnExactShareAtRow : OpenClaim := { program := "ytlkpocljgikpgaa", sum := "6d35ad6a8604beba1bd0757670edb957ddbba3edec9c78584a59efd395769318", func := "loop.example/g00830/laws.FnExactShareAt", spec := "fnExactShareAt", apart := false }
def FnExactShareAtSaid : Prop := fnExactShareAtRow.holds Try.pinned (OpenSpec.ofChange fnExactShareAtSpec)

/-- ITS FALSE NEIGHBOUR: 'it returns false'. Refute it at one input. -/
def fnExactShareAtWrong : ChangeSpec := { name := "fnExactShareAt", fn := fun _ => fun
  | [d1, d2] => { results := [.lit (.bool false)], args := [d1, d2] }
  | _ => none }
def FnExactShareAtWrongFalsely : Prop := fnExactShareAtRow.holds Try.pinned (OpenSpec.ofChange fnExactShareAtWrong)

/-- 'laws.FnExactWorstShares': WHATEVER THE INPUT: true; the input reads as it did. -/
def fnExactWorstSharesSpec : ChangeSpec := { name := "fnExactWorstShares", fn := fun _ => fun
  | [d] => { results := [.lit (.bool true)], args := [d] }
  | _ => none }
def fnExactWorstSharesRow : OpenClaim := { program := "ytlkpocljgikpgaa", sum := "6d35ad6a8604beba1bd0757670edb957ddbba3edec9c78584a59efd395769318", func := "loop.example/g00830/laws.FnExactWorstShares", spec := "fnExactWorstShares", apart := false }
def FnExactWorstSharesSaid : Prop := fnExactWorstSharesRow.holds Try.pinned (OpenSpec.ofChange fnExactWorstSharesSpec)

/-- ITS FALSE NEIGHBOUR: 'it returns false'. Refute it at one input. -/
def fnExactWorstSharesWrong : ChangeSpec := { name := "fnExactWorstShares", fn := fun _ => fun
  | [d] => { results := [.lit (.bool false)], args := [d] }
  | _ => none }
def FnExactWorstSharesWrongFalsely : Prop := fnExactWorstSharesRow.holds Try.pinned (OpenSpec.ofChange fnExactWorstSharesWrong)

/-- 'laws.FnExactNextStances': WHATEVER THE INPUT: true; the input reads as it did. -/
def fnExactNextStancesSpec : ChangeSpec := { name := "fnExactNextStances", fn := fun _ => fun
  | [d1, d2] => { results := [.lit (.bool true)], args := [d1, d2] }
  | _ => none }
def fnExactNextStancesRow : OpenClaim := { program := "ytlkpocljgikpgaa", sum := "6d35ad6a8604beba1bd0757670edb957ddbba3edec9c78584a59efd395769318", func := "loop.example/g00830/laws.FnExactNextStances", spec := "fnExactNextStances", unfollowed := true, recurses := true, apart := false }
def FnExactNextStancesSaid : Prop := fnExactNextStancesRow.holds Try.pinned (OpenSpec.ofChange fnExactNextStancesSpec)

/-- ITS FALSE NEIGHBOUR: 'it returns false'. Refute it at one input. -/
def fnExactNextStancesWrong : ChangeSpec := { name := "fnExactNextStances", fn := fun _ => fun
  | [d1, d2] => { results := [.lit (.bool false)], args := [d1, d2] }
  | _ => none }
def FnExactNextStancesWrongFalsely : Prop := fnExactNextStancesRow.holds Try.pinned (OpenSpec.ofChange fnExactNextStancesWrong)

/- THE SECOND FORM. 'bulk': how many values and letters a reading holds, each counted each time it is reached (what is shared counts as often as it is met; a slice's spare places count too). A statement '..UptoSaid' is the law's where the arguments, and the package variables that the reading takes, are together of bulk at most 1048576: NARROWER than '..Said'. Prove '..Said' where nothing that the law and all that it calls make is longer than what came in: it says more and counts as full. Else prove '..UptoSaid'. A law counts once. -/
mutual
def uptoBulk {H : Type} : DataW H → Nat
  | .lit (.string bytes) => bytes.length + 1
  | .lit _ => 1
  | .nil => 1
  | .ptr d => uptoBulk d + 1
  | .slice elems spare => uptoBulkAll elems + uptoBulkAll spare + 1
  | .agg parts => uptoBulkAll parts + 1
  | .iface _ d => uptoBulk d + 1
  | .map entries => uptoBulkEntries entries + 1
  | .held _ => 1
def uptoBulkAll {H : Type} : List (DataW H) → Nat
  | [] => 0
  | d :: r => uptoBulk d + uptoBulkAll r
def uptoBulkEntries {H : Type} : List (Lit × DataW H) → Nat
  | [] => 0
  | x :: r => uptoBulkEntry x + uptoBulkEntries r
def uptoBulkEntry {H : Type} : Lit × DataW H → Nat
  | (.string bytes, d) => bytes.length + uptoBulk d + 1
  | (_, d) => uptoBulk d + 1
 end
def uptoSmall : (H : Type) → List (DataW H) → Bool := fun _ ds => decide (uptoBulkAll ds ≤ 1048576)
def OpenSpec.upto (s : _root_.Go.ChangeSpec) : _root_.Go.OpenSpec := { _root_.Go.OpenSpec.ofChange s with cond := some uptoSmall }

/-- 'laws.FnShares', WHERE WHAT IT READS IS OF BULK AT MOST 1048576: true; the input reads as it did. -/
def fnSharesUptoRow : OpenClaim := { program := "ytlkpocljgikpgaa", sum := "6d35ad6a8604beba1bd0757670edb957ddbba3edec9c78584a59efd395769318", func := "loop.example/g00830/laws.FnShares", spec := "fnShares", unfollowed := true, recurses := true, apart := false, narrowed := true }
def FnSharesUptoSaid : Prop := fnSharesUptoRow.holds Try.pinned (OpenSpec.upto fnSharesSpec)

/-- 'laws.FnExactSlingSquare', WHERE WHAT IT READS IS OF BULK AT MOST 1048576: true; the input reads as it did. -/
def fnExactSlingSquareUptoRow : OpenClaim := { program := "ytlkpocljgikpgaa", sum := "6d35ad6a8604beba1bd0757670edb957ddbba3edec9c78584a59efd395769318", func := "loop.example/g00830/laws.FnExactSlingSquare", spec := "fnExactSlingSquare", unfollowed := true, recurses := true, apart := false, narrowed := true }
def FnExactSlingSquareUptoSaid : Prop := fnExactSlingSquareUptoRow.holds Try.pinned (OpenSpec.upto fnExactSlingSquareSpec)

/-- 'laws.FnExactShareAt', WHERE WHAT IT READS IS OF BULK AT MOST 1048576: true; the input reads as it did. -/
def fnExactShareAtUptoRow : OpenClaim := { program := "ytlkpocljgikpgaa", sum := "6d35ad6a8604beba1bd0757670edb957ddbba3edec9c78584a59efd395769318", func := "loop.example/g00830/laws.FnExactShareAt", spec := "fnExactShareAt", apart := false, narrowed := true }
def FnExactShareAtUptoSaid : Prop := fnExactShareAtUptoRow.holds Try.pinned (OpenSpec.upto fnExactShareAtSpec)

/-- 'laws.FnExactWorstShares', WHERE WHAT IT READS IS OF BULK AT MOST 1048576: true; the input reads as it did. -/
def fnExactWorstSharesUptoRow : OpenClaim := { program := "ytlkpocljgikpgaa", sum := "6d35ad6a8604beba1bd0757670edb957ddbba3edec9c78584a59efd395769318", func := "loop.example/g00830/laws.FnExactWorstShares", spec := "fnExactWorstShares", apart := false, narrowed := true }
def FnExactWorstSharesUptoSaid : Prop := fnExactWorstSharesUptoRow.holds Try.pinned (OpenSpec.upto fnExactWorstSharesSpec)

/-- 'laws.FnExactNextStances', WHERE WHAT IT READS IS OF BULK AT MOST 1048576: true; the input reads as it did. -/
def fnExactNextStancesUptoRow : OpenClaim := { program := "ytlkpocljgikpgaa", sum := "6d35ad6a8604beba1bd0757670edb957ddbba3edec9c78584a59efd395769318", func := "loop.example/g00830/laws.FnExactNextStances", spec := "fnExactNextStances", unfollowed := true, recurses := true, apart := false, narrowed := true }
def FnExactNextStancesUptoSaid : Prop := fnExactNextStancesUptoRow.holds Try.pinned (OpenSpec.upto fnExactNextStancesSpec)

end Rows
end Go.Proofs.Ytlkpocljgikpgaa
