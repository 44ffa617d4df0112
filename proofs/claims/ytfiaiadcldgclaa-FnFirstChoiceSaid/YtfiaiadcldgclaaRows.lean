/-
  No cell of these rows narrows 'for every input' (looked for: loops, veiled, ifaces, maps, wideKeys, modest, calm, conditions, laid).
  DERIVED. THE GIVEN ROWS OF THIS SEAT. 6 by the template 'for every input the law returns true; each argument reads behind the call as it read before'; 0 by the template 'total and deterministic' (their statements: YtfiaiadcldgclaaTotals.lean).
  GIVEN WITH THE SEED: the statements are not yours to turn. If you find one false, say at which input.
  Laid BY PROGRAM, IN A SANDBOX (cutbox-rows.mjs): the forced cells as the released guide's own fill.sh prints them over the translation 5a6f3f41fb011477… (all of the seat's roots in one cut). By AI agents, Wed Nov 11 2026. No macro, syntax, notation, axiom, sorry.
-/
import Derived.Test.YtfiaiadcldgclaaChecked
import GoSem.Claim
import GoSem.ClaimJoined
import GoSem.ClaimMapViews
import Derived.JoinedTies
import Derived.KernelRfl
namespace Go.Proofs.Ytfiaiadcldgclaa
/- THE CELL 'sum', in the pinned program and in every row, IS THE sha256 OF THE DUMP (.gsa) THAT YtfiaiadcldgclaaProg.lean LOADS. Nothing in Lean hashes anything: it is a label: what it is worth is what the hold of that sum in a sandbox is worth. -/
noncomputable def Try.pinned : Pinned := { name := "ytfiaiadcldgclaa", sum := "5a6f3f41fb011477cc51e6ff6ed80e99a90a44beb8d2f96ccacfe1237f1d56f1", checked := Try.checked }
namespace Rows
def none {H : Type} : Left H := { results := [], args := [] }

/-- 'laws.FnExactSumOfText': WHATEVER THE INPUT: true; the input reads as it did. -/
def fnExactSumOfTextSpec : ChangeSpec := { name := "fnExactSumOfText", fn := fun _ => fun
  | [d] => { results := [.lit (.bool true)], args := [d] }
  | _ => none }
def fnExactSumOfTextRow : OpenClaim := { program := "ytfiaiadcldgclaa", sum := "5a6f3f41fb011477cc51e6ff6ed80e99a90a44beb8d2f96ccacfe1237f1d56f1", func := "loop.example/g00830/laws.FnExactSumOfText", spec := "fnExactSumOfText", apart := false }
def FnExactSumOfTextSaid : Prop := fnExactSumOfTextRow.holds Try.pinned (OpenSpec.ofChange fnExactSumOfTextSpec)

/-- ITS FALSE NEIGHBOUR: 'it returns false'. Refute it at one input. -/
def fnExactSumOfTextWrong : ChangeSpec := { name := "fnExactSumOfText", fn := fun _ => fun
  | [d] => { results := [.lit (.bool false)], args := [d] }
  | _ => none }
def FnExactSumOfTextWrongFalsely : Prop := fnExactSumOfTextRow.holds Try.pinned (OpenSpec.ofChange fnExactSumOfTextWrong)

/-- 'laws.FnExactIsSteady': WHATEVER THE INPUT: true; the input reads as it did. -/
def fnExactIsSteadySpec : ChangeSpec := { name := "fnExactIsSteady", fn := fun _ => fun
  | [d] => { results := [.lit (.bool true)], args := [d] }
  | _ => none }
def fnExactIsSteadyRow : OpenClaim := { program := "ytfiaiadcldgclaa", sum := "5a6f3f41fb011477cc51e6ff6ed80e99a90a44beb8d2f96ccacfe1237f1d56f1", func := "loop.example/g00830/laws.FnExactIsSteady", spec := "fnExactIsSteady", apart := false }
def FnExactIsSteadySaid : Prop := fnExactIsSteadyRow.holds Try.pinned (OpenSpec.ofChange fnExactIsSteadySpec)

/-- ITS FALSE NEIGHBOUR: 'it returns false'. Refute it at one input. -/
def fnExactIsSteadyWrong : ChangeSpec := { name := "fnExactIsSteady", fn := fun _ => fun
  | [d] => { results := [.lit (.bool false)], args := [d] }
  | _ => none }
def FnExactIsSteadyWrongFalsely : Prop := fnExactIsSteadyRow.holds Try.pinned (OpenSpec.ofChange fnExactIsSteadyWrong)

/-- 'laws.FnExactItemOk': WHATEVER THE INPUT: true; the input reads as it did. -/
def fnExactItemOkSpec : ChangeSpec := { name := "fnExactItemOk", fn := fun _ => fun
  | [d] => { results := [.lit (.bool true)], args := [d] }
  | _ => none }
def fnExactItemOkRow : OpenClaim := { program := "ytfiaiadcldgclaa", sum := "5a6f3f41fb011477cc51e6ff6ed80e99a90a44beb8d2f96ccacfe1237f1d56f1", func := "loop.example/g00830/laws.FnExactItemOk", spec := "fnExactItemOk", apart := false }
def FnExactItemOkSaid : Prop := fnExactItemOkRow.holds Try.pinned (OpenSpec.ofChange fnExactItemOkSpec)

/-- ITS FALSE NEIGHBOUR: 'it returns false'. Refute it at one input. -/
def fnExactItemOkWrong : ChangeSpec := { name := "fnExactItemOk", fn := fun _ => fun
  | [d] => { results := [.lit (.bool false)], args := [d] }
  | _ => none }
def FnExactItemOkWrongFalsely : Prop := fnExactItemOkRow.holds Try.pinned (OpenSpec.ofChange fnExactItemOkWrong)

/-- 'laws.FnExactStockOk': WHATEVER THE INPUT: true; the input reads as it did. -/
def fnExactStockOkSpec : ChangeSpec := { name := "fnExactStockOk", fn := fun _ => fun
  | [d] => { results := [.lit (.bool true)], args := [d] }
  | _ => none }
def fnExactStockOkRow : OpenClaim := { program := "ytfiaiadcldgclaa", sum := "5a6f3f41fb011477cc51e6ff6ed80e99a90a44beb8d2f96ccacfe1237f1d56f1", func := "loop.example/g00830/laws.FnExactStockOk", spec := "fnExactStockOk", unfollowed := true, recurses := true, apart := false }
def FnExactStockOkSaid : Prop := fnExactStockOkRow.holds Try.pinned (OpenSpec.ofChange fnExactStockOkSpec)

/-- ITS FALSE NEIGHBOUR: 'it returns false'. Refute it at one input. -/
def fnExactStockOkWrong : ChangeSpec := { name := "fnExactStockOk", fn := fun _ => fun
  | [d] => { results := [.lit (.bool false)], args := [d] }
  | _ => none }
def FnExactStockOkWrongFalsely : Prop := fnExactStockOkRow.holds Try.pinned (OpenSpec.ofChange fnExactStockOkWrong)

/-- 'laws.FnFirstChoice': WHATEVER THE INPUT: true; the input reads as it did. -/
def fnFirstChoiceSpec : ChangeSpec := { name := "fnFirstChoice", fn := fun _ => fun
  | [d] => { results := [.lit (.bool true)], args := [d] }
  | _ => none }
def fnFirstChoiceRow : OpenClaim := { program := "ytfiaiadcldgclaa", sum := "5a6f3f41fb011477cc51e6ff6ed80e99a90a44beb8d2f96ccacfe1237f1d56f1", func := "loop.example/g00830/laws.FnFirstChoice", spec := "fnFirstChoice", unfollowed := true, recurses := true, apart := false }
def FnFirstChoiceSaid : Prop := fnFirstChoiceRow.holds Try.pinned (OpenSpec.ofChange fnFirstChoiceSpec)

/-- ITS FALSE NEIGHBOUR: 'it returns false'. Refute it at one input. -/
def fnFirstChoiceWrong : ChangeSpec := { name := "fnFirstChoice", fn := fun _ => fun
  | [d] => { results := [.lit (.bool false)], args := [d] }
  | _ => none }
def FnFirstChoiceWrongFalsely : Prop := fnFirstChoiceRow.holds Try.pinned (OpenSpec.ofChange fnFirstChoiceWrong)

/-- 'laws.FnExactFirstExpiry': WHATEVER THE INPUT: true; the input reads as it did. -/
def fnExactFirstExpirySpec : ChangeSpec := { name := "fnExactFirstExpiry", fn := fun _ => fun
  | [d1, d2] => { results := [.lit (.bool true)], args := [d1, d2] }
  | _ => none }
def fnExactFirstExpiryRow : OpenClaim := { program := "ytfiaiadcldgclaa", sum := "5a6f3f41fb011477cc51e6ff6ed80e99a90a44beb8d2f96ccacfe1237f1d56f1", func := "loop.example/g00830/laws.FnExactFirstExpiry", spec := "fnExactFirstExpiry", unfollowed := true, recurses := true, apart := false }
def FnExactFirstExpirySaid : Prop := fnExactFirstExpiryRow.holds Try.pinned (OpenSpec.ofChange fnExactFirstExpirySpec)

/-- ITS FALSE NEIGHBOUR: 'it returns false'. Refute it at one input. -/
def fnExactFirstExpiryWrong : ChangeSpec := { name := "fnExactFirstExpiry", fn := fun _ => fun
  | [d1, d2] => { results := [.lit (.bool false)], args := [d1, d2] }
  | _ => none }
def FnExactFirstExpiryWrongFalsely : Prop := fnExactFirstExpiryRow.holds Try.pinned (OpenSpec.ofChange fnExactFirstExpiryWrong)

/- THE SECOND FORM. 'bulk': how many values and letters a reading holds, each counted each time it is reached (what is shared counts as often as it is met; a slice's spare places count too). A statement '..UptoSaid' is the law's where the arguments, and the package variables that the reading takes, are together of bulk at most 1048576: NARROWER than '..Said'. Prove '..Said' where nothing that the law and all that it calls make is longer than what came in: it says more and counts as full. Else prove '..UptoSaid'. A law counts once. -/
mutual
def uptoBulk {H : Type} : DataW H → Nat
  | .lit (.string bytes) => bytes.length + 1
  | .lit _ => 1
  | .nil => 1
  | .ptr d => uptoBulk d + 1
  | .slice elems spare => uptoBulkAll elems + uptoBulkAll spare + 1
  | .agg parts => uptoBulkAll parts + 1
  | .iface _ d => uptoBulk d + 1
  | .map entries => uptoBulkEntries entries + 1
  | .held _ => 1
def uptoBulkAll {H : Type} : List (DataW H) → Nat
  | [] => 0
  | d :: r => uptoBulk d + uptoBulkAll r
def uptoBulkEntries {H : Type} : List (Lit × DataW H) → Nat
  | [] => 0
  | x :: r => uptoBulkEntry x + uptoBulkEntries r
def uptoBulkEntry {H : Type} : Lit × DataW H → Nat
  | (.string bytes, d) => bytes.length + uptoBulk d + 1
  | (_, d) => uptoBulk d + 1
 end
def uptoSmall : (H : Type) → List (DataW H) → Bool := fun _ ds => decide (uptoBulkAll ds ≤ 1048576)
def OpenSpec.upto (s : _root_.Go.ChangeSpec) : _root_.Go.OpenSpec := { _root_.Go.OpenSpec.ofChange s with cond := some uptoSmall }

/-- 'laws.FnExactSumOfText', WHERE WHAT IT READS IS OF BULK AT MOST 1048576: true; the input reads as it did. -/
def fnExactSumOfTextUptoRow : OpenClaim := { program := "ytfiaiadcldgclaa", sum := "5a6f3f41fb011477cc51e6ff6ed80e99a90a44beb8d2f96ccacfe1237f1d56f1", func := "loop.example/g00830/laws.FnExactSumOfText", spec := "fnExactSumOfText", apart := false, narrowed := true }
def FnExactSumOfTextUptoSaid : Prop := fnExactSumOfTextUptoRow.holds Try.pinned (OpenSpec.upto fnExactSumOfTextSpec)

/-- 'laws.FnExactIsSteady', WHERE WHAT IT READS IS OF BULK AT MOST 1048576: true; the input reads as it did. -/
def fnExactIsSteadyUptoRow : OpenClaim := { program := "ytfiaiadcldgclaa", sum := "5a6f3f41fb011477cc51e6ff6ed80e99a90a44beb8d2f96ccacfe1237f1d56f1", func := "loop.example/g00830/laws.FnExactIsSteady", spec := "fnExactIsSteady", apart := false, narrowed := true }
def FnExactIsSteadyUptoSaid : Prop := fnExactIsSteadyUptoRow.holds Try.pinned (OpenSpec.upto fnExactIsSteadySpec)

/-- 'laws.FnExactItemOk', WHERE WHAT IT READS IS OF BULK AT MOST 1048576: true; the input reads as it did. -/
def fnExactItemOkUptoRow : OpenClaim := { program := "ytfiaiadcldgclaa", sum := "5a6f3f41fb011477cc51e6ff6ed80e99a90a44beb8d2f96ccacfe1237f1d56f1", func := "loop.example/g00830/laws.FnExactItemOk", spec := "fnExactItemOk", apart := false, narrowed := true }
def FnExactItemOkUptoSaid : Prop := fnExactItemOkUptoRow.holds Try.pinned (OpenSpec.upto fnExactItemOkSpec)

/-- 'laws.FnExactStockOk', WHERE WHAT IT READS IS OF BULK AT MOST 1048576: true; the input reads as it did. -/
def fnExactStockOkUptoRow : OpenClaim := { program := "ytfiaiadcldgclaa", sum := "5a6f3f41fb011477cc51e6ff6ed80e99a90a44beb8d2f96ccacfe1237f1d56f1", func := "loop.example/g00830/laws.FnExactStockOk", spec := "fnExactStockOk", unfollowed := true, recurses := true, apart := false, narrowed := true }
def FnExactStockOkUptoSaid : Prop := fnExactStockOkUptoRow.holds Try.pinned (OpenSpec.upto fnExactStockOkSpec)

/-- 'laws.FnFirstChoice', WHERE WHAT IT READS IS OF BULK AT MOST 1048576: true; the input reads as it did. -/
def fnFirstChoiceUptoRow : OpenClaim := { program := "ytfiaiadcldgclaa", sum := "5a6f3f41fb011477cc51e6ff6ed80e99a90a44beb8d2f96ccacfe1237f1d56f1", func := "loop.example/g00830/laws.FnFirstChoice", spec := "fnFirstChoice", unfollowed := true, recurses := true, apart := false, narrowed := true }
def FnFirstChoiceUptoSaid : Prop := fnFirstChoiceUptoRow.holds Try.pinned (OpenSpec.upto fnFirstChoiceSpec)

/-- 'laws.FnExactFirstExpiry', WHERE WHAT IT READS IS OF BULK AT MOST 1048576: true; the input reads as it did. -/
def fnExactFirstExpiryUptoRow : OpenClaim := { program := "ytfiaiadcldgclaa", sum := "5a6f3f41fb011477cc51e6ff6ed80e99a90a44beb8d2f96ccacfe1237f1d56f1", func := "loop.example/g00830/laws.FnExactFirstExpiry", spec := "fnExactFirstExpiry", unfollowed := true, recurses := true, apart := false, narrowed := true }
def FnExactFirstExpiryUptoSaid : Prop := fnExactFirstExpiryUptoRow.holds Try.pinned (OpenSpec.upto fnExactFirstExpirySpec)

end Rows
end Go.Proofs.Ytfiaiadcldgclaa
