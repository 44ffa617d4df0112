/-
  No cell of these rows narrows 'for every input' (looked for: loops, veiled, ifaces, maps, wideKeys, modest, calm, conditions, laid).
  DERIVED. THE GIVEN ROWS OF THIS SEAT. 7 by the template 'for every input the law returns true; each argument reads behind the call as it read before'; 0 by the template 'total and deterministic' (their statements: YtkooomnoofnfpaaTotals.lean).
  GIVEN WITH THE SEED: the statements are not yours to turn. If you find one false, say at which input.
  Laid BY PROGRAM, IN A SANDBOX (cutbox-rows.mjs): the forced cells as the released guide's own fill.sh prints them over the translation 6eeb535d5e1b7b15… (all of the seat's roots in one cut). By AI agents, Wed Nov 11 2026. No macro, syntax, notation, axiom, sorry.
-/
import Derived.Test.YtkooomnoofnfpaaChecked
import GoSem.Claim
import GoSem.ClaimJoined
import GoSem.ClaimMapViews
import Derived.JoinedTies
import Derived.KernelRfl
namespace Go.Proofs.Ytkooomnoofnfpaa
/- THE CELL 'sum', in the pinned program and in every row, IS THE sha256 OF THE DUMP (.gsa) THAT YtkooomnoofnfpaaProg.lean LOADS. Nothing in Lean hashes anything: it is a label: what it is worth is what the hold of that sum in a sandbox is worth. -/
noncomputable def Try.pinned : Pinned := { name := "ytkooomnoofnfpaa", sum := "6eeb535d5e1b7b15d52fef4d5cbc334dec58166bf8bbb04aeb9c8030b6d49bac", checked := Try.checked }
namespace Rows
def none {H : Type} : Left H := { results := [], args := [] }

/-- 'laws.FnEquipped': WHATEVER THE INPUT: true; the input reads as it did. -/
def fnEquippedSpec : ChangeSpec := { name := "fnEquipped", fn := fun _ => fun
  | [d] => { results := [.lit (.bool true)], args := [d] }
  | _ => none }
def fnEquippedRow : OpenClaim := { program := "ytkooomnoofnfpaa", sum := "6eeb535d5e1b7b15d52fef4d5cbc334dec58166bf8bbb04aeb9c8030b6d49bac", func := "loop.example/g00830/laws.FnEquipped", spec := "fnEquipped", unfollowed := true, recurses := true, apart := false }
def FnEquippedSaid : Prop := fnEquippedRow.holds Try.pinned (OpenSpec.ofChange fnEquippedSpec)

/-- ITS FALSE NEIGHBOUR: 'it returns false'. Refute it at one input. -/
def fnEquippedWrong : ChangeSpec := { name := "fnEquipped", fn := fun _ => fun
  | [d] => { results := [.lit (.bool false)], args := [d] }
  | _ => none }
def FnEquippedWrongFalsely : Prop := fnEquippedRow.holds Try.pinned (OpenSpec.ofChange fnEquippedWrong)

/-- 'laws.FnExactCanEquip': WHATEVER THE INPUT: true; the input reads as it did. -/
def fnExactCanEquipSpec : ChangeSpec := { name := "fnExactCanEquip", fn := fun _ => fun
  | [d1, d2, d3] => { results := [.lit (.bool true)], args := [d1, d2, d3] }
  | _ => none }
def fnExactCanEquipRow : OpenClaim := { program := "ytkooomnoofnfpaa", sum := "6eeb535d5e1b7b15d52fef4d5cbc334dec58166bf8bbb04aeb9c8030b6d49bac", func := "loop.example/g00830/laws.FnExactCanEquip", spec := "fnExactCanEquip", unfollowed := true, recurses := true, apart := false }
def FnExactCanEquipSaid : Prop := fnExactCanEquipRow.holds Try.pinned (OpenSpec.ofChange fnExactCanEquipSpec)

/-- ITS FALSE NEIGHBOUR: 'it returns false'. Refute it at one input. -/
def fnExactCanEquipWrong : ChangeSpec := { name := "fnExactCanEquip", fn := fun _ => fun
  | [d1, d2, d3] => { results := [.lit (.bool false)], args := [d1, d2, d3] }
  | _ => none }
def FnExactCanEquipWrongFalsely : Prop := fnExactCanEquipRow.holds Try.pinned (OpenSpec.ofChange fnExactCanEquipWrong)

/-- 'laws.FnExactUsable': WHATEVER THE INPUT: true; the input reads as it did. -/
def fnExactUsableSpec : ChangeSpec := { name := "fnExactUsable", fn := fun _ => fun
  | [d1, d2, d3] => { results := [.lit (.bool true)], args := [d1, d2, d3] }
  | _ => none }
def fnExactUsableRow : OpenClaim := { program := "ytkooomnoofnfpaa", sum := "6eeb535d5e1b7b15d52fef4d5cbc334dec58166bf8bbb04aeb9c8030b6d49bac", func := "loop.example/g00830/laws.FnExactUsable", spec := "fnExactUsable", unfollowed := true, recurses := true, apart := false }
def FnExactUsableSaid : Prop := fnExactUsableRow.holds Try.pinned (OpenSpec.ofChange fnExactUsableSpec)

/-- ITS FALSE NEIGHBOUR: 'it returns false'. Refute it at one input. -/
def fnExactUsableWrong : ChangeSpec := { name := "fnExactUsable", fn := fun _ => fun
  | [d1, d2, d3] => { results := [.lit (.bool false)], args := [d1, d2, d3] }
  | _ => none }
def FnExactUsableWrongFalsely : Prop := fnExactUsableRow.holds Try.pinned (OpenSpec.ofChange fnExactUsableWrong)

/-- 'laws.FnExactSpareOf': WHATEVER THE INPUT: true; the input reads as it did. -/
def fnExactSpareOfSpec : ChangeSpec := { name := "fnExactSpareOf", fn := fun _ => fun
  | [d1, d2] => { results := [.lit (.bool true)], args := [d1, d2] }
  | _ => none }
def fnExactSpareOfRow : OpenClaim := { program := "ytkooomnoofnfpaa", sum := "6eeb535d5e1b7b15d52fef4d5cbc334dec58166bf8bbb04aeb9c8030b6d49bac", func := "loop.example/g00830/laws.FnExactSpareOf", spec := "fnExactSpareOf", unfollowed := true, recurses := true, apart := false }
def FnExactSpareOfSaid : Prop := fnExactSpareOfRow.holds Try.pinned (OpenSpec.ofChange fnExactSpareOfSpec)

/-- ITS FALSE NEIGHBOUR: 'it returns false'. Refute it at one input. -/
def fnExactSpareOfWrong : ChangeSpec := { name := "fnExactSpareOf", fn := fun _ => fun
  | [d1, d2] => { results := [.lit (.bool false)], args := [d1, d2] }
  | _ => none }
def FnExactSpareOfWrongFalsely : Prop := fnExactSpareOfRow.holds Try.pinned (OpenSpec.ofChange fnExactSpareOfWrong)

/-- 'laws.FnExactLeastHeight': WHATEVER THE INPUT: true; the input reads as it did. -/
def fnExactLeastHeightSpec : ChangeSpec := { name := "fnExactLeastHeight", fn := fun _ => fun
  | [d1, d2, d3] => { results := [.lit (.bool true)], args := [d1, d2, d3] }
  | _ => none }
def fnExactLeastHeightRow : OpenClaim := { program := "ytkooomnoofnfpaa", sum := "6eeb535d5e1b7b15d52fef4d5cbc334dec58166bf8bbb04aeb9c8030b6d49bac", func := "loop.example/g00830/laws.FnExactLeastHeight", spec := "fnExactLeastHeight", apart := false }
def FnExactLeastHeightSaid : Prop := fnExactLeastHeightRow.holds Try.pinned (OpenSpec.ofChange fnExactLeastHeightSpec)

/-- ITS FALSE NEIGHBOUR: 'it returns false'. Refute it at one input. -/
def fnExactLeastHeightWrong : ChangeSpec := { name := "fnExactLeastHeight", fn := fun _ => fun
  | [d1, d2, d3] => { results := [.lit (.bool false)], args := [d1, d2, d3] }
  | _ => none }
def FnExactLeastHeightWrongFalsely : Prop := fnExactLeastHeightRow.holds Try.pinned (OpenSpec.ofChange fnExactLeastHeightWrong)

/-- 'laws.FnExactFormatMember': WHATEVER THE INPUT: true; the input reads as it did. -/
def fnExactFormatMemberSpec : ChangeSpec := { name := "fnExactFormatMember", fn := fun _ => fun
  | [d1, d2] => { results := [.lit (.bool true)], args := [d1, d2] }
  | _ => none }
def fnExactFormatMemberRow : OpenClaim := { program := "ytkooomnoofnfpaa", sum := "6eeb535d5e1b7b15d52fef4d5cbc334dec58166bf8bbb04aeb9c8030b6d49bac", func := "loop.example/g00830/laws.FnExactFormatMember", spec := "fnExactFormatMember", unfollowed := true, recurses := true, apart := false }
def FnExactFormatMemberSaid : Prop := fnExactFormatMemberRow.holds Try.pinned (OpenSpec.ofChange fnExactFormatMemberSpec)

/-- ITS FALSE NEIGHBOUR: 'it returns false'. Refute it at one input. -/
def fnExactFormatMemberWrong : ChangeSpec := { name := "fnExactFormatMember", fn := fun _ => fun
  | [d1, d2] => { results := [.lit (.bool false)], args := [d1, d2] }
  | _ => none }
def FnExactFormatMemberWrongFalsely : Prop := fnExactFormatMemberRow.holds Try.pinned (OpenSpec.ofChange fnExactFormatMemberWrong)

/-- 'laws.FnExactEquipFrom': WHATEVER THE INPUT: true; the input reads as it did. -/
def fnExactEquipFromSpec : ChangeSpec := { name := "fnExactEquipFrom", fn := fun _ => fun
  | [d1, d2, d3] => { results := [.lit (.bool true)], args := [d1, d2, d3] }
  | _ => none }
def fnExactEquipFromRow : OpenClaim := { program := "ytkooomnoofnfpaa", sum := "6eeb535d5e1b7b15d52fef4d5cbc334dec58166bf8bbb04aeb9c8030b6d49bac", func := "loop.example/g00830/laws.FnExactEquipFrom", spec := "fnExactEquipFrom", unfollowed := true, recurses := true, apart := false }
def FnExactEquipFromSaid : Prop := fnExactEquipFromRow.holds Try.pinned (OpenSpec.ofChange fnExactEquipFromSpec)

/-- ITS FALSE NEIGHBOUR: 'it returns false'. Refute it at one input. -/
def fnExactEquipFromWrong : ChangeSpec := { name := "fnExactEquipFrom", fn := fun _ => fun
  | [d1, d2, d3] => { results := [.lit (.bool false)], args := [d1, d2, d3] }
  | _ => none }
def FnExactEquipFromWrongFalsely : Prop := fnExactEquipFromRow.holds Try.pinned (OpenSpec.ofChange fnExactEquipFromWrong)

/- THE SECOND FORM. 'bulk': how many values and letters a reading holds, each counted each time it is reached (what is shared counts as often as it is met; a slice's spare places count too). A statement '..UptoSaid' is the law's where the arguments, and the package variables that the reading takes, are together of bulk at most 1048576: NARROWER than '..Said'. Prove '..Said' where nothing that the law and all that it calls make is longer than what came in: it says more and counts as full. Else prove '..UptoSaid'. A law counts once. -/
mutual
def uptoBulk {H : Type} : DataW H → Nat
  | .lit (.string bytes) => bytes.length + 1
  | .lit _ => 1
  | .nil => 1
  | .ptr d => uptoBulk d + 1
  | .slice elems spare => uptoBulkAll elems + uptoBulkAll spare + 1
  | .agg parts => uptoBulkAll parts + 1
  | .iface _ d => uptoBulk d + 1
  | .map entries => uptoBulkEntries entries + 1
  | .held _ => 1
def uptoBulkAll {H : Type} : List (DataW H) → Nat
  | [] => 0
  | d :: r => uptoBulk d + uptoBulkAll r
def uptoBulkEntries {H : Type} : List (Lit × DataW H) → Nat
  | [] => 0
  | x :: r => uptoBulkEntry x + uptoBulkEntries r
def uptoBulkEntry {H : Type} : Lit × DataW H → Nat
  | (.string bytes, d) => bytes.length + uptoBulk d + 1
  | (_, d) => uptoBulk d + 1
 end
def uptoSmall : (H : Type) → List (DataW H) → Bool := fun _ ds => decide (uptoBulkAll ds ≤ 1048576)
def OpenSpec.upto (s : _root_.Go.ChangeSpec) : _root_.Go.OpenSpec := { _root_.Go.OpenSpec.ofChange s with cond := some uptoSmall }

/-- 'laws.FnEquipped', WHERE WHAT IT READS IS OF BULK AT MOST 1048576: true; the input reads as it did. -/
def fnEquippedUptoRow : OpenClaim := { program := "ytkooomnoofnfpaa", sum := "6eeb535d5e1b7b15d52fef4d5cbc334dec58166bf8bbb04aeb9c8030b6d49bac", func := "loop.example/g00830/laws.FnEquipped", spec := "fnEquipped", unfollowed := true, recurses := true, apart := false, narrowed := true }
def FnEquippedUptoSaid : Prop := fnEquippedUptoRow.holds Try.pinned (OpenSpec.upto fnEquippedSpec)

/-- 'laws.FnExactCanEquip', WHERE WHAT IT READS IS OF BULK AT MOST 1048576: true; the input reads as it did. -/
def fnExactCanEquipUptoRow : OpenClaim := { program := "ytkooomnoofnfpaa", sum := "6eeb535d5e1b7b15d52fef4d5cbc334dec58166bf8bbb04aeb9c8030b6d49bac", func := "loop.example/g00830/laws.FnExactCanEquip", spec := "fnExactCanEquip", unfollowed := true, recurses := true, apart := false, narrowed := true }
def FnExactCanEquipUptoSaid : Prop := fnExactCanEquipUptoRow.holds Try.pinned (OpenSpec.upto fnExactCanEquipSpec)

/-- 'laws.FnExactUsable', WHERE WHAT IT READS IS OF BULK AT MOST 1048576: true; the input reads as it did. -/
def fnExactUsableUptoRow : OpenClaim := { program := "ytkooomnoofnfpaa", sum := "6eeb535d5e1b7b15d52fef4d5cbc334dec58166bf8bbb04aeb9c8030b6d49bac", func := "loop.example/g00830/laws.FnExactUsable", spec := "fnExactUsable", unfollowed := true, recurses := true, apart := false, narrowed := true }
def FnExactUsableUptoSaid : Prop := fnExactUsableUptoRow.holds Try.pinned (OpenSpec.upto fnExactUsableSpec)

/-- 'laws.FnExactSpareOf', WHERE WHAT IT READS IS OF BULK AT MOST 1048576: true; the input reads as it did. -/
def fnExactSpareOfUptoRow : OpenClaim := { program := "ytkooomnoofnfpaa", sum := "6eeb535d5e1b7b15d52fef4d5cbc334dec58166bf8bbb04aeb9c8030b6d49bac", func := "loop.example/g00830/laws.FnExactSpareOf", spec := "fnExactSpareOf", unfollowed := true, recurses := true, apart := false, narrowed := true }
def FnExactSpareOfUptoSaid : Prop := fnExactSpareOfUptoRow.holds Try.pinned (OpenSpec.upto fnExactSpareOfSpec)

/-- 'laws.FnExactLeastHeight', WHERE WHAT IT READS IS OF BULK AT MOST 1048576: true; the input reads as it did. -/
def fnExactLeastHeightUptoRow : OpenClaim := { program := "ytkooomnoofnfpaa", sum := "6eeb535d5e1b7b15d52fef4d5cbc334dec58166bf8bbb04aeb9c8030b6d49bac", func := "loop.example/g00830/laws.FnExactLeastHeight", spec := "fnExactLeastHeight", apart := false, narrowed := true }
def FnExactLeastHeightUptoSaid : Prop := fnExactLeastHeightUptoRow.holds Try.pinned (OpenSpec.upto fnExactLeastHeightSpec)

/-- 'laws.FnExactFormatMember', WHERE WHAT IT READS IS OF BULK AT MOST 1048576: true; the input reads as it did. -/
def fnExactFormatMemberUptoRow : OpenClaim := { program := "ytkooomnoofnfpaa", sum := "6eeb535d5e1b7b15d52fef4d5cbc334dec58166bf8bbb04aeb9c8030b6d49bac", func := "loop.example/g00830/laws.FnExactFormatMember", spec := "fnExactFormatMember", unfollowed := true, recurses := true, apart := false, narrowed := true }
def FnExactFormatMemberUptoSaid : Prop := fnExactFormatMemberUptoRow.holds Try.pinned (OpenSpec.upto fnExactFormatMemberSpec)

/-- 'laws.FnExactEquipFrom', WHERE WHAT IT READS IS OF BULK AT MOST 1048576: true; the input reads as it did. -/
def fnExactEquipFromUptoRow : OpenClaim := { program := "ytkooomnoofnfpaa", sum := "6eeb535d5e1b7b15d52fef4d5cbc334dec58166bf8bbb04aeb9c8030b6d49bac", func := "loop.example/g00830/laws.FnExactEquipFrom", spec := "fnExactEquipFrom", unfollowed := true, recurses := true, apart := false, narrowed := true }
def FnExactEquipFromUptoSaid : Prop := fnExactEquipFromUptoRow.holds Try.pinned (OpenSpec.upto fnExactEquipFromSpec)

end Rows
end Go.Proofs.Ytkooomnoofnfpaa
