/-
  What equipping means, for the items of this law's print.
  Conditions: none.
-/
import Derived.Test.YtkooomnoofnfpaaStockDFnEquipped
import Derived.Test.YtkooomnoofnfpaaIntB
import Derived.Test.YtkooomnoofnfpaaEquip
namespace Go.Proofs.Ytkooomnoofnfpaa.EquipDFnEquipped
set_option linter.unusedSimpArgs false
set_option linter.unusedVariables false
open Go.RowKit Go.Proofs.YtkooomnoofnfpaaW.PrintWords Go.Proofs.YtkooomnoofnfpaaW.PrintLast Go.Proofs.YtkooomnoofnfpaaW.PrintMore Go.Proofs.Ytkooomnoofnfpaa.EvW Go.Proofs.Ytkooomnoofnfpaa.PFnEquipped Go.Proofs.Ytkooomnoofnfpaa.StockB Go.Proofs.Ytkooomnoofnfpaa.StockDFnEquipped Go.Proofs.Ytkooomnoofnfpaa.Equip Go.Proofs.Ytkooomnoofnfpaa.IntB

def okd (l : List It) (day : Int) (i : Nat) : Bool := match l[i]? with
  | none => false
  | some x => decide (day ≤ x.f2)
def lim (l : List It) (i : Nat) : Int := match l[i]? with
  | none => 0
  | some x => x.f1
def tkOf (t : List Bool) (i : Nat) : Bool := t.getD i false
abbrev us (l : List It) (day : Int) : Int → Nat → Bool := serves (okd l day) (lim l)

theorem us_eq (l : List It) (day n : Int) (i : Nat) (h : i < l.length) : us l day n i = decide (n ≤ l[i].f1 ∧ day ≤ l[i].f2) := by
  simp only [us, serves, okd, lim, List.getElem?_eq_getElem h]
  rw [← Bool.decide_and]
  exact decide_eq_decide.2 ⟨fun ⟨a, b⟩ => ⟨b, a⟩, fun ⟨a, b⟩ => ⟨b, a⟩⟩

theorem cnt_le : ∀ (N : Nat) (tk u : Nat → Bool), cnt N tk u ≤ N
  | 0, _, _ => Nat.le_refl _
  | N + 1, tk, u => by
    have := cnt_le N tk u
    unfold cnt
    split <;> omega

/-- Can all needs be served? -/
def canB (l : List It) (needs : List Int) (day : Int) : Bool := stockB l && (decide (needs.length ≤ 12) && enoughB l.length (us l day) (fun _ => false) needs)

def Pick (l : List It) (day : Int) (tk : Nat → Bool) (n : Int) (rest : List Int) (i : Nat) : Bool := !tk i && us l day n i && enoughB l.length (us l day) (put tk i) rest

theorem choice_cons (l : List It) (day : Int) (tk : Nat → Bool) (n : Int) (rest : List Int) : choice l.length (us l day) tk (n :: rest) = match firstB (Pick l day tk n rest) l.length 0 with
    | some i => i :: choice l.length (us l day) (put tk i) rest
    | none => choice l.length (us l day) tk rest := rfl

end Go.Proofs.Ytkooomnoofnfpaa.EquipDFnEquipped
