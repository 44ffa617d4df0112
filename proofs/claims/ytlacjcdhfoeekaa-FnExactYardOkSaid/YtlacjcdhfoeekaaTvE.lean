import Derived.Test.YtlacjcdhfoeekaaTvU
import Derived.Laws.StructEq
set_option linter.unusedSimpArgs false
set_option linter.unusedVariables false
namespace Go.TV
theorem evPure_bind {α β : Type} {P : Program} (m : Sem α) (f : α → Sem β) : evPure P (m >>= f) = (evPure P m).bind fun a => evPure P (f a) := by
  show evPure P (m.bind f) = _
  induction m with
  | pure a => rfl
  | program k ih => exact ih P
  | mark m k ih => exact ih
  | _ => rfl
theorem evPure_pure {α : Type} {P : Program} (a : α) : evPure P (pure a : Sem α) = some a := rfl
theorem evPure_program {P : Program} : evPure P program = some P := rfl
theorem evPure_ite {α : Type} {P : Program} (c : Prop) [Decidable c] (a b : Sem α) : evPure P (if c then a else b) = if c then evPure P a else evPure P b := by split <;> rfl
theorem ep_underlying {P : Program} {t : TypeId} {d : TypeDesc} (h : P.underlying t = some d) : evPure P (underlying t) = some d := by
  unfold underlying
  rw [evPure_bind, evPure_program]
  simp only [Option.bind_some, h]
  rfl
theorem ep_equalIn_int {P : Program} (d : Nat) (t : TypeId) (k k' : IntKind) (a b : Int) (h : P.underlying t = some (.int k')) : evPure P (Op.equalIn (d + 1) t (.int k a) (.int k b)) = some (a == b) := by
  unfold Op.equalIn
  rw [evPure_bind, ep_underlying h]
  simp only [Option.bind_some, if_true]
  rfl
theorem ep_equalIn_struct {P : Program} (d : Nat) (t : TypeId) (xs ys : Array Value) (ht : P.underlying t = some (.struct (P.fieldsOf t))) (hp : P.stoodInHeld t = false) :
    evPure P (Op.equalIn (d + 1) t (.agg xs) (.agg ys)) = evPure P (Op.eqFields d xs ys (P.fieldsOf t).toList) := by
  unfold Op.equalIn
  rw [evPure_bind, ep_underlying ht]
  simp only [Option.bind_some, evPure_bind, evPure_program, hp, Bool.false_eq_true, if_false, evPure_pure]
  rw [← Array.forIn_toList]
  generalize (P.fieldsOf t).toList = fs
  clear ht
  induction fs with
  | nil => rfl
  | cons f fs ih =>
    simp only [List.forIn_cons, Op.eqFields, evPure_bind, evPure_ite]
    split
    · cases evPure P (part f.type xs f.offset) with
      | none => rfl
      | some a =>
        cases evPure P (part f.type ys f.offset) with
        | none => rfl
        | some b =>
          simp only [Option.bind_some]
          cases evPure P (Op.equalIn d f.type a b) with
          | none => rfl
          | some r =>
            cases r
            · rfl
            · exact ih
    · exact ih
theorem ep_fields_cons {P : Program} {d : Nat} {xs ys : Array Value} {f : Field} {fs : List Field} {a b : Value} {r : Bool} (hn : f.name ≠ "_") (ha : evPure P (part f.type xs f.offset) = some a) (hb : evPure P (part f.type ys f.offset) = some b) (hr : evPure P (Op.equalIn d f.type a b) = some r) :
    evPure P (Op.eqFields d xs ys (f :: fs)) = if r = true then evPure P (Op.eqFields d xs ys fs) else some false := by
  conv => lhs; rw [Op.eqFields]
  rw [if_pos hn, evPure_bind, ha]
  simp only [Option.bind_some, evPure_bind, hb, hr, evPure_ite]
  cases r <;> rfl
theorem ev_eql_agg {P : Program} {t : TypeId} {x y : Operand} {cs ds : List V} {us vs : List Value} {r : Bool} {fs : Array Field} (hm : P.eqGuardType P.depth t = false) (hf : P.underlying t = some (.struct fs)) (hp : P.stoodInHeld t = false)
    (hu : toCells cs = some us) (hv : toCells ds = some vs) (h : evPure P (Op.eqFields 9999 us.toArray vs.toArray fs.toList) = some r) : evBin P .eql t x y (.agg cs) (.agg ds) = some (.sc (.bool r)) := by
  have hfo : P.fieldsOf t = fs := by unfold Program.fieldsOf; rw [hf]
  have hg : evPure P (eqGuard .eql t x y (.agg us.toArray) (.agg vs.toArray)) = some () := by
    unfold eqGuard
    rw [if_neg (by simp)]
    simp only [evPure_bind, evPure_program, Option.bind_some, hm, Bool.not_false, if_true]
    rfl
  have he : evPure P (binOp .eql t (.agg us.toArray) (.agg vs.toArray)) = some (Value.bool r) := by
    have h1 : binOp .eql t (.agg us.toArray) (.agg vs.toArray) = (Op.equal t (.agg us.toArray) (.agg vs.toArray) >>= fun b => pure (Value.bool b)) := by simp only [binOp]
    have h2 : evPure P (Op.equal t (.agg us.toArray) (.agg vs.toArray)) = some r := (ep_equalIn_struct 9999 t _ _ (by rw [hfo]; exact hf) hp).trans (by rw [hfo]; exact h)
    rw [h1, evPure_bind, h2]; rfl
  simp only [evBin, toVal, hu, hv, Option.map_some, evPure_bind, hg, he, Option.bind_some]
  rfl
end Go.TV
namespace Go.Proofs.Ytlacjcdhfoeekaa
open Go Go.TV
set_option maxRecDepth 100000 in
theorem eqMoves (x y : Operand) (a b c d : Int) : evBin Try.prog .eql 121 x y (.agg [I a, I b]) (.agg [I c, I d]) = some (Bo ((a == c) && (b == d))) := by
  refine ev_eql_agg (us := [.int .i64 a, .int .i64 b]) (vs := [.int .i64 c, .int .i64 d]) (by kernel_rfl) Try.underlying121 (by kernel_rfl) rfl rfl ?_
  refine (ep_fields_cons (a := .int .i64 a) (b := .int .i64 c) (r := a == c) (by decide) (by kernel_rfl) (by kernel_rfl) (ep_equalIn_int _ _ _ _ _ _ Try.underlying3)).trans ?_
  cases (a == c)
  · rfl
  · refine (ep_fields_cons (a := .int .i64 b) (b := .int .i64 d) (r := b == d) (by decide) (by kernel_rfl) (by kernel_rfl) (ep_equalIn_int _ _ _ _ _ _ Try.underlying3)).trans ?_
    cases (b == d) <;> rfl
attribute [go_sem] eqMoves
end Go.Proofs.Ytlacjcdhfoeekaa
