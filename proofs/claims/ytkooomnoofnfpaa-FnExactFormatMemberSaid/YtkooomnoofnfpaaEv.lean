/-
  Words on loops that are counted by rounds: what a call tells from some number of rounds on.
  Conditions: none.
-/
import Derived.Test.YtkooomnoofnfpaaWWords
import Derived.Test.YtkooomnoofnfpaaWMore
namespace Go.Proofs.Ytkooomnoofnfpaa.EvW
set_option linter.unusedSimpArgs false
set_option linter.unusedVariables false
open Go.RowKit Go.Proofs.YtkooomnoofnfpaaW.PrintWords Go.Proofs.YtkooomnoofnfpaaW.PrintMore

theorem bind_eq {α β : Type} {g : Nat → Option α} {f : Nat → α → Option β} {a : α} {r : β} (h : Ev g a) : Ev (fun n => (g n).bind (f n)) r = Ev (fun n => f n a) r := by
  refine propext ⟨fun k => ?_, Ev.bind h⟩
  obtain ⟨K, h⟩ := h
  obtain ⟨K', k⟩ := k
  refine ⟨max K K', fun n hn => ?_⟩
  have h1 := h n (by omega)
  have h2 := k n (by omega)
  simp only [h1, Option.bind_some] at h2
  exact h2

theorem ev_some {α : Type} {a r : α} : Ev (fun _ => some a) r = (a = r) := by
  refine propext ⟨fun ⟨K, h⟩ => Option.some.inj (h K (Nat.le_refl _)), fun h => h ▸ Ev.now _⟩

theorem ev_const {α : Type} {g : Option α} {r : α} : Ev (fun _ => g) r = (g = some r) := by
  refine propext ⟨fun ⟨K, h⟩ => h K (Nat.le_refl _), fun h => ⟨0, fun _ _ => h⟩⟩

theorem step_eq {α : Type} {g f : Nat → Option α} {r : α} (h : ∀ k, g (k + 1) = f k) : Ev g r = Ev f r := by
  refine propext ⟨fun ⟨K, k⟩ => ⟨K, fun n hn => ?_⟩, Ev.step h⟩
  rw [← h]
  exact k (n + 1) (by omega)

theorem ev_inj {α : Type} {g : Nat → Option α} {a b : α} (h : Ev g a) (h' : Ev g b) : a = b := by
  obtain ⟨K, h⟩ := h
  obtain ⟨K', h'⟩ := h'
  have h1 := h (max K K') (by omega)
  have h2 := h' (max K K') (by omega)
  rw [h1] at h2
  exact Option.some.inj h2

theorem wrap_id {n : Int} (h0 : -9223372036854775808 ≤ n) (h1 : n ≤ 9223372036854775807) : wrap64 n = n := by
  unfold wrap64
  omega

theorem wf_lo {n : Int} (h : (Lit.int .i64 n).wf = true) : -9223372036854775808 ≤ n ∧ n ≤ 9223372036854775807 := by
  simp only [Lit.wf, Bool.and_eq_true, decide_eq_true_eq] at h
  have h1 : IntKind.i64.min = -9223372036854775808 := by decide
  have h2 : IntKind.i64.max = 9223372036854775807 := by decide
  omega

theorem ite_and {p q : Prop} [Decidable p] [Decidable q] : (if p then some (decide q) else some false) = some (decide (p ∧ q)) := by
  by_cases hp : p <;> simp [hp]
theorem ite_or {p q : Prop} [Decidable p] [Decidable q] : (if p then some true else some (decide q)) = some (decide (p ∨ q)) := by
  by_cases hp : p <;> simp [hp]
theorem ite_tf {p : Prop} [Decidable p] : (if p then some true else some false) = some (decide p) := by
  by_cases hp : p <;> simp [hp]
theorem ite_ft {p : Prop} [Decidable p] : (if p then some false else some true) = some (decide (¬ p)) := by
  by_cases hp : p <;> simp [hp]
theorem ite_nand {p q : Prop} [Decidable p] [Decidable q] : (if p then some false else some (decide q)) = some (decide (¬ p ∧ q)) := by
  by_cases hp : p <;> simp [hp]
theorem bind_id {b : Bool} : ((some b).bind fun t => some t) = some b := rfl

theorem bt_range (s : ByteArray) (i : Int) : 0 ≤ bt s i ∧ bt s i ≤ 255 := by
  unfold bt
  split
  · have := (s[i.toNat]'(by assumption)).toNat_lt
    omega
  · omega

end Go.Proofs.Ytkooomnoofnfpaa.EvW
