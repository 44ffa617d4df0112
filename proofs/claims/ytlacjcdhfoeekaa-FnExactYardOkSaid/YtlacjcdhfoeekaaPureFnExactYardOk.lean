import Derived.Test.YtlacjcdhfoeekaaTvY
set_option linter.unusedSimpArgs false
set_option linter.unusedVariables false
namespace Go.Proofs.Ytlacjcdhfoeekaa
open Go Go.TV
namespace Pure
theorem FnExactYardOk (x0 : Yard) (h0 : okYard x0) :
    fn Try.prog conv ext 9 [.agg (cYard x0)] = some (Bo true) := by
  obtain ⟨r, r1, r2⟩ := szYard x0 1048576 h0 (by omega) (by omega)
  by_cases hr : r < 0
  · rw [fn_eq, ev_eqQ (rs := [.tmp 2]) [] rfl Try.func9 rfl rfl (by kernel_rfl) (by kernel_rfl)]
    simp only [go_sem, r1, hr]
  have t1 := toYard x0 h0
  have t2 := eqYard x0 h0
  have t3 := iYardOk x0 h0
  have t4 := sYardOk x0 h0
  rw [fn_eq, ev_eqQ (rs := [.tmp 2]) [] rfl Try.func9 rfl rfl (by kernel_rfl) (by kernel_rfl)]
  generalize pb (YardGood x0) = b at *
  cases b <;> simp only [go_sem, r1, hr, t1, t2, t3, t4]
end Pure
end Go.Proofs.Ytlacjcdhfoeekaa
