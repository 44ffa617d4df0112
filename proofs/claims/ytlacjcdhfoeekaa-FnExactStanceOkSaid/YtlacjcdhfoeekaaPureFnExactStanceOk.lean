import Derived.Test.YtlacjcdhfoeekaaTvU
set_option linter.unusedSimpArgs false
set_option linter.unusedVariables false
namespace Go.Proofs.Ytlacjcdhfoeekaa
open Go Go.TV
namespace Pure
theorem FnExactStanceOk (x0 : Stance) (h0 : okStance x0) :
    fn Try.prog conv ext 6 [.agg (cStance x0)] = some (Bo true) := by
  obtain ⟨r, r1, r2⟩ := szStance x0 1048576 h0 (by omega) (by omega)
  by_cases hr : r < 0
  · rw [fn_eq, ev_eqQ (rs := [.tmp 2]) [] rfl Try.func6 rfl rfl (by kernel_rfl) (by kernel_rfl)]
    simp only [go_sem, r1, hr]
  have t1 := toStance x0 h0
  have t2 := eqStance x0 h0
  have t3 := iStanceOk x0 h0
  have t4 := sStanceOk x0 h0
  rw [fn_eq, ev_eqQ (rs := [.tmp 2]) [] rfl Try.func6 rfl rfl (by kernel_rfl) (by kernel_rfl)]
  generalize stanceB x0 = b at *
  cases b <;> simp only [go_sem, r1, hr, t1, t2, t3, t4]
end Pure
end Go.Proofs.Ytlacjcdhfoeekaa
