import Derived.Test.YtlacjcdhfoeekaaTvF
set_option linter.unusedSimpArgs false
set_option linter.unusedVariables false
namespace Go.Proofs.Ytlacjcdhfoeekaa
open Go Go.TV
namespace Pure
theorem FnExactLeastHeight (x0 : Int) (h0 : okI x0) (x1 : Int) (h1 : okI x1) (x2 : Int) (h2 : okI x2) :
    fn Try.prog conv ext 3 [I x0, I x1, I x2] = some (Bo true) := by
  have t1 := iLeast x0 x1 x2
  have t2 := sLeast x0 x1 x2
  rw [fn_eq, ev_eqQ (rs := [.tmp 6]) [] rfl Try.func3 rfl rfl (by kernel_rfl) (by kernel_rfl)]
  simp only [go_sem, t1, t2]
end Pure
end Go.Proofs.Ytlacjcdhfoeekaa
