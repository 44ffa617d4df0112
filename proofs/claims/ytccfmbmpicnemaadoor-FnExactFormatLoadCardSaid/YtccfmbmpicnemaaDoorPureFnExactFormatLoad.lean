import Derived.Test.YtccfmbmpicnemaaDoorTb2
set_option linter.unusedSimpArgs false
set_option linter.unusedVariables false
set_option linter.unusedSectionVars false
set_option linter.defProp false
set_option maxRecDepth 10000
set_option maxHeartbeats 4000000
open Go.Proofs.Tryd renaming prog->uD
open Go.Proofs.Tryd
namespace Go.Proofs.YtccfmbmpicnemaaDoor
open Go Go.TV
namespace Pure
theorem FnExactFormatLoad(x0:Structure)(q:okStructure x0)(h:(List Int))(D:(okL 8 okI) h) :
  fn uD conv ext 4 [.agg (cStructure x0),LL cI h]=some (Bo true):=by
 obtain⟨r,E,J⟩:=pG x0 1048576 q (by omega) (by omega)
 by_cases hs:(1048576:Int)<(h.length:Int)
 .rw[wQ,wU [.tmp 4] [] func4]
  simp only[go_sem,hs]
 by_cases G:r<0
 .rw[wQ,wU [.tmp 4] [] func4]
  simp only[go_sem,hs,E,G]
 have t1:=pz x0 q;have t2:=pF x0 q;have t3:=Jk h D;have t4:=Jl h D.2.2;have t5:=pW q h D.2.2;have t6:=pX q h D.2.2;rw[wQ,wU [.tmp 4] [] func4];generalize pV x0 h=b at *;simp only[go_sem,hs,E,G,t1,t2,t3,t4,t5,t6]
end Pure
end Go.Proofs.YtccfmbmpicnemaaDoor
