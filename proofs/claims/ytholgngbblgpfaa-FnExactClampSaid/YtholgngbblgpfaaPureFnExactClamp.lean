/- What is proved: read as plain functions on numbers and lists, the law FnExactClamp answers true at every input of its kinds; no condition is added. -/
import Derived.Test.YtholgngbblgpfaaPFnExactClampx1
import Derived.Test.YtholgngbblgpfaaPlain
set_option linter.unusedVariables false
set_option linter.unusedSimpArgs false
set_option maxRecDepth 20000
namespace Go.Proofs.Ytholgngbblgpfaa.Pure
open Go.RowKit Go.Proofs.Ytholgngbblgpfaa.PFnExactClamp Go.Proofs.YtholgngbblgpfaaW.PrintWords Go.Proofs.YtholgngbblgpfaaW.PrintLast Go.Proofs.YtholgngbblgpfaaW.PrintMore Go.Proofs.Ytholgngbblgpfaa.Plain
theorem spec_Clamp_ev (n a b : Int) : Ev (fun k => spec_Clamp.f k n a b) (pClamp n a b) := ev_at 1 fun k => by
  unfold spec_Clamp.f pClamp
  simp only [spec_Clamp.j0]
  by_cases h : b < a
  · simp [h]
  · by_cases h1 : n < a <;> by_cases h2 : n > b <;> simp [h, h1, h2]
theorem impl_Clamp_eq (n a b : Int) : impl_Clamp.f n a b = some (pClamp n a b) := by
  unfold impl_Clamp.f pClamp mx mn
  congr 1
  (repeat' split) <;> omega
theorem FnExactClamp : laws_FnExactClamp.Pure := by
  intro a0 a1 a2 _ _ _
  refine Ev.rounds (g := fun k => laws_FnExactClamp.f k a0 a1 a2) ?_
  unfold laws_FnExactClamp.f
  refine Ev.bind (spec_Clamp_ev a0 a1 a2) ?_
  simp only [impl_Clamp_eq, Option.bind_some, if_true]
  exact Ev.now _
end Go.Proofs.Ytholgngbblgpfaa.Pure
