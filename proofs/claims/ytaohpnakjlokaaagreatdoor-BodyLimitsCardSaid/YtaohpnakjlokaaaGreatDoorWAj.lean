/- Part 10 of the proof that BodyLimits returns true, and leaves its arguments as they were, for every input, over a start where the listed variables hold what the program lays: the statement Rows.BodyLimitsCardSaid. -/
import Derived.Test.YtaohpnakjlokaaaGreatDoorWAi
set_option linter.unusedVariables false
set_option linter.unusedSimpArgs false
set_option maxRecDepth 100000
set_option maxHeartbeats 4000000
namespace Go.Am
open Go.Proofs Go.Proofs.YtaohpnakjlokaaaGreatDoor
attribute [local irreducible] fN fI fB bX eR evCode evOps rX kOp aAv wW uM wX kGc aKT aKS kDr kMg drOps eN kT sl
theorem aRC {a b:Bool}(h:a=true)(k:b=true):(a && b)=true:=by rw [h,k];rfl
set_option maxHeartbeats 40000000 in
theorem aTT:joinedFacts Tryz.prog 3 Tryz.f3 Rows.bodyLimitsSpec Rows.bodyLimitsRow=true:=by
 unfold joinedFacts
 repeat' (with_reducible refine aRC ?_ ?_)
 all_goals (as_aux_lemma=>kernel_rfl)
end Go.Am
