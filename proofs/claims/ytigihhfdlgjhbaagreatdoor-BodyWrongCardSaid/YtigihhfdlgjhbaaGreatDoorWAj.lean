/- Part 10 of the proof that BodyWrong returns true, and leaves its arguments as they were, for every input, over a start where the listed variables hold what the program lays: the statement Rows.BodyWrongCardSaid. -/
import Derived.Test.YtigihhfdlgjhbaaGreatDoorWAi
set_option linter.unusedVariables false
set_option linter.unusedSimpArgs false
set_option maxRecDepth 100000
set_option maxHeartbeats 400000000
namespace Go.Am
open Go.Proofs Go.Proofs.YtigihhfdlgjhbaaGreatDoor
attribute [local irreducible] fN fI fB cR eQ evCode evOps rD kOp aAj wF wH wG kGc aLE aLD kDr kMg drOps fU kK sl
theorem aSV {a b:Bool}(h:a=true)(k:b=true):(a && b)=true:=by rw [h,k];rfl
theorem aVK:joinedFacts Tryz.prog 3 Tryz.f3 Rows.bodyWrongSpec Rows.bodyWrongRow=true:=by
 unfold joinedFacts
 repeat' (with_reducible refine aSV ?_ ?_)
 all_goals (as_aux_lemma=>kernel_rfl)
end Go.Am
