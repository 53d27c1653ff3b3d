/- Part 21 of the proof that BodyOwn returns true, and leaves its arguments as they were, for every input, over a start where the listed variables hold what the program lays: the statement Rows.BodyOwnCardSaid. -/
import Derived.Test.YtnfhhddmeikbpaaGreatDoorWAt
set_option linter.unusedVariables false
set_option linter.unusedSimpArgs false
/- The closed facts of the row, one by one. -/
namespace Go.Am
open Go.Proofs Go.Proofs.YtnfhhddmeikbpaaGreatDoor
set_option maxRecDepth 100000
theorem and_mk {a b:Bool} (h:a=true) (k:b=true):(a && b)=true:=by rw [h,k];rfl
set_option maxHeartbeats 40000000 in
theorem facts:joinedFacts Tryz.prog 3 Tryz.f3 Rows.bodyOwnSpec Rows.bodyOwnRow=true:=by
 unfold joinedFacts
 repeat' (with_reducible refine and_mk ?_ ?_)
 all_goals (as_aux_lemma=>kernel_rfl)
end Go.Am
