/- Part 23 of the proof that BodyOwn returns true, and leaves its arguments as they were, for every input, over a start where the listed variables hold what the program lays: the statement Rows.BodyOwnCardSaid. -/
import Derived.Test.YtnfhhddmeikbpaaGreatDoorWAv
set_option linter.unusedVariables false
set_option linter.unusedSimpArgs false
/- The card: for every input BodyOwn returns true and leaves its arguments as they were. -/
namespace Go.Proofs.YtnfhhddmeikbpaaGreatDoor
set_option maxRecDepth 100000
/-- The card of gaugerlaw24.BodyOwn holds. -/
theorem bodyOwnCard_holds:Rows.BodyOwnCardSaid :=
 Claim7.holds_tied_plain_at .later [] [.data,.data,.widerDeep,.widerDeep,.data,.data,.data,.data,.data,.data,.sentinel,.sentinel,.data,.data,.data,.pinned,.pinned,.pinned] true (true, "e5c1dafc148c7336f65ba5011a58512ed432b25eab036a55e07465030e5bd56c") true Go.Am.holds (fun _ h=>by cases h) (by as_aux_lemma=>kernel_rfl) (fun _ h=>by cases h) bodyOwn_row_tie rfl ⟨rfl,rfl⟩ (by as_aux_lemma=>kernel_rfl) rfl
  (fun f fn hf hfn=>by
   obtain rfl:f=3:=Option.some.inj ((show Tryz.prog.funcNamed "gauger/gaugerlaw24.BodyOwn" = some 3 by as_aux_lemma=>kernel_rfl).symm.trans hf) |>.symm
   obtain rfl:fn=Tryz.f3:=(Option.some.inj (Tryz.func3.symm.trans hfn)).symm
   exact ⟨by as_aux_lemma=>kernel_rfl,fun j t ht=>by
    rw [Tryz.params3] at ht
    have hm:t ∈ [25,22]:=by simpa using Array.mem_of_getElem? ht
    have hall:([25,22].all fun u=>!Tryz.prog.wantsStandIn u)=true:=by as_aux_lemma=>kernel_rfl
    exact (show Tryz.prog.wantsStandIn t=false by simpa using List.all_eq_true.1 hall t hm)⟩)
  (by as_aux_lemma=>kernel_rfl)
end Go.Proofs.YtnfhhddmeikbpaaGreatDoor
