/- Part 9 of the proof that BodyWrong returns true, and leaves its arguments as they were, for every input, over a start where the listed variables hold what the program lays: the statement Rows.BodyWrongCardSaid. -/
import Derived.LaidOnce
import Derived.SevenTiedAt
import Derived.Test.YtigihhfdlgjhbaaGreatDoorTie
import Derived.Test.YtigihhfdlgjhbaaGreatDoorCards
import Derived.Test.YtigihhfdlgjhbaaGreatDoorWAh
set_option linter.unusedVariables false
set_option linter.unusedSimpArgs false
set_option maxRecDepth 100000
set_option maxHeartbeats 400000000
namespace Go.Am
open Go.ChangeAt Go.ChangeShapes Go.Deep Go.Lib Go.Proofs Go.Proofs.YtigihhfdlgjhbaaGreatDoor Go.RowKit Go.WideShapes
attribute [local irreducible] fN fI fB cR eQ evCode evOps rD kOp aAj wF wH wG kGc aLE aLD kDr kMg drOps fU kK sl
theorem aUb (os:Os):((World.laidAll Tryz.prog os Rows.bodyWrongRow.laid).forCall (fun _ _=>0) ⟨#[],#[.slice none 0 0,.slice none 0 0,.int .i64 0,.int .u8 0],[]⟩).Shaped Tryz.prog:=World.shaped_of_ZipB kr kr
theorem met (os:Os):laidMetH Tryz.prog Rows.bodyWrongRow.laid ((World.laidAll Tryz.prog os Rows.bodyWrongRow.laid).forCall (fun _ _=>0) ⟨#[],#[.slice none 0 0,.slice none 0 0,.int .i64 0,.int .u8 0],[]⟩).memory:=by
 rw [MakeChecks.laidMetH_plain _ _ _ kr];exact laidMet_laidAll _ kr kr
theorem wit (os:Os)(H:Type)(enc:TypeId × Value->H):∃ (w:World) (tape:Tape) (i:Input),w.os=os∧(w.forCall tape i).Shaped Tryz.checked.prog∧i.vars=[]∧Input.okWide Tryz.checked.prog (w.forCall tape i) .any w.heap.size 3 i ∧
   ((Rows.bodyWrongSpec.pre enc Tryz.checked.prog Tryz.f3 [] false (w.forCall tape i).memory i.args∧laidMetH Tryz.prog Rows.bodyWrongRow.laid (w.forCall tape i).memory)∧sizedMet enc Tryz.checked.prog Tryz.f3 (OpenSpec.ofChange Rows.bodyWrongSpec) false (w.forCall tape i).memory i.args)∧({ modest:=false }:Assume).holds Tryz.checked.prog (lone (Frame.enter Tryz.checked.prog 3 i.args .normal) [] (w.forCall tape i)) :=
  (ChangeSpec.witness_shaped (enc:=enc) (C:=Tryz.checked) (f:=3) (fn:=Tryz.f3) (s:=Rows.bodyWrongSpec) (conds:=[]) (apart:=false) (os:=os) (X:=fun w _=>laidMetH Tryz.prog Rows.bodyWrongRow.laid w) false (World.laidAll Tryz.prog os Rows.bodyWrongRow.laid) #[.slice none 0 0,.slice none 0 0,.int .i64 0,.int .u8 0] 8 (World.laidAll_os _ _ _)
   (aUb os) kr kr kr (met os))
end Go.Am
