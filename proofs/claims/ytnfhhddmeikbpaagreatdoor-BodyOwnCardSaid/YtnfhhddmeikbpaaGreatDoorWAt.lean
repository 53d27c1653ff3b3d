/- Part 20 of the proof that BodyOwn returns true, and leaves its arguments as they were, for every input, over a start where the listed variables hold what the program lays: the statement Rows.BodyOwnCardSaid. -/
import Derived.LaidOnce
import Derived.SevenTiedAt
import Derived.Test.YtnfhhddmeikbpaaGreatDoorTie
import Derived.Test.YtnfhhddmeikbpaaGreatDoorCards
import Derived.Test.YtnfhhddmeikbpaaGreatDoorWAs
set_option linter.unusedVariables false
set_option linter.unusedSimpArgs false
/- A start that fits. -/
namespace Go.Am
open Go.Proofs Go.Proofs.YtnfhhddmeikbpaaGreatDoor Go.Lib Go.Deep Go.ChangeShapes Go.WideShapes Go.ChangeAt Go.RowKit
set_option maxRecDepth 100000
theorem shaped (os:Os):((World.laidAll Tryz.prog os Rows.bodyOwnRow.laid).forCall (fun _ _=>0) ⟨#[],#[.agg #[.int .u8 0,.slice none 0 0,.int .u64 0,.int .i64 0,.bool false],.slice none 0 0],[]⟩).Shaped Tryz.prog:=World.shaped_of_ZipB (by kernel_rfl) (by kernel_rfl)
theorem met (os:Os):laidMetH Tryz.prog Rows.bodyOwnRow.laid ((World.laidAll Tryz.prog os Rows.bodyOwnRow.laid).forCall (fun _ _=>0) ⟨#[],#[.agg #[.int .u8 0,.slice none 0 0,.int .u64 0,.int .i64 0,.bool false],.slice none 0 0],[]⟩).memory:=by
 rw [MakeChecks.laidMetH_plain _ _ _ (by kernel_rfl)];exact laidMet_laidAll _ (by kernel_rfl) (by kernel_rfl)
theorem wit (os:Os) (H:Type) (enc:TypeId × Value→H):∃ (w:World) (tape:Tape) (i:Input),w.os=os∧(w.forCall tape i).Shaped Tryz.checked.prog∧i.vars=[]∧Input.okWide Tryz.checked.prog (w.forCall tape i) .any w.heap.size 3 i ∧
   ((Rows.bodyOwnSpec.pre enc Tryz.checked.prog Tryz.f3 [] false (w.forCall tape i).memory i.args∧laidMetH Tryz.prog Rows.bodyOwnRow.laid (w.forCall tape i).memory)∧sizedMet enc Tryz.checked.prog Tryz.f3 (OpenSpec.ofChange Rows.bodyOwnSpec) false (w.forCall tape i).memory i.args)∧({ modest:=false }:Assume).holds Tryz.checked.prog (lone (Frame.enter Tryz.checked.prog 3 i.args .normal) [] (w.forCall tape i)) :=
  (ChangeSpec.witness_shaped (enc:=enc) (C:=Tryz.checked) (f:=3) (fn:=Tryz.f3) (s:=Rows.bodyOwnSpec) (conds:=[]) (apart:=false) (os:=os) (X:=fun w _=>laidMetH Tryz.prog Rows.bodyOwnRow.laid w) false (World.laidAll Tryz.prog os Rows.bodyOwnRow.laid) #[.agg #[.int .u8 0,.slice none 0 0,.int .u64 0,.int .i64 0,.bool false],.slice none 0 0] 8 (World.laidAll_os _ _ _)
   (shaped os) (by kernel_rfl) (by kernel_rfl) (by kernel_rfl) (met os))
end Go.Am
