/- Part 17 of the proof that BodyOwn returns true, and leaves its arguments as they were, for every input, over a start where the listed variables hold what the program lays: the statement Rows.BodyOwnCardSaid. -/
import Derived.KernelRfl
import Derived.Test.YtnfhhddmeikbpaaGreatDoorWAf
import Derived.Test.YtnfhhddmeikbpaaGreatDoorWAd
import Derived.Test.YtnfhhddmeikbpaaGreatDoorWAp
set_option linter.unusedVariables false
set_option linter.unusedSimpArgs false
/- awake() of chapter 24 is true: the closed run. -/
namespace Go.Am
open Go.Proofs
set_option maxRecDepth 1000000
def isT (v:V):Prop:=match v with|.bool true=>True|_=>False
noncomputable def runsN (n:Nat):Runs:=evAllH Tryz.prog xts (oneHook 37 (labelsK 40)) (evDraw Tryz.prog) n
noncomputable def awakeP (e:Nat→TypeId):Prop:=buildK (startObjs e) ⟨.nil,1100⟩ fun S=>(runsN 1000).call 4 [] S (fun v _=>isT v)
theorem awake_eq (e:Nat→TypeId):awakeP e=True:=by kernel_rfl
end Go.Am
