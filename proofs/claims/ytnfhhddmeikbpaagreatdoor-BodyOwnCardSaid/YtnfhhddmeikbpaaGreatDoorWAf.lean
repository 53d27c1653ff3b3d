/- Part 6 of the proof that BodyOwn returns true, and leaves its arguments as they were, for every input, over a start where the listed variables hold what the program lays: the statement Rows.BodyOwnCardSaid. -/
import Derived.Test.YtnfhhddmeikbpaaGreatDoorCheckedLc
import Derived.KernelRfl
import Derived.Test.YtnfhhddmeikbpaaGreatDoorWAe
set_option linter.unusedVariables false
set_option linter.unusedSimpArgs false
/- The seat's program: what is known of it. -/
namespace Go.Am
open Go.Proofs
set_option maxRecDepth 100000
def xts:Exts:=[(206,1,0),(115,2,0),(252,3,0),(142,4,0),(233,5,0),(253,6,251)]
theorem xts_ok:ExtsOk Tryz.prog xts:=fun q hq=>by
 simp only [xts,List.mem_cons,List.mem_nil_iff,or_false] at hq
 rcases hq with rfl|rfl|rfl|rfl|rfl|rfl
 ·exact ⟨Tryz.f206,by kernel_rfl,by kernel_rfl,by kernel_rfl,by kernel_rfl,by kernel_rfl⟩
 ·exact ⟨Tryz.f115,by kernel_rfl,by kernel_rfl,by kernel_rfl,by kernel_rfl,by kernel_rfl⟩
 ·exact ⟨Tryz.f252,by kernel_rfl,by kernel_rfl,by kernel_rfl,by kernel_rfl,by kernel_rfl⟩
 ·exact ⟨Tryz.f142,by kernel_rfl,by kernel_rfl,by kernel_rfl,by kernel_rfl,by kernel_rfl⟩
 ·exact ⟨Tryz.f233,by kernel_rfl,by kernel_rfl,by kernel_rfl,by kernel_rfl,by kernel_rfl⟩
 ·exact ⟨Tryz.f253,by kernel_rfl,by kernel_rfl,by kernel_rfl,by kernel_rfl,by kernel_rfl⟩
theorem mixed:Tryz.prog.follows .mixedOrders=true:=by kernel_rfl
theorem agg9:aggP Tryz.prog 9=some false:=by kernel_rfl
theorem agg40:aggP Tryz.prog 40=some true:=by kernel_rfl
theorem info40:∃ i,Tryz.prog.info? 40=some i∧i.size=2:=by
 have h:(Tryz.prog.info? 40).map (·.size)=some 2:=by kernel_rfl
 cases hi:Tryz.prog.info? 40 with
 | none=>rw [hi] at h;cases h
 | some i=>rw [hi] at h;exact ⟨i,rfl,by simpa using h⟩
end Go.Am
