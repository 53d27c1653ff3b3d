/- Part 11 of the proof that BodyWrong returns true, and leaves its arguments as they were, for every input, over a start where the listed variables hold what the program lays: the statement Rows.BodyWrongCardSaid. -/
import Derived.Test.YtigihhfdlgjhbaaGreatDoorWAj
set_option linter.unusedVariables false
set_option linter.unusedSimpArgs false
set_option maxRecDepth 100000
set_option maxHeartbeats 400000000
namespace Go.Am
open Go.ChangeAt Go.ChangeShapes Go.Deep Go.Lib Go.Proofs Go.Proofs.YtigihhfdlgjhbaaGreatDoor Go.RowKit Go.WideShapes
attribute [local irreducible] fN fI fB cR eQ evCode evOps rD kOp aAj wF wH wG kGc aLE aLD kDr kMg drOps fU kK sl
theorem aTK (os:Os)(started:os.Started)(H:Type)(enc:TypeId × Value->H) :
  ReturnsInHanded {} Tryz.checked os 3 .any (fun w args=>(Rows.bodyWrongSpec.pre enc Tryz.prog Tryz.f3 [] false w args∧laidMetH Tryz.prog Rows.bodyWrongRow.laid w)∧sizedMet enc Tryz.prog Tryz.f3 (OpenSpec.ofChange Rows.bodyWrongSpec) false w args)
   (Rows.bodyWrongSpec.post enc Tryz.prog Tryz.f3 false true false false):=by
 refine returnsInHanded_of_change_and (C:=Tryz.checked) (X:=fun w _=>laidMetH Tryz.prog Rows.bodyWrongRow.laid w) (fun _ _ _ hh h=>h.of_heap hh) aRj started kr Tryz.func3 (wit os H enc) ?_;intro W base args ds gs before hval0 hW _ _ hL _;have hval:∀ (j:Nat) t v,Tryz.f3.params[j]?=some t->args[j]?=some v->Value.okWide Tryz.prog W .any base t v:=hval0;have hW':=hW;obtain ⟨p,q,hA0,hV,rfl,_,_⟩:=hW;have hA:DataW.TrodAll enc Tryz.prog W 0 (fun _=>true) true Tryz.f3.params.toList args.toList ds p:=hA0;rw [Tryz.params3] at hA hval;obtain ⟨v0,v1,v3,v2,d0,d1,d3,d2,p0,p1,p3,p2,rfl,rfl,rfl,h0,h1,h3,h2⟩:=trodAll_four hA;obtain ⟨rfl,rfl⟩:=trodVars_none hV;have hv0:=hval 0 22 v0 rfl rfl;have hv1:=hval 1 23 v1 rfl rfl;have hv3:=hval 2 3 v3 rfl rfl;have hv2:=hval 3 5 v2 rfl rfl;clear hA0 hval0;simp only [bf] at hW';rw [MakeChecks.laidMetH_plain _ _ _ kr] at hL;have hlt0:∀ x ∈ p0,x.block < W.heap.size:=fun x hx=>hW'.lt x (by simp [hx]);have hlt1:∀ x ∈ p1,x.block < W.heap.size:=fun x hx=>hW'.lt x (by simp [hx]);have hlt3:∀ x ∈ p3,x.block < W.heap.size:=fun x hx=>hW'.lt x (by simp [hx]);have hlt2:∀ x ∈ p2,x.block < W.heap.size:=fun x hx=>hW'.lt x (by simp [hx]);refine (aNz h0 h1 h3 h2 hv0 hv1 hv3 hv2 hL).mono fun e W' ⟨he,hb⟩=>?_;subst he;exact ⟨_,rfl,_,_,_,[],_,[],hW',trodAll_mk1 (shut_bool Tryz.underlying4 _),trodAll_mk4 (Below.trod aAs kr (of_decide_eq_true kr) h0 hb hlt0) (Below.trod aAs kr (of_decide_eq_true kr) h1 hb hlt1) (Below.trod aAs kr (of_decide_eq_true kr) h3 hb hlt3) (Below.trod aAs kr (of_decide_eq_true kr) h2 hb hlt2),rfl,hb.frame _,fun h=>by cases h⟩
theorem holds:Rows.bodyWrongRow.holds Tryz.pinned (OpenSpec.ofChange Rows.bodyWrongSpec) :=
 OpenClaim.holds_of_wide 3 Tryz.f3 rfl rfl rfl rfl rfl rfl rfl ⟨rfl,rfl,rfl,rfl,rfl⟩ rfl rfl rfl rfl rfl (by as_aux_lemma=>kernel_rfl) Tryz.func3 aVK
  (of_decide_eq_true (by as_aux_lemma=>kernel_rfl)) (by unfold Func.isWrapper;first|(rw [if_pos (by decide +kernel)];kernel_rfl)|(rw [if_neg (by decide +kernel)];exact ⟨rfl,rfl⟩))
  (fun os started H enc _=>aTK os started H enc)
end Go.Am
