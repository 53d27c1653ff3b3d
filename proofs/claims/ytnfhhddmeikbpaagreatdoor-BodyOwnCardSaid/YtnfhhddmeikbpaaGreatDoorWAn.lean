/- Part 14 of the proof that BodyOwn returns true, and leaves its arguments as they were, for every input, over a start where the listed variables hold what the program lays: the statement Rows.BodyOwnCardSaid. -/
import Derived.Test.YtnfhhddmeikbpaaGreatDoorWAm
set_option linter.unusedVariables false
set_option linter.unusedSimpArgs false
/- gaugerlaw24.BodyOwn. -/
namespace Go.Am
open Go.Proofs
set_option maxRecDepth 100000
attribute [local irreducible] fN fI fB yZ wrapK bAppend evOps wk drOps rdsAll sl

theorem f3:FnAt Tryz.prog 3 120 [.tmp 4] (codeOf Tryz.f3):=⟨Tryz.f3,by kernel_rfl,rfl,by kernel_rfl,by kernel_rfl,by kernel_rfl⟩
theorem f7:FnAt Tryz.prog 7 33 [.cell 6 30,.tmp 7,.tmp 8] (codeOf Tryz.f7):=⟨Tryz.f7,by kernel_rfl,rfl,by kernel_rfl,by kernel_rfl,by kernel_rfl⟩

noncomputable def buildO (l:List (Nat × Option O)):St→(St→Prop)→Prop :=
 List.rec (motive:=fun _=>St→(St→Prop)→Prop) (fun S k=>k S) (fun q _ ih S k=>putK q.1 q.2 S fun S=>ih S k) l
def HoldsO:List (Nat × Option O)→St→Prop
 | [],_=>True
 | q :: l,S=>S.hs.get q.1=q.2∧HoldsO l S
theorem sub_of_all {S S2:St} (h:T.All (fun id o=>T.get deep id S.hp=some o) S2.hp 1 0) (hn:S.next ≤ S2.next):Sub S2.hs S.hs:=⟨fun id o ho=>h.get ho,hn⟩
theorem VIs_clean {n:Nat} {cs:List V} (h:V.cleanL n cs=cs):VIs (Rb n) cs cs:=by
 have:=V.clean_vis n cs
 rwa [h] at this
set_option maxHeartbeats 16000000 in
theorem bodyown_run (hL:LabelsOk Tryz.prog 37 40) {sx sk:List (Nat × Nat)} {vx vk:V} {nm:Nat} {b t:Int} {timed:Bool} {mx mk:Option O} (b0 b1 b2 b3 b4 b5 b6 b7 b8 b9 b10 b11 b12 b13 b14 b15 b16 b17 b18 b19 b20:Option O)
  (hA:∀ (S:St) (k:V→St→Prop),HoldsO [(16,b0),(17,b1),(8,b2),(10,b3),(9,b4),(ngl+0,b5),(12,b6),(ngl+1,b7),(13,b8),(ngl+2,b9),(11,b10),(7,b11),(2,b12),(ngl+3,b13),(6,b14),(ngl+4,b15),(5,b16),(14,b17),(15,b18),(4,b19),(1,b20)] S→k (.bool true) S→RC Tryz.prog 4 [] S k) (hx:∀ S:St,S.hs.get (ngl+6)=mx→SV S vx sx) (hk:∀ S:St,S.hs.get (ngl+5)=mk→SV S vk sk) :
  buildO [(16,b0),(17,b1),(8,b2),(10,b3),(9,b4),(ngl+0,b5),(12,b6),(ngl+1,b7),(13,b8),(ngl+2,b9),(11,b10),(7,b11),(2,b12),(ngl+3,b13),(6,b14),(ngl+4,b15),(5,b16),(14,b17),(15,b18),(4,b19),(1,b20),(ngl+5,mk),(ngl+6,mx)] ⟨.nil,ngl+7⟩ fun S=>RC Tryz.prog 3 [.agg [.int .u8 (.ofNat nm),vx,.int .u64 b,.int .i64 t,.bool timed],vk] S fun v _=>v=.bool true:=by
 obtain ⟨i40,hi40,hs40⟩:=info40
 have hmet:(mets.getD (nm % 8) []) ∈ mets:=getD_in (Nat.mod_lt _ (by decide))
 generalize hK:(fun (v:V) (_:St)=>v=V.bool true)=K
 conv=>whnf
 refine RC.run mixed xts_ok (evCall_at f3 ?_)
 apply wx
 ·intro Q hQ
  conv=>whnf
  exact hQ
 intro K0 hK0
 unfold codeOf
 conv=>arg 7;whnf
 repeat(first|((first|refine yw ?_|refine zX ?_|refine yX ?_|refine zk ?_);intro _ _)|refine yz ?_|refine xz ?_|refine yj ‹_› ?_|refine zw ‹_› ?_|refine yx ‹_› ?_|refine yq ‹_› ?_|refine zZ ?_|refine yy ?_|refine yv ?_|refine zq ?_|refine zY (fun Q hQ=>by (conv=>whnf);exact hQ) ?_|refine zj (fun Q hQ=>by (conv=>whnf);exact hQ) ?_|(apply yk;(·intro _ _ hy;(conv=>whnf);exact hy);(·intro Q hQ;(conv=>whnf);repeat(first|exact hQ|((first|refine xw (by first|rfl|assumption) ?_|refine xx (by first|rfl|assumption) ?_|refine zy ?_|refine zx ?_|unfold yZ);(conv=>whnf))));(·intro Q hQ;(conv=>whnf);exact hQ))|(apply yY;(·intro _ _ hy;(conv=>whnf);exact hy);(·intro Q hQ;(conv=>whnf);exact hQ)))
 apply xq
 ·(intro _ _ hy;(conv=>whnf);exact hy)
 intro Q hQ
 conv=>whnf
 refine hA _ _ ⟨rfl,rfl,rfl,rfl,rfl,rfl,rfl,rfl,rfl,rfl,rfl,rfl,rfl,rfl,rfl,rfl,rfl,rfl,rfl,rfl,rfl,trivial⟩ ?_
 rw [hQ]
 conv=>whnf
 repeat(first|((first|refine yw ?_|refine zX ?_|refine yX ?_|refine zk ?_);intro _ _)|refine yz ?_|refine xz ?_|refine yj ‹_› ?_|refine zw ‹_› ?_|refine yx ‹_› ?_|refine yq ‹_› ?_|refine zZ ?_|refine yy ?_|refine yv ?_|refine zq ?_|refine zY (fun Q hQ=>by (conv=>whnf);exact hQ) ?_|refine zj (fun Q hQ=>by (conv=>whnf);exact hQ) ?_|(apply yk;(·intro _ _ hy;(conv=>whnf);exact hy);(·intro Q hQ;(conv=>whnf);repeat(first|exact hQ|((first|refine xw (by first|rfl|assumption) ?_|refine xx (by first|rfl|assumption) ?_|refine zy ?_|refine zx ?_|unfold yZ);(conv=>whnf))));(·intro Q hQ;(conv=>whnf);exact hQ))|(apply yY;(·intro _ _ hy;(conv=>whnf);exact hy);(·intro Q hQ;(conv=>whnf);exact hQ)))
 apply xq
 ·(intro _ _ hy;(conv=>whnf);exact hy)
 intro Q hQ
 conv=>whnf
 refine made23_run hL (hx _ rfl) ?_
 conv=>whnf
 rw [hQ]
 conv=>whnf
 repeat(first|((first|refine yw ?_|refine zX ?_|refine yX ?_|refine zk ?_);intro _ _)|refine yz ?_|refine xz ?_|refine yj ‹_› ?_|refine zw ‹_› ?_|refine yx ‹_› ?_|refine yq ‹_› ?_|refine zZ ?_|refine yy ?_|refine yv ?_|refine zq ?_|refine zY (fun Q hQ=>by (conv=>whnf);exact hQ) ?_|refine zj (fun Q hQ=>by (conv=>whnf);exact hQ) ?_|(apply yk;(·intro _ _ hy;(conv=>whnf);exact hy);(·intro Q hQ;(conv=>whnf);repeat(first|exact hQ|((first|refine xw (by first|rfl|assumption) ?_|refine xx (by first|rfl|assumption) ?_|refine zy ?_|refine zx ?_|unfold yZ);(conv=>whnf))));(·intro Q hQ;(conv=>whnf);exact hQ))|(apply yY;(·intro _ _ hy;(conv=>whnf);exact hy);(·intro Q hQ;(conv=>whnf);exact hQ)))
 apply xq
 ·(intro _ _ hy;(conv=>whnf);exact hy)
 intro Q hQ
 conv=>whnf
 have okS:OkL (tabL (smpT (mets.getD (nm % 8) []) sx)):=smp_ok hmet sx
 have hsn:∀ q ∈ (tabL (smpT (mets.getD (nm % 8) []) sx)),q.1 ∈ names04:=smp_names sx
 have hin:(nameN,(mets.getD (nm % 8) [])) ∈ (tabL (smpT (mets.getD (nm % 8) []) sx)):=(smp_mem _).2 (.inl rfl)
 have hmS:getL nameN (tabL (smpT (mets.getD (nm % 8) []) sx)) ∈ mets:=by rw [getL_mem (q:=(nameN,(mets.getD (nm % 8) []))) (asc_ne okS.asc) hin];exact hmet
 generalize (tabL (smpT (mets.getD (nm % 8) []) sx))=sm at okS hsn hin hmS hQ ⊢
 by_cases how:ownS sk=[]
 ·have okT:OkL []:=okNil
  have hhT:∀ q ∈ ([]:List Lab),hid q.1=false:=by simp
  have okX:OkL (expL [] sm):=expL_ok okT okS hsn
  have hneX:expL [] sm ≠ []:=List.ne_nil_of_mem (nameX_in okT hhT okS hin)
  have hne1:(([]:List Lab).foldl putT (sm.foldl (expT [] sm) ([],0))).1 ≠ []:=fun h=>by
   have h1:((nameN,(mets.getD (nm % 8) [])):Lab) ∈ expL [] sm:=nameX_in okT hhT okS hin
   unfold expL at h1
   rw [tabL_mem,h] at h1
   simp at h1
  have hR1:(expL [] sm).length ≤ 64:=Nat.le_trans okX.few (by decide)
  have hmX:getL nameN (expL [] sm) ∈ mets:=by rw [expL_name okT hhT okS hsn hin];exact hmet
  have hneM:(madeX [] sm).1 ≠ []:=made_ne okT hhT okS hsn hin
  have okM:OkL (tabL (madeX [] sm)):=made_ok okT hhT okS hsn hmet hin
  have hRM:(tabL (madeX [] sm)).length ≤ 64:=Nat.le_trans okM.few (by decide)
  have hE:eqS (getL nameN (tabL (madeX [] sm))) (getL nameN sm)=true:=by rw [made_name okT hhT okS hsn hin,getL_mem (q:=(nameN,(mets.getD (nm % 8) []))) (asc_ne okS.asc) hin];exact eqS_self _
  refine RC.gc (k:=fun v S'=>v=.tup [.nilSlice,.bool true]∧Sub (mkS [(ngl+8,.cells (cellsOf sm) 40 .rw),(ngl+9,.cells [.slice (ngl+8) 0 sm.length sm.length 2 false,.int .u64 (bN b),.bool timed,.int .i64 (tN timed t)] 30 .ex)] (ngl+10)).hs S'.hs) (own_run (hk _ rfl) ?_) ?_
  ·rw [how]
   conv=>whnf
   refine ⟨rfl,sub_of_all ?_ (Nat.le_of_ble_eq_true (by kernel_rfl))⟩
   repeat' (first
    | exact trivial
    | exact rfl
    | apply And.intro)
  rintro _ S' ⟨rfl,hsub⟩
  refine ⟨_,hsub,?_⟩
  rw [hQ]
  conv=>whnf
  repeat(first|((first|refine yw ?_|refine zX ?_|refine yX ?_|refine zk ?_);intro _ _)|refine yz ?_|refine xz ?_|refine yj ‹_› ?_|refine zw ‹_› ?_|refine yx ‹_› ?_|refine yq ‹_› ?_|refine zZ ?_|refine yy ?_|refine yv ?_|refine zq ?_|refine zY (fun Q hQ=>by (conv=>whnf);exact hQ) ?_|refine zj (fun Q hQ=>by (conv=>whnf);exact hQ) ?_|(apply yk;(·intro _ _ hy;(conv=>whnf);exact hy);(·intro Q hQ;(conv=>whnf);repeat(first|exact hQ|((first|refine xw (by first|rfl|assumption) ?_|refine xx (by first|rfl|assumption) ?_|refine zy ?_|refine zx ?_|unfold yZ);(conv=>whnf))));(·intro Q hQ;(conv=>whnf);exact hQ))|(apply yY;(·intro _ _ hy;(conv=>whnf);exact hy);(·intro Q hQ;(conv=>whnf);exact hQ)))
  apply xq
  ·(intro _ _ hy;(conv=>whnf);exact hy)
  intro Q7 hQ7
  conv=>whnf
  refine RC.run mixed xts_ok (evCall_at f7 ?_)
  apply wx
  ·intro Q hQ
   conv=>whnf
   exact hQ
  intro K7 hK7
  unfold codeOf
  conv=>arg 7;whnf
  repeat(first|((first|refine yw ?_|refine zX ?_|refine yX ?_|refine zk ?_);intro _ _)|refine yz ?_|refine xz ?_|refine yj ‹_› ?_|refine zw ‹_› ?_|refine yx ‹_› ?_|refine yq ‹_› ?_|refine zZ ?_|refine yy ?_|refine yv ?_|refine zq ?_|refine zY (fun Q hQ=>by (conv=>whnf);exact hQ) ?_|refine zj (fun Q hQ=>by (conv=>whnf);exact hQ) ?_|(apply yk;(·intro _ _ hy;(conv=>whnf);exact hy);(·intro Q hQ;(conv=>whnf);repeat(first|exact hQ|((first|refine xw (by first|rfl|assumption) ?_|refine xx (by first|rfl|assumption) ?_|refine zy ?_|refine zx ?_|unfold yZ);(conv=>whnf))));(·intro Q hQ;(conv=>whnf);exact hQ))|(apply yY;(·intro _ _ hy;(conv=>whnf);exact hy);(·intro Q hQ;(conv=>whnf);exact hQ)))
  apply xq
  ·(intro _ _ hy;(conv=>whnf);exact hy)
  intro Q hQ
  conv=>whnf
  refine ready_run (l:=[]) (.inl ⟨rfl,rfl⟩) okNil (by simp) ?_
  conv=>whnf
  rw [hQ]
  conv=>whnf
  repeat(first|((first|refine yw ?_|refine zX ?_|refine yX ?_|refine zk ?_);intro _ _)|refine yz ?_|refine xz ?_|refine yj ‹_› ?_|refine zw ‹_› ?_|refine yx ‹_› ?_|refine yq ‹_› ?_|refine zZ ?_|refine yy ?_|refine yv ?_|refine zq ?_|refine zY (fun Q hQ=>by (conv=>whnf);exact hQ) ?_|refine zj (fun Q hQ=>by (conv=>whnf);exact hQ) ?_|(apply yk;(·intro _ _ hy;(conv=>whnf);exact hy);(·intro Q hQ;(conv=>whnf);repeat(first|exact hQ|((first|refine xw (by first|rfl|assumption) ?_|refine xx (by first|rfl|assumption) ?_|refine zy ?_|refine zx ?_|unfold yZ);(conv=>whnf))));(·intro Q hQ;(conv=>whnf);exact hQ))|(apply yY;(·intro _ _ hy;(conv=>whnf);exact hy);(·intro Q hQ;(conv=>whnf);exact hQ)))
  apply xq
  ·(intro _ _ hy;(conv=>whnf);exact hy)
  intro Q hQ
  conv=>whnf
  refine right19_run (LS.mk (e:=40) (fl:=.rw) rfl (Nat.le_refl _)) okS hmS (bN_kind b) (fun h=>by subst h;rfl) ?_
  rw [hQ]
  conv=>whnf
  repeat(first|((first|refine yw ?_|refine zX ?_|refine yX ?_|refine zk ?_);intro _ _)|refine yz ?_|refine xz ?_|refine yj ‹_› ?_|refine zw ‹_› ?_|refine yx ‹_› ?_|refine yq ‹_› ?_|refine zZ ?_|refine yy ?_|refine yv ?_|refine zq ?_|refine zY (fun Q hQ=>by (conv=>whnf);exact hQ) ?_|refine zj (fun Q hQ=>by (conv=>whnf);exact hQ) ?_|(apply yk;(·intro _ _ hy;(conv=>whnf);exact hy);(·intro Q hQ;(conv=>whnf);repeat(first|exact hQ|((first|refine xw (by first|rfl|assumption) ?_|refine xx (by first|rfl|assumption) ?_|refine zy ?_|refine zx ?_|unfold yZ);(conv=>whnf))));(·intro Q hQ;(conv=>whnf);exact hQ))|(apply yY;(·intro _ _ hy;(conv=>whnf);exact hy);(·intro Q hQ;(conv=>whnf);exact hQ)))
  apply xq
  ·(intro _ _ hy;(conv=>whnf);exact hy)
  intro Q hQ
  conv=>whnf
  refine make_nil hL (sm:=sm) okT (LS.mk (e:=40) (fl:=.rw) rfl (Nat.le_refl _)) okS hsn hne1 hR1 okX hneX hmX hneM hRM rfl rfl ?_
  conv=>whnf
  rw [hQ]
  conv=>whnf
  have hown:∀ y ∈ ([]:List Lab),getL y.1 (tabL (madeX [] sm))=y.2:=fun y hy=>made_own okT hhT okS hsn hin hy
  have hsmp:∀ y ∈ sm,getL y.1 []=[]→(hid y.1=false ∨ y.1=nameN)→getL y.1 (tabL (madeX [] sm))=y.2:=fun y hy=>made_sample okT hhT okS hsn hin hy
  have hhid:∀ s,hid s=true→s ≠ nameN→getL s (tabL (madeX [] sm))=[]:=fun s=>made_hidden okT hhT okS hsn hin
  clear hneM hRM hR1 hneX hne1 okX hmX
  generalize tabL (madeX [] sm)=M at okM hE hown hsmp hhid ⊢
  repeat(first|((first|refine yw ?_|refine zX ?_|refine yX ?_|refine zk ?_);intro _ _)|refine yz ?_|refine xz ?_|refine yj ‹_› ?_|refine zw ‹_› ?_|refine yx ‹_› ?_|refine yq ‹_› ?_|refine zZ ?_|refine yy ?_|refine yv ?_|refine zq ?_|refine zY (fun Q hQ=>by (conv=>whnf);exact hQ) ?_|refine zj (fun Q hQ=>by (conv=>whnf);exact hQ) ?_|(apply yk;(·intro _ _ hy;(conv=>whnf);exact hy);(·intro Q hQ;(conv=>whnf);repeat(first|exact hQ|((first|refine xw (by first|rfl|assumption) ?_|refine xx (by first|rfl|assumption) ?_|refine zy ?_|refine zx ?_|unfold yZ);(conv=>whnf))));(·intro Q hQ;(conv=>whnf);exact hQ))|(apply yY;(·intro _ _ hy;(conv=>whnf);exact hy);(·intro Q hQ;(conv=>whnf);exact hQ)))
  conv=>whnf
  repeat (unfold yZ;conv=>whnf)
  rw [hQ7]
  conv=>whnf
  clear hQ7 hK7
  repeat(first|((first|refine yw ?_|refine zX ?_|refine yX ?_|refine zk ?_);intro _ _)|refine yz ?_|refine xz ?_|refine yj ‹_› ?_|refine zw ‹_› ?_|refine yx ‹_› ?_|refine yq ‹_› ?_|refine zZ ?_|refine yy ?_|refine yv ?_|refine zq ?_|refine zY (fun Q hQ=>by (conv=>whnf);exact hQ) ?_|refine zj (fun Q hQ=>by (conv=>whnf);exact hQ) ?_|(apply yk;(·intro _ _ hy;(conv=>whnf);exact hy);(·intro Q hQ;(conv=>whnf);repeat(first|exact hQ|((first|refine xw (by first|rfl|assumption) ?_|refine xx (by first|rfl|assumption) ?_|refine zy ?_|refine zx ?_|unfold yZ);(conv=>whnf))));(·intro Q hQ;(conv=>whnf);exact hQ))|(apply yY;(·intro _ _ hy;(conv=>whnf);exact hy);(·intro Q hQ;(conv=>whnf);exact hQ)))
  repeat(first|(apply xk;(·exact rfl);(·exact rfl);(·intro _ _ hy;(conv=>whnf);exact hy);(·exact rfl);(·intro Q hQ;(conv=>whnf);repeat(first|exact hQ|((first|refine xw (by first|rfl|assumption) ?_|refine xx (by first|rfl|assumption) ?_|refine zy ?_|refine zx ?_|unfold yZ);(conv=>whnf))));(·intro Q hQ;(conv=>whnf);exact hQ))|(apply xX;(·exact rfl);(·exact rfl);(·intro _ _ hy;(conv=>whnf);exact hy);(·exact rfl);(·intro Q hQ;(conv=>whnf);repeat(first|exact hQ|((first|refine xw (by first|rfl|assumption) ?_|refine xx (by first|rfl|assumption) ?_|refine zy ?_|refine zx ?_|unfold yZ);(conv=>whnf))));(·intro Q hQ;(conv=>whnf);exact hQ);intro _)|(apply xY;(·exact rfl);(·exact rfl);(·intro _ _ hy;(conv=>whnf);exact hy);(·intro Q hQ;(conv=>whnf);exact hQ))|refine xZ ?_)
  apply wz
  ·exact rfl
  ·exact rfl
  ·(intro _ _ hy;(conv=>whnf);exact hy)
  ·exact rfl
  ·kernel_rfl
  ·(intro Q hQ;exact hQ)
  intro Q hQ
  conv=>whnf
  refine get_run (LV.mk (e:=40) (fl:=.rw) rfl (Nat.le_refl _)) okM.lt _ ?_
  rw [hQ]
  conv=>whnf
  repeat(first|(apply xk;(·exact rfl);(·exact rfl);(·intro _ _ hy;(conv=>whnf);exact hy);(·exact rfl);(·intro Q hQ;(conv=>whnf);repeat(first|exact hQ|((first|refine xw (by first|rfl|assumption) ?_|refine xx (by first|rfl|assumption) ?_|refine zy ?_|refine zx ?_|unfold yZ);(conv=>whnf))));(·intro Q hQ;(conv=>whnf);exact hQ))|(apply xX;(·exact rfl);(·exact rfl);(·intro _ _ hy;(conv=>whnf);exact hy);(·exact rfl);(·intro Q hQ;(conv=>whnf);repeat(first|exact hQ|((first|refine xw (by first|rfl|assumption) ?_|refine xx (by first|rfl|assumption) ?_|refine zy ?_|refine zx ?_|unfold yZ);(conv=>whnf))));(·intro Q hQ;(conv=>whnf);exact hQ);intro _)|(apply xY;(·exact rfl);(·exact rfl);(·intro _ _ hy;(conv=>whnf);exact hy);(·intro Q hQ;(conv=>whnf);exact hQ))|refine xZ ?_)
  apply wz
  ·exact rfl
  ·exact rfl
  ·(intro _ _ hy;(conv=>whnf);exact hy)
  ·exact rfl
  ·kernel_rfl
  ·(intro Q hQ;exact hQ)
  intro Q hQ
  conv=>whnf
  refine get_run (LV.mk (e:=40) (fl:=.rw) rfl (Nat.le_refl _)) okS.lt _ ?_
  rw [hQ]
  conv=>whnf
  repeat(first|(apply xk;(·exact rfl);(·exact rfl);(·intro _ _ hy;(conv=>whnf);exact hy);(·exact rfl);(·intro Q hQ;(conv=>whnf);repeat(first|exact hQ|((first|refine xw (by first|rfl|assumption) ?_|refine xx (by first|rfl|assumption) ?_|refine zy ?_|refine zx ?_|unfold yZ);(conv=>whnf))));(·intro Q hQ;(conv=>whnf);exact hQ))|(apply xX;(·exact rfl);(·exact rfl);(·intro _ _ hy;(conv=>whnf);exact hy);(·exact rfl);(·intro Q hQ;(conv=>whnf);repeat(first|exact hQ|((first|refine xw (by first|rfl|assumption) ?_|refine xx (by first|rfl|assumption) ?_|refine zy ?_|refine zx ?_|unfold yZ);(conv=>whnf))));(·intro Q hQ;(conv=>whnf);exact hQ);intro _)|(apply xY;(·exact rfl);(·exact rfl);(·intro _ _ hy;(conv=>whnf);exact hy);(·intro Q hQ;(conv=>whnf);exact hQ))|refine xZ ?_)
  refine ww ‹_› ?_
  repeat (first
   | refine wY (by first|(simp;done)|(intro c hc;simp at hc;rcases hc with rfl|rfl|rfl <;> exact ⟨rfl,rfl⟩)|(intro c hc;simp at hc;rcases hc with rfl|rfl <;> exact ⟨rfl,rfl⟩)|(intro c hc;simp at hc;rcases hc with rfl;exact ⟨rfl,rfl⟩)) ‹_› (by first|exact vq _|exact vj _ _|exact vv _ _ _ _ _ _|exact vy _ _|exact vw _|rfl) (by first|exact .inl rfl|exact .inr rfl) ?_
   | refine wZ (.inl (by first|rfl|kernel_rfl)) (.inr ‹_›) (by first|exact vq _|exact vj _ _|exact vv _ _ _ _ _ _|exact vy _ _|exact vw _|rfl) ?_
   | refine vz ?_)
  conv=>whnf
  repeat(first|((first|refine yw ?_|refine zX ?_|refine yX ?_|refine zk ?_);intro _ _)|refine yz ?_|refine xz ?_|refine yj ‹_› ?_|refine zw ‹_› ?_|refine yx ‹_› ?_|refine yq ‹_› ?_|refine zZ ?_|refine yy ?_|refine yv ?_|refine zq ?_|refine zY (fun Q hQ=>by (conv=>whnf);exact hQ) ?_|refine zj (fun Q hQ=>by (conv=>whnf);exact hQ) ?_|(apply yk;(·intro _ _ hy;(conv=>whnf);exact hy);(·intro Q hQ;(conv=>whnf);repeat(first|exact hQ|((first|refine xw (by first|rfl|assumption) ?_|refine xx (by first|rfl|assumption) ?_|refine zy ?_|refine zx ?_|unfold yZ);(conv=>whnf))));(·intro Q hQ;(conv=>whnf);exact hQ))|(apply yY;(·intro _ _ hy;(conv=>whnf);exact hy);(·intro Q hQ;(conv=>whnf);exact hQ)))
  refine LP.step' mixed fun _ _=>?_
  repeat(first|((first|refine yw ?_|refine zX ?_|refine yX ?_|refine zk ?_);intro _ _)|refine yz ?_|refine xz ?_|refine yj ‹_› ?_|refine zw ‹_› ?_|refine yx ‹_› ?_|refine yq ‹_› ?_|refine zZ ?_|refine yy ?_|refine yv ?_|refine zq ?_|refine zY (fun Q hQ=>by (conv=>whnf);exact hQ) ?_|refine zj (fun Q hQ=>by (conv=>whnf);exact hQ) ?_|(apply yk;(·intro _ _ hy;(conv=>whnf);exact hy);(·intro Q hQ;(conv=>whnf);repeat(first|exact hQ|((first|refine xw (by first|rfl|assumption) ?_|refine xx (by first|rfl|assumption) ?_|refine zy ?_|refine zx ?_|unfold yZ);(conv=>whnf))));(·intro Q hQ;(conv=>whnf);exact hQ))|(apply yY;(·intro _ _ hy;(conv=>whnf);exact hy);(·intro Q hQ;(conv=>whnf);exact hQ)))
  conv=>whnf
  repeat(first|((first|refine yw ?_|refine zX ?_|refine yX ?_|refine zk ?_);intro _ _)|refine yz ?_|refine xz ?_|refine yj ‹_› ?_|refine zw ‹_› ?_|refine yx ‹_› ?_|refine yq ‹_› ?_|refine zZ ?_|refine yy ?_|refine yv ?_|refine zq ?_|refine zY (fun Q hQ=>by (conv=>whnf);exact hQ) ?_|refine zj (fun Q hQ=>by (conv=>whnf);exact hQ) ?_|(apply yk;(·intro _ _ hy;(conv=>whnf);exact hy);(·intro Q hQ;(conv=>whnf);repeat(first|exact hQ|((first|refine xw (by first|rfl|assumption) ?_|refine xx (by first|rfl|assumption) ?_|refine zy ?_|refine zx ?_|unfold yZ);(conv=>whnf))));(·intro Q hQ;(conv=>whnf);exact hQ))|(apply yY;(·intro _ _ hy;(conv=>whnf);exact hy);(·intro Q hQ;(conv=>whnf);exact hQ)))
  refine LP.induct0 sm.length (fun j E=>j ≤ sm.length∧Fits E 0 [sl E 0,sl E 1,sl E 2,sl E 3,sl E 4,.ptr (ngl+9) 0,sl E 6,.nilSlice,sl E 8,.ptr (ngl+15) 0,sl E 10,sl E 11,sl E 12,sl E 13,sl E 14,sl E 15,sl E 16,sl E 17,sl E 18,sl E 19,sl E 20,sl E 21,sl E 22,sl E 23,sl E 24,sl E 25,sl E 26,sl E 27,sl E 28,sl E 29,sl E 30,sl E 31,sl E 32,sl E 33,sl E 34,sl E 35,sl E 36,sl E 37,sl E 38,sl E 39,sl E 40,sl E 41,sl E 42,sl E 43,sl E 44,sl E 45,sl E 46,sl E 47,sl E 48,sl E 49,sl E 50,sl E 51,sl E 52,sl E 53,sl E 54,sl E 55,sl E 56,sl E 57,sl E 58,sl E 59,sl E 60,sl E 61,sl E 62,sl E 63,sl E 64,sl E 65,sl E 66,sl E 67,sl E 68,sl E 69,sl E 70,sl E 71,sl E 72,sl E 73,sl E 74,.slice (ngl+8) 0 sm.length sm.length 2 false,.int .i64 (.ofNat sm.length),.int .i64 (.ofNat j),sl E 78,sl E 79,sl E 80,sl E 81,sl E 82,sl E 83,sl E 84,sl E 85,sl E 86,sl E 87,sl E 88,sl E 89,sl E 90,sl E 91,sl E 92,sl E 93,sl E 94,sl E 95,sl E 96,sl E 97,sl E 98,sl E 99,sl E 100,sl E 101,sl E 102,sl E 103,sl E 104,sl E 105,sl E 106,sl E 107,sl E 108,sl E 109,sl E 110,sl E 111,sl E 112,sl E 113,sl E 114,sl E 115,sl E 116,sl E 117,sl E 118,sl E 119]) ⟨Nat.zero_le _,⟨zz rfl,zz rfl,zz rfl,zz rfl,zz rfl,rfl,zz rfl,rfl,zz rfl,rfl,zz rfl,zz rfl,zz rfl,zz rfl,zz rfl,zz rfl,zz rfl,zz rfl,zz rfl,zz rfl,zz rfl,zz rfl,zz rfl,zz rfl,zz rfl,zz rfl,zz rfl,zz rfl,zz rfl,zz rfl,zz rfl,zz rfl,zz rfl,zz rfl,zz rfl,zz rfl,zz rfl,zz rfl,zz rfl,zz rfl,zz rfl,zz rfl,zz rfl,zz rfl,zz rfl,zz rfl,zz rfl,zz rfl,zz rfl,zz rfl,zz rfl,zz rfl,zz rfl,zz rfl,zz rfl,zz rfl,zz rfl,zz rfl,zz rfl,zz rfl,zz rfl,zz rfl,zz rfl,zz rfl,zz rfl,zz rfl,zz rfl,zz rfl,zz rfl,zz rfl,zz rfl,zz rfl,zz rfl,zz rfl,zz rfl,rfl,rfl,rfl,zz rfl,zz rfl,zz rfl,zz rfl,zz rfl,zz rfl,zz rfl,zz rfl,zz rfl,zz rfl,zz rfl,zz rfl,zz rfl,zz rfl,zz rfl,zz rfl,zz rfl,zz rfl,zz rfl,zz rfl,zz rfl,zz rfl,zz rfl,zz rfl,zz rfl,zz rfl,zz rfl,zz rfl,zz rfl,zz rfl,zz rfl,zz rfl,zz rfl,zz rfl,zz rfl,zz rfl,zz rfl,zz rfl,zz rfl,zz rfl,zz rfl,zz rfl,trivial⟩⟩ ?_
  intro j E ⟨hjl,hf⟩ ih
  refine LP.tree hf (⟨some (sl E 0),⟨some (sl E 1),⟨some (.ptr (ngl+9) 0),⟨some (sl E 21),⟨some (sl E 85),(),(),(),()⟩,z0,z0,z0⟩,⟨some (sl E 37),⟨some (sl E 101),(),(),(),()⟩,z0,z0,z0⟩,⟨some (sl E 53),⟨some (sl E 117),(),(),(),()⟩,z0,z0,z0⟩,⟨some (sl E 69),z0,z0,z0,z0⟩⟩,⟨some (.ptr (ngl+15) 0),⟨some (sl E 25),⟨some (sl E 89),(),(),(),()⟩,z0,z0,z0⟩,⟨some (sl E 41),⟨some (sl E 105),(),(),(),()⟩,z0,z0,z0⟩,⟨some (sl E 57),z0,z0,z0,z0⟩,⟨some (sl E 73),z0,z0,z0,z0⟩⟩,⟨some (sl E 13),⟨some (sl E 29),⟨some (sl E 93),(),(),(),()⟩,z0,z0,z0⟩,⟨some (sl E 45),⟨some (sl E 109),(),(),(),()⟩,z0,z0,z0⟩,⟨some (sl E 61),z0,z0,z0,z0⟩,⟨some (.int .i64 (.ofNat j)),z0,z0,z0,z0⟩⟩,⟨some (sl E 17),⟨some (sl E 33),⟨some (sl E 97),(),(),(),()⟩,z0,z0,z0⟩,⟨some (sl E 49),⟨some (sl E 113),(),(),(),()⟩,z0,z0,z0⟩,⟨some (sl E 65),z0,z0,z0,z0⟩,⟨some (sl E 81),z0,z0,z0,z0⟩⟩⟩,⟨some (sl E 2),⟨some (sl E 6),⟨some (sl E 22),⟨some (sl E 86),(),(),(),()⟩,z0,z0,z0⟩,⟨some (sl E 38),⟨some (sl E 102),(),(),(),()⟩,z0,z0,z0⟩,⟨some (sl E 54),⟨some (sl E 118),(),(),(),()⟩,z0,z0,z0⟩,⟨some (sl E 70),z0,z0,z0,z0⟩⟩,⟨some (sl E 10),⟨some (sl E 26),⟨some (sl E 90),(),(),(),()⟩,z0,z0,z0⟩,⟨some (sl E 42),⟨some (sl E 106),(),(),(),()⟩,z0,z0,z0⟩,⟨some (sl E 58),z0,z0,z0,z0⟩,⟨some (sl E 74),z0,z0,z0,z0⟩⟩,⟨some (sl E 14),⟨some (sl E 30),⟨some (sl E 94),(),(),(),()⟩,z0,z0,z0⟩,⟨some (sl E 46),⟨some (sl E 110),(),(),(),()⟩,z0,z0,z0⟩,⟨some (sl E 62),z0,z0,z0,z0⟩,⟨some (sl E 78),z0,z0,z0,z0⟩⟩,⟨some (sl E 18),⟨some (sl E 34),⟨some (sl E 98),(),(),(),()⟩,z0,z0,z0⟩,⟨some (sl E 50),⟨some (sl E 114),(),(),(),()⟩,z0,z0,z0⟩,⟨some (sl E 66),z0,z0,z0,z0⟩,⟨some (sl E 82),z0,z0,z0,z0⟩⟩⟩,⟨some (sl E 3),⟨some (.nilSlice),⟨some (sl E 23),⟨some (sl E 87),(),(),(),()⟩,z0,z0,z0⟩,⟨some (sl E 39),⟨some (sl E 103),(),(),(),()⟩,z0,z0,z0⟩,⟨some (sl E 55),⟨some (sl E 119),(),(),(),()⟩,z0,z0,z0⟩,⟨some (sl E 71),z0,z0,z0,z0⟩⟩,⟨some (sl E 11),⟨some (sl E 27),⟨some (sl E 91),(),(),(),()⟩,z0,z0,z0⟩,⟨some (sl E 43),⟨some (sl E 107),(),(),(),()⟩,z0,z0,z0⟩,⟨some (sl E 59),z0,z0,z0,z0⟩,⟨some (.slice (ngl+8) 0 sm.length sm.length 2 false),z0,z0,z0,z0⟩⟩,⟨some (sl E 15),⟨some (sl E 31),⟨some (sl E 95),(),(),(),()⟩,z0,z0,z0⟩,⟨some (sl E 47),⟨some (sl E 111),(),(),(),()⟩,z0,z0,z0⟩,⟨some (sl E 63),z0,z0,z0,z0⟩,⟨some (sl E 79),z0,z0,z0,z0⟩⟩,⟨some (sl E 19),⟨some (sl E 35),⟨some (sl E 99),(),(),(),()⟩,z0,z0,z0⟩,⟨some (sl E 51),⟨some (sl E 115),(),(),(),()⟩,z0,z0,z0⟩,⟨some (sl E 67),z0,z0,z0,z0⟩,⟨some (sl E 83),z0,z0,z0,z0⟩⟩⟩,⟨some (sl E 4),⟨some (sl E 8),⟨some (sl E 24),⟨some (sl E 88),(),(),(),()⟩,z0,z0,z0⟩,⟨some (sl E 40),⟨some (sl E 104),(),(),(),()⟩,z0,z0,z0⟩,⟨some (sl E 56),z0,z0,z0,z0⟩,⟨some (sl E 72),z0,z0,z0,z0⟩⟩,⟨some (sl E 12),⟨some (sl E 28),⟨some (sl E 92),(),(),(),()⟩,z0,z0,z0⟩,⟨some (sl E 44),⟨some (sl E 108),(),(),(),()⟩,z0,z0,z0⟩,⟨some (sl E 60),z0,z0,z0,z0⟩,⟨some (.int .i64 (.ofNat sm.length)),z0,z0,z0,z0⟩⟩,⟨some (sl E 16),⟨some (sl E 32),⟨some (sl E 96),(),(),(),()⟩,z0,z0,z0⟩,⟨some (sl E 48),⟨some (sl E 112),(),(),(),()⟩,z0,z0,z0⟩,⟨some (sl E 64),z0,z0,z0,z0⟩,⟨some (sl E 80),z0,z0,z0,z0⟩⟩,⟨some (sl E 20),⟨some (sl E 36),⟨some (sl E 100),(),(),(),()⟩,z0,z0,z0⟩,⟨some (sl E 52),⟨some (sl E 116),(),(),(),()⟩,z0,z0,z0⟩,⟨some (sl E 68),z0,z0,z0,z0⟩,⟨some (sl E 84),z0,z0,z0,z0⟩⟩⟩⟩) (by kernel_rfl) (LP.gc' mixed fun _ _=>?_)
  clear hf
  cases hb:ltI (.ofNat j) (.ofNat sm.length)
  ·clear ih
   repeat(first|((first|refine yw ?_|refine zX ?_|refine yX ?_|refine zk ?_);intro _ _)|refine yz ?_|refine xz ?_|refine yj ‹_› ?_|refine zw ‹_› ?_|refine yx ‹_› ?_|refine yq ‹_› ?_|refine zZ ?_|refine yy ?_|refine yv ?_|refine zq ?_|refine zY (fun Q hQ=>by (conv=>whnf);exact hQ) ?_|refine zj (fun Q hQ=>by (conv=>whnf);exact hQ) ?_|(apply yk;(·intro _ _ hy;(conv=>whnf);exact hy);(·intro Q hQ;(conv=>whnf);repeat(first|exact hQ|((first|refine xw (by first|rfl|assumption) ?_|refine xx (by first|rfl|assumption) ?_|refine zy ?_|refine zx ?_|unfold yZ);(conv=>whnf))));(·intro Q hQ;(conv=>whnf);exact hQ))|(apply yY;(·intro _ _ hy;(conv=>whnf);exact hy);(·intro Q hQ;(conv=>whnf);exact hQ)))
   conv=>whnf
   repeat(first|((first|refine yw ?_|refine zX ?_|refine yX ?_|refine zk ?_);intro _ _)|refine yz ?_|refine xz ?_|refine yj ‹_› ?_|refine zw ‹_› ?_|refine yx ‹_› ?_|refine yq ‹_› ?_|refine zZ ?_|refine yy ?_|refine yv ?_|refine zq ?_|refine zY (fun Q hQ=>by (conv=>whnf);exact hQ) ?_|refine zj (fun Q hQ=>by (conv=>whnf);exact hQ) ?_|(apply yk;(·intro _ _ hy;(conv=>whnf);exact hy);(·intro Q hQ;(conv=>whnf);repeat(first|exact hQ|((first|refine xw (by first|rfl|assumption) ?_|refine xx (by first|rfl|assumption) ?_|refine zy ?_|refine zx ?_|unfold yZ);(conv=>whnf))));(·intro Q hQ;(conv=>whnf);exact hQ))|(apply yY;(·intro _ _ hy;(conv=>whnf);exact hy);(·intro Q hQ;(conv=>whnf);exact hQ)))
   conv=>whnf
   rw [← hK]
   exact rfl
  ·have hlt:j < sm.length:=by rw [ltI_eq] at hb;simpa using hb
   have hblt:Nat.blt j sm.length=true:=hb
   repeat(first|((first|refine yw ?_|refine zX ?_|refine yX ?_|refine zk ?_);intro _ _)|refine yz ?_|refine xz ?_|refine yj ‹_› ?_|refine zw ‹_› ?_|refine yx ‹_› ?_|refine yq ‹_› ?_|refine zZ ?_|refine yy ?_|refine yv ?_|refine zq ?_|refine zY (fun Q hQ=>by (conv=>whnf);exact hQ) ?_|refine zj (fun Q hQ=>by (conv=>whnf);exact hQ) ?_|(apply yk;(·intro _ _ hy;(conv=>whnf);exact hy);(·intro Q hQ;(conv=>whnf);repeat(first|exact hQ|((first|refine xw (by first|rfl|assumption) ?_|refine xx (by first|rfl|assumption) ?_|refine zy ?_|refine zx ?_|unfold yZ);(conv=>whnf))));(·intro Q hQ;(conv=>whnf);exact hQ))|(apply yY;(·intro _ _ hy;(conv=>whnf);exact hy);(·intro Q hQ;(conv=>whnf);exact hQ)))
   apply yk
   ·(intro _ _ hy;(conv=>whnf);exact hy)
   ·intro Q hQ
    conv=>whnf
    refine bcase (fun _=>?_) (fun h=>absurd (h.symm.trans hblt) (by simp))
    conv=>whnf
    repeat(first|exact hQ|((first|refine xw (by first|rfl|assumption) ?_|refine xx (by first|rfl|assumption) ?_|refine zy ?_|refine zx ?_);(conv=>whnf)))
   ·(intro Q hQ;(conv=>whnf);exact hQ)
   repeat(first|((first|refine yw ?_|refine zX ?_|refine yX ?_|refine zk ?_);intro _ _)|refine yz ?_|refine xz ?_|refine yj ‹_› ?_|refine zw ‹_› ?_|refine yx ‹_› ?_|refine yq ‹_› ?_|refine zZ ?_|refine yy ?_|refine yv ?_|refine zq ?_|refine zY (fun Q hQ=>by (conv=>whnf);exact hQ) ?_|refine zj (fun Q hQ=>by (conv=>whnf);exact hQ) ?_|(apply yk;(·intro _ _ hy;(conv=>whnf);exact hy);(·intro Q hQ;(conv=>whnf);repeat(first|exact hQ|((first|refine xw (by first|rfl|assumption) ?_|refine xx (by first|rfl|assumption) ?_|refine zy ?_|refine zx ?_|unfold yZ);(conv=>whnf))));(·intro Q hQ;(conv=>whnf);exact hQ))|(apply yY;(·intro _ _ hy;(conv=>whnf);exact hy);(·intro Q hQ;(conv=>whnf);exact hQ)))
   apply yk
   ·(intro _ _ hy;(conv=>whnf);exact hy)
   ·intro Q hQ
    conv=>whnf
    refine partK_lab agg40 hi40 hs40 (j:=j) (List.getElem?_eq_getElem hlt) (show 0+j * 2=2 * j by omega) ?_
    exact hQ
   ·(intro Q hQ;(conv=>whnf);exact hQ)
   repeat(first|((first|refine yw ?_|refine zX ?_|refine yX ?_|refine zk ?_);intro _ _)|refine yz ?_|refine xz ?_|refine yj ‹_› ?_|refine zw ‹_› ?_|refine yx ‹_› ?_|refine yq ‹_› ?_|refine zZ ?_|refine yy ?_|refine yv ?_|refine zq ?_|refine zY (fun Q hQ=>by (conv=>whnf);exact hQ) ?_|refine zj (fun Q hQ=>by (conv=>whnf);exact hQ) ?_|(apply yk;(·intro _ _ hy;(conv=>whnf);exact hy);(·intro Q hQ;(conv=>whnf);repeat(first|exact hQ|((first|refine xw (by first|rfl|assumption) ?_|refine xx (by first|rfl|assumption) ?_|refine zy ?_|refine zx ?_|unfold yZ);(conv=>whnf))));(·intro Q hQ;(conv=>whnf);exact hQ))|(apply yY;(·intro _ _ hy;(conv=>whnf);exact hy);(·intro Q hQ;(conv=>whnf);exact hQ)))
   apply xq
   ·(intro _ _ hy;(conv=>whnf);exact hy)
   intro Q hQ
   conv=>whnf
   refine hidX (okS.name _ (List.getElem_mem hlt)) ?_
   rw [hQ]
   conv=>whnf
   cases hh:hid sm[j].1
   ·have hvis:hid sm[j].1=false ∨ sm[j].1=nameN:=.inl hh
    have hg:getL sm[j].1 []=[]:=rfl
    have heM:eqS (getL sm[j].1 M) sm[j].2=true:=by rw [hsmp _ (List.getElem_mem hlt) hg hvis];exact eqS_self _
    repeat(first|((first|refine yw ?_|refine zX ?_|refine yX ?_|refine zk ?_);intro _ _)|refine yz ?_|refine xz ?_|refine yj ‹_› ?_|refine zw ‹_› ?_|refine yx ‹_› ?_|refine yq ‹_› ?_|refine zZ ?_|refine yy ?_|refine yv ?_|refine zq ?_|refine zY (fun Q hQ=>by (conv=>whnf);exact hQ) ?_|refine zj (fun Q hQ=>by (conv=>whnf);exact hQ) ?_|(apply yk;(·intro _ _ hy;(conv=>whnf);exact hy);(·intro Q hQ;(conv=>whnf);repeat(first|exact hQ|((first|refine xw (by first|rfl|assumption) ?_|refine xx (by first|rfl|assumption) ?_|refine zy ?_|refine zx ?_|unfold yZ);(conv=>whnf))));(·intro Q hQ;(conv=>whnf);exact hQ))|(apply yY;(·intro _ _ hy;(conv=>whnf);exact hy);(·intro Q hQ;(conv=>whnf);exact hQ)))
    repeat(first|(apply xk;(·exact rfl);(·exact rfl);(·intro _ _ hy;(conv=>whnf);exact hy);(·exact rfl);(·intro Q hQ;(conv=>whnf);repeat(first|exact hQ|((first|refine xw (by first|rfl|assumption) ?_|refine xx (by first|rfl|assumption) ?_|refine zy ?_|refine zx ?_|unfold yZ);(conv=>whnf))));(·intro Q hQ;(conv=>whnf);exact hQ))|(apply xX;(·exact rfl);(·exact rfl);(·intro _ _ hy;(conv=>whnf);exact hy);(·exact rfl);(·intro Q hQ;(conv=>whnf);repeat(first|exact hQ|((first|refine xw (by first|rfl|assumption) ?_|refine xx (by first|rfl|assumption) ?_|refine zy ?_|refine zx ?_|unfold yZ);(conv=>whnf))));(·intro Q hQ;(conv=>whnf);exact hQ);intro _)|(apply xY;(·exact rfl);(·exact rfl);(·intro _ _ hy;(conv=>whnf);exact hy);(·intro Q hQ;(conv=>whnf);exact hQ))|refine xZ ?_)
    apply wz
    ·exact rfl
    ·exact rfl
    ·(intro _ _ hy;(conv=>whnf);exact hy)
    ·exact rfl
    ·kernel_rfl
    ·(intro Q hQ;exact hQ)
    intro Q hQ
    conv=>whnf
    refine get_run (LV.nil _) (by decide) _ ?_
    rw [hQ]
    conv=>whnf
    repeat(first|(apply xk;(·exact rfl);(·exact rfl);(·intro _ _ hy;(conv=>whnf);exact hy);(·exact rfl);(·intro Q hQ;(conv=>whnf);repeat(first|exact hQ|((first|refine xw (by first|rfl|assumption) ?_|refine xx (by first|rfl|assumption) ?_|refine zy ?_|refine zx ?_|unfold yZ);(conv=>whnf))));(·intro Q hQ;(conv=>whnf);exact hQ))|(apply xX;(·exact rfl);(·exact rfl);(·intro _ _ hy;(conv=>whnf);exact hy);(·exact rfl);(·intro Q hQ;(conv=>whnf);repeat(first|exact hQ|((first|refine xw (by first|rfl|assumption) ?_|refine xx (by first|rfl|assumption) ?_|refine zy ?_|refine zx ?_|unfold yZ);(conv=>whnf))));(·intro Q hQ;(conv=>whnf);exact hQ);intro _)|(apply xY;(·exact rfl);(·exact rfl);(·intro _ _ hy;(conv=>whnf);exact hy);(·intro Q hQ;(conv=>whnf);exact hQ))|refine xZ ?_)
    apply wz
    ·exact rfl
    ·exact rfl
    ·(intro _ _ hy;(conv=>whnf);exact hy)
    ·exact rfl
    ·kernel_rfl
    ·(intro Q hQ;exact hQ)
    intro Q hQ
    conv=>whnf
    refine get_run (LV.mk (e:=40) (fl:=.rw) rfl (Nat.le_refl _)) okM.lt _ ?_
    rw [hQ]
    conv=>whnf
    repeat(first|(apply xk;(·exact rfl);(·exact rfl);(·intro _ _ hy;(conv=>whnf);exact hy);(·exact rfl);(·intro Q hQ;(conv=>whnf);repeat(first|exact hQ|((first|refine xw (by first|rfl|assumption) ?_|refine xx (by first|rfl|assumption) ?_|refine zy ?_|refine zx ?_|unfold yZ);(conv=>whnf))));(·intro Q hQ;(conv=>whnf);exact hQ))|(apply xX;(·exact rfl);(·exact rfl);(·intro _ _ hy;(conv=>whnf);exact hy);(·exact rfl);(·intro Q hQ;(conv=>whnf);repeat(first|exact hQ|((first|refine xw (by first|rfl|assumption) ?_|refine xx (by first|rfl|assumption) ?_|refine zy ?_|refine zx ?_|unfold yZ);(conv=>whnf))));(·intro Q hQ;(conv=>whnf);exact hQ);intro _)|(apply xY;(·exact rfl);(·exact rfl);(·intro _ _ hy;(conv=>whnf);exact hy);(·intro Q hQ;(conv=>whnf);exact hQ))|refine xZ ?_)
    refine ww ‹_› ?_
    repeat (first
     | refine wY (by first|(simp;done)|(intro c hc;simp at hc;rcases hc with rfl|rfl|rfl <;> exact ⟨rfl,rfl⟩)|(intro c hc;simp at hc;rcases hc with rfl|rfl <;> exact ⟨rfl,rfl⟩)|(intro c hc;simp at hc;rcases hc with rfl;exact ⟨rfl,rfl⟩)) ‹_› (by first|exact vq _|exact vj _ _|exact vv _ _ _ _ _ _|exact vy _ _|exact vw _|rfl) (by first|exact .inl rfl|exact .inr rfl) ?_
     | refine wZ (.inl (by first|rfl|kernel_rfl)) (.inr ‹_›) (by first|exact vq _|exact vj _ _|exact vv _ _ _ _ _ _|exact vy _ _|exact vw _|rfl) ?_
     | refine vz ?_)
    conv=>whnf
    repeat(first|((first|refine yw ?_|refine zX ?_|refine yX ?_|refine zk ?_);intro _ _)|refine yz ?_|refine xz ?_|refine yj ‹_› ?_|refine zw ‹_› ?_|refine yx ‹_› ?_|refine yq ‹_› ?_|refine zZ ?_|refine yy ?_|refine yv ?_|refine zq ?_|refine zY (fun Q hQ=>by (conv=>whnf);exact hQ) ?_|refine zj (fun Q hQ=>by (conv=>whnf);exact hQ) ?_|(apply yk;(·intro _ _ hy;(conv=>whnf);exact hy);(·intro Q hQ;(conv=>whnf);repeat(first|exact hQ|((first|refine xw (by first|rfl|assumption) ?_|refine xx (by first|rfl|assumption) ?_|refine zy ?_|refine zx ?_|unfold yZ);(conv=>whnf))));(·intro Q hQ;(conv=>whnf);exact hQ))|(apply yY;(·intro _ _ hy;(conv=>whnf);exact hy);(·intro Q hQ;(conv=>whnf);exact hQ)))
    apply yk
    ·(intro _ _ hy;(conv=>whnf);exact hy)
    ·intro Q hQ
     conv=>whnf
     refine wq (j+1) rfl (by have:=okS.few;show j+1 ≤ 9223372036854775807;omega) ?_
     exact hQ
    ·(intro Q hQ;(conv=>whnf);exact hQ)
    repeat(first|((first|refine yw ?_|refine zX ?_|refine yX ?_|refine zk ?_);intro _ _)|refine yz ?_|refine xz ?_|refine yj ‹_› ?_|refine zw ‹_› ?_|refine yx ‹_› ?_|refine yq ‹_› ?_|refine zZ ?_|refine yy ?_|refine yv ?_|refine zq ?_|refine zY (fun Q hQ=>by (conv=>whnf);exact hQ) ?_|refine zj (fun Q hQ=>by (conv=>whnf);exact hQ) ?_|(apply yk;(·intro _ _ hy;(conv=>whnf);exact hy);(·intro Q hQ;(conv=>whnf);repeat(first|exact hQ|((first|refine xw (by first|rfl|assumption) ?_|refine xx (by first|rfl|assumption) ?_|refine zy ?_|refine zx ?_|unfold yZ);(conv=>whnf))));(·intro Q hQ;(conv=>whnf);exact hQ))|(apply yY;(·intro _ _ hy;(conv=>whnf);exact hy);(·intro Q hQ;(conv=>whnf);exact hQ)))
    refine ⟨_,⟨Nat.le_of_ble_eq_true (by kernel_rfl),?_⟩,rfl,ih _ hlt ⟨by omega,?_⟩⟩
    ·
     repeat' (first
      | exact trivial
      | exact Nat.le_of_ble_eq_true (by kernel_rfl)
      | exact ⟨_,rfl,.cells (wv _) (.inl rfl)⟩
      | exact ⟨_,rfl,.cells (VIs_clean (by kernel_rfl)) (.inl rfl)⟩
      | apply And.intro)
    ·exact ⟨zz rfl,zz rfl,zz rfl,zz rfl,zz rfl,rfl,zz rfl,rfl,zz rfl,rfl,zz rfl,zz rfl,zz rfl,zz rfl,zz rfl,zz rfl,zz rfl,zz rfl,zz rfl,zz rfl,zz rfl,zz rfl,zz rfl,zz rfl,zz rfl,zz rfl,zz rfl,zz rfl,zz rfl,zz rfl,zz rfl,zz rfl,zz rfl,zz rfl,zz rfl,zz rfl,zz rfl,zz rfl,zz rfl,zz rfl,zz rfl,zz rfl,zz rfl,zz rfl,zz rfl,zz rfl,zz rfl,zz rfl,zz rfl,zz rfl,zz rfl,zz rfl,zz rfl,zz rfl,zz rfl,zz rfl,zz rfl,zz rfl,zz rfl,zz rfl,zz rfl,zz rfl,zz rfl,zz rfl,zz rfl,zz rfl,zz rfl,zz rfl,zz rfl,zz rfl,zz rfl,zz rfl,zz rfl,zz rfl,zz rfl,rfl,rfl,rfl,zz rfl,zz rfl,zz rfl,zz rfl,zz rfl,zz rfl,zz rfl,zz rfl,zz rfl,zz rfl,zz rfl,zz rfl,zz rfl,zz rfl,zz rfl,zz rfl,zz rfl,zz rfl,zz rfl,zz rfl,zz rfl,zz rfl,zz rfl,zz rfl,zz rfl,zz rfl,zz rfl,zz rfl,zz rfl,zz rfl,zz rfl,zz rfl,zz rfl,zz rfl,zz rfl,zz rfl,zz rfl,zz rfl,zz rfl,zz rfl,zz rfl,zz rfl,trivial⟩
   ·by_cases hN:sm[j].1=nameN
    ·have hvis:hid sm[j].1=false ∨ sm[j].1=nameN:=.inr hN
     have heN:eqS sm[j].1 [95,95,110,97,109,101,95,95]=true:=by rw [hN];rfl
     have hg:getL sm[j].1 []=[]:=rfl
     have heM:eqS (getL sm[j].1 M) sm[j].2=true:=by rw [hsmp _ (List.getElem_mem hlt) hg hvis];exact eqS_self _
     repeat(first|((first|refine yw ?_|refine zX ?_|refine yX ?_|refine zk ?_);intro _ _)|refine yz ?_|refine xz ?_|refine yj ‹_› ?_|refine zw ‹_› ?_|refine yx ‹_› ?_|refine yq ‹_› ?_|refine zZ ?_|refine yy ?_|refine yv ?_|refine zq ?_|refine zY (fun Q hQ=>by (conv=>whnf);exact hQ) ?_|refine zj (fun Q hQ=>by (conv=>whnf);exact hQ) ?_|(apply yk;(·intro _ _ hy;(conv=>whnf);exact hy);(·intro Q hQ;(conv=>whnf);repeat(first|exact hQ|((first|refine xw (by first|rfl|assumption) ?_|refine xx (by first|rfl|assumption) ?_|refine zy ?_|refine zx ?_|unfold yZ);(conv=>whnf))));(·intro Q hQ;(conv=>whnf);exact hQ))|(apply yY;(·intro _ _ hy;(conv=>whnf);exact hy);(·intro Q hQ;(conv=>whnf);exact hQ)))
     repeat(first|(apply xk;(·exact rfl);(·exact rfl);(·intro _ _ hy;(conv=>whnf);exact hy);(·exact rfl);(·intro Q hQ;(conv=>whnf);repeat(first|exact hQ|((first|refine xw (by first|rfl|assumption) ?_|refine xx (by first|rfl|assumption) ?_|refine zy ?_|refine zx ?_|unfold yZ);(conv=>whnf))));(·intro Q hQ;(conv=>whnf);exact hQ))|(apply xX;(·exact rfl);(·exact rfl);(·intro _ _ hy;(conv=>whnf);exact hy);(·exact rfl);(·intro Q hQ;(conv=>whnf);repeat(first|exact hQ|((first|refine xw (by first|rfl|assumption) ?_|refine xx (by first|rfl|assumption) ?_|refine zy ?_|refine zx ?_|unfold yZ);(conv=>whnf))));(·intro Q hQ;(conv=>whnf);exact hQ);intro _)|(apply xY;(·exact rfl);(·exact rfl);(·intro _ _ hy;(conv=>whnf);exact hy);(·intro Q hQ;(conv=>whnf);exact hQ))|refine xZ ?_)
     apply wz
     ·exact rfl
     ·exact rfl
     ·(intro _ _ hy;(conv=>whnf);exact hy)
     ·exact rfl
     ·kernel_rfl
     ·(intro Q hQ;exact hQ)
     intro Q hQ
     conv=>whnf
     refine get_run (LV.nil _) (by decide) _ ?_
     rw [hQ]
     conv=>whnf
     repeat(first|(apply xk;(·exact rfl);(·exact rfl);(·intro _ _ hy;(conv=>whnf);exact hy);(·exact rfl);(·intro Q hQ;(conv=>whnf);repeat(first|exact hQ|((first|refine xw (by first|rfl|assumption) ?_|refine xx (by first|rfl|assumption) ?_|refine zy ?_|refine zx ?_|unfold yZ);(conv=>whnf))));(·intro Q hQ;(conv=>whnf);exact hQ))|(apply xX;(·exact rfl);(·exact rfl);(·intro _ _ hy;(conv=>whnf);exact hy);(·exact rfl);(·intro Q hQ;(conv=>whnf);repeat(first|exact hQ|((first|refine xw (by first|rfl|assumption) ?_|refine xx (by first|rfl|assumption) ?_|refine zy ?_|refine zx ?_|unfold yZ);(conv=>whnf))));(·intro Q hQ;(conv=>whnf);exact hQ);intro _)|(apply xY;(·exact rfl);(·exact rfl);(·intro _ _ hy;(conv=>whnf);exact hy);(·intro Q hQ;(conv=>whnf);exact hQ))|refine xZ ?_)
     apply wz
     ·exact rfl
     ·exact rfl
     ·(intro _ _ hy;(conv=>whnf);exact hy)
     ·exact rfl
     ·kernel_rfl
     ·(intro Q hQ;exact hQ)
     intro Q hQ
     conv=>whnf
     refine get_run (LV.mk (e:=40) (fl:=.rw) rfl (Nat.le_refl _)) okM.lt _ ?_
     rw [hQ]
     conv=>whnf
     repeat(first|(apply xk;(·exact rfl);(·exact rfl);(·intro _ _ hy;(conv=>whnf);exact hy);(·exact rfl);(·intro Q hQ;(conv=>whnf);repeat(first|exact hQ|((first|refine xw (by first|rfl|assumption) ?_|refine xx (by first|rfl|assumption) ?_|refine zy ?_|refine zx ?_|unfold yZ);(conv=>whnf))));(·intro Q hQ;(conv=>whnf);exact hQ))|(apply xX;(·exact rfl);(·exact rfl);(·intro _ _ hy;(conv=>whnf);exact hy);(·exact rfl);(·intro Q hQ;(conv=>whnf);repeat(first|exact hQ|((first|refine xw (by first|rfl|assumption) ?_|refine xx (by first|rfl|assumption) ?_|refine zy ?_|refine zx ?_|unfold yZ);(conv=>whnf))));(·intro Q hQ;(conv=>whnf);exact hQ);intro _)|(apply xY;(·exact rfl);(·exact rfl);(·intro _ _ hy;(conv=>whnf);exact hy);(·intro Q hQ;(conv=>whnf);exact hQ))|refine xZ ?_)
     refine ww ‹_› ?_
     repeat (first
      | refine wY (by first|(simp;done)|(intro c hc;simp at hc;rcases hc with rfl|rfl|rfl <;> exact ⟨rfl,rfl⟩)|(intro c hc;simp at hc;rcases hc with rfl|rfl <;> exact ⟨rfl,rfl⟩)|(intro c hc;simp at hc;rcases hc with rfl;exact ⟨rfl,rfl⟩)) ‹_› (by first|exact vq _|exact vj _ _|exact vv _ _ _ _ _ _|exact vy _ _|exact vw _|rfl) (by first|exact .inl rfl|exact .inr rfl) ?_
      | refine wZ (.inl (by first|rfl|kernel_rfl)) (.inr ‹_›) (by first|exact vq _|exact vj _ _|exact vv _ _ _ _ _ _|exact vy _ _|exact vw _|rfl) ?_
      | refine vz ?_)
     conv=>whnf
     repeat(first|((first|refine yw ?_|refine zX ?_|refine yX ?_|refine zk ?_);intro _ _)|refine yz ?_|refine xz ?_|refine yj ‹_› ?_|refine zw ‹_› ?_|refine yx ‹_› ?_|refine yq ‹_› ?_|refine zZ ?_|refine yy ?_|refine yv ?_|refine zq ?_|refine zY (fun Q hQ=>by (conv=>whnf);exact hQ) ?_|refine zj (fun Q hQ=>by (conv=>whnf);exact hQ) ?_|(apply yk;(·intro _ _ hy;(conv=>whnf);exact hy);(·intro Q hQ;(conv=>whnf);repeat(first|exact hQ|((first|refine xw (by first|rfl|assumption) ?_|refine xx (by first|rfl|assumption) ?_|refine zy ?_|refine zx ?_|unfold yZ);(conv=>whnf))));(·intro Q hQ;(conv=>whnf);exact hQ))|(apply yY;(·intro _ _ hy;(conv=>whnf);exact hy);(·intro Q hQ;(conv=>whnf);exact hQ)))
     apply yk
     ·(intro _ _ hy;(conv=>whnf);exact hy)
     ·intro Q hQ
      conv=>whnf
      refine wq (j+1) rfl (by have:=okS.few;show j+1 ≤ 9223372036854775807;omega) ?_
      exact hQ
     ·(intro Q hQ;(conv=>whnf);exact hQ)
     repeat(first|((first|refine yw ?_|refine zX ?_|refine yX ?_|refine zk ?_);intro _ _)|refine yz ?_|refine xz ?_|refine yj ‹_› ?_|refine zw ‹_› ?_|refine yx ‹_› ?_|refine yq ‹_› ?_|refine zZ ?_|refine yy ?_|refine yv ?_|refine zq ?_|refine zY (fun Q hQ=>by (conv=>whnf);exact hQ) ?_|refine zj (fun Q hQ=>by (conv=>whnf);exact hQ) ?_|(apply yk;(·intro _ _ hy;(conv=>whnf);exact hy);(·intro Q hQ;(conv=>whnf);repeat(first|exact hQ|((first|refine xw (by first|rfl|assumption) ?_|refine xx (by first|rfl|assumption) ?_|refine zy ?_|refine zx ?_|unfold yZ);(conv=>whnf))));(·intro Q hQ;(conv=>whnf);exact hQ))|(apply yY;(·intro _ _ hy;(conv=>whnf);exact hy);(·intro Q hQ;(conv=>whnf);exact hQ)))
     refine ⟨_,⟨Nat.le_of_ble_eq_true (by kernel_rfl),?_⟩,rfl,ih _ hlt ⟨by omega,?_⟩⟩
     ·
      repeat' (first
       | exact trivial
       | exact Nat.le_of_ble_eq_true (by kernel_rfl)
       | exact ⟨_,rfl,.cells (wv _) (.inl rfl)⟩
       | exact ⟨_,rfl,.cells (VIs_clean (by kernel_rfl)) (.inl rfl)⟩
       | apply And.intro)
     ·exact ⟨zz rfl,zz rfl,zz rfl,zz rfl,zz rfl,rfl,zz rfl,rfl,zz rfl,rfl,zz rfl,zz rfl,zz rfl,zz rfl,zz rfl,zz rfl,zz rfl,zz rfl,zz rfl,zz rfl,zz rfl,zz rfl,zz rfl,zz rfl,zz rfl,zz rfl,zz rfl,zz rfl,zz rfl,zz rfl,zz rfl,zz rfl,zz rfl,zz rfl,zz rfl,zz rfl,zz rfl,zz rfl,zz rfl,zz rfl,zz rfl,zz rfl,zz rfl,zz rfl,zz rfl,zz rfl,zz rfl,zz rfl,zz rfl,zz rfl,zz rfl,zz rfl,zz rfl,zz rfl,zz rfl,zz rfl,zz rfl,zz rfl,zz rfl,zz rfl,zz rfl,zz rfl,zz rfl,zz rfl,zz rfl,zz rfl,zz rfl,zz rfl,zz rfl,zz rfl,zz rfl,zz rfl,zz rfl,zz rfl,zz rfl,rfl,rfl,rfl,zz rfl,zz rfl,zz rfl,zz rfl,zz rfl,zz rfl,zz rfl,zz rfl,zz rfl,zz rfl,zz rfl,zz rfl,zz rfl,zz rfl,zz rfl,zz rfl,zz rfl,zz rfl,zz rfl,zz rfl,zz rfl,zz rfl,zz rfl,zz rfl,zz rfl,zz rfl,zz rfl,zz rfl,zz rfl,zz rfl,zz rfl,zz rfl,zz rfl,zz rfl,zz rfl,zz rfl,zz rfl,zz rfl,zz rfl,zz rfl,zz rfl,zz rfl,trivial⟩
    ·have heN:eqS sm[j].1 [95,95,110,97,109,101,95,95]=false:=eqS_ne hN
     have hg:getL sm[j].1 []=[]:=rfl
     have heM0:eqS (getL sm[j].1 M) []=true:=by rw [hhid _ hh hN];rfl
     have heM:eqS (getL sm[j].1 M) sm[j].2=false:=by rw [hhid _ hh hN];exact eqS_ne (Ne.symm (okS.full _ (List.getElem_mem hlt)))
     repeat(first|((first|refine yw ?_|refine zX ?_|refine yX ?_|refine zk ?_);intro _ _)|refine yz ?_|refine xz ?_|refine yj ‹_› ?_|refine zw ‹_› ?_|refine yx ‹_› ?_|refine yq ‹_› ?_|refine zZ ?_|refine yy ?_|refine yv ?_|refine zq ?_|refine zY (fun Q hQ=>by (conv=>whnf);exact hQ) ?_|refine zj (fun Q hQ=>by (conv=>whnf);exact hQ) ?_|(apply yk;(·intro _ _ hy;(conv=>whnf);exact hy);(·intro Q hQ;(conv=>whnf);repeat(first|exact hQ|((first|refine xw (by first|rfl|assumption) ?_|refine xx (by first|rfl|assumption) ?_|refine zy ?_|refine zx ?_|unfold yZ);(conv=>whnf))));(·intro Q hQ;(conv=>whnf);exact hQ))|(apply yY;(·intro _ _ hy;(conv=>whnf);exact hy);(·intro Q hQ;(conv=>whnf);exact hQ)))
     repeat(first|(apply xk;(·exact rfl);(·exact rfl);(·intro _ _ hy;(conv=>whnf);exact hy);(·exact rfl);(·intro Q hQ;(conv=>whnf);repeat(first|exact hQ|((first|refine xw (by first|rfl|assumption) ?_|refine xx (by first|rfl|assumption) ?_|refine zy ?_|refine zx ?_|unfold yZ);(conv=>whnf))));(·intro Q hQ;(conv=>whnf);exact hQ))|(apply xX;(·exact rfl);(·exact rfl);(·intro _ _ hy;(conv=>whnf);exact hy);(·exact rfl);(·intro Q hQ;(conv=>whnf);repeat(first|exact hQ|((first|refine xw (by first|rfl|assumption) ?_|refine xx (by first|rfl|assumption) ?_|refine zy ?_|refine zx ?_|unfold yZ);(conv=>whnf))));(·intro Q hQ;(conv=>whnf);exact hQ);intro _)|(apply xY;(·exact rfl);(·exact rfl);(·intro _ _ hy;(conv=>whnf);exact hy);(·intro Q hQ;(conv=>whnf);exact hQ))|refine xZ ?_)
     apply wz
     ·exact rfl
     ·exact rfl
     ·(intro _ _ hy;(conv=>whnf);exact hy)
     ·exact rfl
     ·kernel_rfl
     ·(intro Q hQ;exact hQ)
     intro Q hQ
     conv=>whnf
     refine get_run (LV.nil _) (by decide) _ ?_
     rw [hQ]
     conv=>whnf
     repeat(first|(apply xk;(·exact rfl);(·exact rfl);(·intro _ _ hy;(conv=>whnf);exact hy);(·exact rfl);(·intro Q hQ;(conv=>whnf);repeat(first|exact hQ|((first|refine xw (by first|rfl|assumption) ?_|refine xx (by first|rfl|assumption) ?_|refine zy ?_|refine zx ?_|unfold yZ);(conv=>whnf))));(·intro Q hQ;(conv=>whnf);exact hQ))|(apply xX;(·exact rfl);(·exact rfl);(·intro _ _ hy;(conv=>whnf);exact hy);(·exact rfl);(·intro Q hQ;(conv=>whnf);repeat(first|exact hQ|((first|refine xw (by first|rfl|assumption) ?_|refine xx (by first|rfl|assumption) ?_|refine zy ?_|refine zx ?_|unfold yZ);(conv=>whnf))));(·intro Q hQ;(conv=>whnf);exact hQ);intro _)|(apply xY;(·exact rfl);(·exact rfl);(·intro _ _ hy;(conv=>whnf);exact hy);(·intro Q hQ;(conv=>whnf);exact hQ))|refine xZ ?_)
     apply wz
     ·exact rfl
     ·exact rfl
     ·(intro _ _ hy;(conv=>whnf);exact hy)
     ·exact rfl
     ·kernel_rfl
     ·(intro Q hQ;exact hQ)
     intro Q hQ
     conv=>whnf
     refine get_run (LV.mk (e:=40) (fl:=.rw) rfl (Nat.le_refl _)) okM.lt _ ?_
     rw [hQ]
     conv=>whnf
     repeat(first|(apply xk;(·exact rfl);(·exact rfl);(·intro _ _ hy;(conv=>whnf);exact hy);(·exact rfl);(·intro Q hQ;(conv=>whnf);repeat(first|exact hQ|((first|refine xw (by first|rfl|assumption) ?_|refine xx (by first|rfl|assumption) ?_|refine zy ?_|refine zx ?_|unfold yZ);(conv=>whnf))));(·intro Q hQ;(conv=>whnf);exact hQ))|(apply xX;(·exact rfl);(·exact rfl);(·intro _ _ hy;(conv=>whnf);exact hy);(·exact rfl);(·intro Q hQ;(conv=>whnf);repeat(first|exact hQ|((first|refine xw (by first|rfl|assumption) ?_|refine xx (by first|rfl|assumption) ?_|refine zy ?_|refine zx ?_|unfold yZ);(conv=>whnf))));(·intro Q hQ;(conv=>whnf);exact hQ);intro _)|(apply xY;(·exact rfl);(·exact rfl);(·intro _ _ hy;(conv=>whnf);exact hy);(·intro Q hQ;(conv=>whnf);exact hQ))|refine xZ ?_)
     apply wz
     ·exact rfl
     ·exact rfl
     ·(intro _ _ hy;(conv=>whnf);exact hy)
     ·exact rfl
     ·kernel_rfl
     ·(intro Q hQ;exact hQ)
     intro Q hQ
     conv=>whnf
     refine get_run (LV.mk (e:=40) (fl:=.rw) rfl (Nat.le_refl _)) okM.lt _ ?_
     rw [hQ]
     conv=>whnf
     repeat(first|(apply xk;(·exact rfl);(·exact rfl);(·intro _ _ hy;(conv=>whnf);exact hy);(·exact rfl);(·intro Q hQ;(conv=>whnf);repeat(first|exact hQ|((first|refine xw (by first|rfl|assumption) ?_|refine xx (by first|rfl|assumption) ?_|refine zy ?_|refine zx ?_|unfold yZ);(conv=>whnf))));(·intro Q hQ;(conv=>whnf);exact hQ))|(apply xX;(·exact rfl);(·exact rfl);(·intro _ _ hy;(conv=>whnf);exact hy);(·exact rfl);(·intro Q hQ;(conv=>whnf);repeat(first|exact hQ|((first|refine xw (by first|rfl|assumption) ?_|refine xx (by first|rfl|assumption) ?_|refine zy ?_|refine zx ?_|unfold yZ);(conv=>whnf))));(·intro Q hQ;(conv=>whnf);exact hQ);intro _)|(apply xY;(·exact rfl);(·exact rfl);(·intro _ _ hy;(conv=>whnf);exact hy);(·intro Q hQ;(conv=>whnf);exact hQ))|refine xZ ?_)
     refine ww ‹_› ?_
     repeat (first
      | refine wY (by first|(simp;done)|(intro c hc;simp at hc;rcases hc with rfl|rfl|rfl <;> exact ⟨rfl,rfl⟩)|(intro c hc;simp at hc;rcases hc with rfl|rfl <;> exact ⟨rfl,rfl⟩)|(intro c hc;simp at hc;rcases hc with rfl;exact ⟨rfl,rfl⟩)) ‹_› (by first|exact vq _|exact vj _ _|exact vv _ _ _ _ _ _|exact vy _ _|exact vw _|rfl) (by first|exact .inl rfl|exact .inr rfl) ?_
      | refine wZ (.inl (by first|rfl|kernel_rfl)) (.inr ‹_›) (by first|exact vq _|exact vj _ _|exact vv _ _ _ _ _ _|exact vy _ _|exact vw _|rfl) ?_
      | refine vz ?_)
     conv=>whnf
     repeat(first|((first|refine yw ?_|refine zX ?_|refine yX ?_|refine zk ?_);intro _ _)|refine yz ?_|refine xz ?_|refine yj ‹_› ?_|refine zw ‹_› ?_|refine yx ‹_› ?_|refine yq ‹_› ?_|refine zZ ?_|refine yy ?_|refine yv ?_|refine zq ?_|refine zY (fun Q hQ=>by (conv=>whnf);exact hQ) ?_|refine zj (fun Q hQ=>by (conv=>whnf);exact hQ) ?_|(apply yk;(·intro _ _ hy;(conv=>whnf);exact hy);(·intro Q hQ;(conv=>whnf);repeat(first|exact hQ|((first|refine xw (by first|rfl|assumption) ?_|refine xx (by first|rfl|assumption) ?_|refine zy ?_|refine zx ?_|unfold yZ);(conv=>whnf))));(·intro Q hQ;(conv=>whnf);exact hQ))|(apply yY;(·intro _ _ hy;(conv=>whnf);exact hy);(·intro Q hQ;(conv=>whnf);exact hQ)))
     apply yk
     ·(intro _ _ hy;(conv=>whnf);exact hy)
     ·intro Q hQ
      conv=>whnf
      refine wq (j+1) rfl (by have:=okS.few;show j+1 ≤ 9223372036854775807;omega) ?_
      exact hQ
     ·(intro Q hQ;(conv=>whnf);exact hQ)
     repeat(first|((first|refine yw ?_|refine zX ?_|refine yX ?_|refine zk ?_);intro _ _)|refine yz ?_|refine xz ?_|refine yj ‹_› ?_|refine zw ‹_› ?_|refine yx ‹_› ?_|refine yq ‹_› ?_|refine zZ ?_|refine yy ?_|refine yv ?_|refine zq ?_|refine zY (fun Q hQ=>by (conv=>whnf);exact hQ) ?_|refine zj (fun Q hQ=>by (conv=>whnf);exact hQ) ?_|(apply yk;(·intro _ _ hy;(conv=>whnf);exact hy);(·intro Q hQ;(conv=>whnf);repeat(first|exact hQ|((first|refine xw (by first|rfl|assumption) ?_|refine xx (by first|rfl|assumption) ?_|refine zy ?_|refine zx ?_|unfold yZ);(conv=>whnf))));(·intro Q hQ;(conv=>whnf);exact hQ))|(apply yY;(·intro _ _ hy;(conv=>whnf);exact hy);(·intro Q hQ;(conv=>whnf);exact hQ)))
     refine ⟨_,⟨Nat.le_of_ble_eq_true (by kernel_rfl),?_⟩,rfl,ih _ hlt ⟨by omega,?_⟩⟩
     ·
      repeat' (first
       | exact trivial
       | exact Nat.le_of_ble_eq_true (by kernel_rfl)
       | exact ⟨_,rfl,.cells (wv _) (.inl rfl)⟩
       | exact ⟨_,rfl,.cells (VIs_clean (by kernel_rfl)) (.inl rfl)⟩
       | apply And.intro)
     ·exact ⟨zz rfl,zz rfl,zz rfl,zz rfl,zz rfl,rfl,zz rfl,rfl,zz rfl,rfl,zz rfl,zz rfl,zz rfl,zz rfl,zz rfl,zz rfl,zz rfl,zz rfl,zz rfl,zz rfl,zz rfl,zz rfl,zz rfl,zz rfl,zz rfl,zz rfl,zz rfl,zz rfl,zz rfl,zz rfl,zz rfl,zz rfl,zz rfl,zz rfl,zz rfl,zz rfl,zz rfl,zz rfl,zz rfl,zz rfl,zz rfl,zz rfl,zz rfl,zz rfl,zz rfl,zz rfl,zz rfl,zz rfl,zz rfl,zz rfl,zz rfl,zz rfl,zz rfl,zz rfl,zz rfl,zz rfl,zz rfl,zz rfl,zz rfl,zz rfl,zz rfl,zz rfl,zz rfl,zz rfl,zz rfl,zz rfl,zz rfl,zz rfl,zz rfl,zz rfl,zz rfl,zz rfl,zz rfl,zz rfl,zz rfl,rfl,rfl,rfl,zz rfl,zz rfl,zz rfl,zz rfl,zz rfl,zz rfl,zz rfl,zz rfl,zz rfl,zz rfl,zz rfl,zz rfl,zz rfl,zz rfl,zz rfl,zz rfl,zz rfl,zz rfl,zz rfl,zz rfl,zz rfl,zz rfl,zz rfl,zz rfl,zz rfl,zz rfl,zz rfl,zz rfl,zz rfl,zz rfl,zz rfl,zz rfl,zz rfl,zz rfl,zz rfl,zz rfl,zz rfl,zz rfl,zz rfl,zz rfl,zz rfl,zz rfl,trivial⟩
 ·have okT:OkL (ownS sk):=ownS_ok sk
  have hhT:∀ q ∈ ownS sk,hid q.1=false:=ownS_hid sk
  have okX:OkL (expL (ownS sk) sm):=expL_ok okT okS hsn
  have hneX:expL (ownS sk) sm ≠ []:=List.ne_nil_of_mem (nameX_in okT hhT okS hin)
  have hne1:(((ownS sk):List Lab).foldl putT (sm.foldl (expT (ownS sk) sm) ([],0))).1 ≠ []:=fun h=>by
   have h1:((nameN,(mets.getD (nm % 8) [])):Lab) ∈ expL (ownS sk) sm:=nameX_in okT hhT okS hin
   unfold expL at h1
   rw [tabL_mem,h] at h1
   simp at h1
  have hR1:(expL (ownS sk) sm).length ≤ 64:=Nat.le_trans okX.few (by decide)
  have hmX:getL nameN (expL (ownS sk) sm) ∈ mets:=by rw [expL_name okT hhT okS hsn hin];exact hmet
  have hneM:(madeX (ownS sk) sm).1 ≠ []:=made_ne okT hhT okS hsn hin
  have okM:OkL (tabL (madeX (ownS sk) sm)):=made_ok okT hhT okS hsn hmet hin
  have hRM:(tabL (madeX (ownS sk) sm)).length ≤ 64:=Nat.le_trans okM.few (by decide)
  have hE:eqS (getL nameN (tabL (madeX (ownS sk) sm))) (getL nameN sm)=true:=by rw [made_name okT hhT okS hsn hin,getL_mem (q:=(nameN,(mets.getD (nm % 8) []))) (asc_ne okS.asc) hin];exact eqS_self _
  refine RC.gc (k:=fun v S'=>v=.tup [.slice (ngl+10) 0 (ownS sk).length (ownS sk).length 2 false,.bool true]∧Sub (mkS [(ngl+8,.cells (cellsOf sm) 40 .rw),(ngl+9,.cells [.slice (ngl+8) 0 sm.length sm.length 2 false,.int .u64 (bN b),.bool timed,.int .i64 (tN timed t)] 30 .ex),(ngl+10,.cells (cellsOf (ownS sk)) 40 .rw)] (ngl+11)).hs S'.hs) (own_run (hk _ rfl) ?_) ?_
  ·rw [outN_ne how,outV_ne how]
   conv=>whnf
   refine ⟨rfl,sub_of_all ?_ (Nat.le_of_ble_eq_true (by kernel_rfl))⟩
   repeat' (first
    | exact trivial
    | exact rfl
    | apply And.intro)
  rintro _ S' ⟨rfl,hsub⟩
  refine ⟨_,hsub,?_⟩
  rw [hQ]
  conv=>whnf
  repeat(first|((first|refine yw ?_|refine zX ?_|refine yX ?_|refine zk ?_);intro _ _)|refine yz ?_|refine xz ?_|refine yj ‹_› ?_|refine zw ‹_› ?_|refine yx ‹_› ?_|refine yq ‹_› ?_|refine zZ ?_|refine yy ?_|refine yv ?_|refine zq ?_|refine zY (fun Q hQ=>by (conv=>whnf);exact hQ) ?_|refine zj (fun Q hQ=>by (conv=>whnf);exact hQ) ?_|(apply yk;(·intro _ _ hy;(conv=>whnf);exact hy);(·intro Q hQ;(conv=>whnf);repeat(first|exact hQ|((first|refine xw (by first|rfl|assumption) ?_|refine xx (by first|rfl|assumption) ?_|refine zy ?_|refine zx ?_|unfold yZ);(conv=>whnf))));(·intro Q hQ;(conv=>whnf);exact hQ))|(apply yY;(·intro _ _ hy;(conv=>whnf);exact hy);(·intro Q hQ;(conv=>whnf);exact hQ)))
  apply xq
  ·(intro _ _ hy;(conv=>whnf);exact hy)
  intro Q7 hQ7
  conv=>whnf
  refine RC.run mixed xts_ok (evCall_at f7 ?_)
  apply wx
  ·intro Q hQ
   conv=>whnf
   exact hQ
  intro K7 hK7
  unfold codeOf
  conv=>arg 7;whnf
  repeat(first|((first|refine yw ?_|refine zX ?_|refine yX ?_|refine zk ?_);intro _ _)|refine yz ?_|refine xz ?_|refine yj ‹_› ?_|refine zw ‹_› ?_|refine yx ‹_› ?_|refine yq ‹_› ?_|refine zZ ?_|refine yy ?_|refine yv ?_|refine zq ?_|refine zY (fun Q hQ=>by (conv=>whnf);exact hQ) ?_|refine zj (fun Q hQ=>by (conv=>whnf);exact hQ) ?_|(apply yk;(·intro _ _ hy;(conv=>whnf);exact hy);(·intro Q hQ;(conv=>whnf);repeat(first|exact hQ|((first|refine xw (by first|rfl|assumption) ?_|refine xx (by first|rfl|assumption) ?_|refine zy ?_|refine zx ?_|unfold yZ);(conv=>whnf))));(·intro Q hQ;(conv=>whnf);exact hQ))|(apply yY;(·intro _ _ hy;(conv=>whnf);exact hy);(·intro Q hQ;(conv=>whnf);exact hQ)))
  apply xq
  ·(intro _ _ hy;(conv=>whnf);exact hy)
  intro Q hQ
  conv=>whnf
  refine ready_run (l:=ownS sk) (.inr ⟨_,_,_,rfl,Nat.le_refl _,rfl⟩) (ownS_ok sk) (ownS_hid sk) ?_
  conv=>whnf
  rw [hQ]
  conv=>whnf
  repeat(first|((first|refine yw ?_|refine zX ?_|refine yX ?_|refine zk ?_);intro _ _)|refine yz ?_|refine xz ?_|refine yj ‹_› ?_|refine zw ‹_› ?_|refine yx ‹_› ?_|refine yq ‹_› ?_|refine zZ ?_|refine yy ?_|refine yv ?_|refine zq ?_|refine zY (fun Q hQ=>by (conv=>whnf);exact hQ) ?_|refine zj (fun Q hQ=>by (conv=>whnf);exact hQ) ?_|(apply yk;(·intro _ _ hy;(conv=>whnf);exact hy);(·intro Q hQ;(conv=>whnf);repeat(first|exact hQ|((first|refine xw (by first|rfl|assumption) ?_|refine xx (by first|rfl|assumption) ?_|refine zy ?_|refine zx ?_|unfold yZ);(conv=>whnf))));(·intro Q hQ;(conv=>whnf);exact hQ))|(apply yY;(·intro _ _ hy;(conv=>whnf);exact hy);(·intro Q hQ;(conv=>whnf);exact hQ)))
  apply xq
  ·(intro _ _ hy;(conv=>whnf);exact hy)
  intro Q hQ
  conv=>whnf
  refine right19_run (LS.mk (e:=40) (fl:=.rw) rfl (Nat.le_refl _)) okS hmS (bN_kind b) (fun h=>by subst h;rfl) ?_
  rw [hQ]
  conv=>whnf
  repeat(first|((first|refine yw ?_|refine zX ?_|refine yX ?_|refine zk ?_);intro _ _)|refine yz ?_|refine xz ?_|refine yj ‹_› ?_|refine zw ‹_› ?_|refine yx ‹_› ?_|refine yq ‹_› ?_|refine zZ ?_|refine yy ?_|refine yv ?_|refine zq ?_|refine zY (fun Q hQ=>by (conv=>whnf);exact hQ) ?_|refine zj (fun Q hQ=>by (conv=>whnf);exact hQ) ?_|(apply yk;(·intro _ _ hy;(conv=>whnf);exact hy);(·intro Q hQ;(conv=>whnf);repeat(first|exact hQ|((first|refine xw (by first|rfl|assumption) ?_|refine xx (by first|rfl|assumption) ?_|refine zy ?_|refine zx ?_|unfold yZ);(conv=>whnf))));(·intro Q hQ;(conv=>whnf);exact hQ))|(apply yY;(·intro _ _ hy;(conv=>whnf);exact hy);(·intro Q hQ;(conv=>whnf);exact hQ)))
  apply xq
  ·(intro _ _ hy;(conv=>whnf);exact hy)
  intro Q hQ
  conv=>whnf
  refine make_own hL (sm:=sm) (tg:=ownS sk) (rest2:=[]) (Nat.le_refl _) (by rw [List.append_nil];rfl) okT (LS.mk (e:=40) (fl:=.rw) rfl (Nat.le_refl _)) okS hsn hne1 hR1 okX hneX hmX hneM hRM rfl rfl ?_
  conv=>whnf
  rw [hQ]
  conv=>whnf
  have hown:∀ y ∈ ((ownS sk):List Lab),getL y.1 (tabL (madeX (ownS sk) sm))=y.2:=fun y hy=>made_own okT hhT okS hsn hin hy
  have hsmp:∀ y ∈ sm,getL y.1 (ownS sk)=[]→(hid y.1=false ∨ y.1=nameN)→getL y.1 (tabL (madeX (ownS sk) sm))=y.2:=fun y hy=>made_sample okT hhT okS hsn hin hy
  have hhid:∀ s,hid s=true→s ≠ nameN→getL s (tabL (madeX (ownS sk) sm))=[]:=fun s=>made_hidden okT hhT okS hsn hin
  clear hneM hRM hR1 hneX hne1 okX hmX
  generalize tabL (madeX (ownS sk) sm)=M at okM hE hown hsmp hhid ⊢
  repeat(first|((first|refine yw ?_|refine zX ?_|refine yX ?_|refine zk ?_);intro _ _)|refine yz ?_|refine xz ?_|refine yj ‹_› ?_|refine zw ‹_› ?_|refine yx ‹_› ?_|refine yq ‹_› ?_|refine zZ ?_|refine yy ?_|refine yv ?_|refine zq ?_|refine zY (fun Q hQ=>by (conv=>whnf);exact hQ) ?_|refine zj (fun Q hQ=>by (conv=>whnf);exact hQ) ?_|(apply yk;(·intro _ _ hy;(conv=>whnf);exact hy);(·intro Q hQ;(conv=>whnf);repeat(first|exact hQ|((first|refine xw (by first|rfl|assumption) ?_|refine xx (by first|rfl|assumption) ?_|refine zy ?_|refine zx ?_|unfold yZ);(conv=>whnf))));(·intro Q hQ;(conv=>whnf);exact hQ))|(apply yY;(·intro _ _ hy;(conv=>whnf);exact hy);(·intro Q hQ;(conv=>whnf);exact hQ)))
  conv=>whnf
  repeat (unfold yZ;conv=>whnf)
  rw [hQ7]
  conv=>whnf
  clear hQ7 hK7
  repeat(first|((first|refine yw ?_|refine zX ?_|refine yX ?_|refine zk ?_);intro _ _)|refine yz ?_|refine xz ?_|refine yj ‹_› ?_|refine zw ‹_› ?_|refine yx ‹_› ?_|refine yq ‹_› ?_|refine zZ ?_|refine yy ?_|refine yv ?_|refine zq ?_|refine zY (fun Q hQ=>by (conv=>whnf);exact hQ) ?_|refine zj (fun Q hQ=>by (conv=>whnf);exact hQ) ?_|(apply yk;(·intro _ _ hy;(conv=>whnf);exact hy);(·intro Q hQ;(conv=>whnf);repeat(first|exact hQ|((first|refine xw (by first|rfl|assumption) ?_|refine xx (by first|rfl|assumption) ?_|refine zy ?_|refine zx ?_|unfold yZ);(conv=>whnf))));(·intro Q hQ;(conv=>whnf);exact hQ))|(apply yY;(·intro _ _ hy;(conv=>whnf);exact hy);(·intro Q hQ;(conv=>whnf);exact hQ)))
  repeat(first|(apply xk;(·exact rfl);(·exact rfl);(·intro _ _ hy;(conv=>whnf);exact hy);(·exact rfl);(·intro Q hQ;(conv=>whnf);repeat(first|exact hQ|((first|refine xw (by first|rfl|assumption) ?_|refine xx (by first|rfl|assumption) ?_|refine zy ?_|refine zx ?_|unfold yZ);(conv=>whnf))));(·intro Q hQ;(conv=>whnf);exact hQ))|(apply xX;(·exact rfl);(·exact rfl);(·intro _ _ hy;(conv=>whnf);exact hy);(·exact rfl);(·intro Q hQ;(conv=>whnf);repeat(first|exact hQ|((first|refine xw (by first|rfl|assumption) ?_|refine xx (by first|rfl|assumption) ?_|refine zy ?_|refine zx ?_|unfold yZ);(conv=>whnf))));(·intro Q hQ;(conv=>whnf);exact hQ);intro _)|(apply xY;(·exact rfl);(·exact rfl);(·intro _ _ hy;(conv=>whnf);exact hy);(·intro Q hQ;(conv=>whnf);exact hQ))|refine xZ ?_)
  apply wz
  ·exact rfl
  ·exact rfl
  ·(intro _ _ hy;(conv=>whnf);exact hy)
  ·exact rfl
  ·kernel_rfl
  ·(intro Q hQ;exact hQ)
  intro Q hQ
  conv=>whnf
  refine get_run (LV.mk (e:=40) (fl:=.rw) rfl (Nat.le_refl _)) okM.lt _ ?_
  rw [hQ]
  conv=>whnf
  repeat(first|(apply xk;(·exact rfl);(·exact rfl);(·intro _ _ hy;(conv=>whnf);exact hy);(·exact rfl);(·intro Q hQ;(conv=>whnf);repeat(first|exact hQ|((first|refine xw (by first|rfl|assumption) ?_|refine xx (by first|rfl|assumption) ?_|refine zy ?_|refine zx ?_|unfold yZ);(conv=>whnf))));(·intro Q hQ;(conv=>whnf);exact hQ))|(apply xX;(·exact rfl);(·exact rfl);(·intro _ _ hy;(conv=>whnf);exact hy);(·exact rfl);(·intro Q hQ;(conv=>whnf);repeat(first|exact hQ|((first|refine xw (by first|rfl|assumption) ?_|refine xx (by first|rfl|assumption) ?_|refine zy ?_|refine zx ?_|unfold yZ);(conv=>whnf))));(·intro Q hQ;(conv=>whnf);exact hQ);intro _)|(apply xY;(·exact rfl);(·exact rfl);(·intro _ _ hy;(conv=>whnf);exact hy);(·intro Q hQ;(conv=>whnf);exact hQ))|refine xZ ?_)
  apply wz
  ·exact rfl
  ·exact rfl
  ·(intro _ _ hy;(conv=>whnf);exact hy)
  ·exact rfl
  ·kernel_rfl
  ·(intro Q hQ;exact hQ)
  intro Q hQ
  conv=>whnf
  refine get_run (LV.mk (e:=40) (fl:=.rw) rfl (Nat.le_refl _)) okS.lt _ ?_
  rw [hQ]
  conv=>whnf
  repeat(first|(apply xk;(·exact rfl);(·exact rfl);(·intro _ _ hy;(conv=>whnf);exact hy);(·exact rfl);(·intro Q hQ;(conv=>whnf);repeat(first|exact hQ|((first|refine xw (by first|rfl|assumption) ?_|refine xx (by first|rfl|assumption) ?_|refine zy ?_|refine zx ?_|unfold yZ);(conv=>whnf))));(·intro Q hQ;(conv=>whnf);exact hQ))|(apply xX;(·exact rfl);(·exact rfl);(·intro _ _ hy;(conv=>whnf);exact hy);(·exact rfl);(·intro Q hQ;(conv=>whnf);repeat(first|exact hQ|((first|refine xw (by first|rfl|assumption) ?_|refine xx (by first|rfl|assumption) ?_|refine zy ?_|refine zx ?_|unfold yZ);(conv=>whnf))));(·intro Q hQ;(conv=>whnf);exact hQ);intro _)|(apply xY;(·exact rfl);(·exact rfl);(·intro _ _ hy;(conv=>whnf);exact hy);(·intro Q hQ;(conv=>whnf);exact hQ))|refine xZ ?_)
  refine ww ‹_› ?_
  repeat (first
   | refine wY (by first|(simp;done)|(intro c hc;simp at hc;rcases hc with rfl|rfl|rfl <;> exact ⟨rfl,rfl⟩)|(intro c hc;simp at hc;rcases hc with rfl|rfl <;> exact ⟨rfl,rfl⟩)|(intro c hc;simp at hc;rcases hc with rfl;exact ⟨rfl,rfl⟩)) ‹_› (by first|exact vq _|exact vj _ _|exact vv _ _ _ _ _ _|exact vy _ _|exact vw _|rfl) (by first|exact .inl rfl|exact .inr rfl) ?_
   | refine wZ (.inl (by first|rfl|kernel_rfl)) (.inr ‹_›) (by first|exact vq _|exact vj _ _|exact vv _ _ _ _ _ _|exact vy _ _|exact vw _|rfl) ?_
   | refine vz ?_)
  conv=>whnf
  repeat(first|((first|refine yw ?_|refine zX ?_|refine yX ?_|refine zk ?_);intro _ _)|refine yz ?_|refine xz ?_|refine yj ‹_› ?_|refine zw ‹_› ?_|refine yx ‹_› ?_|refine yq ‹_› ?_|refine zZ ?_|refine yy ?_|refine yv ?_|refine zq ?_|refine zY (fun Q hQ=>by (conv=>whnf);exact hQ) ?_|refine zj (fun Q hQ=>by (conv=>whnf);exact hQ) ?_|(apply yk;(·intro _ _ hy;(conv=>whnf);exact hy);(·intro Q hQ;(conv=>whnf);repeat(first|exact hQ|((first|refine xw (by first|rfl|assumption) ?_|refine xx (by first|rfl|assumption) ?_|refine zy ?_|refine zx ?_|unfold yZ);(conv=>whnf))));(·intro Q hQ;(conv=>whnf);exact hQ))|(apply yY;(·intro _ _ hy;(conv=>whnf);exact hy);(·intro Q hQ;(conv=>whnf);exact hQ)))
  refine LP.induct0 (ownS sk).length (fun j E=>j ≤ (ownS sk).length∧Fits E 0 [sl E 0,sl E 1,sl E 2,sl E 3,sl E 4,.ptr (ngl+9) 0,sl E 6,.slice (ngl+10) 0 (ownS sk).length (ownS sk).length 2 false,sl E 8,.ptr (ngl+16) 0,sl E 10,sl E 11,sl E 12,sl E 13,sl E 14,sl E 15,sl E 16,sl E 17,sl E 18,sl E 19,sl E 20,sl E 21,sl E 22,sl E 23,sl E 24,sl E 25,sl E 26,sl E 27,sl E 28,sl E 29,sl E 30,sl E 31,sl E 32,sl E 33,sl E 34,sl E 35,sl E 36,sl E 37,sl E 38,sl E 39,sl E 40,sl E 41,sl E 42,sl E 43,sl E 44,sl E 45,sl E 46,sl E 47,sl E 48,sl E 49,sl E 50,sl E 51,sl E 52,sl E 53,sl E 54,sl E 55,sl E 56,sl E 57,sl E 58,.slice (ngl+10) 0 (ownS sk).length (ownS sk).length 2 false,.int .i64 (.ofNat (ownS sk).length),.int .i64 (.ofNat j),sl E 62,sl E 63,sl E 64,sl E 65,sl E 66,sl E 67,sl E 68,sl E 69,sl E 70,sl E 71,sl E 72,sl E 73,sl E 74,sl E 75,sl E 76,sl E 77,sl E 78,sl E 79,sl E 80,sl E 81,sl E 82,sl E 83,sl E 84,sl E 85,sl E 86,sl E 87,sl E 88,sl E 89,sl E 90,sl E 91,sl E 92,sl E 93,sl E 94,sl E 95,sl E 96,sl E 97,sl E 98,sl E 99,sl E 100,sl E 101,sl E 102,sl E 103,sl E 104,sl E 105,sl E 106,sl E 107,sl E 108,sl E 109,sl E 110,sl E 111,sl E 112,sl E 113,sl E 114,sl E 115,sl E 116,sl E 117,sl E 118,sl E 119]) ⟨Nat.zero_le _,⟨zz rfl,zz rfl,zz rfl,zz rfl,zz rfl,rfl,zz rfl,rfl,zz rfl,rfl,zz rfl,zz rfl,zz rfl,zz rfl,zz rfl,zz rfl,zz rfl,zz rfl,zz rfl,zz rfl,zz rfl,zz rfl,zz rfl,zz rfl,zz rfl,zz rfl,zz rfl,zz rfl,zz rfl,zz rfl,zz rfl,zz rfl,zz rfl,zz rfl,zz rfl,zz rfl,zz rfl,zz rfl,zz rfl,zz rfl,zz rfl,zz rfl,zz rfl,zz rfl,zz rfl,zz rfl,zz rfl,zz rfl,zz rfl,zz rfl,zz rfl,zz rfl,zz rfl,zz rfl,zz rfl,zz rfl,zz rfl,zz rfl,zz rfl,rfl,rfl,rfl,zz rfl,zz rfl,zz rfl,zz rfl,zz rfl,zz rfl,zz rfl,zz rfl,zz rfl,zz rfl,zz rfl,zz rfl,zz rfl,zz rfl,zz rfl,zz rfl,zz rfl,zz rfl,zz rfl,zz rfl,zz rfl,zz rfl,zz rfl,zz rfl,zz rfl,zz rfl,zz rfl,zz rfl,zz rfl,zz rfl,zz rfl,zz rfl,zz rfl,zz rfl,zz rfl,zz rfl,zz rfl,zz rfl,zz rfl,zz rfl,zz rfl,zz rfl,zz rfl,zz rfl,zz rfl,zz rfl,zz rfl,zz rfl,zz rfl,zz rfl,zz rfl,zz rfl,zz rfl,zz rfl,zz rfl,zz rfl,zz rfl,zz rfl,trivial⟩⟩ ?_
  intro j E ⟨hjl,hf⟩ ih
  refine LP.tree hf (⟨some (sl E 0),⟨some (sl E 1),⟨some (.ptr (ngl+9) 0),⟨some (sl E 21),⟨some (sl E 85),(),(),(),()⟩,z0,z0,z0⟩,⟨some (sl E 37),⟨some (sl E 101),(),(),(),()⟩,z0,z0,z0⟩,⟨some (sl E 53),⟨some (sl E 117),(),(),(),()⟩,z0,z0,z0⟩,⟨some (sl E 69),z0,z0,z0,z0⟩⟩,⟨some (.ptr (ngl+16) 0),⟨some (sl E 25),⟨some (sl E 89),(),(),(),()⟩,z0,z0,z0⟩,⟨some (sl E 41),⟨some (sl E 105),(),(),(),()⟩,z0,z0,z0⟩,⟨some (sl E 57),z0,z0,z0,z0⟩,⟨some (sl E 73),z0,z0,z0,z0⟩⟩,⟨some (sl E 13),⟨some (sl E 29),⟨some (sl E 93),(),(),(),()⟩,z0,z0,z0⟩,⟨some (sl E 45),⟨some (sl E 109),(),(),(),()⟩,z0,z0,z0⟩,⟨some (.int .i64 (.ofNat j)),z0,z0,z0,z0⟩,⟨some (sl E 77),z0,z0,z0,z0⟩⟩,⟨some (sl E 17),⟨some (sl E 33),⟨some (sl E 97),(),(),(),()⟩,z0,z0,z0⟩,⟨some (sl E 49),⟨some (sl E 113),(),(),(),()⟩,z0,z0,z0⟩,⟨some (sl E 65),z0,z0,z0,z0⟩,⟨some (sl E 81),z0,z0,z0,z0⟩⟩⟩,⟨some (sl E 2),⟨some (sl E 6),⟨some (sl E 22),⟨some (sl E 86),(),(),(),()⟩,z0,z0,z0⟩,⟨some (sl E 38),⟨some (sl E 102),(),(),(),()⟩,z0,z0,z0⟩,⟨some (sl E 54),⟨some (sl E 118),(),(),(),()⟩,z0,z0,z0⟩,⟨some (sl E 70),z0,z0,z0,z0⟩⟩,⟨some (sl E 10),⟨some (sl E 26),⟨some (sl E 90),(),(),(),()⟩,z0,z0,z0⟩,⟨some (sl E 42),⟨some (sl E 106),(),(),(),()⟩,z0,z0,z0⟩,⟨some (sl E 58),z0,z0,z0,z0⟩,⟨some (sl E 74),z0,z0,z0,z0⟩⟩,⟨some (sl E 14),⟨some (sl E 30),⟨some (sl E 94),(),(),(),()⟩,z0,z0,z0⟩,⟨some (sl E 46),⟨some (sl E 110),(),(),(),()⟩,z0,z0,z0⟩,⟨some (sl E 62),z0,z0,z0,z0⟩,⟨some (sl E 78),z0,z0,z0,z0⟩⟩,⟨some (sl E 18),⟨some (sl E 34),⟨some (sl E 98),(),(),(),()⟩,z0,z0,z0⟩,⟨some (sl E 50),⟨some (sl E 114),(),(),(),()⟩,z0,z0,z0⟩,⟨some (sl E 66),z0,z0,z0,z0⟩,⟨some (sl E 82),z0,z0,z0,z0⟩⟩⟩,⟨some (sl E 3),⟨some (.slice (ngl+10) 0 (ownS sk).length (ownS sk).length 2 false),⟨some (sl E 23),⟨some (sl E 87),(),(),(),()⟩,z0,z0,z0⟩,⟨some (sl E 39),⟨some (sl E 103),(),(),(),()⟩,z0,z0,z0⟩,⟨some (sl E 55),⟨some (sl E 119),(),(),(),()⟩,z0,z0,z0⟩,⟨some (sl E 71),z0,z0,z0,z0⟩⟩,⟨some (sl E 11),⟨some (sl E 27),⟨some (sl E 91),(),(),(),()⟩,z0,z0,z0⟩,⟨some (sl E 43),⟨some (sl E 107),(),(),(),()⟩,z0,z0,z0⟩,⟨some (.slice (ngl+10) 0 (ownS sk).length (ownS sk).length 2 false),z0,z0,z0,z0⟩,⟨some (sl E 75),z0,z0,z0,z0⟩⟩,⟨some (sl E 15),⟨some (sl E 31),⟨some (sl E 95),(),(),(),()⟩,z0,z0,z0⟩,⟨some (sl E 47),⟨some (sl E 111),(),(),(),()⟩,z0,z0,z0⟩,⟨some (sl E 63),z0,z0,z0,z0⟩,⟨some (sl E 79),z0,z0,z0,z0⟩⟩,⟨some (sl E 19),⟨some (sl E 35),⟨some (sl E 99),(),(),(),()⟩,z0,z0,z0⟩,⟨some (sl E 51),⟨some (sl E 115),(),(),(),()⟩,z0,z0,z0⟩,⟨some (sl E 67),z0,z0,z0,z0⟩,⟨some (sl E 83),z0,z0,z0,z0⟩⟩⟩,⟨some (sl E 4),⟨some (sl E 8),⟨some (sl E 24),⟨some (sl E 88),(),(),(),()⟩,z0,z0,z0⟩,⟨some (sl E 40),⟨some (sl E 104),(),(),(),()⟩,z0,z0,z0⟩,⟨some (sl E 56),z0,z0,z0,z0⟩,⟨some (sl E 72),z0,z0,z0,z0⟩⟩,⟨some (sl E 12),⟨some (sl E 28),⟨some (sl E 92),(),(),(),()⟩,z0,z0,z0⟩,⟨some (sl E 44),⟨some (sl E 108),(),(),(),()⟩,z0,z0,z0⟩,⟨some (.int .i64 (.ofNat (ownS sk).length)),z0,z0,z0,z0⟩,⟨some (sl E 76),z0,z0,z0,z0⟩⟩,⟨some (sl E 16),⟨some (sl E 32),⟨some (sl E 96),(),(),(),()⟩,z0,z0,z0⟩,⟨some (sl E 48),⟨some (sl E 112),(),(),(),()⟩,z0,z0,z0⟩,⟨some (sl E 64),z0,z0,z0,z0⟩,⟨some (sl E 80),z0,z0,z0,z0⟩⟩,⟨some (sl E 20),⟨some (sl E 36),⟨some (sl E 100),(),(),(),()⟩,z0,z0,z0⟩,⟨some (sl E 52),⟨some (sl E 116),(),(),(),()⟩,z0,z0,z0⟩,⟨some (sl E 68),z0,z0,z0,z0⟩,⟨some (sl E 84),z0,z0,z0,z0⟩⟩⟩⟩) (by kernel_rfl) (LP.gc' mixed fun _ _=>?_)
  clear hf
  cases hb:ltI (.ofNat j) (.ofNat (ownS sk).length)
  ·clear ih
   repeat(first|((first|refine yw ?_|refine zX ?_|refine yX ?_|refine zk ?_);intro _ _)|refine yz ?_|refine xz ?_|refine yj ‹_› ?_|refine zw ‹_› ?_|refine yx ‹_› ?_|refine yq ‹_› ?_|refine zZ ?_|refine yy ?_|refine yv ?_|refine zq ?_|refine zY (fun Q hQ=>by (conv=>whnf);exact hQ) ?_|refine zj (fun Q hQ=>by (conv=>whnf);exact hQ) ?_|(apply yk;(·intro _ _ hy;(conv=>whnf);exact hy);(·intro Q hQ;(conv=>whnf);repeat(first|exact hQ|((first|refine xw (by first|rfl|assumption) ?_|refine xx (by first|rfl|assumption) ?_|refine zy ?_|refine zx ?_|unfold yZ);(conv=>whnf))));(·intro Q hQ;(conv=>whnf);exact hQ))|(apply yY;(·intro _ _ hy;(conv=>whnf);exact hy);(·intro Q hQ;(conv=>whnf);exact hQ)))
   conv=>whnf
   repeat(first|((first|refine yw ?_|refine zX ?_|refine yX ?_|refine zk ?_);intro _ _)|refine yz ?_|refine xz ?_|refine yj ‹_› ?_|refine zw ‹_› ?_|refine yx ‹_› ?_|refine yq ‹_› ?_|refine zZ ?_|refine yy ?_|refine yv ?_|refine zq ?_|refine zY (fun Q hQ=>by (conv=>whnf);exact hQ) ?_|refine zj (fun Q hQ=>by (conv=>whnf);exact hQ) ?_|(apply yk;(·intro _ _ hy;(conv=>whnf);exact hy);(·intro Q hQ;(conv=>whnf);repeat(first|exact hQ|((first|refine xw (by first|rfl|assumption) ?_|refine xx (by first|rfl|assumption) ?_|refine zy ?_|refine zx ?_|unfold yZ);(conv=>whnf))));(·intro Q hQ;(conv=>whnf);exact hQ))|(apply yY;(·intro _ _ hy;(conv=>whnf);exact hy);(·intro Q hQ;(conv=>whnf);exact hQ)))
   refine LP.induct0 sm.length (fun j E=>j ≤ sm.length∧Fits E 0 [sl E 0,sl E 1,sl E 2,sl E 3,sl E 4,.ptr (ngl+9) 0,sl E 6,.slice (ngl+10) 0 (ownS sk).length (ownS sk).length 2 false,sl E 8,.ptr (ngl+16) 0,sl E 10,sl E 11,sl E 12,sl E 13,sl E 14,sl E 15,sl E 16,sl E 17,sl E 18,sl E 19,sl E 20,sl E 21,sl E 22,sl E 23,sl E 24,sl E 25,sl E 26,sl E 27,sl E 28,sl E 29,sl E 30,sl E 31,sl E 32,sl E 33,sl E 34,sl E 35,sl E 36,sl E 37,sl E 38,sl E 39,sl E 40,sl E 41,sl E 42,sl E 43,sl E 44,sl E 45,sl E 46,sl E 47,sl E 48,sl E 49,sl E 50,sl E 51,sl E 52,sl E 53,sl E 54,sl E 55,sl E 56,sl E 57,sl E 58,sl E 59,sl E 60,sl E 61,sl E 62,sl E 63,sl E 64,sl E 65,sl E 66,sl E 67,sl E 68,sl E 69,sl E 70,sl E 71,sl E 72,sl E 73,sl E 74,.slice (ngl+8) 0 sm.length sm.length 2 false,.int .i64 (.ofNat sm.length),.int .i64 (.ofNat j),sl E 78,sl E 79,sl E 80,sl E 81,sl E 82,sl E 83,sl E 84,sl E 85,sl E 86,sl E 87,sl E 88,sl E 89,sl E 90,sl E 91,sl E 92,sl E 93,sl E 94,sl E 95,sl E 96,sl E 97,sl E 98,sl E 99,sl E 100,sl E 101,sl E 102,sl E 103,sl E 104,sl E 105,sl E 106,sl E 107,sl E 108,sl E 109,sl E 110,sl E 111,sl E 112,sl E 113,sl E 114,sl E 115,sl E 116,sl E 117,sl E 118,sl E 119]) ⟨Nat.zero_le _,⟨zz rfl,zz rfl,zz rfl,zz rfl,zz rfl,rfl,zz rfl,rfl,zz rfl,rfl,zz rfl,zz rfl,zz rfl,zz rfl,zz rfl,zz rfl,zz rfl,zz rfl,zz rfl,zz rfl,zz rfl,zz rfl,zz rfl,zz rfl,zz rfl,zz rfl,zz rfl,zz rfl,zz rfl,zz rfl,zz rfl,zz rfl,zz rfl,zz rfl,zz rfl,zz rfl,zz rfl,zz rfl,zz rfl,zz rfl,zz rfl,zz rfl,zz rfl,zz rfl,zz rfl,zz rfl,zz rfl,zz rfl,zz rfl,zz rfl,zz rfl,zz rfl,zz rfl,zz rfl,zz rfl,zz rfl,zz rfl,zz rfl,zz rfl,zz rfl,zz rfl,zz rfl,zz rfl,zz rfl,zz rfl,zz rfl,zz rfl,zz rfl,zz rfl,zz rfl,zz rfl,zz rfl,zz rfl,zz rfl,zz rfl,rfl,rfl,rfl,zz rfl,zz rfl,zz rfl,zz rfl,zz rfl,zz rfl,zz rfl,zz rfl,zz rfl,zz rfl,zz rfl,zz rfl,zz rfl,zz rfl,zz rfl,zz rfl,zz rfl,zz rfl,zz rfl,zz rfl,zz rfl,zz rfl,zz rfl,zz rfl,zz rfl,zz rfl,zz rfl,zz rfl,zz rfl,zz rfl,zz rfl,zz rfl,zz rfl,zz rfl,zz rfl,zz rfl,zz rfl,zz rfl,zz rfl,zz rfl,zz rfl,zz rfl,trivial⟩⟩ ?_
   intro j E ⟨hjl,hf⟩ ih
   refine LP.tree hf (⟨some (sl E 0),⟨some (sl E 1),⟨some (.ptr (ngl+9) 0),⟨some (sl E 21),⟨some (sl E 85),(),(),(),()⟩,z0,z0,z0⟩,⟨some (sl E 37),⟨some (sl E 101),(),(),(),()⟩,z0,z0,z0⟩,⟨some (sl E 53),⟨some (sl E 117),(),(),(),()⟩,z0,z0,z0⟩,⟨some (sl E 69),z0,z0,z0,z0⟩⟩,⟨some (.ptr (ngl+16) 0),⟨some (sl E 25),⟨some (sl E 89),(),(),(),()⟩,z0,z0,z0⟩,⟨some (sl E 41),⟨some (sl E 105),(),(),(),()⟩,z0,z0,z0⟩,⟨some (sl E 57),z0,z0,z0,z0⟩,⟨some (sl E 73),z0,z0,z0,z0⟩⟩,⟨some (sl E 13),⟨some (sl E 29),⟨some (sl E 93),(),(),(),()⟩,z0,z0,z0⟩,⟨some (sl E 45),⟨some (sl E 109),(),(),(),()⟩,z0,z0,z0⟩,⟨some (sl E 61),z0,z0,z0,z0⟩,⟨some (.int .i64 (.ofNat j)),z0,z0,z0,z0⟩⟩,⟨some (sl E 17),⟨some (sl E 33),⟨some (sl E 97),(),(),(),()⟩,z0,z0,z0⟩,⟨some (sl E 49),⟨some (sl E 113),(),(),(),()⟩,z0,z0,z0⟩,⟨some (sl E 65),z0,z0,z0,z0⟩,⟨some (sl E 81),z0,z0,z0,z0⟩⟩⟩,⟨some (sl E 2),⟨some (sl E 6),⟨some (sl E 22),⟨some (sl E 86),(),(),(),()⟩,z0,z0,z0⟩,⟨some (sl E 38),⟨some (sl E 102),(),(),(),()⟩,z0,z0,z0⟩,⟨some (sl E 54),⟨some (sl E 118),(),(),(),()⟩,z0,z0,z0⟩,⟨some (sl E 70),z0,z0,z0,z0⟩⟩,⟨some (sl E 10),⟨some (sl E 26),⟨some (sl E 90),(),(),(),()⟩,z0,z0,z0⟩,⟨some (sl E 42),⟨some (sl E 106),(),(),(),()⟩,z0,z0,z0⟩,⟨some (sl E 58),z0,z0,z0,z0⟩,⟨some (sl E 74),z0,z0,z0,z0⟩⟩,⟨some (sl E 14),⟨some (sl E 30),⟨some (sl E 94),(),(),(),()⟩,z0,z0,z0⟩,⟨some (sl E 46),⟨some (sl E 110),(),(),(),()⟩,z0,z0,z0⟩,⟨some (sl E 62),z0,z0,z0,z0⟩,⟨some (sl E 78),z0,z0,z0,z0⟩⟩,⟨some (sl E 18),⟨some (sl E 34),⟨some (sl E 98),(),(),(),()⟩,z0,z0,z0⟩,⟨some (sl E 50),⟨some (sl E 114),(),(),(),()⟩,z0,z0,z0⟩,⟨some (sl E 66),z0,z0,z0,z0⟩,⟨some (sl E 82),z0,z0,z0,z0⟩⟩⟩,⟨some (sl E 3),⟨some (.slice (ngl+10) 0 (ownS sk).length (ownS sk).length 2 false),⟨some (sl E 23),⟨some (sl E 87),(),(),(),()⟩,z0,z0,z0⟩,⟨some (sl E 39),⟨some (sl E 103),(),(),(),()⟩,z0,z0,z0⟩,⟨some (sl E 55),⟨some (sl E 119),(),(),(),()⟩,z0,z0,z0⟩,⟨some (sl E 71),z0,z0,z0,z0⟩⟩,⟨some (sl E 11),⟨some (sl E 27),⟨some (sl E 91),(),(),(),()⟩,z0,z0,z0⟩,⟨some (sl E 43),⟨some (sl E 107),(),(),(),()⟩,z0,z0,z0⟩,⟨some (sl E 59),z0,z0,z0,z0⟩,⟨some (.slice (ngl+8) 0 sm.length sm.length 2 false),z0,z0,z0,z0⟩⟩,⟨some (sl E 15),⟨some (sl E 31),⟨some (sl E 95),(),(),(),()⟩,z0,z0,z0⟩,⟨some (sl E 47),⟨some (sl E 111),(),(),(),()⟩,z0,z0,z0⟩,⟨some (sl E 63),z0,z0,z0,z0⟩,⟨some (sl E 79),z0,z0,z0,z0⟩⟩,⟨some (sl E 19),⟨some (sl E 35),⟨some (sl E 99),(),(),(),()⟩,z0,z0,z0⟩,⟨some (sl E 51),⟨some (sl E 115),(),(),(),()⟩,z0,z0,z0⟩,⟨some (sl E 67),z0,z0,z0,z0⟩,⟨some (sl E 83),z0,z0,z0,z0⟩⟩⟩,⟨some (sl E 4),⟨some (sl E 8),⟨some (sl E 24),⟨some (sl E 88),(),(),(),()⟩,z0,z0,z0⟩,⟨some (sl E 40),⟨some (sl E 104),(),(),(),()⟩,z0,z0,z0⟩,⟨some (sl E 56),z0,z0,z0,z0⟩,⟨some (sl E 72),z0,z0,z0,z0⟩⟩,⟨some (sl E 12),⟨some (sl E 28),⟨some (sl E 92),(),(),(),()⟩,z0,z0,z0⟩,⟨some (sl E 44),⟨some (sl E 108),(),(),(),()⟩,z0,z0,z0⟩,⟨some (sl E 60),z0,z0,z0,z0⟩,⟨some (.int .i64 (.ofNat sm.length)),z0,z0,z0,z0⟩⟩,⟨some (sl E 16),⟨some (sl E 32),⟨some (sl E 96),(),(),(),()⟩,z0,z0,z0⟩,⟨some (sl E 48),⟨some (sl E 112),(),(),(),()⟩,z0,z0,z0⟩,⟨some (sl E 64),z0,z0,z0,z0⟩,⟨some (sl E 80),z0,z0,z0,z0⟩⟩,⟨some (sl E 20),⟨some (sl E 36),⟨some (sl E 100),(),(),(),()⟩,z0,z0,z0⟩,⟨some (sl E 52),⟨some (sl E 116),(),(),(),()⟩,z0,z0,z0⟩,⟨some (sl E 68),z0,z0,z0,z0⟩,⟨some (sl E 84),z0,z0,z0,z0⟩⟩⟩⟩) (by kernel_rfl) (LP.gc' mixed fun _ _=>?_)
   clear hf
   cases hb:ltI (.ofNat j) (.ofNat sm.length)
   ·clear ih
    repeat(first|((first|refine yw ?_|refine zX ?_|refine yX ?_|refine zk ?_);intro _ _)|refine yz ?_|refine xz ?_|refine yj ‹_› ?_|refine zw ‹_› ?_|refine yx ‹_› ?_|refine yq ‹_› ?_|refine zZ ?_|refine yy ?_|refine yv ?_|refine zq ?_|refine zY (fun Q hQ=>by (conv=>whnf);exact hQ) ?_|refine zj (fun Q hQ=>by (conv=>whnf);exact hQ) ?_|(apply yk;(·intro _ _ hy;(conv=>whnf);exact hy);(·intro Q hQ;(conv=>whnf);repeat(first|exact hQ|((first|refine xw (by first|rfl|assumption) ?_|refine xx (by first|rfl|assumption) ?_|refine zy ?_|refine zx ?_|unfold yZ);(conv=>whnf))));(·intro Q hQ;(conv=>whnf);exact hQ))|(apply yY;(·intro _ _ hy;(conv=>whnf);exact hy);(·intro Q hQ;(conv=>whnf);exact hQ)))
    conv=>whnf
    repeat(first|((first|refine yw ?_|refine zX ?_|refine yX ?_|refine zk ?_);intro _ _)|refine yz ?_|refine xz ?_|refine yj ‹_› ?_|refine zw ‹_› ?_|refine yx ‹_› ?_|refine yq ‹_› ?_|refine zZ ?_|refine yy ?_|refine yv ?_|refine zq ?_|refine zY (fun Q hQ=>by (conv=>whnf);exact hQ) ?_|refine zj (fun Q hQ=>by (conv=>whnf);exact hQ) ?_|(apply yk;(·intro _ _ hy;(conv=>whnf);exact hy);(·intro Q hQ;(conv=>whnf);repeat(first|exact hQ|((first|refine xw (by first|rfl|assumption) ?_|refine xx (by first|rfl|assumption) ?_|refine zy ?_|refine zx ?_|unfold yZ);(conv=>whnf))));(·intro Q hQ;(conv=>whnf);exact hQ))|(apply yY;(·intro _ _ hy;(conv=>whnf);exact hy);(·intro Q hQ;(conv=>whnf);exact hQ)))
    conv=>whnf
    rw [← hK]
    exact rfl
   ·have hlt:j < sm.length:=by rw [ltI_eq] at hb;simpa using hb
    have hblt:Nat.blt j sm.length=true:=hb
    repeat(first|((first|refine yw ?_|refine zX ?_|refine yX ?_|refine zk ?_);intro _ _)|refine yz ?_|refine xz ?_|refine yj ‹_› ?_|refine zw ‹_› ?_|refine yx ‹_› ?_|refine yq ‹_› ?_|refine zZ ?_|refine yy ?_|refine yv ?_|refine zq ?_|refine zY (fun Q hQ=>by (conv=>whnf);exact hQ) ?_|refine zj (fun Q hQ=>by (conv=>whnf);exact hQ) ?_|(apply yk;(·intro _ _ hy;(conv=>whnf);exact hy);(·intro Q hQ;(conv=>whnf);repeat(first|exact hQ|((first|refine xw (by first|rfl|assumption) ?_|refine xx (by first|rfl|assumption) ?_|refine zy ?_|refine zx ?_|unfold yZ);(conv=>whnf))));(·intro Q hQ;(conv=>whnf);exact hQ))|(apply yY;(·intro _ _ hy;(conv=>whnf);exact hy);(·intro Q hQ;(conv=>whnf);exact hQ)))
    apply yk
    ·(intro _ _ hy;(conv=>whnf);exact hy)
    ·intro Q hQ
     conv=>whnf
     refine bcase (fun _=>?_) (fun h=>absurd (h.symm.trans hblt) (by simp))
     conv=>whnf
     repeat(first|exact hQ|((first|refine xw (by first|rfl|assumption) ?_|refine xx (by first|rfl|assumption) ?_|refine zy ?_|refine zx ?_);(conv=>whnf)))
    ·(intro Q hQ;(conv=>whnf);exact hQ)
    repeat(first|((first|refine yw ?_|refine zX ?_|refine yX ?_|refine zk ?_);intro _ _)|refine yz ?_|refine xz ?_|refine yj ‹_› ?_|refine zw ‹_› ?_|refine yx ‹_› ?_|refine yq ‹_› ?_|refine zZ ?_|refine yy ?_|refine yv ?_|refine zq ?_|refine zY (fun Q hQ=>by (conv=>whnf);exact hQ) ?_|refine zj (fun Q hQ=>by (conv=>whnf);exact hQ) ?_|(apply yk;(·intro _ _ hy;(conv=>whnf);exact hy);(·intro Q hQ;(conv=>whnf);repeat(first|exact hQ|((first|refine xw (by first|rfl|assumption) ?_|refine xx (by first|rfl|assumption) ?_|refine zy ?_|refine zx ?_|unfold yZ);(conv=>whnf))));(·intro Q hQ;(conv=>whnf);exact hQ))|(apply yY;(·intro _ _ hy;(conv=>whnf);exact hy);(·intro Q hQ;(conv=>whnf);exact hQ)))
    apply yk
    ·(intro _ _ hy;(conv=>whnf);exact hy)
    ·intro Q hQ
     conv=>whnf
     refine partK_lab agg40 hi40 hs40 (j:=j) (List.getElem?_eq_getElem hlt) (show 0+j * 2=2 * j by omega) ?_
     exact hQ
    ·(intro Q hQ;(conv=>whnf);exact hQ)
    repeat(first|((first|refine yw ?_|refine zX ?_|refine yX ?_|refine zk ?_);intro _ _)|refine yz ?_|refine xz ?_|refine yj ‹_› ?_|refine zw ‹_› ?_|refine yx ‹_› ?_|refine yq ‹_› ?_|refine zZ ?_|refine yy ?_|refine yv ?_|refine zq ?_|refine zY (fun Q hQ=>by (conv=>whnf);exact hQ) ?_|refine zj (fun Q hQ=>by (conv=>whnf);exact hQ) ?_|(apply yk;(·intro _ _ hy;(conv=>whnf);exact hy);(·intro Q hQ;(conv=>whnf);repeat(first|exact hQ|((first|refine xw (by first|rfl|assumption) ?_|refine xx (by first|rfl|assumption) ?_|refine zy ?_|refine zx ?_|unfold yZ);(conv=>whnf))));(·intro Q hQ;(conv=>whnf);exact hQ))|(apply yY;(·intro _ _ hy;(conv=>whnf);exact hy);(·intro Q hQ;(conv=>whnf);exact hQ)))
    apply xq
    ·(intro _ _ hy;(conv=>whnf);exact hy)
    intro Q hQ
    conv=>whnf
    refine hidX (okS.name _ (List.getElem_mem hlt)) ?_
    rw [hQ]
    conv=>whnf
    cases hh:hid sm[j].1
    ·have hvis:hid sm[j].1=false ∨ sm[j].1=nameN:=.inl hh
     by_cases hg:getL sm[j].1 (ownS sk)=[]
     ·have heg:eqS (getL sm[j].1 (ownS sk)) []=true:=by rw [hg];rfl
      have heM:eqS (getL sm[j].1 M) sm[j].2=true:=by rw [hsmp _ (List.getElem_mem hlt) hg hvis];exact eqS_self _
      repeat(first|((first|refine yw ?_|refine zX ?_|refine yX ?_|refine zk ?_);intro _ _)|refine yz ?_|refine xz ?_|refine yj ‹_› ?_|refine zw ‹_› ?_|refine yx ‹_› ?_|refine yq ‹_› ?_|refine zZ ?_|refine yy ?_|refine yv ?_|refine zq ?_|refine zY (fun Q hQ=>by (conv=>whnf);exact hQ) ?_|refine zj (fun Q hQ=>by (conv=>whnf);exact hQ) ?_|(apply yk;(·intro _ _ hy;(conv=>whnf);exact hy);(·intro Q hQ;(conv=>whnf);repeat(first|exact hQ|((first|refine xw (by first|rfl|assumption) ?_|refine xx (by first|rfl|assumption) ?_|refine zy ?_|refine zx ?_|unfold yZ);(conv=>whnf))));(·intro Q hQ;(conv=>whnf);exact hQ))|(apply yY;(·intro _ _ hy;(conv=>whnf);exact hy);(·intro Q hQ;(conv=>whnf);exact hQ)))
      repeat(first|(apply xk;(·exact rfl);(·exact rfl);(·intro _ _ hy;(conv=>whnf);exact hy);(·exact rfl);(·intro Q hQ;(conv=>whnf);repeat(first|exact hQ|((first|refine xw (by first|rfl|assumption) ?_|refine xx (by first|rfl|assumption) ?_|refine zy ?_|refine zx ?_|unfold yZ);(conv=>whnf))));(·intro Q hQ;(conv=>whnf);exact hQ))|(apply xX;(·exact rfl);(·exact rfl);(·intro _ _ hy;(conv=>whnf);exact hy);(·exact rfl);(·intro Q hQ;(conv=>whnf);repeat(first|exact hQ|((first|refine xw (by first|rfl|assumption) ?_|refine xx (by first|rfl|assumption) ?_|refine zy ?_|refine zx ?_|unfold yZ);(conv=>whnf))));(·intro Q hQ;(conv=>whnf);exact hQ);intro _)|(apply xY;(·exact rfl);(·exact rfl);(·intro _ _ hy;(conv=>whnf);exact hy);(·intro Q hQ;(conv=>whnf);exact hQ))|refine xZ ?_)
      apply wz
      ·exact rfl
      ·exact rfl
      ·(intro _ _ hy;(conv=>whnf);exact hy)
      ·exact rfl
      ·kernel_rfl
      ·(intro Q hQ;exact hQ)
      intro Q hQ
      conv=>whnf
      refine get_run (LV.mk (e:=40) (fl:=.rw) rfl (Nat.le_refl _)) (ownS_ok sk).lt _ ?_
      rw [hQ]
      conv=>whnf
      repeat(first|(apply xk;(·exact rfl);(·exact rfl);(·intro _ _ hy;(conv=>whnf);exact hy);(·exact rfl);(·intro Q hQ;(conv=>whnf);repeat(first|exact hQ|((first|refine xw (by first|rfl|assumption) ?_|refine xx (by first|rfl|assumption) ?_|refine zy ?_|refine zx ?_|unfold yZ);(conv=>whnf))));(·intro Q hQ;(conv=>whnf);exact hQ))|(apply xX;(·exact rfl);(·exact rfl);(·intro _ _ hy;(conv=>whnf);exact hy);(·exact rfl);(·intro Q hQ;(conv=>whnf);repeat(first|exact hQ|((first|refine xw (by first|rfl|assumption) ?_|refine xx (by first|rfl|assumption) ?_|refine zy ?_|refine zx ?_|unfold yZ);(conv=>whnf))));(·intro Q hQ;(conv=>whnf);exact hQ);intro _)|(apply xY;(·exact rfl);(·exact rfl);(·intro _ _ hy;(conv=>whnf);exact hy);(·intro Q hQ;(conv=>whnf);exact hQ))|refine xZ ?_)
      apply wz
      ·exact rfl
      ·exact rfl
      ·(intro _ _ hy;(conv=>whnf);exact hy)
      ·exact rfl
      ·kernel_rfl
      ·(intro Q hQ;exact hQ)
      intro Q hQ
      conv=>whnf
      refine get_run (LV.mk (e:=40) (fl:=.rw) rfl (Nat.le_refl _)) okM.lt _ ?_
      rw [hQ]
      conv=>whnf
      repeat(first|(apply xk;(·exact rfl);(·exact rfl);(·intro _ _ hy;(conv=>whnf);exact hy);(·exact rfl);(·intro Q hQ;(conv=>whnf);repeat(first|exact hQ|((first|refine xw (by first|rfl|assumption) ?_|refine xx (by first|rfl|assumption) ?_|refine zy ?_|refine zx ?_|unfold yZ);(conv=>whnf))));(·intro Q hQ;(conv=>whnf);exact hQ))|(apply xX;(·exact rfl);(·exact rfl);(·intro _ _ hy;(conv=>whnf);exact hy);(·exact rfl);(·intro Q hQ;(conv=>whnf);repeat(first|exact hQ|((first|refine xw (by first|rfl|assumption) ?_|refine xx (by first|rfl|assumption) ?_|refine zy ?_|refine zx ?_|unfold yZ);(conv=>whnf))));(·intro Q hQ;(conv=>whnf);exact hQ);intro _)|(apply xY;(·exact rfl);(·exact rfl);(·intro _ _ hy;(conv=>whnf);exact hy);(·intro Q hQ;(conv=>whnf);exact hQ))|refine xZ ?_)
      refine ww ‹_› ?_
      repeat (first
       | refine wY (by first|(simp;done)|(intro c hc;simp at hc;rcases hc with rfl|rfl|rfl <;> exact ⟨rfl,rfl⟩)|(intro c hc;simp at hc;rcases hc with rfl|rfl <;> exact ⟨rfl,rfl⟩)|(intro c hc;simp at hc;rcases hc with rfl;exact ⟨rfl,rfl⟩)) ‹_› (by first|exact vq _|exact vj _ _|exact vv _ _ _ _ _ _|exact vy _ _|exact vw _|rfl) (by first|exact .inl rfl|exact .inr rfl) ?_
       | refine wZ (.inl (by first|rfl|kernel_rfl)) (.inr ‹_›) (by first|exact vq _|exact vj _ _|exact vv _ _ _ _ _ _|exact vy _ _|exact vw _|rfl) ?_
       | refine vz ?_)
      conv=>whnf
      repeat(first|((first|refine yw ?_|refine zX ?_|refine yX ?_|refine zk ?_);intro _ _)|refine yz ?_|refine xz ?_|refine yj ‹_› ?_|refine zw ‹_› ?_|refine yx ‹_› ?_|refine yq ‹_› ?_|refine zZ ?_|refine yy ?_|refine yv ?_|refine zq ?_|refine zY (fun Q hQ=>by (conv=>whnf);exact hQ) ?_|refine zj (fun Q hQ=>by (conv=>whnf);exact hQ) ?_|(apply yk;(·intro _ _ hy;(conv=>whnf);exact hy);(·intro Q hQ;(conv=>whnf);repeat(first|exact hQ|((first|refine xw (by first|rfl|assumption) ?_|refine xx (by first|rfl|assumption) ?_|refine zy ?_|refine zx ?_|unfold yZ);(conv=>whnf))));(·intro Q hQ;(conv=>whnf);exact hQ))|(apply yY;(·intro _ _ hy;(conv=>whnf);exact hy);(·intro Q hQ;(conv=>whnf);exact hQ)))
      apply yk
      ·(intro _ _ hy;(conv=>whnf);exact hy)
      ·intro Q hQ
       conv=>whnf
       refine wq (j+1) rfl (by have:=okS.few;show j+1 ≤ 9223372036854775807;omega) ?_
       exact hQ
      ·(intro Q hQ;(conv=>whnf);exact hQ)
      repeat(first|((first|refine yw ?_|refine zX ?_|refine yX ?_|refine zk ?_);intro _ _)|refine yz ?_|refine xz ?_|refine yj ‹_› ?_|refine zw ‹_› ?_|refine yx ‹_› ?_|refine yq ‹_› ?_|refine zZ ?_|refine yy ?_|refine yv ?_|refine zq ?_|refine zY (fun Q hQ=>by (conv=>whnf);exact hQ) ?_|refine zj (fun Q hQ=>by (conv=>whnf);exact hQ) ?_|(apply yk;(·intro _ _ hy;(conv=>whnf);exact hy);(·intro Q hQ;(conv=>whnf);repeat(first|exact hQ|((first|refine xw (by first|rfl|assumption) ?_|refine xx (by first|rfl|assumption) ?_|refine zy ?_|refine zx ?_|unfold yZ);(conv=>whnf))));(·intro Q hQ;(conv=>whnf);exact hQ))|(apply yY;(·intro _ _ hy;(conv=>whnf);exact hy);(·intro Q hQ;(conv=>whnf);exact hQ)))
      refine ⟨_,⟨Nat.le_of_ble_eq_true (by kernel_rfl),?_⟩,rfl,ih _ hlt ⟨by omega,?_⟩⟩
      ·
       repeat' (first
        | exact trivial
        | exact Nat.le_of_ble_eq_true (by kernel_rfl)
        | exact ⟨_,rfl,.cells (wv _) (.inl rfl)⟩
        | exact ⟨_,rfl,.cells (VIs_clean (by kernel_rfl)) (.inl rfl)⟩
        | apply And.intro)
      ·exact ⟨zz rfl,zz rfl,zz rfl,zz rfl,zz rfl,rfl,zz rfl,rfl,zz rfl,rfl,zz rfl,zz rfl,zz rfl,zz rfl,zz rfl,zz rfl,zz rfl,zz rfl,zz rfl,zz rfl,zz rfl,zz rfl,zz rfl,zz rfl,zz rfl,zz rfl,zz rfl,zz rfl,zz rfl,zz rfl,zz rfl,zz rfl,zz rfl,zz rfl,zz rfl,zz rfl,zz rfl,zz rfl,zz rfl,zz rfl,zz rfl,zz rfl,zz rfl,zz rfl,zz rfl,zz rfl,zz rfl,zz rfl,zz rfl,zz rfl,zz rfl,zz rfl,zz rfl,zz rfl,zz rfl,zz rfl,zz rfl,zz rfl,zz rfl,zz rfl,zz rfl,zz rfl,zz rfl,zz rfl,zz rfl,zz rfl,zz rfl,zz rfl,zz rfl,zz rfl,zz rfl,zz rfl,zz rfl,zz rfl,zz rfl,rfl,rfl,rfl,zz rfl,zz rfl,zz rfl,zz rfl,zz rfl,zz rfl,zz rfl,zz rfl,zz rfl,zz rfl,zz rfl,zz rfl,zz rfl,zz rfl,zz rfl,zz rfl,zz rfl,zz rfl,zz rfl,zz rfl,zz rfl,zz rfl,zz rfl,zz rfl,zz rfl,zz rfl,zz rfl,zz rfl,zz rfl,zz rfl,zz rfl,zz rfl,zz rfl,zz rfl,zz rfl,zz rfl,zz rfl,zz rfl,zz rfl,zz rfl,zz rfl,zz rfl,trivial⟩
     ·have heg:eqS (getL sm[j].1 (ownS sk)) []=false:=eqS_ne hg
      repeat(first|((first|refine yw ?_|refine zX ?_|refine yX ?_|refine zk ?_);intro _ _)|refine yz ?_|refine xz ?_|refine yj ‹_› ?_|refine zw ‹_› ?_|refine yx ‹_› ?_|refine yq ‹_› ?_|refine zZ ?_|refine yy ?_|refine yv ?_|refine zq ?_|refine zY (fun Q hQ=>by (conv=>whnf);exact hQ) ?_|refine zj (fun Q hQ=>by (conv=>whnf);exact hQ) ?_|(apply yk;(·intro _ _ hy;(conv=>whnf);exact hy);(·intro Q hQ;(conv=>whnf);repeat(first|exact hQ|((first|refine xw (by first|rfl|assumption) ?_|refine xx (by first|rfl|assumption) ?_|refine zy ?_|refine zx ?_|unfold yZ);(conv=>whnf))));(·intro Q hQ;(conv=>whnf);exact hQ))|(apply yY;(·intro _ _ hy;(conv=>whnf);exact hy);(·intro Q hQ;(conv=>whnf);exact hQ)))
      repeat(first|(apply xk;(·exact rfl);(·exact rfl);(·intro _ _ hy;(conv=>whnf);exact hy);(·exact rfl);(·intro Q hQ;(conv=>whnf);repeat(first|exact hQ|((first|refine xw (by first|rfl|assumption) ?_|refine xx (by first|rfl|assumption) ?_|refine zy ?_|refine zx ?_|unfold yZ);(conv=>whnf))));(·intro Q hQ;(conv=>whnf);exact hQ))|(apply xX;(·exact rfl);(·exact rfl);(·intro _ _ hy;(conv=>whnf);exact hy);(·exact rfl);(·intro Q hQ;(conv=>whnf);repeat(first|exact hQ|((first|refine xw (by first|rfl|assumption) ?_|refine xx (by first|rfl|assumption) ?_|refine zy ?_|refine zx ?_|unfold yZ);(conv=>whnf))));(·intro Q hQ;(conv=>whnf);exact hQ);intro _)|(apply xY;(·exact rfl);(·exact rfl);(·intro _ _ hy;(conv=>whnf);exact hy);(·intro Q hQ;(conv=>whnf);exact hQ))|refine xZ ?_)
      apply wz
      ·exact rfl
      ·exact rfl
      ·(intro _ _ hy;(conv=>whnf);exact hy)
      ·exact rfl
      ·kernel_rfl
      ·(intro Q hQ;exact hQ)
      intro Q hQ
      conv=>whnf
      refine get_run (LV.mk (e:=40) (fl:=.rw) rfl (Nat.le_refl _)) (ownS_ok sk).lt _ ?_
      rw [hQ]
      conv=>whnf
      repeat(first|(apply xk;(·exact rfl);(·exact rfl);(·intro _ _ hy;(conv=>whnf);exact hy);(·exact rfl);(·intro Q hQ;(conv=>whnf);repeat(first|exact hQ|((first|refine xw (by first|rfl|assumption) ?_|refine xx (by first|rfl|assumption) ?_|refine zy ?_|refine zx ?_|unfold yZ);(conv=>whnf))));(·intro Q hQ;(conv=>whnf);exact hQ))|(apply xX;(·exact rfl);(·exact rfl);(·intro _ _ hy;(conv=>whnf);exact hy);(·exact rfl);(·intro Q hQ;(conv=>whnf);repeat(first|exact hQ|((first|refine xw (by first|rfl|assumption) ?_|refine xx (by first|rfl|assumption) ?_|refine zy ?_|refine zx ?_|unfold yZ);(conv=>whnf))));(·intro Q hQ;(conv=>whnf);exact hQ);intro _)|(apply xY;(·exact rfl);(·exact rfl);(·intro _ _ hy;(conv=>whnf);exact hy);(·intro Q hQ;(conv=>whnf);exact hQ))|refine xZ ?_)
      refine ww ‹_› ?_
      repeat (first
       | refine wY (by first|(simp;done)|(intro c hc;simp at hc;rcases hc with rfl|rfl|rfl <;> exact ⟨rfl,rfl⟩)|(intro c hc;simp at hc;rcases hc with rfl|rfl <;> exact ⟨rfl,rfl⟩)|(intro c hc;simp at hc;rcases hc with rfl;exact ⟨rfl,rfl⟩)) ‹_› (by first|exact vq _|exact vj _ _|exact vv _ _ _ _ _ _|exact vy _ _|exact vw _|rfl) (by first|exact .inl rfl|exact .inr rfl) ?_
       | refine wZ (.inl (by first|rfl|kernel_rfl)) (.inr ‹_›) (by first|exact vq _|exact vj _ _|exact vv _ _ _ _ _ _|exact vy _ _|exact vw _|rfl) ?_
       | refine vz ?_)
      conv=>whnf
      repeat(first|((first|refine yw ?_|refine zX ?_|refine yX ?_|refine zk ?_);intro _ _)|refine yz ?_|refine xz ?_|refine yj ‹_› ?_|refine zw ‹_› ?_|refine yx ‹_› ?_|refine yq ‹_› ?_|refine zZ ?_|refine yy ?_|refine yv ?_|refine zq ?_|refine zY (fun Q hQ=>by (conv=>whnf);exact hQ) ?_|refine zj (fun Q hQ=>by (conv=>whnf);exact hQ) ?_|(apply yk;(·intro _ _ hy;(conv=>whnf);exact hy);(·intro Q hQ;(conv=>whnf);repeat(first|exact hQ|((first|refine xw (by first|rfl|assumption) ?_|refine xx (by first|rfl|assumption) ?_|refine zy ?_|refine zx ?_|unfold yZ);(conv=>whnf))));(·intro Q hQ;(conv=>whnf);exact hQ))|(apply yY;(·intro _ _ hy;(conv=>whnf);exact hy);(·intro Q hQ;(conv=>whnf);exact hQ)))
      apply yk
      ·(intro _ _ hy;(conv=>whnf);exact hy)
      ·intro Q hQ
       conv=>whnf
       refine wq (j+1) rfl (by have:=okS.few;show j+1 ≤ 9223372036854775807;omega) ?_
       exact hQ
      ·(intro Q hQ;(conv=>whnf);exact hQ)
      repeat(first|((first|refine yw ?_|refine zX ?_|refine yX ?_|refine zk ?_);intro _ _)|refine yz ?_|refine xz ?_|refine yj ‹_› ?_|refine zw ‹_› ?_|refine yx ‹_› ?_|refine yq ‹_› ?_|refine zZ ?_|refine yy ?_|refine yv ?_|refine zq ?_|refine zY (fun Q hQ=>by (conv=>whnf);exact hQ) ?_|refine zj (fun Q hQ=>by (conv=>whnf);exact hQ) ?_|(apply yk;(·intro _ _ hy;(conv=>whnf);exact hy);(·intro Q hQ;(conv=>whnf);repeat(first|exact hQ|((first|refine xw (by first|rfl|assumption) ?_|refine xx (by first|rfl|assumption) ?_|refine zy ?_|refine zx ?_|unfold yZ);(conv=>whnf))));(·intro Q hQ;(conv=>whnf);exact hQ))|(apply yY;(·intro _ _ hy;(conv=>whnf);exact hy);(·intro Q hQ;(conv=>whnf);exact hQ)))
      refine ⟨_,⟨Nat.le_of_ble_eq_true (by kernel_rfl),?_⟩,rfl,ih _ hlt ⟨by omega,?_⟩⟩
      ·
       repeat' (first
        | exact trivial
        | exact Nat.le_of_ble_eq_true (by kernel_rfl)
        | exact ⟨_,rfl,.cells (wv _) (.inl rfl)⟩
        | exact ⟨_,rfl,.cells (VIs_clean (by kernel_rfl)) (.inl rfl)⟩
        | apply And.intro)
      ·exact ⟨zz rfl,zz rfl,zz rfl,zz rfl,zz rfl,rfl,zz rfl,rfl,zz rfl,rfl,zz rfl,zz rfl,zz rfl,zz rfl,zz rfl,zz rfl,zz rfl,zz rfl,zz rfl,zz rfl,zz rfl,zz rfl,zz rfl,zz rfl,zz rfl,zz rfl,zz rfl,zz rfl,zz rfl,zz rfl,zz rfl,zz rfl,zz rfl,zz rfl,zz rfl,zz rfl,zz rfl,zz rfl,zz rfl,zz rfl,zz rfl,zz rfl,zz rfl,zz rfl,zz rfl,zz rfl,zz rfl,zz rfl,zz rfl,zz rfl,zz rfl,zz rfl,zz rfl,zz rfl,zz rfl,zz rfl,zz rfl,zz rfl,zz rfl,zz rfl,zz rfl,zz rfl,zz rfl,zz rfl,zz rfl,zz rfl,zz rfl,zz rfl,zz rfl,zz rfl,zz rfl,zz rfl,zz rfl,zz rfl,zz rfl,rfl,rfl,rfl,zz rfl,zz rfl,zz rfl,zz rfl,zz rfl,zz rfl,zz rfl,zz rfl,zz rfl,zz rfl,zz rfl,zz rfl,zz rfl,zz rfl,zz rfl,zz rfl,zz rfl,zz rfl,zz rfl,zz rfl,zz rfl,zz rfl,zz rfl,zz rfl,zz rfl,zz rfl,zz rfl,zz rfl,zz rfl,zz rfl,zz rfl,zz rfl,zz rfl,zz rfl,zz rfl,zz rfl,zz rfl,zz rfl,zz rfl,zz rfl,zz rfl,zz rfl,trivial⟩
    ·by_cases hN:sm[j].1=nameN
     ·have hvis:hid sm[j].1=false ∨ sm[j].1=nameN:=.inr hN
      have heN:eqS sm[j].1 [95,95,110,97,109,101,95,95]=true:=by rw [hN];rfl
      by_cases hg:getL sm[j].1 (ownS sk)=[]
      ·have heg:eqS (getL sm[j].1 (ownS sk)) []=true:=by rw [hg];rfl
       have heM:eqS (getL sm[j].1 M) sm[j].2=true:=by rw [hsmp _ (List.getElem_mem hlt) hg hvis];exact eqS_self _
       repeat(first|((first|refine yw ?_|refine zX ?_|refine yX ?_|refine zk ?_);intro _ _)|refine yz ?_|refine xz ?_|refine yj ‹_› ?_|refine zw ‹_› ?_|refine yx ‹_› ?_|refine yq ‹_› ?_|refine zZ ?_|refine yy ?_|refine yv ?_|refine zq ?_|refine zY (fun Q hQ=>by (conv=>whnf);exact hQ) ?_|refine zj (fun Q hQ=>by (conv=>whnf);exact hQ) ?_|(apply yk;(·intro _ _ hy;(conv=>whnf);exact hy);(·intro Q hQ;(conv=>whnf);repeat(first|exact hQ|((first|refine xw (by first|rfl|assumption) ?_|refine xx (by first|rfl|assumption) ?_|refine zy ?_|refine zx ?_|unfold yZ);(conv=>whnf))));(·intro Q hQ;(conv=>whnf);exact hQ))|(apply yY;(·intro _ _ hy;(conv=>whnf);exact hy);(·intro Q hQ;(conv=>whnf);exact hQ)))
       repeat(first|(apply xk;(·exact rfl);(·exact rfl);(·intro _ _ hy;(conv=>whnf);exact hy);(·exact rfl);(·intro Q hQ;(conv=>whnf);repeat(first|exact hQ|((first|refine xw (by first|rfl|assumption) ?_|refine xx (by first|rfl|assumption) ?_|refine zy ?_|refine zx ?_|unfold yZ);(conv=>whnf))));(·intro Q hQ;(conv=>whnf);exact hQ))|(apply xX;(·exact rfl);(·exact rfl);(·intro _ _ hy;(conv=>whnf);exact hy);(·exact rfl);(·intro Q hQ;(conv=>whnf);repeat(first|exact hQ|((first|refine xw (by first|rfl|assumption) ?_|refine xx (by first|rfl|assumption) ?_|refine zy ?_|refine zx ?_|unfold yZ);(conv=>whnf))));(·intro Q hQ;(conv=>whnf);exact hQ);intro _)|(apply xY;(·exact rfl);(·exact rfl);(·intro _ _ hy;(conv=>whnf);exact hy);(·intro Q hQ;(conv=>whnf);exact hQ))|refine xZ ?_)
       apply wz
       ·exact rfl
       ·exact rfl
       ·(intro _ _ hy;(conv=>whnf);exact hy)
       ·exact rfl
       ·kernel_rfl
       ·(intro Q hQ;exact hQ)
       intro Q hQ
       conv=>whnf
       refine get_run (LV.mk (e:=40) (fl:=.rw) rfl (Nat.le_refl _)) (ownS_ok sk).lt _ ?_
       rw [hQ]
       conv=>whnf
       repeat(first|(apply xk;(·exact rfl);(·exact rfl);(·intro _ _ hy;(conv=>whnf);exact hy);(·exact rfl);(·intro Q hQ;(conv=>whnf);repeat(first|exact hQ|((first|refine xw (by first|rfl|assumption) ?_|refine xx (by first|rfl|assumption) ?_|refine zy ?_|refine zx ?_|unfold yZ);(conv=>whnf))));(·intro Q hQ;(conv=>whnf);exact hQ))|(apply xX;(·exact rfl);(·exact rfl);(·intro _ _ hy;(conv=>whnf);exact hy);(·exact rfl);(·intro Q hQ;(conv=>whnf);repeat(first|exact hQ|((first|refine xw (by first|rfl|assumption) ?_|refine xx (by first|rfl|assumption) ?_|refine zy ?_|refine zx ?_|unfold yZ);(conv=>whnf))));(·intro Q hQ;(conv=>whnf);exact hQ);intro _)|(apply xY;(·exact rfl);(·exact rfl);(·intro _ _ hy;(conv=>whnf);exact hy);(·intro Q hQ;(conv=>whnf);exact hQ))|refine xZ ?_)
       apply wz
       ·exact rfl
       ·exact rfl
       ·(intro _ _ hy;(conv=>whnf);exact hy)
       ·exact rfl
       ·kernel_rfl
       ·(intro Q hQ;exact hQ)
       intro Q hQ
       conv=>whnf
       refine get_run (LV.mk (e:=40) (fl:=.rw) rfl (Nat.le_refl _)) okM.lt _ ?_
       rw [hQ]
       conv=>whnf
       repeat(first|(apply xk;(·exact rfl);(·exact rfl);(·intro _ _ hy;(conv=>whnf);exact hy);(·exact rfl);(·intro Q hQ;(conv=>whnf);repeat(first|exact hQ|((first|refine xw (by first|rfl|assumption) ?_|refine xx (by first|rfl|assumption) ?_|refine zy ?_|refine zx ?_|unfold yZ);(conv=>whnf))));(·intro Q hQ;(conv=>whnf);exact hQ))|(apply xX;(·exact rfl);(·exact rfl);(·intro _ _ hy;(conv=>whnf);exact hy);(·exact rfl);(·intro Q hQ;(conv=>whnf);repeat(first|exact hQ|((first|refine xw (by first|rfl|assumption) ?_|refine xx (by first|rfl|assumption) ?_|refine zy ?_|refine zx ?_|unfold yZ);(conv=>whnf))));(·intro Q hQ;(conv=>whnf);exact hQ);intro _)|(apply xY;(·exact rfl);(·exact rfl);(·intro _ _ hy;(conv=>whnf);exact hy);(·intro Q hQ;(conv=>whnf);exact hQ))|refine xZ ?_)
       refine ww ‹_› ?_
       repeat (first
        | refine wY (by first|(simp;done)|(intro c hc;simp at hc;rcases hc with rfl|rfl|rfl <;> exact ⟨rfl,rfl⟩)|(intro c hc;simp at hc;rcases hc with rfl|rfl <;> exact ⟨rfl,rfl⟩)|(intro c hc;simp at hc;rcases hc with rfl;exact ⟨rfl,rfl⟩)) ‹_› (by first|exact vq _|exact vj _ _|exact vv _ _ _ _ _ _|exact vy _ _|exact vw _|rfl) (by first|exact .inl rfl|exact .inr rfl) ?_
        | refine wZ (.inl (by first|rfl|kernel_rfl)) (.inr ‹_›) (by first|exact vq _|exact vj _ _|exact vv _ _ _ _ _ _|exact vy _ _|exact vw _|rfl) ?_
        | refine vz ?_)
       conv=>whnf
       repeat(first|((first|refine yw ?_|refine zX ?_|refine yX ?_|refine zk ?_);intro _ _)|refine yz ?_|refine xz ?_|refine yj ‹_› ?_|refine zw ‹_› ?_|refine yx ‹_› ?_|refine yq ‹_› ?_|refine zZ ?_|refine yy ?_|refine yv ?_|refine zq ?_|refine zY (fun Q hQ=>by (conv=>whnf);exact hQ) ?_|refine zj (fun Q hQ=>by (conv=>whnf);exact hQ) ?_|(apply yk;(·intro _ _ hy;(conv=>whnf);exact hy);(·intro Q hQ;(conv=>whnf);repeat(first|exact hQ|((first|refine xw (by first|rfl|assumption) ?_|refine xx (by first|rfl|assumption) ?_|refine zy ?_|refine zx ?_|unfold yZ);(conv=>whnf))));(·intro Q hQ;(conv=>whnf);exact hQ))|(apply yY;(·intro _ _ hy;(conv=>whnf);exact hy);(·intro Q hQ;(conv=>whnf);exact hQ)))
       apply yk
       ·(intro _ _ hy;(conv=>whnf);exact hy)
       ·intro Q hQ
        conv=>whnf
        refine wq (j+1) rfl (by have:=okS.few;show j+1 ≤ 9223372036854775807;omega) ?_
        exact hQ
       ·(intro Q hQ;(conv=>whnf);exact hQ)
       repeat(first|((first|refine yw ?_|refine zX ?_|refine yX ?_|refine zk ?_);intro _ _)|refine yz ?_|refine xz ?_|refine yj ‹_› ?_|refine zw ‹_› ?_|refine yx ‹_› ?_|refine yq ‹_› ?_|refine zZ ?_|refine yy ?_|refine yv ?_|refine zq ?_|refine zY (fun Q hQ=>by (conv=>whnf);exact hQ) ?_|refine zj (fun Q hQ=>by (conv=>whnf);exact hQ) ?_|(apply yk;(·intro _ _ hy;(conv=>whnf);exact hy);(·intro Q hQ;(conv=>whnf);repeat(first|exact hQ|((first|refine xw (by first|rfl|assumption) ?_|refine xx (by first|rfl|assumption) ?_|refine zy ?_|refine zx ?_|unfold yZ);(conv=>whnf))));(·intro Q hQ;(conv=>whnf);exact hQ))|(apply yY;(·intro _ _ hy;(conv=>whnf);exact hy);(·intro Q hQ;(conv=>whnf);exact hQ)))
       refine ⟨_,⟨Nat.le_of_ble_eq_true (by kernel_rfl),?_⟩,rfl,ih _ hlt ⟨by omega,?_⟩⟩
       ·
        repeat' (first
         | exact trivial
         | exact Nat.le_of_ble_eq_true (by kernel_rfl)
         | exact ⟨_,rfl,.cells (wv _) (.inl rfl)⟩
         | exact ⟨_,rfl,.cells (VIs_clean (by kernel_rfl)) (.inl rfl)⟩
         | apply And.intro)
       ·exact ⟨zz rfl,zz rfl,zz rfl,zz rfl,zz rfl,rfl,zz rfl,rfl,zz rfl,rfl,zz rfl,zz rfl,zz rfl,zz rfl,zz rfl,zz rfl,zz rfl,zz rfl,zz rfl,zz rfl,zz rfl,zz rfl,zz rfl,zz rfl,zz rfl,zz rfl,zz rfl,zz rfl,zz rfl,zz rfl,zz rfl,zz rfl,zz rfl,zz rfl,zz rfl,zz rfl,zz rfl,zz rfl,zz rfl,zz rfl,zz rfl,zz rfl,zz rfl,zz rfl,zz rfl,zz rfl,zz rfl,zz rfl,zz rfl,zz rfl,zz rfl,zz rfl,zz rfl,zz rfl,zz rfl,zz rfl,zz rfl,zz rfl,zz rfl,zz rfl,zz rfl,zz rfl,zz rfl,zz rfl,zz rfl,zz rfl,zz rfl,zz rfl,zz rfl,zz rfl,zz rfl,zz rfl,zz rfl,zz rfl,zz rfl,rfl,rfl,rfl,zz rfl,zz rfl,zz rfl,zz rfl,zz rfl,zz rfl,zz rfl,zz rfl,zz rfl,zz rfl,zz rfl,zz rfl,zz rfl,zz rfl,zz rfl,zz rfl,zz rfl,zz rfl,zz rfl,zz rfl,zz rfl,zz rfl,zz rfl,zz rfl,zz rfl,zz rfl,zz rfl,zz rfl,zz rfl,zz rfl,zz rfl,zz rfl,zz rfl,zz rfl,zz rfl,zz rfl,zz rfl,zz rfl,zz rfl,zz rfl,zz rfl,zz rfl,trivial⟩
      ·have heg:eqS (getL sm[j].1 (ownS sk)) []=false:=eqS_ne hg
       repeat(first|((first|refine yw ?_|refine zX ?_|refine yX ?_|refine zk ?_);intro _ _)|refine yz ?_|refine xz ?_|refine yj ‹_› ?_|refine zw ‹_› ?_|refine yx ‹_› ?_|refine yq ‹_› ?_|refine zZ ?_|refine yy ?_|refine yv ?_|refine zq ?_|refine zY (fun Q hQ=>by (conv=>whnf);exact hQ) ?_|refine zj (fun Q hQ=>by (conv=>whnf);exact hQ) ?_|(apply yk;(·intro _ _ hy;(conv=>whnf);exact hy);(·intro Q hQ;(conv=>whnf);repeat(first|exact hQ|((first|refine xw (by first|rfl|assumption) ?_|refine xx (by first|rfl|assumption) ?_|refine zy ?_|refine zx ?_|unfold yZ);(conv=>whnf))));(·intro Q hQ;(conv=>whnf);exact hQ))|(apply yY;(·intro _ _ hy;(conv=>whnf);exact hy);(·intro Q hQ;(conv=>whnf);exact hQ)))
       repeat(first|(apply xk;(·exact rfl);(·exact rfl);(·intro _ _ hy;(conv=>whnf);exact hy);(·exact rfl);(·intro Q hQ;(conv=>whnf);repeat(first|exact hQ|((first|refine xw (by first|rfl|assumption) ?_|refine xx (by first|rfl|assumption) ?_|refine zy ?_|refine zx ?_|unfold yZ);(conv=>whnf))));(·intro Q hQ;(conv=>whnf);exact hQ))|(apply xX;(·exact rfl);(·exact rfl);(·intro _ _ hy;(conv=>whnf);exact hy);(·exact rfl);(·intro Q hQ;(conv=>whnf);repeat(first|exact hQ|((first|refine xw (by first|rfl|assumption) ?_|refine xx (by first|rfl|assumption) ?_|refine zy ?_|refine zx ?_|unfold yZ);(conv=>whnf))));(·intro Q hQ;(conv=>whnf);exact hQ);intro _)|(apply xY;(·exact rfl);(·exact rfl);(·intro _ _ hy;(conv=>whnf);exact hy);(·intro Q hQ;(conv=>whnf);exact hQ))|refine xZ ?_)
       apply wz
       ·exact rfl
       ·exact rfl
       ·(intro _ _ hy;(conv=>whnf);exact hy)
       ·exact rfl
       ·kernel_rfl
       ·(intro Q hQ;exact hQ)
       intro Q hQ
       conv=>whnf
       refine get_run (LV.mk (e:=40) (fl:=.rw) rfl (Nat.le_refl _)) (ownS_ok sk).lt _ ?_
       rw [hQ]
       conv=>whnf
       repeat(first|(apply xk;(·exact rfl);(·exact rfl);(·intro _ _ hy;(conv=>whnf);exact hy);(·exact rfl);(·intro Q hQ;(conv=>whnf);repeat(first|exact hQ|((first|refine xw (by first|rfl|assumption) ?_|refine xx (by first|rfl|assumption) ?_|refine zy ?_|refine zx ?_|unfold yZ);(conv=>whnf))));(·intro Q hQ;(conv=>whnf);exact hQ))|(apply xX;(·exact rfl);(·exact rfl);(·intro _ _ hy;(conv=>whnf);exact hy);(·exact rfl);(·intro Q hQ;(conv=>whnf);repeat(first|exact hQ|((first|refine xw (by first|rfl|assumption) ?_|refine xx (by first|rfl|assumption) ?_|refine zy ?_|refine zx ?_|unfold yZ);(conv=>whnf))));(·intro Q hQ;(conv=>whnf);exact hQ);intro _)|(apply xY;(·exact rfl);(·exact rfl);(·intro _ _ hy;(conv=>whnf);exact hy);(·intro Q hQ;(conv=>whnf);exact hQ))|refine xZ ?_)
       refine ww ‹_› ?_
       repeat (first
        | refine wY (by first|(simp;done)|(intro c hc;simp at hc;rcases hc with rfl|rfl|rfl <;> exact ⟨rfl,rfl⟩)|(intro c hc;simp at hc;rcases hc with rfl|rfl <;> exact ⟨rfl,rfl⟩)|(intro c hc;simp at hc;rcases hc with rfl;exact ⟨rfl,rfl⟩)) ‹_› (by first|exact vq _|exact vj _ _|exact vv _ _ _ _ _ _|exact vy _ _|exact vw _|rfl) (by first|exact .inl rfl|exact .inr rfl) ?_
        | refine wZ (.inl (by first|rfl|kernel_rfl)) (.inr ‹_›) (by first|exact vq _|exact vj _ _|exact vv _ _ _ _ _ _|exact vy _ _|exact vw _|rfl) ?_
        | refine vz ?_)
       conv=>whnf
       repeat(first|((first|refine yw ?_|refine zX ?_|refine yX ?_|refine zk ?_);intro _ _)|refine yz ?_|refine xz ?_|refine yj ‹_› ?_|refine zw ‹_› ?_|refine yx ‹_› ?_|refine yq ‹_› ?_|refine zZ ?_|refine yy ?_|refine yv ?_|refine zq ?_|refine zY (fun Q hQ=>by (conv=>whnf);exact hQ) ?_|refine zj (fun Q hQ=>by (conv=>whnf);exact hQ) ?_|(apply yk;(·intro _ _ hy;(conv=>whnf);exact hy);(·intro Q hQ;(conv=>whnf);repeat(first|exact hQ|((first|refine xw (by first|rfl|assumption) ?_|refine xx (by first|rfl|assumption) ?_|refine zy ?_|refine zx ?_|unfold yZ);(conv=>whnf))));(·intro Q hQ;(conv=>whnf);exact hQ))|(apply yY;(·intro _ _ hy;(conv=>whnf);exact hy);(·intro Q hQ;(conv=>whnf);exact hQ)))
       apply yk
       ·(intro _ _ hy;(conv=>whnf);exact hy)
       ·intro Q hQ
        conv=>whnf
        refine wq (j+1) rfl (by have:=okS.few;show j+1 ≤ 9223372036854775807;omega) ?_
        exact hQ
       ·(intro Q hQ;(conv=>whnf);exact hQ)
       repeat(first|((first|refine yw ?_|refine zX ?_|refine yX ?_|refine zk ?_);intro _ _)|refine yz ?_|refine xz ?_|refine yj ‹_› ?_|refine zw ‹_› ?_|refine yx ‹_› ?_|refine yq ‹_› ?_|refine zZ ?_|refine yy ?_|refine yv ?_|refine zq ?_|refine zY (fun Q hQ=>by (conv=>whnf);exact hQ) ?_|refine zj (fun Q hQ=>by (conv=>whnf);exact hQ) ?_|(apply yk;(·intro _ _ hy;(conv=>whnf);exact hy);(·intro Q hQ;(conv=>whnf);repeat(first|exact hQ|((first|refine xw (by first|rfl|assumption) ?_|refine xx (by first|rfl|assumption) ?_|refine zy ?_|refine zx ?_|unfold yZ);(conv=>whnf))));(·intro Q hQ;(conv=>whnf);exact hQ))|(apply yY;(·intro _ _ hy;(conv=>whnf);exact hy);(·intro Q hQ;(conv=>whnf);exact hQ)))
       refine ⟨_,⟨Nat.le_of_ble_eq_true (by kernel_rfl),?_⟩,rfl,ih _ hlt ⟨by omega,?_⟩⟩
       ·
        repeat' (first
         | exact trivial
         | exact Nat.le_of_ble_eq_true (by kernel_rfl)
         | exact ⟨_,rfl,.cells (wv _) (.inl rfl)⟩
         | exact ⟨_,rfl,.cells (VIs_clean (by kernel_rfl)) (.inl rfl)⟩
         | apply And.intro)
       ·exact ⟨zz rfl,zz rfl,zz rfl,zz rfl,zz rfl,rfl,zz rfl,rfl,zz rfl,rfl,zz rfl,zz rfl,zz rfl,zz rfl,zz rfl,zz rfl,zz rfl,zz rfl,zz rfl,zz rfl,zz rfl,zz rfl,zz rfl,zz rfl,zz rfl,zz rfl,zz rfl,zz rfl,zz rfl,zz rfl,zz rfl,zz rfl,zz rfl,zz rfl,zz rfl,zz rfl,zz rfl,zz rfl,zz rfl,zz rfl,zz rfl,zz rfl,zz rfl,zz rfl,zz rfl,zz rfl,zz rfl,zz rfl,zz rfl,zz rfl,zz rfl,zz rfl,zz rfl,zz rfl,zz rfl,zz rfl,zz rfl,zz rfl,zz rfl,zz rfl,zz rfl,zz rfl,zz rfl,zz rfl,zz rfl,zz rfl,zz rfl,zz rfl,zz rfl,zz rfl,zz rfl,zz rfl,zz rfl,zz rfl,zz rfl,rfl,rfl,rfl,zz rfl,zz rfl,zz rfl,zz rfl,zz rfl,zz rfl,zz rfl,zz rfl,zz rfl,zz rfl,zz rfl,zz rfl,zz rfl,zz rfl,zz rfl,zz rfl,zz rfl,zz rfl,zz rfl,zz rfl,zz rfl,zz rfl,zz rfl,zz rfl,zz rfl,zz rfl,zz rfl,zz rfl,zz rfl,zz rfl,zz rfl,zz rfl,zz rfl,zz rfl,zz rfl,zz rfl,zz rfl,zz rfl,zz rfl,zz rfl,zz rfl,zz rfl,trivial⟩
     ·have heN:eqS sm[j].1 [95,95,110,97,109,101,95,95]=false:=eqS_ne hN
      by_cases hg:getL sm[j].1 (ownS sk)=[]
      ·have heg:eqS (getL sm[j].1 (ownS sk)) []=true:=by rw [hg];rfl
       have heM0:eqS (getL sm[j].1 M) []=true:=by rw [hhid _ hh hN];rfl
       have heM:eqS (getL sm[j].1 M) sm[j].2=false:=by rw [hhid _ hh hN];exact eqS_ne (Ne.symm (okS.full _ (List.getElem_mem hlt)))
       repeat(first|((first|refine yw ?_|refine zX ?_|refine yX ?_|refine zk ?_);intro _ _)|refine yz ?_|refine xz ?_|refine yj ‹_› ?_|refine zw ‹_› ?_|refine yx ‹_› ?_|refine yq ‹_› ?_|refine zZ ?_|refine yy ?_|refine yv ?_|refine zq ?_|refine zY (fun Q hQ=>by (conv=>whnf);exact hQ) ?_|refine zj (fun Q hQ=>by (conv=>whnf);exact hQ) ?_|(apply yk;(·intro _ _ hy;(conv=>whnf);exact hy);(·intro Q hQ;(conv=>whnf);repeat(first|exact hQ|((first|refine xw (by first|rfl|assumption) ?_|refine xx (by first|rfl|assumption) ?_|refine zy ?_|refine zx ?_|unfold yZ);(conv=>whnf))));(·intro Q hQ;(conv=>whnf);exact hQ))|(apply yY;(·intro _ _ hy;(conv=>whnf);exact hy);(·intro Q hQ;(conv=>whnf);exact hQ)))
       repeat(first|(apply xk;(·exact rfl);(·exact rfl);(·intro _ _ hy;(conv=>whnf);exact hy);(·exact rfl);(·intro Q hQ;(conv=>whnf);repeat(first|exact hQ|((first|refine xw (by first|rfl|assumption) ?_|refine xx (by first|rfl|assumption) ?_|refine zy ?_|refine zx ?_|unfold yZ);(conv=>whnf))));(·intro Q hQ;(conv=>whnf);exact hQ))|(apply xX;(·exact rfl);(·exact rfl);(·intro _ _ hy;(conv=>whnf);exact hy);(·exact rfl);(·intro Q hQ;(conv=>whnf);repeat(first|exact hQ|((first|refine xw (by first|rfl|assumption) ?_|refine xx (by first|rfl|assumption) ?_|refine zy ?_|refine zx ?_|unfold yZ);(conv=>whnf))));(·intro Q hQ;(conv=>whnf);exact hQ);intro _)|(apply xY;(·exact rfl);(·exact rfl);(·intro _ _ hy;(conv=>whnf);exact hy);(·intro Q hQ;(conv=>whnf);exact hQ))|refine xZ ?_)
       apply wz
       ·exact rfl
       ·exact rfl
       ·(intro _ _ hy;(conv=>whnf);exact hy)
       ·exact rfl
       ·kernel_rfl
       ·(intro Q hQ;exact hQ)
       intro Q hQ
       conv=>whnf
       refine get_run (LV.mk (e:=40) (fl:=.rw) rfl (Nat.le_refl _)) (ownS_ok sk).lt _ ?_
       rw [hQ]
       conv=>whnf
       repeat(first|(apply xk;(·exact rfl);(·exact rfl);(·intro _ _ hy;(conv=>whnf);exact hy);(·exact rfl);(·intro Q hQ;(conv=>whnf);repeat(first|exact hQ|((first|refine xw (by first|rfl|assumption) ?_|refine xx (by first|rfl|assumption) ?_|refine zy ?_|refine zx ?_|unfold yZ);(conv=>whnf))));(·intro Q hQ;(conv=>whnf);exact hQ))|(apply xX;(·exact rfl);(·exact rfl);(·intro _ _ hy;(conv=>whnf);exact hy);(·exact rfl);(·intro Q hQ;(conv=>whnf);repeat(first|exact hQ|((first|refine xw (by first|rfl|assumption) ?_|refine xx (by first|rfl|assumption) ?_|refine zy ?_|refine zx ?_|unfold yZ);(conv=>whnf))));(·intro Q hQ;(conv=>whnf);exact hQ);intro _)|(apply xY;(·exact rfl);(·exact rfl);(·intro _ _ hy;(conv=>whnf);exact hy);(·intro Q hQ;(conv=>whnf);exact hQ))|refine xZ ?_)
       apply wz
       ·exact rfl
       ·exact rfl
       ·(intro _ _ hy;(conv=>whnf);exact hy)
       ·exact rfl
       ·kernel_rfl
       ·(intro Q hQ;exact hQ)
       intro Q hQ
       conv=>whnf
       refine get_run (LV.mk (e:=40) (fl:=.rw) rfl (Nat.le_refl _)) okM.lt _ ?_
       rw [hQ]
       conv=>whnf
       repeat(first|(apply xk;(·exact rfl);(·exact rfl);(·intro _ _ hy;(conv=>whnf);exact hy);(·exact rfl);(·intro Q hQ;(conv=>whnf);repeat(first|exact hQ|((first|refine xw (by first|rfl|assumption) ?_|refine xx (by first|rfl|assumption) ?_|refine zy ?_|refine zx ?_|unfold yZ);(conv=>whnf))));(·intro Q hQ;(conv=>whnf);exact hQ))|(apply xX;(·exact rfl);(·exact rfl);(·intro _ _ hy;(conv=>whnf);exact hy);(·exact rfl);(·intro Q hQ;(conv=>whnf);repeat(first|exact hQ|((first|refine xw (by first|rfl|assumption) ?_|refine xx (by first|rfl|assumption) ?_|refine zy ?_|refine zx ?_|unfold yZ);(conv=>whnf))));(·intro Q hQ;(conv=>whnf);exact hQ);intro _)|(apply xY;(·exact rfl);(·exact rfl);(·intro _ _ hy;(conv=>whnf);exact hy);(·intro Q hQ;(conv=>whnf);exact hQ))|refine xZ ?_)
       apply wz
       ·exact rfl
       ·exact rfl
       ·(intro _ _ hy;(conv=>whnf);exact hy)
       ·exact rfl
       ·kernel_rfl
       ·(intro Q hQ;exact hQ)
       intro Q hQ
       conv=>whnf
       refine get_run (LV.mk (e:=40) (fl:=.rw) rfl (Nat.le_refl _)) okM.lt _ ?_
       rw [hQ]
       conv=>whnf
       repeat(first|(apply xk;(·exact rfl);(·exact rfl);(·intro _ _ hy;(conv=>whnf);exact hy);(·exact rfl);(·intro Q hQ;(conv=>whnf);repeat(first|exact hQ|((first|refine xw (by first|rfl|assumption) ?_|refine xx (by first|rfl|assumption) ?_|refine zy ?_|refine zx ?_|unfold yZ);(conv=>whnf))));(·intro Q hQ;(conv=>whnf);exact hQ))|(apply xX;(·exact rfl);(·exact rfl);(·intro _ _ hy;(conv=>whnf);exact hy);(·exact rfl);(·intro Q hQ;(conv=>whnf);repeat(first|exact hQ|((first|refine xw (by first|rfl|assumption) ?_|refine xx (by first|rfl|assumption) ?_|refine zy ?_|refine zx ?_|unfold yZ);(conv=>whnf))));(·intro Q hQ;(conv=>whnf);exact hQ);intro _)|(apply xY;(·exact rfl);(·exact rfl);(·intro _ _ hy;(conv=>whnf);exact hy);(·intro Q hQ;(conv=>whnf);exact hQ))|refine xZ ?_)
       refine ww ‹_› ?_
       repeat (first
        | refine wY (by first|(simp;done)|(intro c hc;simp at hc;rcases hc with rfl|rfl|rfl <;> exact ⟨rfl,rfl⟩)|(intro c hc;simp at hc;rcases hc with rfl|rfl <;> exact ⟨rfl,rfl⟩)|(intro c hc;simp at hc;rcases hc with rfl;exact ⟨rfl,rfl⟩)) ‹_› (by first|exact vq _|exact vj _ _|exact vv _ _ _ _ _ _|exact vy _ _|exact vw _|rfl) (by first|exact .inl rfl|exact .inr rfl) ?_
        | refine wZ (.inl (by first|rfl|kernel_rfl)) (.inr ‹_›) (by first|exact vq _|exact vj _ _|exact vv _ _ _ _ _ _|exact vy _ _|exact vw _|rfl) ?_
        | refine vz ?_)
       conv=>whnf
       repeat(first|((first|refine yw ?_|refine zX ?_|refine yX ?_|refine zk ?_);intro _ _)|refine yz ?_|refine xz ?_|refine yj ‹_› ?_|refine zw ‹_› ?_|refine yx ‹_› ?_|refine yq ‹_› ?_|refine zZ ?_|refine yy ?_|refine yv ?_|refine zq ?_|refine zY (fun Q hQ=>by (conv=>whnf);exact hQ) ?_|refine zj (fun Q hQ=>by (conv=>whnf);exact hQ) ?_|(apply yk;(·intro _ _ hy;(conv=>whnf);exact hy);(·intro Q hQ;(conv=>whnf);repeat(first|exact hQ|((first|refine xw (by first|rfl|assumption) ?_|refine xx (by first|rfl|assumption) ?_|refine zy ?_|refine zx ?_|unfold yZ);(conv=>whnf))));(·intro Q hQ;(conv=>whnf);exact hQ))|(apply yY;(·intro _ _ hy;(conv=>whnf);exact hy);(·intro Q hQ;(conv=>whnf);exact hQ)))
       apply yk
       ·(intro _ _ hy;(conv=>whnf);exact hy)
       ·intro Q hQ
        conv=>whnf
        refine wq (j+1) rfl (by have:=okS.few;show j+1 ≤ 9223372036854775807;omega) ?_
        exact hQ
       ·(intro Q hQ;(conv=>whnf);exact hQ)
       repeat(first|((first|refine yw ?_|refine zX ?_|refine yX ?_|refine zk ?_);intro _ _)|refine yz ?_|refine xz ?_|refine yj ‹_› ?_|refine zw ‹_› ?_|refine yx ‹_› ?_|refine yq ‹_› ?_|refine zZ ?_|refine yy ?_|refine yv ?_|refine zq ?_|refine zY (fun Q hQ=>by (conv=>whnf);exact hQ) ?_|refine zj (fun Q hQ=>by (conv=>whnf);exact hQ) ?_|(apply yk;(·intro _ _ hy;(conv=>whnf);exact hy);(·intro Q hQ;(conv=>whnf);repeat(first|exact hQ|((first|refine xw (by first|rfl|assumption) ?_|refine xx (by first|rfl|assumption) ?_|refine zy ?_|refine zx ?_|unfold yZ);(conv=>whnf))));(·intro Q hQ;(conv=>whnf);exact hQ))|(apply yY;(·intro _ _ hy;(conv=>whnf);exact hy);(·intro Q hQ;(conv=>whnf);exact hQ)))
       refine ⟨_,⟨Nat.le_of_ble_eq_true (by kernel_rfl),?_⟩,rfl,ih _ hlt ⟨by omega,?_⟩⟩
       ·
        repeat' (first
         | exact trivial
         | exact Nat.le_of_ble_eq_true (by kernel_rfl)
         | exact ⟨_,rfl,.cells (wv _) (.inl rfl)⟩
         | exact ⟨_,rfl,.cells (VIs_clean (by kernel_rfl)) (.inl rfl)⟩
         | apply And.intro)
       ·exact ⟨zz rfl,zz rfl,zz rfl,zz rfl,zz rfl,rfl,zz rfl,rfl,zz rfl,rfl,zz rfl,zz rfl,zz rfl,zz rfl,zz rfl,zz rfl,zz rfl,zz rfl,zz rfl,zz rfl,zz rfl,zz rfl,zz rfl,zz rfl,zz rfl,zz rfl,zz rfl,zz rfl,zz rfl,zz rfl,zz rfl,zz rfl,zz rfl,zz rfl,zz rfl,zz rfl,zz rfl,zz rfl,zz rfl,zz rfl,zz rfl,zz rfl,zz rfl,zz rfl,zz rfl,zz rfl,zz rfl,zz rfl,zz rfl,zz rfl,zz rfl,zz rfl,zz rfl,zz rfl,zz rfl,zz rfl,zz rfl,zz rfl,zz rfl,zz rfl,zz rfl,zz rfl,zz rfl,zz rfl,zz rfl,zz rfl,zz rfl,zz rfl,zz rfl,zz rfl,zz rfl,zz rfl,zz rfl,zz rfl,zz rfl,rfl,rfl,rfl,zz rfl,zz rfl,zz rfl,zz rfl,zz rfl,zz rfl,zz rfl,zz rfl,zz rfl,zz rfl,zz rfl,zz rfl,zz rfl,zz rfl,zz rfl,zz rfl,zz rfl,zz rfl,zz rfl,zz rfl,zz rfl,zz rfl,zz rfl,zz rfl,zz rfl,zz rfl,zz rfl,zz rfl,zz rfl,zz rfl,zz rfl,zz rfl,zz rfl,zz rfl,zz rfl,zz rfl,zz rfl,zz rfl,zz rfl,zz rfl,zz rfl,zz rfl,trivial⟩
      ·have heg:eqS (getL sm[j].1 (ownS sk)) []=false:=eqS_ne hg
       have heM0:eqS (getL sm[j].1 M) []=true:=by rw [hhid _ hh hN];rfl
       repeat(first|((first|refine yw ?_|refine zX ?_|refine yX ?_|refine zk ?_);intro _ _)|refine yz ?_|refine xz ?_|refine yj ‹_› ?_|refine zw ‹_› ?_|refine yx ‹_› ?_|refine yq ‹_› ?_|refine zZ ?_|refine yy ?_|refine yv ?_|refine zq ?_|refine zY (fun Q hQ=>by (conv=>whnf);exact hQ) ?_|refine zj (fun Q hQ=>by (conv=>whnf);exact hQ) ?_|(apply yk;(·intro _ _ hy;(conv=>whnf);exact hy);(·intro Q hQ;(conv=>whnf);repeat(first|exact hQ|((first|refine xw (by first|rfl|assumption) ?_|refine xx (by first|rfl|assumption) ?_|refine zy ?_|refine zx ?_|unfold yZ);(conv=>whnf))));(·intro Q hQ;(conv=>whnf);exact hQ))|(apply yY;(·intro _ _ hy;(conv=>whnf);exact hy);(·intro Q hQ;(conv=>whnf);exact hQ)))
       repeat(first|(apply xk;(·exact rfl);(·exact rfl);(·intro _ _ hy;(conv=>whnf);exact hy);(·exact rfl);(·intro Q hQ;(conv=>whnf);repeat(first|exact hQ|((first|refine xw (by first|rfl|assumption) ?_|refine xx (by first|rfl|assumption) ?_|refine zy ?_|refine zx ?_|unfold yZ);(conv=>whnf))));(·intro Q hQ;(conv=>whnf);exact hQ))|(apply xX;(·exact rfl);(·exact rfl);(·intro _ _ hy;(conv=>whnf);exact hy);(·exact rfl);(·intro Q hQ;(conv=>whnf);repeat(first|exact hQ|((first|refine xw (by first|rfl|assumption) ?_|refine xx (by first|rfl|assumption) ?_|refine zy ?_|refine zx ?_|unfold yZ);(conv=>whnf))));(·intro Q hQ;(conv=>whnf);exact hQ);intro _)|(apply xY;(·exact rfl);(·exact rfl);(·intro _ _ hy;(conv=>whnf);exact hy);(·intro Q hQ;(conv=>whnf);exact hQ))|refine xZ ?_)
       apply wz
       ·exact rfl
       ·exact rfl
       ·(intro _ _ hy;(conv=>whnf);exact hy)
       ·exact rfl
       ·kernel_rfl
       ·(intro Q hQ;exact hQ)
       intro Q hQ
       conv=>whnf
       refine get_run (LV.mk (e:=40) (fl:=.rw) rfl (Nat.le_refl _)) (ownS_ok sk).lt _ ?_
       rw [hQ]
       conv=>whnf
       repeat(first|(apply xk;(·exact rfl);(·exact rfl);(·intro _ _ hy;(conv=>whnf);exact hy);(·exact rfl);(·intro Q hQ;(conv=>whnf);repeat(first|exact hQ|((first|refine xw (by first|rfl|assumption) ?_|refine xx (by first|rfl|assumption) ?_|refine zy ?_|refine zx ?_|unfold yZ);(conv=>whnf))));(·intro Q hQ;(conv=>whnf);exact hQ))|(apply xX;(·exact rfl);(·exact rfl);(·intro _ _ hy;(conv=>whnf);exact hy);(·exact rfl);(·intro Q hQ;(conv=>whnf);repeat(first|exact hQ|((first|refine xw (by first|rfl|assumption) ?_|refine xx (by first|rfl|assumption) ?_|refine zy ?_|refine zx ?_|unfold yZ);(conv=>whnf))));(·intro Q hQ;(conv=>whnf);exact hQ);intro _)|(apply xY;(·exact rfl);(·exact rfl);(·intro _ _ hy;(conv=>whnf);exact hy);(·intro Q hQ;(conv=>whnf);exact hQ))|refine xZ ?_)
       apply wz
       ·exact rfl
       ·exact rfl
       ·(intro _ _ hy;(conv=>whnf);exact hy)
       ·exact rfl
       ·kernel_rfl
       ·(intro Q hQ;exact hQ)
       intro Q hQ
       conv=>whnf
       refine get_run (LV.mk (e:=40) (fl:=.rw) rfl (Nat.le_refl _)) okM.lt _ ?_
       rw [hQ]
       conv=>whnf
       repeat(first|(apply xk;(·exact rfl);(·exact rfl);(·intro _ _ hy;(conv=>whnf);exact hy);(·exact rfl);(·intro Q hQ;(conv=>whnf);repeat(first|exact hQ|((first|refine xw (by first|rfl|assumption) ?_|refine xx (by first|rfl|assumption) ?_|refine zy ?_|refine zx ?_|unfold yZ);(conv=>whnf))));(·intro Q hQ;(conv=>whnf);exact hQ))|(apply xX;(·exact rfl);(·exact rfl);(·intro _ _ hy;(conv=>whnf);exact hy);(·exact rfl);(·intro Q hQ;(conv=>whnf);repeat(first|exact hQ|((first|refine xw (by first|rfl|assumption) ?_|refine xx (by first|rfl|assumption) ?_|refine zy ?_|refine zx ?_|unfold yZ);(conv=>whnf))));(·intro Q hQ;(conv=>whnf);exact hQ);intro _)|(apply xY;(·exact rfl);(·exact rfl);(·intro _ _ hy;(conv=>whnf);exact hy);(·intro Q hQ;(conv=>whnf);exact hQ))|refine xZ ?_)
       refine ww ‹_› ?_
       repeat (first
        | refine wY (by first|(simp;done)|(intro c hc;simp at hc;rcases hc with rfl|rfl|rfl <;> exact ⟨rfl,rfl⟩)|(intro c hc;simp at hc;rcases hc with rfl|rfl <;> exact ⟨rfl,rfl⟩)|(intro c hc;simp at hc;rcases hc with rfl;exact ⟨rfl,rfl⟩)) ‹_› (by first|exact vq _|exact vj _ _|exact vv _ _ _ _ _ _|exact vy _ _|exact vw _|rfl) (by first|exact .inl rfl|exact .inr rfl) ?_
        | refine wZ (.inl (by first|rfl|kernel_rfl)) (.inr ‹_›) (by first|exact vq _|exact vj _ _|exact vv _ _ _ _ _ _|exact vy _ _|exact vw _|rfl) ?_
        | refine vz ?_)
       conv=>whnf
       repeat(first|((first|refine yw ?_|refine zX ?_|refine yX ?_|refine zk ?_);intro _ _)|refine yz ?_|refine xz ?_|refine yj ‹_› ?_|refine zw ‹_› ?_|refine yx ‹_› ?_|refine yq ‹_› ?_|refine zZ ?_|refine yy ?_|refine yv ?_|refine zq ?_|refine zY (fun Q hQ=>by (conv=>whnf);exact hQ) ?_|refine zj (fun Q hQ=>by (conv=>whnf);exact hQ) ?_|(apply yk;(·intro _ _ hy;(conv=>whnf);exact hy);(·intro Q hQ;(conv=>whnf);repeat(first|exact hQ|((first|refine xw (by first|rfl|assumption) ?_|refine xx (by first|rfl|assumption) ?_|refine zy ?_|refine zx ?_|unfold yZ);(conv=>whnf))));(·intro Q hQ;(conv=>whnf);exact hQ))|(apply yY;(·intro _ _ hy;(conv=>whnf);exact hy);(·intro Q hQ;(conv=>whnf);exact hQ)))
       apply yk
       ·(intro _ _ hy;(conv=>whnf);exact hy)
       ·intro Q hQ
        conv=>whnf
        refine wq (j+1) rfl (by have:=okS.few;show j+1 ≤ 9223372036854775807;omega) ?_
        exact hQ
       ·(intro Q hQ;(conv=>whnf);exact hQ)
       repeat(first|((first|refine yw ?_|refine zX ?_|refine yX ?_|refine zk ?_);intro _ _)|refine yz ?_|refine xz ?_|refine yj ‹_› ?_|refine zw ‹_› ?_|refine yx ‹_› ?_|refine yq ‹_› ?_|refine zZ ?_|refine yy ?_|refine yv ?_|refine zq ?_|refine zY (fun Q hQ=>by (conv=>whnf);exact hQ) ?_|refine zj (fun Q hQ=>by (conv=>whnf);exact hQ) ?_|(apply yk;(·intro _ _ hy;(conv=>whnf);exact hy);(·intro Q hQ;(conv=>whnf);repeat(first|exact hQ|((first|refine xw (by first|rfl|assumption) ?_|refine xx (by first|rfl|assumption) ?_|refine zy ?_|refine zx ?_|unfold yZ);(conv=>whnf))));(·intro Q hQ;(conv=>whnf);exact hQ))|(apply yY;(·intro _ _ hy;(conv=>whnf);exact hy);(·intro Q hQ;(conv=>whnf);exact hQ)))
       refine ⟨_,⟨Nat.le_of_ble_eq_true (by kernel_rfl),?_⟩,rfl,ih _ hlt ⟨by omega,?_⟩⟩
       ·
        repeat' (first
         | exact trivial
         | exact Nat.le_of_ble_eq_true (by kernel_rfl)
         | exact ⟨_,rfl,.cells (wv _) (.inl rfl)⟩
         | exact ⟨_,rfl,.cells (VIs_clean (by kernel_rfl)) (.inl rfl)⟩
         | apply And.intro)
       ·exact ⟨zz rfl,zz rfl,zz rfl,zz rfl,zz rfl,rfl,zz rfl,rfl,zz rfl,rfl,zz rfl,zz rfl,zz rfl,zz rfl,zz rfl,zz rfl,zz rfl,zz rfl,zz rfl,zz rfl,zz rfl,zz rfl,zz rfl,zz rfl,zz rfl,zz rfl,zz rfl,zz rfl,zz rfl,zz rfl,zz rfl,zz rfl,zz rfl,zz rfl,zz rfl,zz rfl,zz rfl,zz rfl,zz rfl,zz rfl,zz rfl,zz rfl,zz rfl,zz rfl,zz rfl,zz rfl,zz rfl,zz rfl,zz rfl,zz rfl,zz rfl,zz rfl,zz rfl,zz rfl,zz rfl,zz rfl,zz rfl,zz rfl,zz rfl,zz rfl,zz rfl,zz rfl,zz rfl,zz rfl,zz rfl,zz rfl,zz rfl,zz rfl,zz rfl,zz rfl,zz rfl,zz rfl,zz rfl,zz rfl,zz rfl,rfl,rfl,rfl,zz rfl,zz rfl,zz rfl,zz rfl,zz rfl,zz rfl,zz rfl,zz rfl,zz rfl,zz rfl,zz rfl,zz rfl,zz rfl,zz rfl,zz rfl,zz rfl,zz rfl,zz rfl,zz rfl,zz rfl,zz rfl,zz rfl,zz rfl,zz rfl,zz rfl,zz rfl,zz rfl,zz rfl,zz rfl,zz rfl,zz rfl,zz rfl,zz rfl,zz rfl,zz rfl,zz rfl,zz rfl,zz rfl,zz rfl,zz rfl,zz rfl,zz rfl,trivial⟩
  ·have hlt:j < (ownS sk).length:=by rw [ltI_eq] at hb;simpa using hb
   have hblt:Nat.blt j (ownS sk).length=true:=hb
   have hE2:eqS (getL (ownS sk)[j].1 M) (ownS sk)[j].2=true:=by rw [hown _ (List.getElem_mem hlt)];exact eqS_self _
   repeat(first|((first|refine yw ?_|refine zX ?_|refine yX ?_|refine zk ?_);intro _ _)|refine yz ?_|refine xz ?_|refine yj ‹_› ?_|refine zw ‹_› ?_|refine yx ‹_› ?_|refine yq ‹_› ?_|refine zZ ?_|refine yy ?_|refine yv ?_|refine zq ?_|refine zY (fun Q hQ=>by (conv=>whnf);exact hQ) ?_|refine zj (fun Q hQ=>by (conv=>whnf);exact hQ) ?_|(apply yk;(·intro _ _ hy;(conv=>whnf);exact hy);(·intro Q hQ;(conv=>whnf);repeat(first|exact hQ|((first|refine xw (by first|rfl|assumption) ?_|refine xx (by first|rfl|assumption) ?_|refine zy ?_|refine zx ?_|unfold yZ);(conv=>whnf))));(·intro Q hQ;(conv=>whnf);exact hQ))|(apply yY;(·intro _ _ hy;(conv=>whnf);exact hy);(·intro Q hQ;(conv=>whnf);exact hQ)))
   apply yk
   ·(intro _ _ hy;(conv=>whnf);exact hy)
   ·intro Q hQ
    conv=>whnf
    refine bcase (fun _=>?_) (fun h=>absurd (h.symm.trans hblt) (by simp))
    conv=>whnf
    repeat(first|exact hQ|((first|refine xw (by first|rfl|assumption) ?_|refine xx (by first|rfl|assumption) ?_|refine zy ?_|refine zx ?_);(conv=>whnf)))
   ·(intro Q hQ;(conv=>whnf);exact hQ)
   repeat(first|((first|refine yw ?_|refine zX ?_|refine yX ?_|refine zk ?_);intro _ _)|refine yz ?_|refine xz ?_|refine yj ‹_› ?_|refine zw ‹_› ?_|refine yx ‹_› ?_|refine yq ‹_› ?_|refine zZ ?_|refine yy ?_|refine yv ?_|refine zq ?_|refine zY (fun Q hQ=>by (conv=>whnf);exact hQ) ?_|refine zj (fun Q hQ=>by (conv=>whnf);exact hQ) ?_|(apply yk;(·intro _ _ hy;(conv=>whnf);exact hy);(·intro Q hQ;(conv=>whnf);repeat(first|exact hQ|((first|refine xw (by first|rfl|assumption) ?_|refine xx (by first|rfl|assumption) ?_|refine zy ?_|refine zx ?_|unfold yZ);(conv=>whnf))));(·intro Q hQ;(conv=>whnf);exact hQ))|(apply yY;(·intro _ _ hy;(conv=>whnf);exact hy);(·intro Q hQ;(conv=>whnf);exact hQ)))
   apply yk
   ·(intro _ _ hy;(conv=>whnf);exact hy)
   ·intro Q hQ
    conv=>whnf
    refine partK_lab agg40 hi40 hs40 (j:=j) (List.getElem?_eq_getElem hlt) (show 0+j * 2=2 * j by omega) ?_
    exact hQ
   ·(intro Q hQ;(conv=>whnf);exact hQ)
   repeat(first|((first|refine yw ?_|refine zX ?_|refine yX ?_|refine zk ?_);intro _ _)|refine yz ?_|refine xz ?_|refine yj ‹_› ?_|refine zw ‹_› ?_|refine yx ‹_› ?_|refine yq ‹_› ?_|refine zZ ?_|refine yy ?_|refine yv ?_|refine zq ?_|refine zY (fun Q hQ=>by (conv=>whnf);exact hQ) ?_|refine zj (fun Q hQ=>by (conv=>whnf);exact hQ) ?_|(apply yk;(·intro _ _ hy;(conv=>whnf);exact hy);(·intro Q hQ;(conv=>whnf);repeat(first|exact hQ|((first|refine xw (by first|rfl|assumption) ?_|refine xx (by first|rfl|assumption) ?_|refine zy ?_|refine zx ?_|unfold yZ);(conv=>whnf))));(·intro Q hQ;(conv=>whnf);exact hQ))|(apply yY;(·intro _ _ hy;(conv=>whnf);exact hy);(·intro Q hQ;(conv=>whnf);exact hQ)))
   repeat(first|(apply xk;(·exact rfl);(·exact rfl);(·intro _ _ hy;(conv=>whnf);exact hy);(·exact rfl);(·intro Q hQ;(conv=>whnf);repeat(first|exact hQ|((first|refine xw (by first|rfl|assumption) ?_|refine xx (by first|rfl|assumption) ?_|refine zy ?_|refine zx ?_|unfold yZ);(conv=>whnf))));(·intro Q hQ;(conv=>whnf);exact hQ))|(apply xX;(·exact rfl);(·exact rfl);(·intro _ _ hy;(conv=>whnf);exact hy);(·exact rfl);(·intro Q hQ;(conv=>whnf);repeat(first|exact hQ|((first|refine xw (by first|rfl|assumption) ?_|refine xx (by first|rfl|assumption) ?_|refine zy ?_|refine zx ?_|unfold yZ);(conv=>whnf))));(·intro Q hQ;(conv=>whnf);exact hQ);intro _)|(apply xY;(·exact rfl);(·exact rfl);(·intro _ _ hy;(conv=>whnf);exact hy);(·intro Q hQ;(conv=>whnf);exact hQ))|refine xZ ?_)
   apply wz
   ·exact rfl
   ·exact rfl
   ·(intro _ _ hy;(conv=>whnf);exact hy)
   ·exact rfl
   ·kernel_rfl
   ·(intro Q hQ;exact hQ)
   intro Q hQ
   conv=>whnf
   refine get_run (LV.mk (e:=40) (fl:=.rw) rfl (Nat.le_refl _)) okM.lt _ ?_
   rw [hQ]
   conv=>whnf
   repeat(first|(apply xk;(·exact rfl);(·exact rfl);(·intro _ _ hy;(conv=>whnf);exact hy);(·exact rfl);(·intro Q hQ;(conv=>whnf);repeat(first|exact hQ|((first|refine xw (by first|rfl|assumption) ?_|refine xx (by first|rfl|assumption) ?_|refine zy ?_|refine zx ?_|unfold yZ);(conv=>whnf))));(·intro Q hQ;(conv=>whnf);exact hQ))|(apply xX;(·exact rfl);(·exact rfl);(·intro _ _ hy;(conv=>whnf);exact hy);(·exact rfl);(·intro Q hQ;(conv=>whnf);repeat(first|exact hQ|((first|refine xw (by first|rfl|assumption) ?_|refine xx (by first|rfl|assumption) ?_|refine zy ?_|refine zx ?_|unfold yZ);(conv=>whnf))));(·intro Q hQ;(conv=>whnf);exact hQ);intro _)|(apply xY;(·exact rfl);(·exact rfl);(·intro _ _ hy;(conv=>whnf);exact hy);(·intro Q hQ;(conv=>whnf);exact hQ))|refine xZ ?_)
   refine ww ‹_› ?_
   repeat (first
    | refine wY (by first|(simp;done)|(intro c hc;simp at hc;rcases hc with rfl|rfl|rfl <;> exact ⟨rfl,rfl⟩)|(intro c hc;simp at hc;rcases hc with rfl|rfl <;> exact ⟨rfl,rfl⟩)|(intro c hc;simp at hc;rcases hc with rfl;exact ⟨rfl,rfl⟩)) ‹_› (by first|exact vq _|exact vj _ _|exact vv _ _ _ _ _ _|exact vy _ _|exact vw _|rfl) (by first|exact .inl rfl|exact .inr rfl) ?_
    | refine wZ (.inl (by first|rfl|kernel_rfl)) (.inr ‹_›) (by first|exact vq _|exact vj _ _|exact vv _ _ _ _ _ _|exact vy _ _|exact vw _|rfl) ?_
    | refine vz ?_)
   conv=>whnf
   repeat(first|((first|refine yw ?_|refine zX ?_|refine yX ?_|refine zk ?_);intro _ _)|refine yz ?_|refine xz ?_|refine yj ‹_› ?_|refine zw ‹_› ?_|refine yx ‹_› ?_|refine yq ‹_› ?_|refine zZ ?_|refine yy ?_|refine yv ?_|refine zq ?_|refine zY (fun Q hQ=>by (conv=>whnf);exact hQ) ?_|refine zj (fun Q hQ=>by (conv=>whnf);exact hQ) ?_|(apply yk;(·intro _ _ hy;(conv=>whnf);exact hy);(·intro Q hQ;(conv=>whnf);repeat(first|exact hQ|((first|refine xw (by first|rfl|assumption) ?_|refine xx (by first|rfl|assumption) ?_|refine zy ?_|refine zx ?_|unfold yZ);(conv=>whnf))));(·intro Q hQ;(conv=>whnf);exact hQ))|(apply yY;(·intro _ _ hy;(conv=>whnf);exact hy);(·intro Q hQ;(conv=>whnf);exact hQ)))
   apply yk
   ·(intro _ _ hy;(conv=>whnf);exact hy)
   ·intro Q hQ
    conv=>whnf
    refine wq (j+1) rfl (by have:=(ownS_ok sk).few;show j+1 ≤ 9223372036854775807;omega) ?_
    exact hQ
   ·(intro Q hQ;(conv=>whnf);exact hQ)
   repeat(first|((first|refine yw ?_|refine zX ?_|refine yX ?_|refine zk ?_);intro _ _)|refine yz ?_|refine xz ?_|refine yj ‹_› ?_|refine zw ‹_› ?_|refine yx ‹_› ?_|refine yq ‹_› ?_|refine zZ ?_|refine yy ?_|refine yv ?_|refine zq ?_|refine zY (fun Q hQ=>by (conv=>whnf);exact hQ) ?_|refine zj (fun Q hQ=>by (conv=>whnf);exact hQ) ?_|(apply yk;(·intro _ _ hy;(conv=>whnf);exact hy);(·intro Q hQ;(conv=>whnf);repeat(first|exact hQ|((first|refine xw (by first|rfl|assumption) ?_|refine xx (by first|rfl|assumption) ?_|refine zy ?_|refine zx ?_|unfold yZ);(conv=>whnf))));(·intro Q hQ;(conv=>whnf);exact hQ))|(apply yY;(·intro _ _ hy;(conv=>whnf);exact hy);(·intro Q hQ;(conv=>whnf);exact hQ)))
   refine ⟨_,⟨Nat.le_of_ble_eq_true (by kernel_rfl),?_⟩,rfl,ih _ hlt ⟨by omega,?_⟩⟩
   ·
    repeat' (first
     | exact trivial
     | exact Nat.le_of_ble_eq_true (by kernel_rfl)
     | exact ⟨_,rfl,.cells (wv _) (.inl rfl)⟩
     | exact ⟨_,rfl,.cells (VIs_clean (by kernel_rfl)) (.inl rfl)⟩
     | apply And.intro)
   ·exact ⟨zz rfl,zz rfl,zz rfl,zz rfl,zz rfl,rfl,zz rfl,rfl,zz rfl,rfl,zz rfl,zz rfl,zz rfl,zz rfl,zz rfl,zz rfl,zz rfl,zz rfl,zz rfl,zz rfl,zz rfl,zz rfl,zz rfl,zz rfl,zz rfl,zz rfl,zz rfl,zz rfl,zz rfl,zz rfl,zz rfl,zz rfl,zz rfl,zz rfl,zz rfl,zz rfl,zz rfl,zz rfl,zz rfl,zz rfl,zz rfl,zz rfl,zz rfl,zz rfl,zz rfl,zz rfl,zz rfl,zz rfl,zz rfl,zz rfl,zz rfl,zz rfl,zz rfl,zz rfl,zz rfl,zz rfl,zz rfl,zz rfl,zz rfl,rfl,rfl,rfl,zz rfl,zz rfl,zz rfl,zz rfl,zz rfl,zz rfl,zz rfl,zz rfl,zz rfl,zz rfl,zz rfl,zz rfl,zz rfl,zz rfl,zz rfl,zz rfl,zz rfl,zz rfl,zz rfl,zz rfl,zz rfl,zz rfl,zz rfl,zz rfl,zz rfl,zz rfl,zz rfl,zz rfl,zz rfl,zz rfl,zz rfl,zz rfl,zz rfl,zz rfl,zz rfl,zz rfl,zz rfl,zz rfl,zz rfl,zz rfl,zz rfl,zz rfl,zz rfl,zz rfl,zz rfl,zz rfl,zz rfl,zz rfl,zz rfl,zz rfl,zz rfl,zz rfl,zz rfl,zz rfl,zz rfl,zz rfl,zz rfl,zz rfl,trivial⟩
end Go.Am
