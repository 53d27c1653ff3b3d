/- Part 11 of the proof that BodyOwn returns true, and leaves its arguments as they were, for every input, over a start where the listed variables hold what the program lays: the statement Rows.BodyOwnCardSaid. -/
import Derived.Test.YtnfhhddmeikbpaaGreatDoorWAj
import Derived.Shelf.GgSortFunc.RowK
import Derived.Test.YtnfhhddmeikbpaaGreatDoorWAi
import Derived.Shelf.SlSortCmp.InsertionK
set_option linter.unusedVariables false
set_option linter.unusedSimpArgs false
/- slices.IndexFunc, slices.DeleteFunc: labels without a value. -/
namespace Go.Am
open Go.Proofs
set_option maxRecDepth 100000
attribute [local irreducible] fN fI fB yZ wrapK bAppend evOps wk drOps rdsAll sl

theorem f33:FnAt Tryz.prog 33 6 [.tmp 2] (codeOf Tryz.f33):=⟨Tryz.f33,by kernel_rfl,rfl,by kernel_rfl,by kernel_rfl,by kernel_rfl⟩
theorem f59:FnAt Tryz.prog 59 19 [.tmp 4] (codeOf Tryz.f59):=⟨Tryz.f59,by kernel_rfl,rfl,by kernel_rfl,by kernel_rfl,by kernel_rfl⟩
theorem f32:FnAt Tryz.prog 32 42 [.tmp 4] (codeOf Tryz.f32):=⟨Tryz.f32,by kernel_rfl,rfl,by kernel_rfl,by kernel_rfl,by kernel_rfl⟩

set_option maxHeartbeats 2000000 in
theorem d33_run {q:Lab} {S:St} {k:V→St→Prop} (hk:k (.bool (eqS q.2 [])) S):RC Tryz.prog 33 [labV q] S k:=by
 refine RC.read mixed f33 (l:=[labV q]) [] [] [] [] (v2:=.bool (eqS q.2 [])) (by simp) rfl rfl (by simp) (by simp) (.cons (.agg (.cons (.str _) (.cons (.str _) .nil))) .nil) (by simp) ?_ hk
 generalize hK:Post _ _ _ _ _ _ _=K
 unfold labV
 cases hb:eqS q.2 []
 ·
  apply wy
  ·intro Q hQ
   conv=>whnf
   exact hQ
  apply wx
  ·intro Q hQ
   conv=>whnf
   exact hQ
  intro K0 hK0
  unfold codeOf
  conv=>arg 7;whnf
  repeat(first|((first|refine yw ?_|refine zX ?_|refine yX ?_|refine zk ?_);intro _ _)|refine yz ?_|refine xz ?_|refine yj ‹_› ?_|refine zw ‹_› ?_|refine yx ‹_› ?_|refine yq ‹_› ?_|refine zZ ?_|refine yy ?_|refine yv ?_|refine zq ?_|refine zY (fun Q hQ=>by (conv=>whnf);exact hQ) ?_|refine zj (fun Q hQ=>by (conv=>whnf);exact hQ) ?_|(apply yk;(·intro _ _ hy;(conv=>whnf);exact hy);(·intro Q hQ;(conv=>whnf);repeat(first|exact hQ|((first|refine xw (by first|rfl|assumption) ?_|refine xx (by first|rfl|assumption) ?_|refine zy ?_|refine zx ?_|unfold yZ);(conv=>whnf))));(·intro Q hQ;(conv=>whnf);exact hQ))|(apply yY;(·intro _ _ hy;(conv=>whnf);exact hy);(·intro Q hQ;(conv=>whnf);exact hQ)))
  conv=>whnf
  rw [← hK,hb]
  exact ⟨[],List.nodup_nil,by simp,.bool _,trivial,trivial⟩
 ·
  apply wy
  ·intro Q hQ
   conv=>whnf
   exact hQ
  apply wx
  ·intro Q hQ
   conv=>whnf
   exact hQ
  intro K0 hK0
  unfold codeOf
  conv=>arg 7;whnf
  repeat(first|((first|refine yw ?_|refine zX ?_|refine yX ?_|refine zk ?_);intro _ _)|refine yz ?_|refine xz ?_|refine yj ‹_› ?_|refine zw ‹_› ?_|refine yx ‹_› ?_|refine yq ‹_› ?_|refine zZ ?_|refine yy ?_|refine yv ?_|refine zq ?_|refine zY (fun Q hQ=>by (conv=>whnf);exact hQ) ?_|refine zj (fun Q hQ=>by (conv=>whnf);exact hQ) ?_|(apply yk;(·intro _ _ hy;(conv=>whnf);exact hy);(·intro Q hQ;(conv=>whnf);repeat(first|exact hQ|((first|refine xw (by first|rfl|assumption) ?_|refine xx (by first|rfl|assumption) ?_|refine zy ?_|refine zx ?_|unfold yZ);(conv=>whnf))));(·intro Q hQ;(conv=>whnf);exact hQ))|(apply yY;(·intro _ _ hy;(conv=>whnf);exact hy);(·intro Q hQ;(conv=>whnf);exact hQ)))
  conv=>whnf
  rw [← hK,hb]
  exact ⟨[],List.nodup_nil,by simp,.bool _,trivial,trivial⟩
set_option maxHeartbeats 2000000 in
theorem idx59_run {l:List Lab} {v:V} {S:St} (h:LV S v l) (hlen:l.length ≤ 64) (i0:Nat) (hi0:i0 ≤ l.length) (hpre:∀ x ∈ l.take i0,x.2 ≠ []) (hat:∀ h:i0 < l.length,l[i0].2=[]) {r:Int} (hr:r=if i0 < l.length then .ofNat i0 else .negSucc 0) {k:V→St→Prop} (hk:k (.int .i64 r) S):RC Tryz.prog 59 [v,.func (.func 33) [] []] S k:=by
 obtain ⟨i40,hi40,hs40⟩:=info40
 refine RC.lab mixed f59 h (fun _=>.cons (.func _ .nil .nil) .nil) [] (by simp) (v2:=.int .i64 r) ?_ ?_ hk
 ·rintro rfl
  have hr2:r=.negSucc 0:=by rw [hr,if_neg (by simp)]
  subst hr2
  generalize hK:Post _ _ _ _ _ _ _=K
  apply wy
  ·intro Q hQ
   conv=>whnf
   exact hQ
  apply wx
  ·intro Q hQ
   conv=>whnf
   exact hQ
  intro K0 hK0
  unfold codeOf
  conv=>arg 7;whnf
  repeat(first|((first|refine yw ?_|refine zX ?_|refine yX ?_|refine zk ?_);intro _ _)|refine yz ?_|refine xz ?_|refine yj ‹_› ?_|refine zw ‹_› ?_|refine yx ‹_› ?_|refine yq ‹_› ?_|refine zZ ?_|refine yy ?_|refine yv ?_|refine zq ?_|refine zY (fun Q hQ=>by (conv=>whnf);exact hQ) ?_|refine zj (fun Q hQ=>by (conv=>whnf);exact hQ) ?_|(apply yk;(·intro _ _ hy;(conv=>whnf);exact hy);(·intro Q hQ;(conv=>whnf);repeat(first|exact hQ|((first|refine xw (by first|rfl|assumption) ?_|refine xx (by first|rfl|assumption) ?_|refine zy ?_|refine zx ?_|unfold yZ);(conv=>whnf))));(·intro Q hQ;(conv=>whnf);exact hQ))|(apply yY;(·intro _ _ hy;(conv=>whnf);exact hy);(·intro Q hQ;(conv=>whnf);exact hQ)))
  refine LP.step mixed ?_
  repeat(first|((first|refine yw ?_|refine zX ?_|refine yX ?_|refine zk ?_);intro _ _)|refine yz ?_|refine xz ?_|refine yj ‹_› ?_|refine zw ‹_› ?_|refine yx ‹_› ?_|refine yq ‹_› ?_|refine zZ ?_|refine yy ?_|refine yv ?_|refine zq ?_|refine zY (fun Q hQ=>by (conv=>whnf);exact hQ) ?_|refine zj (fun Q hQ=>by (conv=>whnf);exact hQ) ?_|(apply yk;(·intro _ _ hy;(conv=>whnf);exact hy);(·intro Q hQ;(conv=>whnf);repeat(first|exact hQ|((first|refine xw (by first|rfl|assumption) ?_|refine xx (by first|rfl|assumption) ?_|refine zy ?_|refine zx ?_|unfold yZ);(conv=>whnf))));(·intro Q hQ;(conv=>whnf);exact hQ))|(apply yY;(·intro _ _ hy;(conv=>whnf);exact hy);(·intro Q hQ;(conv=>whnf);exact hQ)))
  conv=>whnf
  rw [← hK]
  exact ⟨[],List.nodup_nil,by simp,.int _ _,trivial,trivial⟩
 ·intro e i
  generalize hK:Post _ _ _ _ _ _ _=K
  apply wy
  ·intro Q hQ
   conv=>whnf
   exact hQ
  apply wx
  ·intro Q hQ
   conv=>whnf
   exact hQ
  intro K0 hK0
  unfold codeOf
  conv=>arg 7;whnf
  repeat(first|((first|refine yw ?_|refine zX ?_|refine yX ?_|refine zk ?_);intro _ _)|refine yz ?_|refine xz ?_|refine yj ‹_› ?_|refine zw ‹_› ?_|refine yx ‹_› ?_|refine yq ‹_› ?_|refine zZ ?_|refine yy ?_|refine yv ?_|refine zq ?_|refine zY (fun Q hQ=>by (conv=>whnf);exact hQ) ?_|refine zj (fun Q hQ=>by (conv=>whnf);exact hQ) ?_|(apply yk;(·intro _ _ hy;(conv=>whnf);exact hy);(·intro Q hQ;(conv=>whnf);repeat(first|exact hQ|((first|refine xw (by first|rfl|assumption) ?_|refine xx (by first|rfl|assumption) ?_|refine zy ?_|refine zx ?_|unfold yZ);(conv=>whnf))));(·intro Q hQ;(conv=>whnf);exact hQ))|(apply yY;(·intro _ _ hy;(conv=>whnf);exact hy);(·intro Q hQ;(conv=>whnf);exact hQ)))
  refine LP.induct0 l.length (fun j E=>j ≤ i0∧Fits E 0 [.slice ngl 0 l.length l.length 2 false,.func (.func 33) [] [],sl E 2,sl E 3,sl E 4,sl E 5,.slice ngl 0 l.length l.length 2 false,.int .i64 (.ofNat l.length),.int .i64 (.ofNat j),sl E 9,sl E 10,sl E 11,sl E 12,sl E 13,sl E 14,sl E 15,sl E 16,sl E 17,sl E 18]) ⟨Nat.zero_le _,⟨rfl,rfl,zz rfl,zz rfl,zz rfl,zz rfl,rfl,rfl,rfl,zz rfl,zz rfl,zz rfl,zz rfl,zz rfl,zz rfl,zz rfl,zz rfl,zz rfl,zz rfl,trivial⟩⟩ ?_
  intro j E ⟨hjl,hf⟩ ih
  refine LP.tree hf (⟨some (.slice ngl 0 l.length l.length 2 false),⟨some (.func (.func 33) [] []),⟨some (sl E 5),z1,z1,z1,z1⟩,⟨some (sl E 9),z1,z1,z1,z1⟩,⟨some (sl E 13),z1,z1,z1,z1⟩,⟨some (sl E 17),z1,z1,z1,z1⟩⟩,⟨some (sl E 2),⟨some (.slice ngl 0 l.length l.length 2 false),z1,z1,z1,z1⟩,⟨some (sl E 10),z1,z1,z1,z1⟩,⟨some (sl E 14),z1,z1,z1,z1⟩,⟨some (sl E 18),z1,z1,z1,z1⟩⟩,⟨some (sl E 3),⟨some (.int .i64 (.ofNat l.length)),z1,z1,z1,z1⟩,⟨some (sl E 11),z1,z1,z1,z1⟩,⟨some (sl E 15),z1,z1,z1,z1⟩,z2⟩,⟨some (sl E 4),⟨some (.int .i64 (.ofNat j)),z1,z1,z1,z1⟩,⟨some (sl E 12),z1,z1,z1,z1⟩,⟨some (sl E 16),z1,z1,z1,z1⟩,z2⟩⟩) (by kernel_rfl) (LP.gc' mixed fun _ _=>?_)
  clear hf
  cases hb:ltI (.ofNat j) (.ofNat l.length)
  ·have hge:l.length ≤ j:=by rw [ltI_eq] at hb;simpa using hb
   have hr2:r=.negSucc 0:=by rw [hr,if_neg (by omega)]
   subst hr2
   repeat(first|((first|refine yw ?_|refine zX ?_|refine yX ?_|refine zk ?_);intro _ _)|refine yz ?_|refine xz ?_|refine yj ‹_› ?_|refine zw ‹_› ?_|refine yx ‹_› ?_|refine yq ‹_› ?_|refine zZ ?_|refine yy ?_|refine yv ?_|refine zq ?_|refine zY (fun Q hQ=>by (conv=>whnf);exact hQ) ?_|refine zj (fun Q hQ=>by (conv=>whnf);exact hQ) ?_|(apply yk;(·intro _ _ hy;(conv=>whnf);exact hy);(·intro Q hQ;(conv=>whnf);repeat(first|exact hQ|((first|refine xw (by first|rfl|assumption) ?_|refine xx (by first|rfl|assumption) ?_|refine zy ?_|refine zx ?_|unfold yZ);(conv=>whnf))));(·intro Q hQ;(conv=>whnf);exact hQ))|(apply yY;(·intro _ _ hy;(conv=>whnf);exact hy);(·intro Q hQ;(conv=>whnf);exact hQ)))
   conv=>whnf
   rw [← hK]
   exact ⟨[],List.nodup_nil,by simp,.int _ _,trivial,trivial⟩
  ·have hlt:j < l.length:=by rw [ltI_eq] at hb;simpa using hb
   have hblt:Nat.blt j l.length=true:=hb
   repeat(first|((first|refine yw ?_|refine zX ?_|refine yX ?_|refine zk ?_);intro _ _)|refine yz ?_|refine xz ?_|refine yj ‹_› ?_|refine zw ‹_› ?_|refine yx ‹_› ?_|refine yq ‹_› ?_|refine zZ ?_|refine yy ?_|refine yv ?_|refine zq ?_|refine zY (fun Q hQ=>by (conv=>whnf);exact hQ) ?_|refine zj (fun Q hQ=>by (conv=>whnf);exact hQ) ?_|(apply yk;(·intro _ _ hy;(conv=>whnf);exact hy);(·intro Q hQ;(conv=>whnf);repeat(first|exact hQ|((first|refine xw (by first|rfl|assumption) ?_|refine xx (by first|rfl|assumption) ?_|refine zy ?_|refine zx ?_|unfold yZ);(conv=>whnf))));(·intro Q hQ;(conv=>whnf);exact hQ))|(apply yY;(·intro _ _ hy;(conv=>whnf);exact hy);(·intro Q hQ;(conv=>whnf);exact hQ)))
   apply yk
   ·(intro _ _ hy;(conv=>whnf);exact hy)
   ·intro Q hQ
    conv=>whnf
    refine bcase (fun _=>?_) (fun h=>absurd (h.symm.trans hblt) (by simp))
    conv=>whnf
    repeat(first|exact hQ|((first|refine xw (by first|rfl|assumption) ?_|refine xx (by first|rfl|assumption) ?_|refine zy ?_|refine zx ?_);(conv=>whnf)))
   ·(intro Q hQ;(conv=>whnf);exact hQ)
   repeat(first|((first|refine yw ?_|refine zX ?_|refine yX ?_|refine zk ?_);intro _ _)|refine yz ?_|refine xz ?_|refine yj ‹_› ?_|refine zw ‹_› ?_|refine yx ‹_› ?_|refine yq ‹_› ?_|refine zZ ?_|refine yy ?_|refine yv ?_|refine zq ?_|refine zY (fun Q hQ=>by (conv=>whnf);exact hQ) ?_|refine zj (fun Q hQ=>by (conv=>whnf);exact hQ) ?_|(apply yk;(·intro _ _ hy;(conv=>whnf);exact hy);(·intro Q hQ;(conv=>whnf);repeat(first|exact hQ|((first|refine xw (by first|rfl|assumption) ?_|refine xx (by first|rfl|assumption) ?_|refine zy ?_|refine zx ?_|unfold yZ);(conv=>whnf))));(·intro Q hQ;(conv=>whnf);exact hQ))|(apply yY;(·intro _ _ hy;(conv=>whnf);exact hy);(·intro Q hQ;(conv=>whnf);exact hQ)))
   apply yk
   ·(intro _ _ hy;(conv=>whnf);exact hy)
   ·intro Q hQ
    conv=>whnf
    refine partK_lab agg40 hi40 hs40 (j:=j) (List.getElem?_eq_getElem hlt) (show 0+j * 2=2 * j by omega) ?_
    exact hQ
   ·(intro Q hQ;(conv=>whnf);exact hQ)
   repeat(first|((first|refine yw ?_|refine zX ?_|refine yX ?_|refine zk ?_);intro _ _)|refine yz ?_|refine xz ?_|refine yj ‹_› ?_|refine zw ‹_› ?_|refine yx ‹_› ?_|refine yq ‹_› ?_|refine zZ ?_|refine yy ?_|refine yv ?_|refine zq ?_|refine zY (fun Q hQ=>by (conv=>whnf);exact hQ) ?_|refine zj (fun Q hQ=>by (conv=>whnf);exact hQ) ?_|(apply yk;(·intro _ _ hy;(conv=>whnf);exact hy);(·intro Q hQ;(conv=>whnf);repeat(first|exact hQ|((first|refine xw (by first|rfl|assumption) ?_|refine xx (by first|rfl|assumption) ?_|refine zy ?_|refine zx ?_|unfold yZ);(conv=>whnf))));(·intro Q hQ;(conv=>whnf);exact hQ))|(apply yY;(·intro _ _ hy;(conv=>whnf);exact hy);(·intro Q hQ;(conv=>whnf);exact hQ)))
   apply xq
   ·(intro _ _ hy;(conv=>whnf);exact hy)
   intro Q hQ
   conv=>whnf
   refine d33_run ?_
   rw [hQ]
   conv=>whnf
   by_cases hji:j < i0
   ·have he:eqS l[j].2 []=false:=eqS_ne (hpre l[j] (by rw [List.mem_take_iff_getElem];exact ⟨j,by omega,rfl⟩))
    rw [he]
    repeat(first|((first|refine yw ?_|refine zX ?_|refine yX ?_|refine zk ?_);intro _ _)|refine yz ?_|refine xz ?_|refine yj ‹_› ?_|refine zw ‹_› ?_|refine yx ‹_› ?_|refine yq ‹_› ?_|refine zZ ?_|refine yy ?_|refine yv ?_|refine zq ?_|refine zY (fun Q hQ=>by (conv=>whnf);exact hQ) ?_|refine zj (fun Q hQ=>by (conv=>whnf);exact hQ) ?_|(apply yk;(·intro _ _ hy;(conv=>whnf);exact hy);(·intro Q hQ;(conv=>whnf);repeat(first|exact hQ|((first|refine xw (by first|rfl|assumption) ?_|refine xx (by first|rfl|assumption) ?_|refine zy ?_|refine zx ?_|unfold yZ);(conv=>whnf))));(·intro Q hQ;(conv=>whnf);exact hQ))|(apply yY;(·intro _ _ hy;(conv=>whnf);exact hy);(·intro Q hQ;(conv=>whnf);exact hQ)))
    apply yk
    ·(intro _ _ hy;(conv=>whnf);exact hy)
    ·intro Q hQ
     conv=>whnf
     refine wq (j+1) rfl (by show j+1 ≤ 9223372036854775807;omega) ?_
     exact hQ
    ·(intro Q hQ;(conv=>whnf);exact hQ)
    repeat(first|((first|refine yw ?_|refine zX ?_|refine yX ?_|refine zk ?_);intro _ _)|refine yz ?_|refine xz ?_|refine yj ‹_› ?_|refine zw ‹_› ?_|refine yx ‹_› ?_|refine yq ‹_› ?_|refine zZ ?_|refine yy ?_|refine yv ?_|refine zq ?_|refine zY (fun Q hQ=>by (conv=>whnf);exact hQ) ?_|refine zj (fun Q hQ=>by (conv=>whnf);exact hQ) ?_|(apply yk;(·intro _ _ hy;(conv=>whnf);exact hy);(·intro Q hQ;(conv=>whnf);repeat(first|exact hQ|((first|refine xw (by first|rfl|assumption) ?_|refine xx (by first|rfl|assumption) ?_|refine zy ?_|refine zx ?_|unfold yZ);(conv=>whnf))));(·intro Q hQ;(conv=>whnf);exact hQ))|(apply yY;(·intro _ _ hy;(conv=>whnf);exact hy);(·intro Q hQ;(conv=>whnf);exact hQ)))
    refine ⟨_,⟨Nat.le_refl _,?_⟩,rfl,ih _ hlt ⟨by omega,⟨rfl,rfl,zz rfl,zz rfl,zz rfl,zz rfl,rfl,rfl,rfl,zz rfl,zz rfl,zz rfl,zz rfl,zz rfl,zz rfl,zz rfl,zz rfl,zz rfl,zz rfl,trivial⟩⟩⟩
    repeat' (first
     | exact trivial
     | exact Nat.le_of_ble_eq_true rfl
     | exact ⟨_,rfl,.cells (wv _) (.inl rfl)⟩
     | apply And.intro)
   ·have hj:j=i0:=by omega
    subst hj
    have he:eqS l[j].2 []=true:=by rw [eqS_eq,hat hlt];rfl
    rw [he]
    have hr2:r=.ofNat j:=by rw [hr,if_pos hlt]
    subst hr2
    repeat(first|((first|refine yw ?_|refine zX ?_|refine yX ?_|refine zk ?_);intro _ _)|refine yz ?_|refine xz ?_|refine yj ‹_› ?_|refine zw ‹_› ?_|refine yx ‹_› ?_|refine yq ‹_› ?_|refine zZ ?_|refine yy ?_|refine yv ?_|refine zq ?_|refine zY (fun Q hQ=>by (conv=>whnf);exact hQ) ?_|refine zj (fun Q hQ=>by (conv=>whnf);exact hQ) ?_|(apply yk;(·intro _ _ hy;(conv=>whnf);exact hy);(·intro Q hQ;(conv=>whnf);repeat(first|exact hQ|((first|refine xw (by first|rfl|assumption) ?_|refine xx (by first|rfl|assumption) ?_|refine zy ?_|refine zx ?_|unfold yZ);(conv=>whnf))));(·intro Q hQ;(conv=>whnf);exact hQ))|(apply yY;(·intro _ _ hy;(conv=>whnf);exact hy);(·intro Q hQ;(conv=>whnf);exact hQ)))
    conv=>whnf
    rw [← hK]
    exact ⟨[],List.nodup_nil,by simp,.int _ _,trivial,trivial⟩

/-- Labels with a value. -/
noncomputable def fulls (l:List Lab):List Lab:=l.filter fun q=>!(eqS q.2 [])
/-- The row behind slices.DeleteFunc. -/
noncomputable def delL (l:List Lab):List Lab:=fulls l ++ List.replicate (l.length - (fulls l).length) ([],[])
theorem find_empty:∀ l:List Lab,(∀ x ∈ l,x.2 ≠ []) ∨ ∃ i,∃ h:i < l.length,l[i].2=[]∧∀ x ∈ l.take i,x.2 ≠ []
 | []=>.inl (by simp)
 | q :: l=>by
   by_cases hq:q.2=[]
   ·exact .inr ⟨0,by simp,hq,by simp⟩
   ·rcases find_empty l with h|⟨i,hi,h1,h2⟩
    ·exact .inl fun x hx=>by
      rcases List.mem_cons.1 hx with rfl|hx
      ·exact hq
      ·exact h x hx
    ·refine .inr ⟨i+1,by simpa using hi,by simpa using h1,fun x hx=>?_⟩
     rw [List.take_succ_cons] at hx
     rcases List.mem_cons.1 hx with rfl|hx
     ·exact hq
     ·exact h2 x hx
theorem fulls_all {l:List Lab} (h:∀ x ∈ l,x.2 ≠ []):fulls l=l:=List.filter_eq_self.2 fun q hq=>by rw [eqS_ne (h q hq)];rfl
theorem overK_lab0 {q:Lab}:∀ {c:Nat} {r:List Lab} {k:List V→Prop},c < r.length→k (cellsOf (r.set c q))→overK [.str q.1,.str q.2] (2 * c) (cellsOf r) k
 | 0,[],_,h,_=>by simp at h
 | 0,x :: r,k,_,h=>h
 | c+1,[],_,h,_=>by simp at h
 | c+1,x :: r,k,hc,h=>by
   show overK [.str q.1,.str q.2] (2 * c) (cellsOf r) fun y=>k (.str x.1 :: .str x.2 :: y)
   exact overK_lab0 (c:=c) (r:=r) (by simpa using hc) h
theorem over_lab {q:Lab} {c off:Nat} {r:List Lab} {k:List V→Prop} (hc:c < r.length) (ho:off=2 * c) (h:k (cellsOf (r.set c q))):overK [.str q.1,.str q.2] off (cellsOf r) k:=by subst ho;exact overK_lab0 hc h
theorem repK_zero:∀ {d:Nat} {r:List Lab} {k:List V→Prop},d=r.length→k (cellsOf (List.replicate d ([],[])))→repK (repl [.str [],.str []] d) (cellsOf r) k
 | 0,[],k,_,h=>h
 | 0,_ :: _,_,h,_=>by simp at h
 | d+1,[],_,h,_=>by simp at h
 | d+1,x :: r,k,hd,h=>by
   show repK (repl [.str [],.str []] d) (cellsOf r) fun y=>k (.str [] :: .str [] :: y)
   exact repK_zero (d:=d) (r:=r) (by simpa using hd) h
theorem overK_zero0 {d:Nat}:∀ {c:Nat} {r:List Lab} {k:List V→Prop},c+d=r.length→k (cellsOf (r.take c ++ List.replicate d ([],[])))→overK (repl [.str [],.str []] d) (2 * c) (cellsOf r) k
 | 0,r,k,hc,h=>repK_zero (by omega) h
 | c+1,[],k,hc,h=>by simp at hc
 | c+1,x :: r,k,hc,h=>by
   show overK (repl [.str [],.str []] d) (2 * c) (cellsOf r) fun y=>k (.str x.1 :: .str x.2 :: y)
   exact overK_zero0 (c:=c) (r:=r) (by simp at hc;omega) h
theorem over_zero {d c off:Nat} {r:List Lab} {k:List V→Prop} (hc:c+d=r.length) (ho:off=2 * c) (h:k (cellsOf (r.take c ++ List.replicate d ([],[])))):overK (repl [.str [],.str []] d) off (cellsOf r) k:=by subst ho;exact overK_zero0 hc h
attribute [local irreducible] overK
set_option maxHeartbeats 4000000 in
theorem delete_run {l:List Lab} (hlen:l.length ≤ 64) {S:St} {id:Nat} (hg:S.hs.get id=some (.cells (cellsOf l) 40 .rw)) {k:V→St→Prop}
  (hk:putK id (some (.cells (cellsOf (delL l)) 40 .rw)) S fun S=>k (.slice id 0 (fulls l).length l.length 2 false) S):RC Tryz.prog 32 [.slice id 0 l.length l.length 2 false,.func (.func 33) [] []] S k:=by
 obtain ⟨i40,hi40,hs40⟩:=info40
 refine RC.small mixed f32 (l:=[.slice ngl 0 l.length l.length 2 false,.func (.func 33) [] []]) 0 [id] [.cells (cellsOf l) 40 .rw] [.cells (cellsOf l) 40 .rw] [.cells (cellsOf (delL l)) 40 .rw] [] (v2:=.slice id 0 (fulls l).length l.length 2 false) ?_ (by simp) rfl rfl rfl ?_ ?_
  (.cons (.slice _ _ _ _ _ _ _ (Rin.at (a:=0) rfl (by simp)) (.inl rfl) (Nat.le_refl _) (fun h=>⟨h,rfl⟩)) (.cons (.func _ .nil .nil) .nil)) ?_ (by simp) ?_ hk
 ·rintro (_|a) (_|b) x _ h1 h2 <;> simp at h1 h2 ⊢
 ·rintro (_|a) j o h1 h2
  ·simp at h1 h2;subst h1;subst h2;exact hg
  ·simp at h1
 ·rintro (_|a) o1 o2 h1 h2
  ·simp at h1 h2;subst h1;subst h2;exact .cells (wv l) (.inl rfl)
  ·simp at h1
 ·rintro (_|a) o h
  ·simp at h;subst h;rfl
  ·simp at h
 ·show buildK _ ⟨T.nil,ngl+1⟩ _
  rcases find_empty l with hall|⟨i0,hi0,hat,hpre⟩
  ·have hfl:fulls l=l:=fulls_all hall
   have hdl:delL l=l:=by unfold delL;rw [hfl];simp
   rw [hdl,hfl]
   generalize hK:Post _ _ _ _ _ _ _=K
   apply wy
   ·intro Q hQ
    conv=>whnf
    exact hQ
   apply wx
   ·intro Q hQ
    conv=>whnf
    exact hQ
   intro K0 hK0
   unfold codeOf
   conv=>arg 7;whnf
   repeat(first|((first|refine yw ?_|refine zX ?_|refine yX ?_|refine zk ?_);intro _ _)|refine yz ?_|refine xz ?_|refine yj ‹_› ?_|refine zw ‹_› ?_|refine yx ‹_› ?_|refine yq ‹_› ?_|refine zZ ?_|refine yy ?_|refine yv ?_|refine zq ?_|refine zY (fun Q hQ=>by (conv=>whnf);exact hQ) ?_|refine zj (fun Q hQ=>by (conv=>whnf);exact hQ) ?_|(apply yk;(·intro _ _ hy;(conv=>whnf);exact hy);(·intro Q hQ;(conv=>whnf);repeat(first|exact hQ|((first|refine xw (by first|rfl|assumption) ?_|refine xx (by first|rfl|assumption) ?_|refine zy ?_|refine zx ?_|unfold yZ);(conv=>whnf))));(·intro Q hQ;(conv=>whnf);exact hQ))|(apply yY;(·intro _ _ hy;(conv=>whnf);exact hy);(·intro Q hQ;(conv=>whnf);exact hQ)))
   apply xq
   ·(intro _ _ hy;(conv=>whnf);exact hy)
   intro Q hQ
   conv=>whnf
   refine idx59_run (LV.mk (e:=40) (fl:=.rw) rfl (Nat.le_refl _)) hlen l.length (Nat.le_refl _) (fun x hx=>hall x (List.mem_of_mem_take hx)) (fun h=>absurd h (Nat.lt_irrefl _)) (r:=.negSucc 0) (by rw [if_neg (Nat.lt_irrefl _)]) ?_
   rw [hQ]
   conv=>whnf
   repeat(first|((first|refine yw ?_|refine zX ?_|refine yX ?_|refine zk ?_);intro _ _)|refine yz ?_|refine xz ?_|refine yj ‹_› ?_|refine zw ‹_› ?_|refine yx ‹_› ?_|refine yq ‹_› ?_|refine zZ ?_|refine yy ?_|refine yv ?_|refine zq ?_|refine zY (fun Q hQ=>by (conv=>whnf);exact hQ) ?_|refine zj (fun Q hQ=>by (conv=>whnf);exact hQ) ?_|(apply yk;(·intro _ _ hy;(conv=>whnf);exact hy);(·intro Q hQ;(conv=>whnf);repeat(first|exact hQ|((first|refine xw (by first|rfl|assumption) ?_|refine xx (by first|rfl|assumption) ?_|refine zy ?_|refine zx ?_|unfold yZ);(conv=>whnf))));(·intro Q hQ;(conv=>whnf);exact hQ))|(apply yY;(·intro _ _ hy;(conv=>whnf);exact hy);(·intro Q hQ;(conv=>whnf);exact hQ)))
   conv=>whnf
   rw [← hK]
   exact ⟨[],List.nodup_nil,by simp,.slice _ _ _ _ _ _ _ (Rou.at (a:=0) rfl (by simp) (Nat.le_refl _)) (.inl rfl) (Nat.le_refl _) (fun h=>⟨h,rfl⟩),⟨⟨_,rfl,.cells (wv _) (.inl rfl)⟩,trivial⟩,trivial⟩
  ·have hf0:fulls (l.take (i0+1))=l.take i0:=by
    rw [List.take_succ_eq_append_getElem hi0]
    unfold fulls
    rw [List.filter_append,show (l.take i0).filter (fun q=>!(eqS q.2 []))=l.take i0 from fulls_all hpre]
    simp [hat,eqS_self]
   generalize hK:Post _ _ _ _ _ _ _=K
   apply wy
   ·intro Q hQ
    conv=>whnf
    exact hQ
   apply wx
   ·intro Q hQ
    conv=>whnf
    exact hQ
   intro K0 hK0
   unfold codeOf
   conv=>arg 7;whnf
   repeat(first|((first|refine yw ?_|refine zX ?_|refine yX ?_|refine zk ?_);intro _ _)|refine yz ?_|refine xz ?_|refine yj ‹_› ?_|refine zw ‹_› ?_|refine yx ‹_› ?_|refine yq ‹_› ?_|refine zZ ?_|refine yy ?_|refine yv ?_|refine zq ?_|refine zY (fun Q hQ=>by (conv=>whnf);exact hQ) ?_|refine zj (fun Q hQ=>by (conv=>whnf);exact hQ) ?_|(apply yk;(·intro _ _ hy;(conv=>whnf);exact hy);(·intro Q hQ;(conv=>whnf);repeat(first|exact hQ|((first|refine xw (by first|rfl|assumption) ?_|refine xx (by first|rfl|assumption) ?_|refine zy ?_|refine zx ?_|unfold yZ);(conv=>whnf))));(·intro Q hQ;(conv=>whnf);exact hQ))|(apply yY;(·intro _ _ hy;(conv=>whnf);exact hy);(·intro Q hQ;(conv=>whnf);exact hQ)))
   apply xq
   ·(intro _ _ hy;(conv=>whnf);exact hy)
   intro Q hQ
   conv=>whnf
   refine idx59_run (LV.mk (e:=40) (fl:=.rw) rfl (Nat.le_refl _)) hlen i0 (Nat.le_of_lt hi0) hpre (fun _=>hat) (r:=.ofNat i0) (by rw [if_pos hi0]) ?_
   rw [hQ]
   conv=>whnf
   repeat(first|((first|refine yw ?_|refine zX ?_|refine yX ?_|refine zk ?_);intro _ _)|refine yz ?_|refine xz ?_|refine yj ‹_› ?_|refine zw ‹_› ?_|refine yx ‹_› ?_|refine yq ‹_› ?_|refine zZ ?_|refine yy ?_|refine yv ?_|refine zq ?_|refine zY (fun Q hQ=>by (conv=>whnf);exact hQ) ?_|refine zj (fun Q hQ=>by (conv=>whnf);exact hQ) ?_|(apply yk;(·intro _ _ hy;(conv=>whnf);exact hy);(·intro Q hQ;(conv=>whnf);repeat(first|exact hQ|((first|refine xw (by first|rfl|assumption) ?_|refine xx (by first|rfl|assumption) ?_|refine zy ?_|refine zx ?_|unfold yZ);(conv=>whnf))));(·intro Q hQ;(conv=>whnf);exact hQ))|(apply yY;(·intro _ _ hy;(conv=>whnf);exact hy);(·intro Q hQ;(conv=>whnf);exact hQ)))
   apply yk
   ·(intro _ _ hy;(conv=>whnf);exact hy)
   ·intro Q hQ
    conv=>whnf
    refine wq (i0+1) rfl (by show i0+1 ≤ 9223372036854775807;omega) ?_
    exact hQ
   ·(intro Q hQ;(conv=>whnf);exact hQ)
   repeat(first|((first|refine yw ?_|refine zX ?_|refine yX ?_|refine zk ?_);intro _ _)|refine yz ?_|refine xz ?_|refine yj ‹_› ?_|refine zw ‹_› ?_|refine yx ‹_› ?_|refine yq ‹_› ?_|refine zZ ?_|refine yy ?_|refine yv ?_|refine zq ?_|refine zY (fun Q hQ=>by (conv=>whnf);exact hQ) ?_|refine zj (fun Q hQ=>by (conv=>whnf);exact hQ) ?_|(apply yk;(·intro _ _ hy;(conv=>whnf);exact hy);(·intro Q hQ;(conv=>whnf);repeat(first|exact hQ|((first|refine xw (by first|rfl|assumption) ?_|refine xx (by first|rfl|assumption) ?_|refine zy ?_|refine zx ?_|unfold yZ);(conv=>whnf))));(·intro Q hQ;(conv=>whnf);exact hQ))|(apply yY;(·intro _ _ hy;(conv=>whnf);exact hy);(·intro Q hQ;(conv=>whnf);exact hQ)))
   refine LP.induct l.length (fun m E S'=>i0+1+m ≤ l.length∧∃ (r:List Lab) (c:Nat),c=(fulls (l.take (i0+1+m))).length∧r.length=l.length∧r.take c=fulls (l.take (i0+1+m))∧r.drop (i0+1+m)=l.drop (i0+1+m)∧c ≤ i0+m∧S'=mkS [(ngl,.cells (cellsOf r) 40 .rw)] (ngl+1)∧Fits E 0 [.slice ngl 0 l.length l.length 2 false,.func (.func 33) [] [],sl E 2,sl E 3,sl E 4,.int .i64 (.ofNat c),.int .i64 (.ofNat (i0+1+m)),sl E 7,sl E 8,sl E 9,sl E 10,sl E 11,sl E 12,sl E 13,sl E 14,sl E 15,sl E 16,sl E 17,sl E 18,sl E 19,sl E 20,sl E 21,sl E 22,sl E 23,sl E 24,sl E 25,sl E 26,sl E 27,sl E 28,sl E 29,sl E 30,sl E 31,sl E 32,sl E 33,sl E 34,sl E 35,sl E 36,sl E 37,sl E 38,sl E 39,sl E 40,sl E 41]) ⟨by omega,l,i0,?_,rfl,?_,rfl,Nat.le_refl _,by kernel_rfl,⟨rfl,rfl,zz rfl,zz rfl,zz rfl,rfl,rfl,zz rfl,zz rfl,zz rfl,zz rfl,zz rfl,zz rfl,zz rfl,zz rfl,zz rfl,zz rfl,zz rfl,zz rfl,zz rfl,zz rfl,zz rfl,zz rfl,zz rfl,zz rfl,zz rfl,zz rfl,zz rfl,zz rfl,zz rfl,zz rfl,zz rfl,zz rfl,zz rfl,zz rfl,zz rfl,zz rfl,zz rfl,zz rfl,zz rfl,zz rfl,zz rfl,trivial⟩⟩ ?_
   ·show i0=(fulls (l.take (i0+1))).length
    rw [hf0,List.length_take];omega
   ·show l.take i0=fulls (l.take (i0+1))
    exact hf0.symm
   intro m E S' ⟨hjl,r,c,hc,hrl,hrt,hrd,hci,hS',hf⟩ ih
   subst hS'
   refine LP.tree hf (⟨some (.slice ngl 0 l.length l.length 2 false),⟨some (.func (.func 33) [] []),⟨some (.int .i64 (.ofNat c)),⟨some (sl E 21),z0,z0,z0,z0⟩,⟨some (sl E 37),z0,z0,z0,z0⟩,z1,z1⟩,⟨some (sl E 9),⟨some (sl E 25),z0,z0,z0,z0⟩,⟨some (sl E 41),z0,z0,z0,z0⟩,z1,z1⟩,⟨some (sl E 13),⟨some (sl E 29),z0,z0,z0,z0⟩,z1,z1,z1⟩,⟨some (sl E 17),⟨some (sl E 33),z0,z0,z0,z0⟩,z1,z1,z1⟩⟩,⟨some (sl E 2),⟨some (.int .i64 (.ofNat (i0+1+m))),⟨some (sl E 22),z0,z0,z0,z0⟩,⟨some (sl E 38),z0,z0,z0,z0⟩,z1,z1⟩,⟨some (sl E 10),⟨some (sl E 26),z0,z0,z0,z0⟩,z1,z1,z1⟩,⟨some (sl E 14),⟨some (sl E 30),z0,z0,z0,z0⟩,z1,z1,z1⟩,⟨some (sl E 18),⟨some (sl E 34),z0,z0,z0,z0⟩,z1,z1,z1⟩⟩,⟨some (sl E 3),⟨some (sl E 7),⟨some (sl E 23),z0,z0,z0,z0⟩,⟨some (sl E 39),z0,z0,z0,z0⟩,z1,z1⟩,⟨some (sl E 11),⟨some (sl E 27),z0,z0,z0,z0⟩,z1,z1,z1⟩,⟨some (sl E 15),⟨some (sl E 31),z0,z0,z0,z0⟩,z1,z1,z1⟩,⟨some (sl E 19),⟨some (sl E 35),z0,z0,z0,z0⟩,z1,z1,z1⟩⟩,⟨some (sl E 4),⟨some (sl E 8),⟨some (sl E 24),z0,z0,z0,z0⟩,⟨some (sl E 40),z0,z0,z0,z0⟩,z1,z1⟩,⟨some (sl E 12),⟨some (sl E 28),z0,z0,z0,z0⟩,z1,z1,z1⟩,⟨some (sl E 16),⟨some (sl E 32),z0,z0,z0,z0⟩,z1,z1,z1⟩,⟨some (sl E 20),⟨some (sl E 36),z0,z0,z0,z0⟩,z1,z1,z1⟩⟩⟩) (by kernel_rfl) (LP.gc' mixed fun _ _=>?_)
   clear hf
   cases hb:ltI (.ofNat (i0+1+m)) (.ofNat l.length)
   ·have hge:l.length ≤ i0+1+m:=by rw [ltI_eq] at hb;exact Nat.le_of_not_lt fun h=>of_decide_eq_false hb (Int.ofNat_lt.2 h)
    obtain ⟨d,hd⟩:∃ d,l.length - c=d+1:=⟨l.length - c - 1,by omega⟩
    have hd2:Nat.sub l.length c=d+1:=hd
    have hcl:c ≤ l.length:=by omega
    repeat(first|((first|refine yw ?_|refine zX ?_|refine yX ?_|refine zk ?_);intro _ _)|refine yz ?_|refine xz ?_|refine yj ‹_› ?_|refine zw ‹_› ?_|refine yx ‹_› ?_|refine yq ‹_› ?_|refine zZ ?_|refine yy ?_|refine yv ?_|refine zq ?_|refine zY (fun Q hQ=>by (conv=>whnf);exact hQ) ?_|refine zj (fun Q hQ=>by (conv=>whnf);exact hQ) ?_|(apply yk;(·intro _ _ hy;(conv=>whnf);exact hy);(·intro Q hQ;(conv=>whnf);repeat(first|exact hQ|((first|refine xw (by first|rfl|assumption) ?_|refine xx (by first|rfl|assumption) ?_|refine zy ?_|refine zx ?_|unfold yZ);(conv=>whnf))));(·intro Q hQ;(conv=>whnf);exact hQ))|(apply yY;(·intro _ _ hy;(conv=>whnf);exact hy);(·intro Q hQ;(conv=>whnf);exact hQ)))
    apply yk
    ·(intro _ _ hy;(conv=>whnf);exact hy)
    ·intro Q hQ
     conv=>whnf
     refine ifK_intro (Nat.ble_eq_true_of_le hcl) ?_
     conv=>whnf
     refine ifK_intro (Nat.ble_eq_true_of_le (Nat.le_refl l.length)) ?_
     conv=>whnf
     repeat(first|exact hQ|((first|refine xw (by first|rfl|assumption) ?_|refine xx (by first|rfl|assumption) ?_|refine zy ?_|refine zx ?_);(conv=>whnf)))
    ·(intro Q hQ;(conv=>whnf);exact hQ)
    repeat(first|((first|refine yw ?_|refine zX ?_|refine yX ?_|refine zk ?_);intro _ _)|refine yz ?_|refine xz ?_|refine yj ‹_› ?_|refine zw ‹_› ?_|refine yx ‹_› ?_|refine yq ‹_› ?_|refine zZ ?_|refine yy ?_|refine yv ?_|refine zq ?_|refine zY (fun Q hQ=>by (conv=>whnf);exact hQ) ?_|refine zj (fun Q hQ=>by (conv=>whnf);exact hQ) ?_|(apply yk;(·intro _ _ hy;(conv=>whnf);exact hy);(·intro Q hQ;(conv=>whnf);repeat(first|exact hQ|((first|refine xw (by first|rfl|assumption) ?_|refine xx (by first|rfl|assumption) ?_|refine zy ?_|refine zx ?_|unfold yZ);(conv=>whnf))));(·intro Q hQ;(conv=>whnf);exact hQ))|(apply yY;(·intro _ _ hy;(conv=>whnf);exact hy);(·intro Q hQ;(conv=>whnf);exact hQ)))
    apply xq
    ·(intro _ _ hy;(conv=>whnf);exact hy)
    intro Q hQ
    conv=>whnf
    rw [hd2]
    conv=>whnf
    refine over_zero (c:=c) (d:=d+1) (by omega) (show 0+c * 2=2 * c by omega) ?_
    conv=>whnf
    rw [hQ]
    conv=>whnf
    repeat(first|((first|refine yw ?_|refine zX ?_|refine yX ?_|refine zk ?_);intro _ _)|refine yz ?_|refine xz ?_|refine yj ‹_› ?_|refine zw ‹_› ?_|refine yx ‹_› ?_|refine yq ‹_› ?_|refine zZ ?_|refine yy ?_|refine yv ?_|refine zq ?_|refine zY (fun Q hQ=>by (conv=>whnf);exact hQ) ?_|refine zj (fun Q hQ=>by (conv=>whnf);exact hQ) ?_|(apply yk;(·intro _ _ hy;(conv=>whnf);exact hy);(·intro Q hQ;(conv=>whnf);repeat(first|exact hQ|((first|refine xw (by first|rfl|assumption) ?_|refine xx (by first|rfl|assumption) ?_|refine zy ?_|refine zx ?_|unfold yZ);(conv=>whnf))));(·intro Q hQ;(conv=>whnf);exact hQ))|(apply yY;(·intro _ _ hy;(conv=>whnf);exact hy);(·intro Q hQ;(conv=>whnf);exact hQ)))
    apply yk
    ·(intro _ _ hy;(conv=>whnf);exact hy)
    ·intro Q hQ
     conv=>whnf
     refine ifK_intro (Nat.ble_eq_true_of_le hcl) ?_
     conv=>whnf
     repeat(first|exact hQ|((first|refine xw (by first|rfl|assumption) ?_|refine xx (by first|rfl|assumption) ?_|refine zy ?_|refine zx ?_);(conv=>whnf)))
    ·(intro Q hQ;(conv=>whnf);exact hQ)
    repeat(first|((first|refine yw ?_|refine zX ?_|refine yX ?_|refine zk ?_);intro _ _)|refine yz ?_|refine xz ?_|refine yj ‹_› ?_|refine zw ‹_› ?_|refine yx ‹_› ?_|refine yq ‹_› ?_|refine zZ ?_|refine yy ?_|refine yv ?_|refine zq ?_|refine zY (fun Q hQ=>by (conv=>whnf);exact hQ) ?_|refine zj (fun Q hQ=>by (conv=>whnf);exact hQ) ?_|(apply yk;(·intro _ _ hy;(conv=>whnf);exact hy);(·intro Q hQ;(conv=>whnf);repeat(first|exact hQ|((first|refine xw (by first|rfl|assumption) ?_|refine xx (by first|rfl|assumption) ?_|refine zy ?_|refine zx ?_|unfold yZ);(conv=>whnf))));(·intro Q hQ;(conv=>whnf);exact hQ))|(apply yY;(·intro _ _ hy;(conv=>whnf);exact hy);(·intro Q hQ;(conv=>whnf);exact hQ)))
    have hfin:fulls (l.take (i0+1+m))=fulls l:=by rw [List.take_of_length_le hge]
    rw [hfin] at hc hrt
    have hrow:r.take c ++ List.replicate (d+1) ([],[])=delL l:=by rw [hrt];unfold delL;rw [← hc,hd]
    rw [hrow]
    conv=>whnf
    rw [← hK,← hc]
    exact ⟨[],List.nodup_nil,by simp,.slice _ _ _ _ _ _ _ (Rou.at (a:=0) rfl (by simp) (Nat.le_refl _)) (.inl rfl) (Nat.le_refl _) (fun h=>⟨h,rfl⟩),⟨⟨_,rfl,.cells (wv _) (.inl rfl)⟩,trivial⟩,trivial⟩
   ·have hlt:i0+1+m < l.length:=by rw [ltI_eq] at hb;exact Int.ofNat_lt.1 (of_decide_eq_true hb)
    have hlr:i0+1+m < r.length:=by omega
    have hblt:Nat.blt (i0+1+m) l.length=true:=hb
    have hrj:r[i0+1+m]=l[i0+1+m]:=by
     have h1:(r.drop (i0+1+m))[0]?=(l.drop (i0+1+m))[0]?:=by rw [hrd]
     rw [List.getElem?_drop,List.getElem?_drop,Nat.add_zero,List.getElem?_eq_getElem hlr,List.getElem?_eq_getElem (by omega)] at h1
     exact Option.some.inj h1
    repeat(first|((first|refine yw ?_|refine zX ?_|refine yX ?_|refine zk ?_);intro _ _)|refine yz ?_|refine xz ?_|refine yj ‹_› ?_|refine zw ‹_› ?_|refine yx ‹_› ?_|refine yq ‹_› ?_|refine zZ ?_|refine yy ?_|refine yv ?_|refine zq ?_|refine zY (fun Q hQ=>by (conv=>whnf);exact hQ) ?_|refine zj (fun Q hQ=>by (conv=>whnf);exact hQ) ?_|(apply yk;(·intro _ _ hy;(conv=>whnf);exact hy);(·intro Q hQ;(conv=>whnf);repeat(first|exact hQ|((first|refine xw (by first|rfl|assumption) ?_|refine xx (by first|rfl|assumption) ?_|refine zy ?_|refine zx ?_|unfold yZ);(conv=>whnf))));(·intro Q hQ;(conv=>whnf);exact hQ))|(apply yY;(·intro _ _ hy;(conv=>whnf);exact hy);(·intro Q hQ;(conv=>whnf);exact hQ)))
    apply yk
    ·(intro _ _ hy;(conv=>whnf);exact hy)
    ·intro Q hQ
     conv=>whnf
     refine bcase (fun _=>?_) (fun h=>absurd (h.symm.trans hblt) (by simp))
     conv=>whnf
     repeat(first|exact hQ|((first|refine xw (by first|rfl|assumption) ?_|refine xx (by first|rfl|assumption) ?_|refine zy ?_|refine zx ?_);(conv=>whnf)))
    ·(intro Q hQ;(conv=>whnf);exact hQ)
    repeat(first|((first|refine yw ?_|refine zX ?_|refine yX ?_|refine zk ?_);intro _ _)|refine yz ?_|refine xz ?_|refine yj ‹_› ?_|refine zw ‹_› ?_|refine yx ‹_› ?_|refine yq ‹_› ?_|refine zZ ?_|refine yy ?_|refine yv ?_|refine zq ?_|refine zY (fun Q hQ=>by (conv=>whnf);exact hQ) ?_|refine zj (fun Q hQ=>by (conv=>whnf);exact hQ) ?_|(apply yk;(·intro _ _ hy;(conv=>whnf);exact hy);(·intro Q hQ;(conv=>whnf);repeat(first|exact hQ|((first|refine xw (by first|rfl|assumption) ?_|refine xx (by first|rfl|assumption) ?_|refine zy ?_|refine zx ?_|unfold yZ);(conv=>whnf))));(·intro Q hQ;(conv=>whnf);exact hQ))|(apply yY;(·intro _ _ hy;(conv=>whnf);exact hy);(·intro Q hQ;(conv=>whnf);exact hQ)))
    apply yk
    ·(intro _ _ hy;(conv=>whnf);exact hy)
    ·intro Q hQ
     conv=>whnf
     refine partK_lab agg40 hi40 hs40 (j:=i0+1+m) (List.getElem?_eq_getElem hlr) (show 0+(i0+1+m) * 2=2 * (i0+1+m) by omega) ?_
     exact hQ
    ·(intro Q hQ;(conv=>whnf);exact hQ)
    repeat(first|((first|refine yw ?_|refine zX ?_|refine yX ?_|refine zk ?_);intro _ _)|refine yz ?_|refine xz ?_|refine yj ‹_› ?_|refine zw ‹_› ?_|refine yx ‹_› ?_|refine yq ‹_› ?_|refine zZ ?_|refine yy ?_|refine yv ?_|refine zq ?_|refine zY (fun Q hQ=>by (conv=>whnf);exact hQ) ?_|refine zj (fun Q hQ=>by (conv=>whnf);exact hQ) ?_|(apply yk;(·intro _ _ hy;(conv=>whnf);exact hy);(·intro Q hQ;(conv=>whnf);repeat(first|exact hQ|((first|refine xw (by first|rfl|assumption) ?_|refine xx (by first|rfl|assumption) ?_|refine zy ?_|refine zx ?_|unfold yZ);(conv=>whnf))));(·intro Q hQ;(conv=>whnf);exact hQ))|(apply yY;(·intro _ _ hy;(conv=>whnf);exact hy);(·intro Q hQ;(conv=>whnf);exact hQ)))
    apply yk
    ·(intro _ _ hy;(conv=>whnf);exact hy)
    ·intro Q hQ
     conv=>whnf
     unfold overK
     conv=>whnf
     exact hQ
    ·(intro Q hQ;(conv=>whnf);exact hQ)
    repeat(first|((first|refine yw ?_|refine zX ?_|refine yX ?_|refine zk ?_);intro _ _)|refine yz ?_|refine xz ?_|refine yj ‹_› ?_|refine zw ‹_› ?_|refine yx ‹_› ?_|refine yq ‹_› ?_|refine zZ ?_|refine yy ?_|refine yv ?_|refine zq ?_|refine zY (fun Q hQ=>by (conv=>whnf);exact hQ) ?_|refine zj (fun Q hQ=>by (conv=>whnf);exact hQ) ?_|(apply yk;(·intro _ _ hy;(conv=>whnf);exact hy);(·intro Q hQ;(conv=>whnf);repeat(first|exact hQ|((first|refine xw (by first|rfl|assumption) ?_|refine xx (by first|rfl|assumption) ?_|refine zy ?_|refine zx ?_|unfold yZ);(conv=>whnf))));(·intro Q hQ;(conv=>whnf);exact hQ))|(apply yY;(·intro _ _ hy;(conv=>whnf);exact hy);(·intro Q hQ;(conv=>whnf);exact hQ)))
    apply xq
    ·(intro _ _ hy;(conv=>whnf);exact hy)
    intro Q hQ
    conv=>whnf
    refine d33_run ?_
    rw [hQ]
    conv=>whnf
    have hF:fulls (l.take (i0+1+(m+1)))=fulls (l.take (i0+1+m)) ++ if eqS r[i0+1+m].2 []=true then [] else [r[i0+1+m]]:=by
     show fulls (l.take (i0+1+m+1))=_
     rw [List.take_succ_eq_append_getElem hlt,hrj]
     unfold fulls
     rw [List.filter_append]
     congr 1
     cases hc0:eqS l[i0+1+m].2 [] <;> simp [hc0]
    have hrd2:r.drop (i0+1+(m+1))=l.drop (i0+1+(m+1)):=by
     have h1:=congrArg (List.drop 1) hrd
     rw [List.drop_drop,List.drop_drop] at h1
     exact h1
    cases he:eqS r[i0+1+m].2 []
    ·rw [he] at hF
     rw [if_neg (by simp)] at hF
     have hbc:Nat.blt c l.length=true:=Nat.ble_eq_true_of_le (show c+1 ≤ l.length by omega)
     repeat(first|((first|refine yw ?_|refine zX ?_|refine yX ?_|refine zk ?_);intro _ _)|refine yz ?_|refine xz ?_|refine yj ‹_› ?_|refine zw ‹_› ?_|refine yx ‹_› ?_|refine yq ‹_› ?_|refine zZ ?_|refine yy ?_|refine yv ?_|refine zq ?_|refine zY (fun Q hQ=>by (conv=>whnf);exact hQ) ?_|refine zj (fun Q hQ=>by (conv=>whnf);exact hQ) ?_|(apply yk;(·intro _ _ hy;(conv=>whnf);exact hy);(·intro Q hQ;(conv=>whnf);repeat(first|exact hQ|((first|refine xw (by first|rfl|assumption) ?_|refine xx (by first|rfl|assumption) ?_|refine zy ?_|refine zx ?_|unfold yZ);(conv=>whnf))));(·intro Q hQ;(conv=>whnf);exact hQ))|(apply yY;(·intro _ _ hy;(conv=>whnf);exact hy);(·intro Q hQ;(conv=>whnf);exact hQ)))
     apply yk
     ·(intro _ _ hy;(conv=>whnf);exact hy)
     ·intro Q hQ
      conv=>whnf
      refine bcase (fun _=>?_) (fun h=>absurd (h.symm.trans hbc) (by simp))
      conv=>whnf
      repeat(first|exact hQ|((first|refine xw (by first|rfl|assumption) ?_|refine xx (by first|rfl|assumption) ?_|refine zy ?_|refine zx ?_);(conv=>whnf)))
     ·(intro Q hQ;(conv=>whnf);exact hQ)
     repeat(first|((first|refine yw ?_|refine zX ?_|refine yX ?_|refine zk ?_);intro _ _)|refine yz ?_|refine xz ?_|refine yj ‹_› ?_|refine zw ‹_› ?_|refine yx ‹_› ?_|refine yq ‹_› ?_|refine zZ ?_|refine yy ?_|refine yv ?_|refine zq ?_|refine zY (fun Q hQ=>by (conv=>whnf);exact hQ) ?_|refine zj (fun Q hQ=>by (conv=>whnf);exact hQ) ?_|(apply yk;(·intro _ _ hy;(conv=>whnf);exact hy);(·intro Q hQ;(conv=>whnf);repeat(first|exact hQ|((first|refine xw (by first|rfl|assumption) ?_|refine xx (by first|rfl|assumption) ?_|refine zy ?_|refine zx ?_|unfold yZ);(conv=>whnf))));(·intro Q hQ;(conv=>whnf);exact hQ))|(apply yY;(·intro _ _ hy;(conv=>whnf);exact hy);(·intro Q hQ;(conv=>whnf);exact hQ)))
     apply xq
     ·(intro _ _ hy;(conv=>whnf);exact hy)
     intro Q hQ
     conv=>whnf
     refine over_lab (r:=r) (c:=c) (q:=r[i0+1+m]) (by omega) (show 0+c * 2=2 * c by omega) ?_
     conv=>whnf
     rw [hQ]
     conv=>whnf
     repeat(first|((first|refine yw ?_|refine zX ?_|refine yX ?_|refine zk ?_);intro _ _)|refine yz ?_|refine xz ?_|refine yj ‹_› ?_|refine zw ‹_› ?_|refine yx ‹_› ?_|refine yq ‹_› ?_|refine zZ ?_|refine yy ?_|refine yv ?_|refine zq ?_|refine zY (fun Q hQ=>by (conv=>whnf);exact hQ) ?_|refine zj (fun Q hQ=>by (conv=>whnf);exact hQ) ?_|(apply yk;(·intro _ _ hy;(conv=>whnf);exact hy);(·intro Q hQ;(conv=>whnf);repeat(first|exact hQ|((first|refine xw (by first|rfl|assumption) ?_|refine xx (by first|rfl|assumption) ?_|refine zy ?_|refine zx ?_|unfold yZ);(conv=>whnf))));(·intro Q hQ;(conv=>whnf);exact hQ))|(apply yY;(·intro _ _ hy;(conv=>whnf);exact hy);(·intro Q hQ;(conv=>whnf);exact hQ)))
     apply yk
     ·(intro _ _ hy;(conv=>whnf);exact hy)
     ·intro Q hQ
      conv=>whnf
      refine wq (c+1) rfl (by show c+1 ≤ 9223372036854775807;omega) ?_
      exact hQ
     ·(intro Q hQ;(conv=>whnf);exact hQ)
     repeat(first|((first|refine yw ?_|refine zX ?_|refine yX ?_|refine zk ?_);intro _ _)|refine yz ?_|refine xz ?_|refine yj ‹_› ?_|refine zw ‹_› ?_|refine yx ‹_› ?_|refine yq ‹_› ?_|refine zZ ?_|refine yy ?_|refine yv ?_|refine zq ?_|refine zY (fun Q hQ=>by (conv=>whnf);exact hQ) ?_|refine zj (fun Q hQ=>by (conv=>whnf);exact hQ) ?_|(apply yk;(·intro _ _ hy;(conv=>whnf);exact hy);(·intro Q hQ;(conv=>whnf);repeat(first|exact hQ|((first|refine xw (by first|rfl|assumption) ?_|refine xx (by first|rfl|assumption) ?_|refine zy ?_|refine zx ?_|unfold yZ);(conv=>whnf))));(·intro Q hQ;(conv=>whnf);exact hQ))|(apply yY;(·intro _ _ hy;(conv=>whnf);exact hy);(·intro Q hQ;(conv=>whnf);exact hQ)))
     apply yk
     ·(intro _ _ hy;(conv=>whnf);exact hy)
     ·intro Q hQ
      conv=>whnf
      refine wq (i0+1+m+1) rfl (by show i0+1+m+1 ≤ 9223372036854775807;omega) ?_
      exact hQ
     ·(intro Q hQ;(conv=>whnf);exact hQ)
     repeat(first|((first|refine yw ?_|refine zX ?_|refine yX ?_|refine zk ?_);intro _ _)|refine yz ?_|refine xz ?_|refine yj ‹_› ?_|refine zw ‹_› ?_|refine yx ‹_› ?_|refine yq ‹_› ?_|refine zZ ?_|refine yy ?_|refine yv ?_|refine zq ?_|refine zY (fun Q hQ=>by (conv=>whnf);exact hQ) ?_|refine zj (fun Q hQ=>by (conv=>whnf);exact hQ) ?_|(apply yk;(·intro _ _ hy;(conv=>whnf);exact hy);(·intro Q hQ;(conv=>whnf);repeat(first|exact hQ|((first|refine xw (by first|rfl|assumption) ?_|refine xx (by first|rfl|assumption) ?_|refine zy ?_|refine zx ?_|unfold yZ);(conv=>whnf))));(·intro Q hQ;(conv=>whnf);exact hQ))|(apply yY;(·intro _ _ hy;(conv=>whnf);exact hy);(·intro Q hQ;(conv=>whnf);exact hQ)))
     refine ⟨mkS [(ngl,.cells (cellsOf (r.set c r[i0+1+m])) 40 .rw)] (ngl+1),⟨Nat.le_refl _,?_⟩,rfl,ih _ _ (by omega) ⟨by omega,r.set c r[i0+1+m],c+1,?_,?_,?_,?_,by omega,rfl,?_⟩⟩
     ·
      repeat' (first
       | exact trivial
       | exact Nat.le_of_ble_eq_true rfl
       | exact ⟨_,rfl,.cells (wv _) (.inl rfl)⟩
       | apply And.intro)
     ·rw [hF,List.length_append,← hc];rfl
     ·rw [List.length_set];exact hrl
     ·rw [hF,← hrt]
      have hcr:c < r.length:=by omega
      rw [List.take_succ_eq_append_getElem (by rw [List.length_set];exact hcr),List.take_set_of_le (Nat.le_refl _)]
      simp
     ·rw [← hrd2,List.drop_set_of_lt (by omega)]
     ·exact ⟨rfl,rfl,zz rfl,zz rfl,zz rfl,rfl,rfl,zz rfl,zz rfl,zz rfl,zz rfl,zz rfl,zz rfl,zz rfl,zz rfl,zz rfl,zz rfl,zz rfl,zz rfl,zz rfl,zz rfl,zz rfl,zz rfl,zz rfl,zz rfl,zz rfl,zz rfl,zz rfl,zz rfl,zz rfl,zz rfl,zz rfl,zz rfl,zz rfl,zz rfl,zz rfl,zz rfl,zz rfl,zz rfl,zz rfl,zz rfl,zz rfl,trivial⟩
    ·rw [he] at hF
     rw [if_pos rfl,List.append_nil] at hF
     repeat(first|((first|refine yw ?_|refine zX ?_|refine yX ?_|refine zk ?_);intro _ _)|refine yz ?_|refine xz ?_|refine yj ‹_› ?_|refine zw ‹_› ?_|refine yx ‹_› ?_|refine yq ‹_› ?_|refine zZ ?_|refine yy ?_|refine yv ?_|refine zq ?_|refine zY (fun Q hQ=>by (conv=>whnf);exact hQ) ?_|refine zj (fun Q hQ=>by (conv=>whnf);exact hQ) ?_|(apply yk;(·intro _ _ hy;(conv=>whnf);exact hy);(·intro Q hQ;(conv=>whnf);repeat(first|exact hQ|((first|refine xw (by first|rfl|assumption) ?_|refine xx (by first|rfl|assumption) ?_|refine zy ?_|refine zx ?_|unfold yZ);(conv=>whnf))));(·intro Q hQ;(conv=>whnf);exact hQ))|(apply yY;(·intro _ _ hy;(conv=>whnf);exact hy);(·intro Q hQ;(conv=>whnf);exact hQ)))
     apply yk
     ·(intro _ _ hy;(conv=>whnf);exact hy)
     ·intro Q hQ
      conv=>whnf
      refine wq (i0+1+m+1) rfl (by show i0+1+m+1 ≤ 9223372036854775807;omega) ?_
      exact hQ
     ·(intro Q hQ;(conv=>whnf);exact hQ)
     repeat(first|((first|refine yw ?_|refine zX ?_|refine yX ?_|refine zk ?_);intro _ _)|refine yz ?_|refine xz ?_|refine yj ‹_› ?_|refine zw ‹_› ?_|refine yx ‹_› ?_|refine yq ‹_› ?_|refine zZ ?_|refine yy ?_|refine yv ?_|refine zq ?_|refine zY (fun Q hQ=>by (conv=>whnf);exact hQ) ?_|refine zj (fun Q hQ=>by (conv=>whnf);exact hQ) ?_|(apply yk;(·intro _ _ hy;(conv=>whnf);exact hy);(·intro Q hQ;(conv=>whnf);repeat(first|exact hQ|((first|refine xw (by first|rfl|assumption) ?_|refine xx (by first|rfl|assumption) ?_|refine zy ?_|refine zx ?_|unfold yZ);(conv=>whnf))));(·intro Q hQ;(conv=>whnf);exact hQ))|(apply yY;(·intro _ _ hy;(conv=>whnf);exact hy);(·intro Q hQ;(conv=>whnf);exact hQ)))
     refine ⟨mkS [(ngl,.cells (cellsOf r) 40 .rw)] (ngl+1),⟨Nat.le_refl _,?_⟩,rfl,ih _ _ (by omega) ⟨by omega,r,c,by rw [hF];exact hc,hrl,by rw [hF];exact hrt,hrd2,by omega,rfl,?_⟩⟩
     ·
      repeat' (first
       | exact trivial
       | exact Nat.le_of_ble_eq_true rfl
       | exact ⟨_,rfl,.cells (wv _) (.inl rfl)⟩
       | apply And.intro)
     ·exact ⟨rfl,rfl,zz rfl,zz rfl,zz rfl,rfl,rfl,zz rfl,zz rfl,zz rfl,zz rfl,zz rfl,zz rfl,zz rfl,zz rfl,zz rfl,zz rfl,zz rfl,zz rfl,zz rfl,zz rfl,zz rfl,zz rfl,zz rfl,zz rfl,zz rfl,zz rfl,zz rfl,zz rfl,zz rfl,zz rfl,zz rfl,zz rfl,zz rfl,zz rfl,zz rfl,zz rfl,zz rfl,zz rfl,zz rfl,zz rfl,zz rfl,trivial⟩
end Go.Am
/- A world that has grown behind; a row of a world that is written anew. -/
namespace Go.Am
open Go.Sort
variable {P:Program}

/-- Two rows of labels that are both in order and hold the same labels are one. -/
theorem asc_unique:∀ {a b:List Lab},a.Pairwise (fun p q=>ltS p.1 q.1=true)→b.Pairwise (fun p q=>ltS p.1 q.1=true)→(∀ x,x ∈ a ↔ x ∈ b)→a=b
 | [],[],_,_,_=>rfl
 | [],y :: b,_,_,h=>absurd ((h y).2 (by simp)) (by simp)
 | x :: a,[],_,_,h=>absurd ((h x).1 (by simp)) (by simp)
 | x :: a,y :: b,ha,hb,h=>by
   have ha':=List.pairwise_cons.1 ha
   have hb':=List.pairwise_cons.1 hb
   have hxy:x=y:=by
    rcases List.mem_cons.1 ((h x).1 (by simp)) with e|e
    ·exact e
    ·rcases List.mem_cons.1 ((h y).2 (by simp)) with e2|e2
     ·exact e2.symm
     ·have h1:=hb'.1 x e
      have h2:=ha'.1 y e2
      have h3:=ltS_trans h1 h2
      rw [ltS_irrefl] at h3;cases h3
   subst hxy
   have hnot:∀ (c:List Lab),(∀ z ∈ c,ltS x.1 z.1=true)→x ∉ c:=fun c hc hx=>by
    have:=hc x hx
    rw [ltS_irrefl] at this;cases this
   rw [asc_unique ha'.2 hb'.2 fun z=>⟨fun hz=>by
    rcases List.mem_cons.1 ((h z).1 (List.mem_cons_of_mem _ hz)) with e|e
    ·subst e;exact absurd hz (hnot a ha'.1)
    ·exact e,fun hz=>by
    rcases List.mem_cons.1 ((h z).2 (List.mem_cons_of_mem _ hz)) with e|e
    ·subst e;exact absurd hz (hnot b hb'.1)
    ·exact e⟩]
theorem Sim.grow {ρ:Rho} {S:Hs} {w:World} (h:Sim ρ S w) (os:Array Obj):Sim ρ S (Go.Sort.grow w os) :=
 ⟨fun id o ho=>by
  obtain ⟨l,co,a,b,c⟩:=h.obj id o ho
  refine ⟨l,co,a,?_,c⟩
  have hlt:l.blk < w.heap.size:=by
   rcases Nat.lt_or_ge l.blk w.heap.size with h'|h'
   ·exact h'
   ·simp [Array.getElem?_eq_none h'] at b
  show (w.heap ++ os)[l.blk]?=some co
  rw [Array.getElem?_append_left hlt];exact b,h.sep,h.fresh⟩
theorem Ext.grow (ρ:Rho) (S:Hs) (w:World) (os:Array Obj):Ext ρ S w ρ S (Go.Sort.grow w os) :=
 ⟨fun _ _=>rfl,Nat.le_refl _,by simp [Go.Sort.grow],fun b hb _=>by show (w.heap ++ os)[b]?=_;rw [Array.getElem?_append_left hb],fun _ h=>.inr h,fun _ h=>.inr h,rfl,rfl,rfl,Nat.le_refl _⟩
theorem Sim.ahead {ρ:Rho} {S:Hs} {w:World} (h:Sim ρ S w) (n:Nat):Sim ρ S (Go.Sort.ahead w n):=⟨h.obj,h.sep,h.fresh⟩
theorem Ext.ahead (ρ:Rho) (S:Hs) (w:World) (n:Nat):Ext ρ S w ρ S (Go.Sort.ahead w n):=⟨fun _ _=>rfl,Nat.le_refl _,Nat.le_refl _,fun _ _ _=>rfl,fun _ h=>.inr h,fun _ h=>.inr h,rfl,rfl,rfl,Nat.le_add_right _ _⟩
end Go.Am
/- slices.SortFunc on labels: its contract as a call of the evaluator's. -/
namespace Go.Am
open Go.Sort Go.Proofs
variable {P:Program}

theorem CallS.callsOf {g:FuncId} {fn:Func} {l:List V} {H H':Hs} {v:V} (h:CallS P g l H v H') (hf:P.funcs[g]?=some fn) (h0:¬ fn.name = "runtime.NumGoroutine") {c:Code} (hb:fn.body=some c)
  {ρ:Rho} {w:World} {l':List Value} (hg:Globs ρ) (hs:Sim ρ H w) (hl:VRs ρ l l'):Calls P g ⟨l'⟩ w (Rt ρ H w v H'):=by
 have hcall:(callFunc g ⟨l'⟩).run P w=.ok (.enter g ⟨l'⟩) w:=by simp [callFunc,hf,h0,hb]
 have:=h ρ w l' hg hs hl
 rw [hcall] at this
 exact callsIn_any.1 this
/-- A world that has only grown. -/
theorem Ext.grown {ρ ρ':Rho} {H H':Hs} {w w':World} (h:Ext ρ H w ρ' H' w') (h0:∀ id,H.get id=none):∃ q os,w'=Go.Sort.grow (w.drewN q) os:=by
 refine ⟨w'.drawn - w.drawn,w'.heap.extract w.heap.size w'.heap.size,?_⟩
 have hh:w'.heap=w.heap ++ w'.heap.extract w.heap.size w'.heap.size:=by
  have hsz:=h.size
  apply Array.ext_getElem?
  intro b
  rw [Array.getElem?_append]
  split
  ·rename_i hb
   refine h.keep b hb fun ⟨id,l,h1,_⟩=>?_
   rw [h0 id] at h1;cases h1
  ·rename_i hb
   rw [Array.getElem?_extract]
   by_cases hb2:b < w'.heap.size
   ·rw [if_pos (by omega)]
    congr 1;omega
   ·rw [if_neg (by omega),Array.getElem?_eq_none (by omega)]
 have hd:=h.drawn
 have ext:∀ a b:World,a.heap=b.heap→a.tape=b.tape→a.drawn=b.drawn→a.os=b.os→a.output=b.output→a=b:=fun a b h1 h2 h3 h4 h5=>by
  cases a;cases b
  cases h1;cases h2;cases h3;cases h4;cases h5
  rfl
 exact ext _ _ hh h.tape (show w'.drawn=w.drawn+(w'.drawn - w.drawn) by omega) h.os h.output
/-- The two cells of a label. -/
def encL (x:Lab):List Value:=[.string ⟨⟨x.1⟩⟩,.string ⟨⟨x.2⟩⟩]
theorem T_get_nil {α:Type} (d n:Nat):T.get d n (.nil:T α)=none:=by
 unfold T.get
 cases digs d n with
 | none=>rfl
 | some l =>
   show T.getL l .nil=none
   induction l with
   | nil=>rfl
   | cons x l ih=>cases x <;> exact rfl
theorem cmpLays_of {c:FuncId} {fn:Func} {body:Code} (hf:P.funcs[c]?=some fn) (h0:¬ fn.name = "runtime.NumGoroutine") (hb:fn.body=some body) {cf:Lab→Lab→Int}
  (hc:∀ (x y:Lab) (n:Nat),RC P c [.agg [.str x.1,.str x.2],.agg [.str y.1,.str y.2]] ⟨.nil,n⟩ fun v _=>v=.int .i64 (cf x y)) {ρ:Rho} (hg:Globs ρ) {n:Nat} (hn:∀ id,n ≤ id→ρ id=none) (blk off size:Nat) (w:World) :
  CmpLays P c #[] encL 2 cf blk off size w:=fun m os dk _ x y=>by
 cases hc x y n with
 | mk v S' h1 hv0 =>
 subst hv0
 have hget:∀ id,(St.hs ⟨.nil,n⟩).get id=none:=fun id=>T_get_nil _ _
 have hs:Sim ρ (St.hs ⟨.nil,n⟩) (sortWorldK encL 2 w blk off m dk os):=⟨fun id o ho=>(by rw [hget] at ho;cases ho),fun id _ _ _ h=>(by rw [hget] at h;cases h),hn⟩
 refine (h1.callsOf hf h0 hb hg hs (l':=[.agg ⟨encL x⟩,.agg ⟨encL y⟩]) (.cons (.agg (.cons (.str _) (.cons (.str _) .nil))) (.cons (.agg (.cons (.str _) (.cons (.str _) .nil))) .nil))).mono fun e w' ⟨v',ρ',he,hv,_,hx⟩=>?_
 cases hv
 exact ⟨he,hx.grown hget⟩
end Go.Am
/- slices.SortFunc on labels: its contract as a call of the evaluator's. -/
namespace Go.Am
open Go.Sort Go.Proofs
variable {P:Program}

theorem cellsOf_get:∀ (l:List Lab) (t:Nat),(cellsOf l)[t]?=(l[t / 2]?).map fun q=>V.str (if t % 2=0 then q.1 else q.2)
 | [],t=>by simp [cellsOf]
 | q :: l,0=>rfl
 | q :: l,1=>rfl
 | q :: l,t+2=>by
   have h1:(t+2) / 2=t / 2+1:=by omega
   have h2:(t+2) % 2=t % 2:=by omega
   rw [h1,h2]
   exact cellsOf_get l t
theorem flat_get (l:List Lab) {t:Nat} {q:Lab} (h:l[t / 2]?=some q):(Go.Sort.flatK encL 2 ⟨l⟩)[t]! = .string ⟨⟨if t % 2=0 then q.1 else q.2⟩⟩:=by
 have hlt:t / 2 < l.length:=(List.getElem?_eq_some_iff.1 h).1
 rw [get_flatK _ _ _ _ (show t < l.length * 2 by omega)]
 have h1:(⟨l⟩:Array Lab)[t / 2]! = q:=by
  rw [getElem!_pos (⟨l⟩:Array Lab) (t / 2) hlt]
  exact (List.getElem?_eq_some_iff.1 h).2
 rw [h1]
 rcases Nat.mod_two_eq_zero_or_one t with h2|h2 <;> rw [h2] <;> rfl
theorem flat_VR {ρ:Rho} (l:List Lab) {t:Nat} {v:V} (h:(cellsOf l)[t]?=some v):VR ρ v ((Go.Sort.flatK encL 2 ⟨l⟩)[t]!):=by
 rw [cellsOf_get] at h
 cases hq:l[t / 2]? with
 | none=>rw [hq] at h;cases h
 | some q=>rw [hq] at h;cases h;rw [flat_get l hq];exact .str _
theorem flat_is {ρ:Rho} (l:List Lab) {t:Nat} {v:V} {v':Value} (h:(cellsOf l)[t]?=some v) (hv:VR ρ v v'):v'=(Go.Sort.flatK encL 2 ⟨l⟩)[t]! := by
 rw [cellsOf_get] at h
 cases hq:l[t / 2]? with
 | none=>rw [hq] at h;cases h
 | some q=>rw [hq] at h;cases h;rw [flat_get l hq];cases hv;rfl
/-- What the kit says of the sort. -/
def SortC (P:Program) (g c:FuncId) (cf:Lab→Lab→Int):Prop:=∀ (blk off cap:Nat) (d:Array Lab) (w:World),CmpLays P c #[] encL 2 cf blk off d.size w→HoldsK encL 2 w blk off d→blk < w.heap.size→d.size < 4611686018427387904 →
 Calls P g #[.slice (some ⟨blk,off,none⟩) d.size cap,.func (.func c) #[] #[]] w fun e w'=>e=.returned (.tuple #[])∧∃ d' n os,PermIn 0 d.size d d'∧SortedIn (ltOf cf) 0 d.size d'∧w'=sortWorldK encL 2 w blk off n d' os
theorem sorted_is {cf:Lab→Lab→Int} (hlt:∀ x y,ltOf cf x y=ltS x.1 y.1) {l:List Lab} (hp:l.Pairwise fun p q=>p.1 ≠ q.1) {d':Array Lab} (h1:PermIn 0 l.length ⟨l⟩ d') (h2:SortedIn (ltOf cf) 0 l.length d'):d'.toList=sortL l []:=by
 obtain ⟨hsz,_,hperm⟩:=h1
 have hsz':d'.size=l.length:=hsz
 have e1:(d'.extract 0 l.length).toList=d'.toList:=by rw [← hsz'];simp
 have e2:((⟨l⟩:Array Lab).extract 0 l.length).toList=l:=by simp
 rw [e1,e2] at hperm
 have hne:d'.toList.Pairwise fun p q=>p.1 ≠ q.1:=hperm.symm.pairwise hp fun h=>Ne.symm h
 refine asc_unique ?_ (sortL_asc .nil hp (by simp)) fun x=>?_
 ·rw [List.pairwise_iff_getElem] at hne ⊢
  intro i j hi hj hij
  have hi':i < d'.size:=by simpa using hi
  have hj':j < d'.size:=by simpa using hj
  have h3:=h2 i j (Nat.zero_le _) hij (by omega)
  rw [hlt,getElem!_pos d' i hi',getElem!_pos d' j hj'] at h3
  have h4:=hne i j hi hj hij
  simp only [Array.getElem_toList] at h4 ⊢
  cases hb:ltS d'[i].1 d'[j].1 with
  | true=>rfl
  | false=>exact absurd (ltS_total hb h3) h4
 ·rw [sortL_mem,hperm.mem_iff];simp
theorem sort_ok {g c:FuncId} {cf:Lab→Lab→Int} (hS:SortC P g c cf) {fn fg:Func} {body bodyg:Code} (hf:P.funcs[c]?=some fn) (h0:¬ fn.name = "runtime.NumGoroutine") (hb:fn.body=some body)
  (hfg:P.funcs[g]?=some fg) (h0g:¬ fg.name = "runtime.NumGoroutine") (hbg:fg.body=some bodyg)
  (hc:∀ (x y:Lab) (n:Nat),RC P c [.agg [.str x.1,.str x.2],.agg [.str y.1,.str y.2]] ⟨.nil,n⟩ fun v _=>v=.int .i64 (cf x y)) (hlt:∀ x y,ltOf cf x y=ltS x.1 y.1)
  {l:List Lab} (hp:l.Pairwise fun p q=>p.1 ≠ q.1) (hne:l ≠ []) (hlen:l.length < 4611686018427387904) {S:St} {id cap:Nat} {ex:Bool} {e:TypeId} {fl:Fl} (hfl:fl ≠ .ro) (hg:S.hs.get id=some (.cells (cellsOf l) e fl)) {k:V→St→Prop}
  (hk:putK id (some (.cells (cellsOf (sortL l [])) e fl)) S fun S'=>k (.tup []) S'):RC P g [.slice id 0 l.length cap 2 ex,.func (.func c) [] []] S k:=by
 obtain ⟨S',hk',hS'⟩:=put_spec hk
 refine .mk (.tup []) S' (fun ρ w l' hgl hs hl=>?_) hk'
 cases hl with
 | cons h1 hl =>
 cases hl with
 | cons h2 hl =>
 cases hl
 cases h2 with
 | func _ ha hb2 =>
 cases ha
 cases hb2
 cases h1 with
 | slice _ _ _ _ _ off' cap' hloc ho hcc hx hll hr =>
 rename_i l0
 have hl0:0 < l.length:=List.length_pos_iff.2 hne
 have hoff:off'=0:=ho (by omega)
 subst hoff
 obtain ⟨lx,co,a,b,cc,f,rfl,hsz,hle,hcells,hrw,hex⟩:=hs.obj id _ hg
 rw [hloc] at a
 cases a
 have hcall:(callFunc g ⟨[Value.slice (some ⟨l0.blk,l0.base+0,none⟩) l.length cap',.func (.func c) ⟨[]⟩ ⟨[]⟩]⟩).run P w=.ok (.enter g ⟨[Value.slice (some ⟨l0.blk,l0.base+0,none⟩) l.length cap',.func (.func c) ⟨[]⟩ ⟨[]⟩]⟩) w:=by
  simp [callFunc,hfg,h0g,hbg]
 rw [hcall]
 have hblk:l0.blk < w.heap.size:=by
  rcases Nat.lt_or_ge l0.blk w.heap.size with h'|h'
  ·exact h'
  ·simp [Array.getElem?_eq_none h'] at b
 have hclen:(cellsOf l).length=l.length * 2:=by rw [cellsOf_length];omega
 have hH:HoldsK encL 2 w l0.blk (l0.base+0) ⟨l⟩:=fun j hj=>by
  have hj':j < (cellsOf l).length:=by rw [hclen];simpa using hj
  obtain ⟨v',hv',hvr⟩:=hcells j _ (List.getElem?_eq_getElem hj')
  refine ⟨?_,?_⟩
  ·have:w.cell? ⟨l0.blk,l0.base+0+j,none⟩=some v':=by simp [World.cell?,b,hv']
   rw [this,flat_is l (List.getElem?_eq_getElem hj') hvr]
   rfl
  ·have h3:=(hrw hfl).2 (l0.base+j) (by omega)
   simp [World.frozen?,b]
   omega
 refine callsIn_any.2 ((hS l0.blk (l0.base+0) cap' ⟨l⟩ w (cmpLays_of hf h0 hb hc hgl hs.fresh _ _ _ _) hH hblk hlen).mono fun e' w' ⟨he,d',n,os,hperm,hsorted,hw⟩=>?_)
 have hd':=sorted_is hlt hp hperm hsorted
 have hdsz:d'.size=l.length:=hperm.1
 refine ⟨.tuple #[],ρ,he,.tup .nil,?_⟩
 rw [hS',hw]
 have hput:=hs.put_cells (w':=putRowK encL 2 (Go.Sort.ahead w n) l0.blk (l0.base+0) d') (cs':=cellsOf (sortL l [])) (fl':=fl) hg hloc (hrw hfl).1 (co':=.cells (putCells (fun v=>v) (l0.base+0) (Go.Sort.flatK encL 2 d') cc) e f) ?_ ?_ ?_ rfl rfl rfl ?_ (Nat.le_add_right _ _)
 ·exact ⟨hput.1.grow os,hput.2.trans (Ext.grow _ _ _ os)⟩
 ·show (w.heap.modify l0.blk (onCells _))[l0.blk]?=_
  rw [Array.getElem?_modify,if_pos rfl,b]
  rfl
 ·intro b' hb'
  show (w.heap.modify l0.blk (onCells _))[b']?=_
  rw [Array.getElem?_modify,if_neg (Ne.symm hb')]
 ·exact size_putRow _ _ _ _ _
 ·have hlen':(cellsOf (sortL l [])).length=(cellsOf l).length:=by rw [cellsOf_length,cellsOf_length,sortL_length];simp
  refine ⟨_,f,rfl,by simpa [putCells] using hsz,by simpa [putCells,hlen'] using hle,fun i v hv=>?_,fun h=>⟨(hrw h).1,fun o ho=>(hrw h).2 o (by simpa [putCells] using ho)⟩,fun h=>by simpa [putCells,hlen'] using hex h⟩
  have hi:i < (cellsOf l).length:=by rw [← hlen'];exact (List.getElem?_eq_some_iff.1 hv).1
  refine ⟨(Go.Sort.flatK encL 2 d')[i]!, ?_,?_⟩
  ·have hlt2:l0.base+i < cc.size:=by omega
   simp only [putCells,Array.getElem?_mapIdx,Array.getElem?_eq_getElem hlt2,Option.map_some]
   rw [if_pos (by refine ⟨by omega,?_⟩;rw [size_flatK,hdsz];omega)]
   have e3:l0.base+i - (l0.base+0)=i:=by omega
   rw [e3]
  ·have:=flat_VR (ρ:=ρ) (sortL l []) hv
   rw [← hd'] at this
   exact this
end Go.Am
