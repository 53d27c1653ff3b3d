/- Part 8 of the proof that BodyOwn returns true, and leaves its arguments as they were, for every input, over a start where the listed variables hold what the program lays: the statement Rows.BodyOwnCardSaid. -/
import Derived.Test.YtnfhhddmeikbpaaGreatDoorWAg
set_option linter.unusedVariables false
set_option linter.unusedSimpArgs false
/- label.Without$1, label.filter, label.Without. -/
namespace Go.Am
open Go.Proofs
set_option maxRecDepth 100000
attribute [local irreducible] fN fI fB yZ wrapK bAppend wk drOps rdsAll sl

theorem f40:FnAt Tryz.prog 40 8 [.tmp 3] (codeOf Tryz.f40):=⟨Tryz.f40,by kernel_rfl,rfl,by kernel_rfl,by kernel_rfl,by kernel_rfl⟩

set_option maxHeartbeats 2000000 in
theorem w1_run {s:List UInt8} (hs:s ∈ namesX) {S:St} {p:Nat} {e:TypeId} {fl:Fl} (hp:S.hs.get p=some (.cells [.str [95,95]] e fl)) {k:V→St→Prop} (hk:k (.bool (!hid s)) S):RC Tryz.prog 40 [.str s,.ptr p 0] S k:=by
 refine RC.read mixed f40 (l:=[.str s,.ptr ngl 0]) [p] [.cells [.str [95,95]] e fl] [.cells [.str [95,95]] e .ro] [] (v2:=.bool (!hid s)) ?_ rfl rfl ?_ ?_ (.cons (.str _) (.cons (.ptr _ (Rin.at (a:=0) rfl (by simp))) .nil)) (by simp) ?_ hk
 ·rintro (_|a) o h
  ·simp at h;subst h;rfl
  ·simp at h
 ·rintro (_|a) j o h1 h2
  ·simp at h1 h2;subst h1;subst h2;exact hp
  ·simp at h1
 ·rintro (_|a) o1 o2 h1 h2
  ·simp at h1 h2;subst h1;subst h2;exact .cells (.cons (.str _) .nil) (.inr (.inr rfl))
  ·simp at h1
 ·generalize hK:Post _ _ _ _ _ _ _=K
  apply wy
  ·intro Q hQ
   conv=>whnf
   exact hQ
  apply wx
  ·intro Q hQ
   conv=>whnf
   exact hQ
  intro K0 hK0
  unfold codeOf
  conv=>arg 7;whnf
  repeat(first|((first|refine yw ?_|refine zX ?_);intro _ _)|(refine xy ?_;intro _ _;(conv=>whnf))|(refine zk ?_;intro _ _)|refine yz ?_|refine yj ‹_› ?_|refine zw ‹_› ?_|refine yx ‹_› ?_|refine yq ‹_› ?_|refine zZ ?_|refine yy ?_|refine yv ?_|refine zq ?_|((first|refine xw (by first|rfl|assumption) ?_|refine xx (by first|rfl|assumption) ?_);(conv=>whnf))|refine zY (fun Q hQ=>by (conv=>whnf);exact hQ) ?_|refine zj (fun Q hQ=>by (conv=>whnf);exact hQ) ?_|((first|refine zy ?_|refine zx ?_);(conv=>whnf)))
  unfold yZ
  conv=>whnf
  repeat(first|((first|refine yw ?_|refine zX ?_);intro _ _)|(refine xy ?_;intro _ _;(conv=>whnf))|(refine zk ?_;intro _ _)|refine yz ?_|refine yj ‹_› ?_|refine zw ‹_› ?_|refine yx ‹_› ?_|refine yq ‹_› ?_|refine zZ ?_|refine yy ?_|refine yv ?_|refine zq ?_|((first|refine xw (by first|rfl|assumption) ?_|refine xx (by first|rfl|assumption) ?_);(conv=>whnf))|refine zY (fun Q hQ=>by (conv=>whnf);exact hQ) ?_|refine zj (fun Q hQ=>by (conv=>whnf);exact hQ) ?_|((first|refine zy ?_|refine zx ?_);(conv=>whnf)))
  refine hidX hs ?_
  conv=>whnf
  repeat(first|((first|refine yw ?_|refine zX ?_);intro _ _)|(refine xy ?_;intro _ _;(conv=>whnf))|(refine zk ?_;intro _ _)|refine yz ?_|refine yj ‹_› ?_|refine zw ‹_› ?_|refine yx ‹_› ?_|refine yq ‹_› ?_|refine zZ ?_|refine yy ?_|refine yv ?_|refine zq ?_|((first|refine xw (by first|rfl|assumption) ?_|refine xx (by first|rfl|assumption) ?_);(conv=>whnf))|refine zY (fun Q hQ=>by (conv=>whnf);exact hQ) ?_|refine zj (fun Q hQ=>by (conv=>whnf);exact hQ) ?_|((first|refine zy ?_|refine zx ?_);(conv=>whnf)))
  refine fB_split (fun hb=>?_) (fun hb=>?_)
  ·conv=>whnf
   repeat(first|((first|refine yw ?_|refine zX ?_);intro _ _)|(refine xy ?_;intro _ _;(conv=>whnf))|(refine zk ?_;intro _ _)|refine yz ?_|refine yj ‹_› ?_|refine zw ‹_› ?_|refine yx ‹_› ?_|refine yq ‹_› ?_|refine zZ ?_|refine yy ?_|refine yv ?_|refine zq ?_|((first|refine xw (by first|rfl|assumption) ?_|refine xx (by first|rfl|assumption) ?_);(conv=>whnf))|refine zY (fun Q hQ=>by (conv=>whnf);exact hQ) ?_|refine zj (fun Q hQ=>by (conv=>whnf);exact hQ) ?_|((first|refine zy ?_|refine zx ?_);(conv=>whnf)))
   conv=>whnf
   rw [← hK,hb]
   exact ⟨[],List.nodup_nil,by simp,.bool _,trivial,trivial⟩
  ·conv=>whnf
   repeat(first|((first|refine yw ?_|refine zX ?_);intro _ _)|(refine xy ?_;intro _ _;(conv=>whnf))|(refine zk ?_;intro _ _)|refine yz ?_|refine yj ‹_› ?_|refine zw ‹_› ?_|refine yx ‹_› ?_|refine yq ‹_› ?_|refine zZ ?_|refine yy ?_|refine yv ?_|refine zq ?_|((first|refine xw (by first|rfl|assumption) ?_|refine xx (by first|rfl|assumption) ?_);(conv=>whnf))|refine zY (fun Q hQ=>by (conv=>whnf);exact hQ) ?_|refine zj (fun Q hQ=>by (conv=>whnf);exact hQ) ?_|((first|refine zy ?_|refine zx ?_);(conv=>whnf)))
   conv=>whnf
   rw [← hK,hb]
   exact ⟨[],List.nodup_nil,by simp,.bool _,trivial,trivial⟩
/-- A row that labels are put behind, as a value, as an object; a heap with it. -/
def outV (o:List Lab) (m:Nat):V:=match o with|[]=>.nilSlice|q :: o=>.slice m 0 (q :: o).length (q :: o).length 2 false
def outN (o:List Lab):List O:=match o with|[]=>[]|q :: o=>[.cells (cellsOf (q :: o)) 40 .rw]
noncomputable def outS (o l:List Lab) (e e2:TypeId):St:=match o with
 | []=>mkS [(ngl,.cells (cellsOf l) e .ro),(ngl+1,.cells [.str [95,95]] e2 .ro)] (ngl+2)
 | q :: o=>mkS [(ngl,.cells (cellsOf l) e .ro),(ngl+1,.cells [.str [95,95]] e2 .ro),(ngl+2,.cells (cellsOf (q :: o)) 40 .rw)] (ngl+3)
theorem outN_wr {o:List Lab}:∀ (a:Nat) (x:O),(outN o)[a]?=some x→x.wr=true:=by
 cases o with
 | nil=>simp [outN]
 | cons q o =>
   rintro (_|a) x h
   ·simp [outN] at h;subst h;rfl
   ·simp [outN] at h
theorem LPB.lp' {P:Program} (b:Nat) {c:Code} {E:Env} {S:St} {k:KT} (hb:S.next=b) (h:LPB b P c E S k):LP P none c E [] S k:=by subst hb;exact h.lp

theorem f39:FnAt Tryz.prog 39 28 [.tmp 4,.tmp 5] (codeOf Tryz.f39):=⟨Tryz.f39,by kernel_rfl,rfl,by kernel_rfl,by kernel_rfl,by kernel_rfl⟩

set_option maxHeartbeats 4000000 in
theorem filter_run {l:List Lab} {v:V} {S:St} (h:LV S v l) (ok:OkL l) {p:Nat} {e2:TypeId} {fl2:Fl} (hp:S.hs.get p=some (.cells [.str [95,95]] e2 fl2)) {k:V→St→Prop}
  (hk:newsK (outN (l.filter (fun q=>!hid q.1))) S (k (.tup [outV (l.filter (fun q=>!hid q.1)) S.next,.int .i64 0]))):RC Tryz.prog 39 [v,.func (.func 40) [] [.ptr p 0]] S k:=by
 obtain ⟨i40,hi40,hs40⟩:=info40
 rcases h with ⟨rfl,rfl⟩|⟨i,cap,ex,rest,e,fl,rfl,hc,hrow⟩
 ·refine RC.read mixed f39 (l:=[.nilSlice,.func (.func 40) [] [.ptr ngl 0]]) [p] [.cells [.str [95,95]] e2 fl2] [.cells [.str [95,95]] e2 .ro] [] (v2:=.tup [.nilSlice,.int .i64 0]) ?_ rfl rfl ?_ ?_ (.cons .nilSlice (.cons (.func _ .nil (.cons (.ptr _ (Rin.at (a:=0) rfl (by simp))) .nil)) .nil)) (by simp) ?_ hk
  ·rintro (_|a) o h
   ·simp at h;subst h;rfl
   ·simp at h
  ·rintro (_|a) j o h1 h2
   ·simp at h1 h2;subst h1;subst h2;exact hp
   ·simp at h1
  ·rintro (_|a) o1 o2 h1 h2
   ·simp at h1 h2;subst h1;subst h2;exact .cells (.cons (.str _) .nil) (.inr (.inr rfl))
   ·simp at h1
  ·generalize hK:Post _ _ _ _ _ _ _=K
   apply wy
   ·intro Q hQ
    conv=>whnf
    exact hQ
   apply wx
   ·intro Q hQ
    conv=>whnf
    exact hQ
   intro K0 hK0
   unfold codeOf
   conv=>arg 7;whnf
   repeat(first|((first|refine yw ?_|refine zX ?_);intro _ _)|(refine xy ?_;intro _ _;(conv=>whnf))|(refine zk ?_;intro _ _)|refine yz ?_|refine yj ‹_› ?_|refine zw ‹_› ?_|refine yx ‹_› ?_|refine yq ‹_› ?_|refine zZ ?_|refine yy ?_|refine yv ?_|refine zq ?_|((first|refine xw (by first|rfl|assumption) ?_|refine xx (by first|rfl|assumption) ?_);(conv=>whnf))|refine zY (fun Q hQ=>by (conv=>whnf);exact hQ) ?_|refine zj (fun Q hQ=>by (conv=>whnf);exact hQ) ?_|((first|refine zy ?_|refine zx ?_);(conv=>whnf)))
   refine right_run (LV.nil _) ok ?_
   conv=>whnf
   repeat(first|((first|refine yw ?_|refine zX ?_);intro _ _)|(refine xy ?_;intro _ _;(conv=>whnf))|(refine zk ?_;intro _ _)|refine yz ?_|refine yj ‹_› ?_|refine zw ‹_› ?_|refine yx ‹_› ?_|refine yq ‹_› ?_|refine zZ ?_|refine yy ?_|refine yv ?_|refine zq ?_|((first|refine xw (by first|rfl|assumption) ?_|refine xx (by first|rfl|assumption) ?_);(conv=>whnf))|refine zY (fun Q hQ=>by (conv=>whnf);exact hQ) ?_|refine zj (fun Q hQ=>by (conv=>whnf);exact hQ) ?_|((first|refine zy ?_|refine zx ?_);(conv=>whnf)))
   refine LP.step mixed ?_
   repeat(first|((first|refine yw ?_|refine zX ?_);intro _ _)|(refine xy ?_;intro _ _;(conv=>whnf))|(refine zk ?_;intro _ _)|refine yz ?_|refine yj ‹_› ?_|refine zw ‹_› ?_|refine yx ‹_› ?_|refine yq ‹_› ?_|refine zZ ?_|refine yy ?_|refine yv ?_|refine zq ?_|((first|refine xw (by first|rfl|assumption) ?_|refine xx (by first|rfl|assumption) ?_);(conv=>whnf))|refine zY (fun Q hQ=>by (conv=>whnf);exact hQ) ?_|refine zj (fun Q hQ=>by (conv=>whnf);exact hQ) ?_|((first|refine zy ?_|refine zx ?_);(conv=>whnf)))
   conv=>whnf
   rw [← hK]
   exact ⟨[],List.nodup_nil,by simp,.tup (.cons .nilSlice (.cons (.int _ _) .nil)),trivial,trivial⟩
 ·refine RC.read mixed f39 (l:=[.slice ngl 0 l.length l.length 2 false,.func (.func 40) [] [.ptr (ngl+1) 0]]) [i,p] [.cells (cellsOf l ++ rest) e fl,.cells [.str [95,95]] e2 fl2] [.cells (cellsOf l) e .ro,.cells [.str [95,95]] e2 .ro] (outN (l.filter (fun q=>!hid q.1))) (v2:=.tup [outV (l.filter (fun q=>!hid q.1)) S.next,.int .i64 0]) ?_ rfl rfl ?_ ?_
   (.cons (.slice _ _ _ _ _ _ _ (Rin.at (a:=0) rfl (by simp)) (.inr (Nat.le_refl _)) hc (by simp)) (.cons (.func _ .nil (.cons (.ptr _ (Rin.at (a:=1) rfl (by simp))) .nil)) .nil)) outN_wr ?_ hk
  ·rintro (_|_|a) o h
   ·simp at h;subst h;rfl
   ·simp at h;subst h;rfl
   ·simp at h
  ·rintro (_|_|a) j o h1 h2
   ·simp at h1 h2;subst h1;subst h2;exact hrow
   ·simp at h1 h2;subst h1;subst h2;exact hp
   ·simp at h1
  ·rintro (_|_|a) o1 o2 h1 h2
   ·simp at h1 h2;subst h1;subst h2;exact .part (wv l)
   ·simp at h1 h2;subst h1;subst h2;exact .cells (.cons (.str _) .nil) (.inr (.inr rfl))
   ·simp at h1
  ·generalize hK:Post _ _ _ _ _ _ _=K
   apply wy
   ·intro Q hQ
    conv=>whnf
    exact hQ
   apply wx
   ·intro Q hQ
    conv=>whnf
    exact hQ
   intro K0 hK0
   unfold codeOf
   conv=>arg 7;whnf
   repeat(first|((first|refine yw ?_|refine zX ?_);intro _ _)|(refine xy ?_;intro _ _;(conv=>whnf))|(refine zk ?_;intro _ _)|refine yz ?_|refine yj ‹_› ?_|refine zw ‹_› ?_|refine yx ‹_› ?_|refine yq ‹_› ?_|refine zZ ?_|refine yy ?_|refine yv ?_|refine zq ?_|((first|refine xw (by first|rfl|assumption) ?_|refine xx (by first|rfl|assumption) ?_);(conv=>whnf))|refine zY (fun Q hQ=>by (conv=>whnf);exact hQ) ?_|refine zj (fun Q hQ=>by (conv=>whnf);exact hQ) ?_|((first|refine zy ?_|refine zx ?_);(conv=>whnf)))
   refine right_run (LV.mk (e:=e) (fl:=.ro) rfl (Nat.le_refl _)) ok ?_
   conv=>whnf
   repeat(first|((first|refine yw ?_|refine zX ?_);intro _ _)|(refine xy ?_;intro _ _;(conv=>whnf))|(refine zk ?_;intro _ _)|refine yz ?_|refine yj ‹_› ?_|refine zw ‹_› ?_|refine yx ‹_› ?_|refine yq ‹_› ?_|refine zZ ?_|refine yy ?_|refine yv ?_|refine zq ?_|((first|refine xw (by first|rfl|assumption) ?_|refine xx (by first|rfl|assumption) ?_);(conv=>whnf))|refine zY (fun Q hQ=>by (conv=>whnf);exact hQ) ?_|refine zj (fun Q hQ=>by (conv=>whnf);exact hQ) ?_|((first|refine zy ?_|refine zx ?_);(conv=>whnf)))
   refine LPB.lp' (ngl+2) rfl (LPB.induct l.length (fun j E S'=>j ≤ l.length∧S'=outS ((l.take j).filter (fun q=>!hid q.1)) l e e2∧Fits E 0 [.slice ngl 0 l.length l.length 2 false,.func (.func 40) [] [.ptr (ngl+1) 0],sl E 2,sl E 3,sl E 4,sl E 5,outV ((l.take j).filter (fun q=>!hid q.1)) (ngl+2),sl E 7,sl E 8,sl E 9,sl E 10,sl E 11,.slice ngl 0 l.length l.length 2 false,.int .i64 (.ofNat l.length),.int .i64 (.ofNat j),sl E 15,sl E 16,sl E 17,sl E 18,sl E 19,sl E 20,sl E 21,sl E 22,sl E 23,sl E 24,sl E 25,sl E 26,sl E 27]) ⟨Nat.zero_le _,by kernel_rfl,⟨rfl,rfl,zz rfl,zz rfl,zz rfl,zz rfl,rfl,zz rfl,zz rfl,zz rfl,zz rfl,zz rfl,rfl,rfl,rfl,zz rfl,zz rfl,zz rfl,zz rfl,zz rfl,zz rfl,zz rfl,zz rfl,zz rfl,zz rfl,zz rfl,zz rfl,zz rfl,trivial⟩⟩ ?_)
   intro j E S' ⟨hjl,hS',hf⟩ ih
   subst hS'
   generalize hout:(l.take j).filter (fun q=>!hid q.1)=out at *
   cases out with
   | nil =>
     refine LPB.tree hf (⟨some (.slice ngl 0 l.length l.length 2 false),⟨some (.func (.func 40) [] [.ptr (ngl+1) 0]),⟨some (sl E 5),⟨some (sl E 21),z0,z0,z0,z0⟩,z1,z1,z1⟩,⟨some (sl E 9),⟨some (sl E 25),z0,z0,z0,z0⟩,z1,z1,z1⟩,⟨some (.int .i64 (.ofNat l.length)),z1,z1,z1,z1⟩,⟨some (sl E 17),z1,z1,z1,z1⟩⟩,⟨some (sl E 2),⟨some (V.nilSlice),⟨some (sl E 22),z0,z0,z0,z0⟩,z1,z1,z1⟩,⟨some (sl E 10),⟨some (sl E 26),z0,z0,z0,z0⟩,z1,z1,z1⟩,⟨some (.int .i64 (.ofNat j)),z1,z1,z1,z1⟩,⟨some (sl E 18),z1,z1,z1,z1⟩⟩,⟨some (sl E 3),⟨some (sl E 7),⟨some (sl E 23),z0,z0,z0,z0⟩,z1,z1,z1⟩,⟨some (sl E 11),⟨some (sl E 27),z0,z0,z0,z0⟩,z1,z1,z1⟩,⟨some (sl E 15),z1,z1,z1,z1⟩,⟨some (sl E 19),z1,z1,z1,z1⟩⟩,⟨some (sl E 4),⟨some (sl E 8),⟨some (sl E 24),z0,z0,z0,z0⟩,z1,z1,z1⟩,⟨some (.slice ngl 0 l.length l.length 2 false),z1,z1,z1,z1⟩,⟨some (sl E 16),z1,z1,z1,z1⟩,⟨some (sl E 20),z1,z1,z1,z1⟩⟩⟩) (by kernel_rfl) (LPB.gc mixed (Nat.le_of_ble_eq_true rfl) (Nat.le_of_ble_eq_true rfl) fun _ _=>?_)
     clear hf
     repeat(first|((first|refine yw ?_|refine zX ?_);intro _ _)|(refine xy ?_;intro _ _;(conv=>whnf))|(refine zk ?_;intro _ _)|refine yz ?_|refine yj ‹_› ?_|refine zw ‹_› ?_|refine yx ‹_› ?_|refine yq ‹_› ?_|refine zZ ?_|refine yy ?_|refine yv ?_|refine zq ?_|((first|refine xw (by first|rfl|assumption) ?_|refine xx (by first|rfl|assumption) ?_);(conv=>whnf))|refine zY (fun Q hQ=>by (conv=>whnf);exact hQ) ?_|refine zj (fun Q hQ=>by (conv=>whnf);exact hQ) ?_|((first|refine zy ?_|refine zx ?_);(conv=>whnf)))
     refine fB_split (fun hb=>?_) (fun hb=>?_)
     ·have hlt:j < l.length:=by rw [ltI_eq] at hb;simpa using hb
      have hnext:∀ b,hid l[j].1=b→(l.take (j+1)).filter (fun q=>!hid q.1)=[] ++ (if b=true then [] else [l[j]]):=fun b hb=>by
       rw [List.take_succ_eq_append_getElem hlt,List.filter_append,hout]
       cases b <;> simp [hb]
      conv=>whnf
      repeat(first|((first|refine yw ?_|refine zX ?_);intro _ _)|(refine xy ?_;intro _ _;(conv=>whnf))|(refine zk ?_;intro _ _)|refine yz ?_|refine yj ‹_› ?_|refine zw ‹_› ?_|refine yx ‹_› ?_|refine yq ‹_› ?_|refine zZ ?_|refine yy ?_|refine yv ?_|refine zq ?_|((first|refine xw (by first|rfl|assumption) ?_|refine xx (by first|rfl|assumption) ?_);(conv=>whnf))|refine zY (fun Q hQ=>by (conv=>whnf);exact hQ) ?_|refine zj (fun Q hQ=>by (conv=>whnf);exact hQ) ?_|((first|refine zy ?_|refine zx ?_);(conv=>whnf)))
      refine bcase (fun _=>?_) (fun h=>absurd (h.symm.trans hb) (by simp))
      conv=>whnf
      repeat(first|((first|refine yw ?_|refine zX ?_);intro _ _)|(refine xy ?_;intro _ _;(conv=>whnf))|(refine zk ?_;intro _ _)|refine yz ?_|refine yj ‹_› ?_|refine zw ‹_› ?_|refine yx ‹_› ?_|refine yq ‹_› ?_|refine zZ ?_|refine yy ?_|refine yv ?_|refine zq ?_|((first|refine xw (by first|rfl|assumption) ?_|refine xx (by first|rfl|assumption) ?_);(conv=>whnf))|refine zY (fun Q hQ=>by (conv=>whnf);exact hQ) ?_|refine zj (fun Q hQ=>by (conv=>whnf);exact hQ) ?_|((first|refine zy ?_|refine zx ?_);(conv=>whnf)))
      refine partK_lab agg40 hi40 hs40 (j:=j) (List.getElem?_eq_getElem hlt) (show 0+j * 2=2 * j by omega) ?_
      conv=>whnf
      repeat(first|((first|refine yw ?_|refine zX ?_);intro _ _)|(refine xy ?_;intro _ _;(conv=>whnf))|(refine zk ?_;intro _ _)|refine yz ?_|refine yj ‹_› ?_|refine zw ‹_› ?_|refine yx ‹_› ?_|refine yq ‹_› ?_|refine zZ ?_|refine yy ?_|refine yv ?_|refine zq ?_|((first|refine xw (by first|rfl|assumption) ?_|refine xx (by first|rfl|assumption) ?_);(conv=>whnf))|refine zY (fun Q hQ=>by (conv=>whnf);exact hQ) ?_|refine zj (fun Q hQ=>by (conv=>whnf);exact hQ) ?_|((first|refine zy ?_|refine zx ?_);(conv=>whnf)))
      unfold yZ
      conv=>whnf
      repeat(first|((first|refine yw ?_|refine zX ?_);intro _ _)|(refine xy ?_;intro _ _;(conv=>whnf))|(refine zk ?_;intro _ _)|refine yz ?_|refine yj ‹_› ?_|refine zw ‹_› ?_|refine yx ‹_› ?_|refine yq ‹_› ?_|refine zZ ?_|refine yy ?_|refine yv ?_|refine zq ?_|((first|refine xw (by first|rfl|assumption) ?_|refine xx (by first|rfl|assumption) ?_);(conv=>whnf))|refine zY (fun Q hQ=>by (conv=>whnf);exact hQ) ?_|refine zj (fun Q hQ=>by (conv=>whnf);exact hQ) ?_|((first|refine zy ?_|refine zx ?_);(conv=>whnf)))
      cases hh:hid l[j].1
      ·have hn:=hnext false hh
       rw [if_neg (by simp)] at hn
       rw [List.nil_append] at hn
       simp only [hn] at ih
       refine w1_run (ok.name _ (List.getElem_mem hlt)) (e:=e2) (fl:=.ro) rfl ?_
       rw [hh]
       conv=>whnf
       repeat(first|((first|refine yw ?_|refine zX ?_);intro _ _)|(refine xy ?_;intro _ _;(conv=>whnf))|(refine zk ?_;intro _ _)|refine yz ?_|refine yj ‹_› ?_|refine zw ‹_› ?_|refine yx ‹_› ?_|refine yq ‹_› ?_|refine zZ ?_|refine yy ?_|refine yv ?_|refine zq ?_|((first|refine xw (by first|rfl|assumption) ?_|refine xx (by first|rfl|assumption) ?_);(conv=>whnf))|refine zY (fun Q hQ=>by (conv=>whnf);exact hQ) ?_|refine zj (fun Q hQ=>by (conv=>whnf);exact hQ) ?_|((first|refine zy ?_|refine zx ?_);(conv=>whnf)))
       unfold yZ
       conv=>whnf
       repeat(first|((first|refine yw ?_|refine zX ?_);intro _ _)|(refine xy ?_;intro _ _;(conv=>whnf))|(refine zk ?_;intro _ _)|refine yz ?_|refine yj ‹_› ?_|refine zw ‹_› ?_|refine yx ‹_› ?_|refine yq ‹_› ?_|refine zZ ?_|refine yy ?_|refine yv ?_|refine zq ?_|((first|refine xw (by first|rfl|assumption) ?_|refine xx (by first|rfl|assumption) ?_);(conv=>whnf))|refine zY (fun Q hQ=>by (conv=>whnf);exact hQ) ?_|refine zj (fun Q hQ=>by (conv=>whnf);exact hQ) ?_|((first|refine zy ?_|refine zx ?_);(conv=>whnf)))
       refine app_nil rfl ?_
       conv=>whnf
       repeat(first|((first|refine yw ?_|refine zX ?_);intro _ _)|(refine xy ?_;intro _ _;(conv=>whnf))|(refine zk ?_;intro _ _)|refine yz ?_|refine yj ‹_› ?_|refine zw ‹_› ?_|refine yx ‹_› ?_|refine yq ‹_› ?_|refine zZ ?_|refine yy ?_|refine yv ?_|refine zq ?_|((first|refine xw (by first|rfl|assumption) ?_|refine xx (by first|rfl|assumption) ?_);(conv=>whnf))|refine zY (fun Q hQ=>by (conv=>whnf);exact hQ) ?_|refine zj (fun Q hQ=>by (conv=>whnf);exact hQ) ?_|((first|refine zy ?_|refine zx ?_);(conv=>whnf)))
       refine wq (j+1) rfl (by have:=ok.few;show j+1 ≤ 9223372036854775807;omega) ?_
       conv=>whnf
       repeat(first|((first|refine yw ?_|refine zX ?_);intro _ _)|(refine xy ?_;intro _ _;(conv=>whnf))|(refine zk ?_;intro _ _)|refine yz ?_|refine yj ‹_› ?_|refine zw ‹_› ?_|refine yx ‹_› ?_|refine yq ‹_› ?_|refine zZ ?_|refine yy ?_|refine yv ?_|refine zq ?_|((first|refine xw (by first|rfl|assumption) ?_|refine xx (by first|rfl|assumption) ?_);(conv=>whnf))|refine zY (fun Q hQ=>by (conv=>whnf);exact hQ) ?_|refine zj (fun Q hQ=>by (conv=>whnf);exact hQ) ?_|((first|refine zy ?_|refine zx ?_);(conv=>whnf)))

       refine ⟨[ngl+4],outS [l[j]] l e e2,⟨rfl,nodup1 _,fun g hg=>by rw [List.mem_singleton] at hg;subst hg;exact Nat.le_of_ble_eq_true rfl,?_⟩,rfl,ih _ _ hlt ⟨by omega,rfl,⟨rfl,rfl,zz rfl,zz rfl,zz rfl,zz rfl,rfl,zz rfl,zz rfl,zz rfl,zz rfl,zz rfl,rfl,rfl,rfl,zz rfl,zz rfl,zz rfl,zz rfl,zz rfl,zz rfl,zz rfl,zz rfl,zz rfl,zz rfl,zz rfl,zz rfl,zz rfl,trivial⟩⟩⟩
       repeat' (first
        | exact trivial
        | exact ⟨_,_,.inl ⟨Nat.le_of_ble_eq_true rfl,rfl⟩,rfl,.cells (wv _) (.inl rfl)⟩
        | exact ⟨_,_,.inl ⟨Nat.le_of_ble_eq_true rfl,rfl⟩,rfl,.cells (.cons (.str _) .nil) (.inl rfl)⟩
        | exact ⟨_,_,.inr ⟨Nat.le_of_ble_eq_true rfl,Nat.le_of_ble_eq_true rfl,rfl⟩,rfl,.cells (wv _) (.inl rfl)⟩
        | apply And.intro)
      ·have hn:=hnext true hh
       rw [if_pos rfl,List.append_nil] at hn
       simp only [hn] at ih
       refine w1_run (ok.name _ (List.getElem_mem hlt)) (e:=e2) (fl:=.ro) rfl ?_
       rw [hh]
       conv=>whnf
       repeat(first|((first|refine yw ?_|refine zX ?_);intro _ _)|(refine xy ?_;intro _ _;(conv=>whnf))|(refine zk ?_;intro _ _)|refine yz ?_|refine yj ‹_› ?_|refine zw ‹_› ?_|refine yx ‹_› ?_|refine yq ‹_› ?_|refine zZ ?_|refine yy ?_|refine yv ?_|refine zq ?_|((first|refine xw (by first|rfl|assumption) ?_|refine xx (by first|rfl|assumption) ?_);(conv=>whnf))|refine zY (fun Q hQ=>by (conv=>whnf);exact hQ) ?_|refine zj (fun Q hQ=>by (conv=>whnf);exact hQ) ?_|((first|refine zy ?_|refine zx ?_);(conv=>whnf)))
       refine wq (j+1) rfl (by have:=ok.few;show j+1 ≤ 9223372036854775807;omega) ?_
       conv=>whnf
       repeat(first|((first|refine yw ?_|refine zX ?_);intro _ _)|(refine xy ?_;intro _ _;(conv=>whnf))|(refine zk ?_;intro _ _)|refine yz ?_|refine yj ‹_› ?_|refine zw ‹_› ?_|refine yx ‹_› ?_|refine yq ‹_› ?_|refine zZ ?_|refine yy ?_|refine yv ?_|refine zq ?_|((first|refine xw (by first|rfl|assumption) ?_|refine xx (by first|rfl|assumption) ?_);(conv=>whnf))|refine zY (fun Q hQ=>by (conv=>whnf);exact hQ) ?_|refine zj (fun Q hQ=>by (conv=>whnf);exact hQ) ?_|((first|refine zy ?_|refine zx ?_);(conv=>whnf)))
       refine ⟨[],outS [] l e e2,⟨rfl,List.nodup_nil,by simp,?_⟩,rfl,ih _ _ hlt ⟨by omega,rfl,⟨rfl,rfl,zz rfl,zz rfl,zz rfl,zz rfl,rfl,zz rfl,zz rfl,zz rfl,zz rfl,zz rfl,rfl,rfl,rfl,zz rfl,zz rfl,zz rfl,zz rfl,zz rfl,zz rfl,zz rfl,zz rfl,zz rfl,zz rfl,zz rfl,zz rfl,zz rfl,trivial⟩⟩⟩
       repeat' (first
        | exact trivial
        | exact ⟨_,_,.inl ⟨Nat.le_of_ble_eq_true rfl,rfl⟩,rfl,.cells (wv _) (.inl rfl)⟩
        | exact ⟨_,_,.inl ⟨Nat.le_of_ble_eq_true rfl,rfl⟩,rfl,.cells (.cons (.str _) .nil) (.inl rfl)⟩
        | exact ⟨_,_,.inr ⟨Nat.le_of_ble_eq_true rfl,Nat.le_of_ble_eq_true rfl,rfl⟩,rfl,.cells (wv _) (.inl rfl)⟩
        | apply And.intro)
     ·have hge:l.length ≤ j:=by rw [ltI_eq] at hb;simpa using hb
      rw [List.take_of_length_le hge] at hout
      conv=>whnf
      repeat(first|((first|refine yw ?_|refine zX ?_);intro _ _)|(refine xy ?_;intro _ _;(conv=>whnf))|(refine zk ?_;intro _ _)|refine yz ?_|refine yj ‹_› ?_|refine zw ‹_› ?_|refine yx ‹_› ?_|refine yq ‹_› ?_|refine zZ ?_|refine yy ?_|refine yv ?_|refine zq ?_|((first|refine xw (by first|rfl|assumption) ?_|refine xx (by first|rfl|assumption) ?_);(conv=>whnf))|refine zY (fun Q hQ=>by (conv=>whnf);exact hQ) ?_|refine zj (fun Q hQ=>by (conv=>whnf);exact hQ) ?_|((first|refine zy ?_|refine zx ?_);(conv=>whnf)))
      conv=>whnf
      rw [← hK,hout]
      exact ⟨[],List.nodup_nil,by simp,.tup (.cons .nilSlice (.cons (.int _ _) .nil)),trivial,trivial⟩
   | cons q0 o0 =>
     have hol:(q0 :: o0).length ≤ l.length:=by
      have:=List.length_filter_le (fun q:Lab=>!hid q.1) (l.take j)
      rw [hout,List.length_take] at this
      omega
     refine LPB.tree hf (⟨some (.slice ngl 0 l.length l.length 2 false),⟨some (.func (.func 40) [] [.ptr (ngl+1) 0]),⟨some (sl E 5),⟨some (sl E 21),z0,z0,z0,z0⟩,z1,z1,z1⟩,⟨some (sl E 9),⟨some (sl E 25),z0,z0,z0,z0⟩,z1,z1,z1⟩,⟨some (.int .i64 (.ofNat l.length)),z1,z1,z1,z1⟩,⟨some (sl E 17),z1,z1,z1,z1⟩⟩,⟨some (sl E 2),⟨some (.slice (ngl+2) 0 (q0 :: o0).length (q0 :: o0).length 2 false),⟨some (sl E 22),z0,z0,z0,z0⟩,z1,z1,z1⟩,⟨some (sl E 10),⟨some (sl E 26),z0,z0,z0,z0⟩,z1,z1,z1⟩,⟨some (.int .i64 (.ofNat j)),z1,z1,z1,z1⟩,⟨some (sl E 18),z1,z1,z1,z1⟩⟩,⟨some (sl E 3),⟨some (sl E 7),⟨some (sl E 23),z0,z0,z0,z0⟩,z1,z1,z1⟩,⟨some (sl E 11),⟨some (sl E 27),z0,z0,z0,z0⟩,z1,z1,z1⟩,⟨some (sl E 15),z1,z1,z1,z1⟩,⟨some (sl E 19),z1,z1,z1,z1⟩⟩,⟨some (sl E 4),⟨some (sl E 8),⟨some (sl E 24),z0,z0,z0,z0⟩,z1,z1,z1⟩,⟨some (.slice ngl 0 l.length l.length 2 false),z1,z1,z1,z1⟩,⟨some (sl E 16),z1,z1,z1,z1⟩,⟨some (sl E 20),z1,z1,z1,z1⟩⟩⟩) (by kernel_rfl) (LPB.gc mixed (Nat.le_of_ble_eq_true rfl) (Nat.le_of_ble_eq_true rfl) fun _ _=>?_)
     clear hf
     repeat(first|((first|refine yw ?_|refine zX ?_);intro _ _)|(refine xy ?_;intro _ _;(conv=>whnf))|(refine zk ?_;intro _ _)|refine yz ?_|refine yj ‹_› ?_|refine zw ‹_› ?_|refine yx ‹_› ?_|refine yq ‹_› ?_|refine zZ ?_|refine yy ?_|refine yv ?_|refine zq ?_|((first|refine xw (by first|rfl|assumption) ?_|refine xx (by first|rfl|assumption) ?_);(conv=>whnf))|refine zY (fun Q hQ=>by (conv=>whnf);exact hQ) ?_|refine zj (fun Q hQ=>by (conv=>whnf);exact hQ) ?_|((first|refine zy ?_|refine zx ?_);(conv=>whnf)))
     refine fB_split (fun hb=>?_) (fun hb=>?_)
     ·have hlt:j < l.length:=by rw [ltI_eq] at hb;simpa using hb
      have hnext:∀ b,hid l[j].1=b→(l.take (j+1)).filter (fun q=>!hid q.1)=(q0 :: o0) ++ (if b=true then [] else [l[j]]):=fun b hb=>by
       rw [List.take_succ_eq_append_getElem hlt,List.filter_append,hout]
       cases b <;> simp [hb]
      conv=>whnf
      repeat(first|((first|refine yw ?_|refine zX ?_);intro _ _)|(refine xy ?_;intro _ _;(conv=>whnf))|(refine zk ?_;intro _ _)|refine yz ?_|refine yj ‹_› ?_|refine zw ‹_› ?_|refine yx ‹_› ?_|refine yq ‹_› ?_|refine zZ ?_|refine yy ?_|refine yv ?_|refine zq ?_|((first|refine xw (by first|rfl|assumption) ?_|refine xx (by first|rfl|assumption) ?_);(conv=>whnf))|refine zY (fun Q hQ=>by (conv=>whnf);exact hQ) ?_|refine zj (fun Q hQ=>by (conv=>whnf);exact hQ) ?_|((first|refine zy ?_|refine zx ?_);(conv=>whnf)))
      refine bcase (fun _=>?_) (fun h=>absurd (h.symm.trans hb) (by simp))
      conv=>whnf
      repeat(first|((first|refine yw ?_|refine zX ?_);intro _ _)|(refine xy ?_;intro _ _;(conv=>whnf))|(refine zk ?_;intro _ _)|refine yz ?_|refine yj ‹_› ?_|refine zw ‹_› ?_|refine yx ‹_› ?_|refine yq ‹_› ?_|refine zZ ?_|refine yy ?_|refine yv ?_|refine zq ?_|((first|refine xw (by first|rfl|assumption) ?_|refine xx (by first|rfl|assumption) ?_);(conv=>whnf))|refine zY (fun Q hQ=>by (conv=>whnf);exact hQ) ?_|refine zj (fun Q hQ=>by (conv=>whnf);exact hQ) ?_|((first|refine zy ?_|refine zx ?_);(conv=>whnf)))
      refine partK_lab agg40 hi40 hs40 (j:=j) (List.getElem?_eq_getElem hlt) (show 0+j * 2=2 * j by omega) ?_
      conv=>whnf
      repeat(first|((first|refine yw ?_|refine zX ?_);intro _ _)|(refine xy ?_;intro _ _;(conv=>whnf))|(refine zk ?_;intro _ _)|refine yz ?_|refine yj ‹_› ?_|refine zw ‹_› ?_|refine yx ‹_› ?_|refine yq ‹_› ?_|refine zZ ?_|refine yy ?_|refine yv ?_|refine zq ?_|((first|refine xw (by first|rfl|assumption) ?_|refine xx (by first|rfl|assumption) ?_);(conv=>whnf))|refine zY (fun Q hQ=>by (conv=>whnf);exact hQ) ?_|refine zj (fun Q hQ=>by (conv=>whnf);exact hQ) ?_|((first|refine zy ?_|refine zx ?_);(conv=>whnf)))
      unfold yZ
      conv=>whnf
      repeat(first|((first|refine yw ?_|refine zX ?_);intro _ _)|(refine xy ?_;intro _ _;(conv=>whnf))|(refine zk ?_;intro _ _)|refine yz ?_|refine yj ‹_› ?_|refine zw ‹_› ?_|refine yx ‹_› ?_|refine yq ‹_› ?_|refine zZ ?_|refine yy ?_|refine yv ?_|refine zq ?_|((first|refine xw (by first|rfl|assumption) ?_|refine xx (by first|rfl|assumption) ?_);(conv=>whnf))|refine zY (fun Q hQ=>by (conv=>whnf);exact hQ) ?_|refine zj (fun Q hQ=>by (conv=>whnf);exact hQ) ?_|((first|refine zy ?_|refine zx ?_);(conv=>whnf)))
      cases hh:hid l[j].1
      ·have hn:=hnext false hh
       rw [if_neg (by simp)] at hn
       skip
       simp only [hn] at ih
       refine w1_run (ok.name _ (List.getElem_mem hlt)) (e:=e2) (fl:=.ro) rfl ?_
       rw [hh]
       conv=>whnf
       repeat(first|((first|refine yw ?_|refine zX ?_);intro _ _)|(refine xy ?_;intro _ _;(conv=>whnf))|(refine zk ?_;intro _ _)|refine yz ?_|refine yj ‹_› ?_|refine zw ‹_› ?_|refine yx ‹_› ?_|refine yq ‹_› ?_|refine zZ ?_|refine yy ?_|refine yv ?_|refine zq ?_|((first|refine xw (by first|rfl|assumption) ?_|refine xx (by first|rfl|assumption) ?_);(conv=>whnf))|refine zY (fun Q hQ=>by (conv=>whnf);exact hQ) ?_|refine zj (fun Q hQ=>by (conv=>whnf);exact hQ) ?_|((first|refine zy ?_|refine zx ?_);(conv=>whnf)))
       unfold yZ
       conv=>whnf
       repeat(first|((first|refine yw ?_|refine zX ?_);intro _ _)|(refine xy ?_;intro _ _;(conv=>whnf))|(refine zk ?_;intro _ _)|refine yz ?_|refine yj ‹_› ?_|refine zw ‹_› ?_|refine yx ‹_› ?_|refine yq ‹_› ?_|refine zZ ?_|refine yy ?_|refine yv ?_|refine zq ?_|((first|refine xw (by first|rfl|assumption) ?_|refine xx (by first|rfl|assumption) ?_);(conv=>whnf))|refine zY (fun Q hQ=>by (conv=>whnf);exact hQ) ?_|refine zj (fun Q hQ=>by (conv=>whnf);exact hQ) ?_|((first|refine zy ?_|refine zx ?_);(conv=>whnf)))
       refine app_lab rfl rfl (by have:=ok.few;omega) ?_
       conv=>whnf
       repeat(first|((first|refine yw ?_|refine zX ?_);intro _ _)|(refine xy ?_;intro _ _;(conv=>whnf))|(refine zk ?_;intro _ _)|refine yz ?_|refine yj ‹_› ?_|refine zw ‹_› ?_|refine yx ‹_› ?_|refine yq ‹_› ?_|refine zZ ?_|refine yy ?_|refine yv ?_|refine zq ?_|((first|refine xw (by first|rfl|assumption) ?_|refine xx (by first|rfl|assumption) ?_);(conv=>whnf))|refine zY (fun Q hQ=>by (conv=>whnf);exact hQ) ?_|refine zj (fun Q hQ=>by (conv=>whnf);exact hQ) ?_|((first|refine zy ?_|refine zx ?_);(conv=>whnf)))
       refine wq (j+1) rfl (by have:=ok.few;show j+1 ≤ 9223372036854775807;omega) ?_
       conv=>whnf
       repeat(first|((first|refine yw ?_|refine zX ?_);intro _ _)|(refine xy ?_;intro _ _;(conv=>whnf))|(refine zk ?_;intro _ _)|refine yz ?_|refine yj ‹_› ?_|refine zw ‹_› ?_|refine yx ‹_› ?_|refine yq ‹_› ?_|refine zZ ?_|refine yy ?_|refine yv ?_|refine zq ?_|((first|refine xw (by first|rfl|assumption) ?_|refine xx (by first|rfl|assumption) ?_);(conv=>whnf))|refine zY (fun Q hQ=>by (conv=>whnf);exact hQ) ?_|refine zj (fun Q hQ=>by (conv=>whnf);exact hQ) ?_|((first|refine zy ?_|refine zx ?_);(conv=>whnf)))
       have hov:outV (q0 :: o0 ++ [l[j]]) (ngl+2)=.slice (ngl+2) 0 ((q0 :: o0).length+1) ((q0 :: o0).length+1) 2 false:=by
         show V.slice _ 0 (q0 :: o0 ++ [l[j]]).length (q0 :: o0 ++ [l[j]]).length 2 false=_
         rw [List.length_append];rfl
       refine ⟨[ngl+5],outS ((q0 :: o0) ++ [l[j]]) l e e2,⟨rfl,nodup1 _,fun g hg=>by rw [List.mem_singleton] at hg;subst hg;exact Nat.le_of_ble_eq_true rfl,?_⟩,rfl,ih _ _ hlt ⟨by omega,rfl,⟨rfl,rfl,zz rfl,zz rfl,zz rfl,zz rfl,by rw [hov];rfl,zz rfl,zz rfl,zz rfl,zz rfl,zz rfl,rfl,rfl,rfl,zz rfl,zz rfl,zz rfl,zz rfl,zz rfl,zz rfl,zz rfl,zz rfl,zz rfl,zz rfl,zz rfl,zz rfl,zz rfl,trivial⟩⟩⟩
       repeat' (first
        | exact trivial
        | exact ⟨_,_,.inl ⟨Nat.le_of_ble_eq_true rfl,rfl⟩,rfl,.cells (wv _) (.inl rfl)⟩
        | exact ⟨_,_,.inl ⟨Nat.le_of_ble_eq_true rfl,rfl⟩,rfl,.cells (.cons (.str _) .nil) (.inl rfl)⟩
        | exact ⟨_,_,.inr ⟨Nat.le_of_ble_eq_true rfl,Nat.le_of_ble_eq_true rfl,rfl⟩,rfl,.cells (wv _) (.inl rfl)⟩
        | apply And.intro)
      ·have hn:=hnext true hh
       rw [if_pos rfl,List.append_nil] at hn
       simp only [hn] at ih
       refine w1_run (ok.name _ (List.getElem_mem hlt)) (e:=e2) (fl:=.ro) rfl ?_
       rw [hh]
       conv=>whnf
       repeat(first|((first|refine yw ?_|refine zX ?_);intro _ _)|(refine xy ?_;intro _ _;(conv=>whnf))|(refine zk ?_;intro _ _)|refine yz ?_|refine yj ‹_› ?_|refine zw ‹_› ?_|refine yx ‹_› ?_|refine yq ‹_› ?_|refine zZ ?_|refine yy ?_|refine yv ?_|refine zq ?_|((first|refine xw (by first|rfl|assumption) ?_|refine xx (by first|rfl|assumption) ?_);(conv=>whnf))|refine zY (fun Q hQ=>by (conv=>whnf);exact hQ) ?_|refine zj (fun Q hQ=>by (conv=>whnf);exact hQ) ?_|((first|refine zy ?_|refine zx ?_);(conv=>whnf)))
       refine wq (j+1) rfl (by have:=ok.few;show j+1 ≤ 9223372036854775807;omega) ?_
       conv=>whnf
       repeat(first|((first|refine yw ?_|refine zX ?_);intro _ _)|(refine xy ?_;intro _ _;(conv=>whnf))|(refine zk ?_;intro _ _)|refine yz ?_|refine yj ‹_› ?_|refine zw ‹_› ?_|refine yx ‹_› ?_|refine yq ‹_› ?_|refine zZ ?_|refine yy ?_|refine yv ?_|refine zq ?_|((first|refine xw (by first|rfl|assumption) ?_|refine xx (by first|rfl|assumption) ?_);(conv=>whnf))|refine zY (fun Q hQ=>by (conv=>whnf);exact hQ) ?_|refine zj (fun Q hQ=>by (conv=>whnf);exact hQ) ?_|((first|refine zy ?_|refine zx ?_);(conv=>whnf)))
       refine ⟨[ngl+2],outS (q0 :: o0) l e e2,⟨rfl,nodup1 _,fun g hg=>by rw [List.mem_singleton] at hg;subst hg;exact Nat.le_of_ble_eq_true rfl,?_⟩,rfl,ih _ _ hlt ⟨by omega,rfl,⟨rfl,rfl,zz rfl,zz rfl,zz rfl,zz rfl,rfl,zz rfl,zz rfl,zz rfl,zz rfl,zz rfl,rfl,rfl,rfl,zz rfl,zz rfl,zz rfl,zz rfl,zz rfl,zz rfl,zz rfl,zz rfl,zz rfl,zz rfl,zz rfl,zz rfl,zz rfl,trivial⟩⟩⟩
       repeat' (first
        | exact trivial
        | exact ⟨_,_,.inl ⟨Nat.le_of_ble_eq_true rfl,rfl⟩,rfl,.cells (wv _) (.inl rfl)⟩
        | exact ⟨_,_,.inl ⟨Nat.le_of_ble_eq_true rfl,rfl⟩,rfl,.cells (.cons (.str _) .nil) (.inl rfl)⟩
        | exact ⟨_,_,.inr ⟨Nat.le_of_ble_eq_true rfl,Nat.le_of_ble_eq_true rfl,rfl⟩,rfl,.cells (wv _) (.inl rfl)⟩
        | apply And.intro)
     ·have hge:l.length ≤ j:=by rw [ltI_eq] at hb;simpa using hb
      rw [List.take_of_length_le hge] at hout
      conv=>whnf
      repeat(first|((first|refine yw ?_|refine zX ?_);intro _ _)|(refine xy ?_;intro _ _;(conv=>whnf))|(refine zk ?_;intro _ _)|refine yz ?_|refine yj ‹_› ?_|refine zw ‹_› ?_|refine yx ‹_› ?_|refine yq ‹_› ?_|refine zZ ?_|refine yy ?_|refine yv ?_|refine zq ?_|((first|refine xw (by first|rfl|assumption) ?_|refine xx (by first|rfl|assumption) ?_);(conv=>whnf))|refine zY (fun Q hQ=>by (conv=>whnf);exact hQ) ?_|refine zj (fun Q hQ=>by (conv=>whnf);exact hQ) ?_|((first|refine zy ?_|refine zx ?_);(conv=>whnf)))
      conv=>whnf
      rw [← hK,hout]
      exact ⟨[ngl+2],nodup1 _,fun g hg=>by rw [List.mem_singleton] at hg;subst hg;exact Nat.le_of_ble_eq_true rfl,.tup (.cons (.slice _ _ _ _ _ _ _ (Rou.new (a:=0) rfl (Nat.le_of_ble_eq_true rfl) (by simp [outN])) (.inl rfl) (Nat.le_refl _) (fun h=>⟨h,rfl⟩)) (.cons (.int _ _) .nil)),trivial,⟨⟨_,rfl,.cells (wv _) (.inl rfl)⟩,trivial⟩⟩
end Go.Am
/- label.Without. -/
namespace Go.Am
open Go.Proofs
set_option maxRecDepth 100000
attribute [local irreducible] fN fI fB yZ wrapK wk drOps rdsAll sl

theorem f17:FnAt Tryz.prog 17 11 [.tmp 4,.tmp 5] (codeOf Tryz.f17):=⟨Tryz.f17,by kernel_rfl,rfl,by kernel_rfl,by kernel_rfl,by kernel_rfl⟩

set_option maxHeartbeats 2000000 in
theorem without_run {l:List Lab} {v:V} {S:St} (h:LV S v l) (ok:OkL l) {k:V→St→Prop} (hk:newsK (outN (l.filter (fun q=>!hid q.1))) S (k (.tup [outV (l.filter (fun q=>!hid q.1)) S.next,.int .i64 0]))):RC Tryz.prog 17 [v,.str [95,95]] S k:=by
 refine RC.lab mixed f17 h (fun _=>.cons (.str _) .nil) (outN (l.filter (fun q=>!hid q.1))) outN_wr (v2:=.tup [outV (l.filter (fun q=>!hid q.1)) S.next,.int .i64 0]) ?_ ?_ hk
 ·rintro rfl
  generalize hK:Post _ _ _ _ _ _ _=K
  apply wy
  ·intro Q hQ
   conv=>whnf
   exact hQ
  apply wx
  ·intro Q hQ
   conv=>whnf
   exact hQ
  intro K0 hK0
  unfold codeOf
  conv=>arg 7;whnf
  repeat(first|((first|refine yw ?_|refine zX ?_);intro _ _)|(refine xy ?_;intro _ _;(conv=>whnf))|(refine zk ?_;intro _ _)|refine yz ?_|refine yj ‹_› ?_|refine zw ‹_› ?_|refine yx ‹_› ?_|refine yq ‹_› ?_|refine zZ ?_|refine yy ?_|refine yv ?_|refine zq ?_|((first|refine xw (by first|rfl|assumption) ?_|refine xx (by first|rfl|assumption) ?_);(conv=>whnf))|refine zY (fun Q hQ=>by (conv=>whnf);exact hQ) ?_|refine zj (fun Q hQ=>by (conv=>whnf);exact hQ) ?_|((first|refine zy ?_|refine zx ?_);(conv=>whnf)))
  refine filter_run (LV.nil _) ok (e2:=9) (fl2:=.ex) rfl ?_

  conv=>whnf
  repeat(first|((first|refine yw ?_|refine zX ?_);intro _ _)|(refine xy ?_;intro _ _;(conv=>whnf))|(refine zk ?_;intro _ _)|refine yz ?_|refine yj ‹_› ?_|refine zw ‹_› ?_|refine yx ‹_› ?_|refine yq ‹_› ?_|refine zZ ?_|refine yy ?_|refine yv ?_|refine zq ?_|((first|refine xw (by first|rfl|assumption) ?_|refine xx (by first|rfl|assumption) ?_);(conv=>whnf))|refine zY (fun Q hQ=>by (conv=>whnf);exact hQ) ?_|refine zj (fun Q hQ=>by (conv=>whnf);exact hQ) ?_|((first|refine zy ?_|refine zx ?_);(conv=>whnf)))
  conv=>whnf
  rw [← hK]
  exact ⟨[],List.nodup_nil,by simp,.tup (.cons .nilSlice (.cons (.int _ _) .nil)),trivial,trivial⟩
 ·intro e i
  cases hout:l.filter (fun q=>!hid q.1) with
  | nil =>
    generalize hK:Post _ _ _ _ _ _ _=K
    apply wy
    ·intro Q hQ
     conv=>whnf
     exact hQ
    apply wx
    ·intro Q hQ
     conv=>whnf
     exact hQ
    intro K0 hK0
    unfold codeOf
    conv=>arg 7;whnf
    repeat(first|((first|refine yw ?_|refine zX ?_);intro _ _)|(refine xy ?_;intro _ _;(conv=>whnf))|(refine zk ?_;intro _ _)|refine yz ?_|refine yj ‹_› ?_|refine zw ‹_› ?_|refine yx ‹_› ?_|refine yq ‹_› ?_|refine zZ ?_|refine yy ?_|refine yv ?_|refine zq ?_|((first|refine xw (by first|rfl|assumption) ?_|refine xx (by first|rfl|assumption) ?_);(conv=>whnf))|refine zY (fun Q hQ=>by (conv=>whnf);exact hQ) ?_|refine zj (fun Q hQ=>by (conv=>whnf);exact hQ) ?_|((first|refine zy ?_|refine zx ?_);(conv=>whnf)))
    refine filter_run (LV.mk (e:=e) (fl:=.ro) rfl (Nat.le_refl _)) ok (e2:=9) (fl2:=.ex) rfl ?_
    rw [hout]
    conv=>whnf
    repeat(first|((first|refine yw ?_|refine zX ?_);intro _ _)|(refine xy ?_;intro _ _;(conv=>whnf))|(refine zk ?_;intro _ _)|refine yz ?_|refine yj ‹_› ?_|refine zw ‹_› ?_|refine yx ‹_› ?_|refine yq ‹_› ?_|refine zZ ?_|refine yy ?_|refine yv ?_|refine zq ?_|((first|refine xw (by first|rfl|assumption) ?_|refine xx (by first|rfl|assumption) ?_);(conv=>whnf))|refine zY (fun Q hQ=>by (conv=>whnf);exact hQ) ?_|refine zj (fun Q hQ=>by (conv=>whnf);exact hQ) ?_|((first|refine zy ?_|refine zx ?_);(conv=>whnf)))
    conv=>whnf
    rw [← hK]
    exact ⟨[],List.nodup_nil,by simp,.tup (.cons .nilSlice (.cons (.int _ _) .nil)),trivial,trivial⟩
  | cons q0 o0 =>
    generalize hK:Post _ _ _ _ _ _ _=K
    apply wy
    ·intro Q hQ
     conv=>whnf
     exact hQ
    apply wx
    ·intro Q hQ
     conv=>whnf
     exact hQ
    intro K0 hK0
    unfold codeOf
    conv=>arg 7;whnf
    repeat(first|((first|refine yw ?_|refine zX ?_);intro _ _)|(refine xy ?_;intro _ _;(conv=>whnf))|(refine zk ?_;intro _ _)|refine yz ?_|refine yj ‹_› ?_|refine zw ‹_› ?_|refine yx ‹_› ?_|refine yq ‹_› ?_|refine zZ ?_|refine yy ?_|refine yv ?_|refine zq ?_|((first|refine xw (by first|rfl|assumption) ?_|refine xx (by first|rfl|assumption) ?_);(conv=>whnf))|refine zY (fun Q hQ=>by (conv=>whnf);exact hQ) ?_|refine zj (fun Q hQ=>by (conv=>whnf);exact hQ) ?_|((first|refine zy ?_|refine zx ?_);(conv=>whnf)))
    refine filter_run (LV.mk (e:=e) (fl:=.ro) rfl (Nat.le_refl _)) ok (e2:=9) (fl2:=.ex) rfl ?_
    rw [hout]
    conv=>whnf
    repeat(first|((first|refine yw ?_|refine zX ?_);intro _ _)|(refine xy ?_;intro _ _;(conv=>whnf))|(refine zk ?_;intro _ _)|refine yz ?_|refine yj ‹_› ?_|refine zw ‹_› ?_|refine yx ‹_› ?_|refine yq ‹_› ?_|refine zZ ?_|refine yy ?_|refine yv ?_|refine zq ?_|((first|refine xw (by first|rfl|assumption) ?_|refine xx (by first|rfl|assumption) ?_);(conv=>whnf))|refine zY (fun Q hQ=>by (conv=>whnf);exact hQ) ?_|refine zj (fun Q hQ=>by (conv=>whnf);exact hQ) ?_|((first|refine zy ?_|refine zx ?_);(conv=>whnf)))
    conv=>whnf
    rw [← hK]
    exact ⟨[_],nodup1 _,fun g hg=>by rw [List.mem_singleton] at hg;subst hg;exact Nat.le_of_ble_eq_true rfl,.tup (.cons (.slice _ _ _ _ _ _ _ (Rou.new (a:=0) rfl (Nat.le_of_ble_eq_true rfl) (by simp [outN])) (.inl rfl) (Nat.le_refl _) (fun h=>⟨h,rfl⟩)) (.cons (.int _ _) .nil)),trivial,⟨⟨_,rfl,.cells (wv _) (.inl rfl)⟩,trivial⟩⟩
end Go.Am
/- What label.Export puts into its table. -/
namespace Go.Am
/-- The name of a label that the target has, too. -/
def expN (s:List UInt8):List UInt8:=101 :: 120 :: 112 :: 111 :: 114 :: 116 :: 101 :: 100 :: 95 :: s
def expT (tg sm:List Lab) (x:Tab × Nat) (q:Lab):Tab × Nat :=
 if getL q.1 tg=[] then putT x q else if getL (expN q.1) tg ++ getL (expN q.1) sm=[] then putT x (expN q.1,q.2) else x
theorem expT_ok {tg sm:List Lab} {x:Tab × Nat} {q:Lab} (h:TabOk x):TabOk (expT tg sm x q):=by
 unfold expT
 split
 ·exact h.put _
 ·split
  ·exact h.put _
  ·exact h
theorem expTs_ok {tg sm:List Lab}:∀ (l:List Lab) {x:Tab × Nat},TabOk x→TabOk (l.foldl (expT tg sm) x)
 | [],_,h=>h
 | _ :: l,_,h=>expTs_ok l (expT_ok h)
end Go.Am
/- Plain regions, operation by operation. -/
namespace Go.Am
variable {P:Program} {rc:CallT} {rd:RoundT} {lp:LoopT} {dr:DrawT} {ro:Option Nat} {E E1:Env} {D:List Nat} {S S1:St} {k:KT} {ops:List Oper} {l:List Oper} {o:Oper} {K:Env→St→Prop} {v:V}
theorem yX {id:Nat} {ops:Array Oper} (h:∀ K:Env→St→Prop,K=(fun E S=>k .normal E D S)→evOps P rc rd ops.toList ops.toList E S K):wk P rc rd lp dr ro (.region id ops false) E D S k:=h _ rfl
theorem xz (h:K E S):evOps P rc rd ops [] E S K:=h
theorem yk (hg:∀ Y N:Prop,Y→guardK E ops o.guard Y N) (ho:∀ Q:V→St→Prop,Q v S1→evOp P rc rd o.op E S Q) (hp:∀ Q:Env→Prop,Q E1→putDst E o.dst v Q) (h:evOps P rc rd ops l E1 S1 K):evOps P rc rd ops (o :: l) E S K :=
 hg _ _ (ho _ (hp _ h))
theorem yY (hg:∀ Y N:Prop,N→guardK E ops o.guard Y N) (hp:∀ Q:Env→Prop,Q E1→putDst E o.dst undefV Q) (h:evOps P rc rd ops l E1 S K):evOps P rc rd ops (o :: l) E S K:=hg _ _ (hp _ h)
theorem xq (hg:∀ Y N:Prop,Y→guardK E ops o.guard Y N) (h:∀ Q:V→St→Prop,(∀ v S',Q v S'=putDst E o.dst v fun E1=>evOps P rc rd ops l E1 S' K)→evOp P rc rd o.op E S Q):evOps P rc rd ops (o :: l) E S K:=hg _ _ (h _ fun _ _=>rfl)
end Go.Am
/- label.Export. -/
namespace Go.Am
open Go.Proofs
set_option maxRecDepth 100000
attribute [local irreducible] fN fI fB yZ wrapK bAppend evOps wk drOps rdsAll sl

theorem f45:FnAt Tryz.prog 45 62 [.tmp 4,.tmp 5] (codeOf Tryz.f45):=⟨Tryz.f45,by kernel_rfl,rfl,by kernel_rfl,by kernel_rfl,by kernel_rfl⟩

theorem expX {s:List UInt8} (h:s ∈ names04):expN s ∈ namesX:=by
 simp only [names04,List.mem_cons,List.mem_nil_iff,or_false] at h
 rcases h with rfl|rfl|rfl|rfl|rfl|rfl|rfl|rfl|rfl|rfl|rfl|rfl|rfl|rfl|rfl|rfl <;> decide
theorem name_short {s:List UInt8} (h:s ∈ names04):s.length ≤ 30:=by
 simp only [names04,List.mem_cons,List.mem_nil_iff,or_false] at h
 rcases h with rfl|rfl|rfl|rfl|rfl|rfl|rfl|rfl|rfl|rfl|rfl|rfl|rfl|rfl|rfl|rfl <;> decide
theorem val_short {s:List UInt8} (h:s ∈ valsX):s.length ≤ 30:=by
 simp only [valsX,vals04,mets,List.cons_append,List.nil_append,List.mem_cons,List.mem_nil_iff,or_false] at h
 rcases h with rfl|rfl|rfl|rfl|rfl|rfl|rfl|rfl|rfl|rfl|rfl|rfl|rfl|rfl|rfl|rfl <;> decide
theorem getL_short {n:List UInt8}:∀ {l:List Lab},(∀ q ∈ l,q.2 ∈ valsX)→(getL n l).length ≤ 30
 | [],_=>Nat.zero_le _
 | q :: l,h=>by
   show (if q.1=n then q.2 else getL n l).length ≤ 30
   split
   ·exact val_short (h q (by simp))
   ·exact getL_short fun x hx=>h x (by simp [hx])
/-- What label.Export's labels are. -/
noncomputable def expL (tg sm:List Lab):List Lab:=tabL (tg.foldl putT (sm.foldl (expT tg sm) ([],0)))
set_option maxHeartbeats 4000000 in
theorem export_run (hL:LabelsOk Tryz.prog 37 40) {l l':List Lab} {v v':V} {S:St} (h:LV S v l) (ok:OkL l) (h':LS S v' l') (ok':OkL l') (hs':∀ q ∈ l',q.1 ∈ names04) (hne:(l.foldl putT (l'.foldl (expT l l') ([],0))).1 ≠ []) (hR:(expL l l').length ≤ 64) {k:V→St→Prop}
  (hk:newK (.cells (cellsOf (expL l l')) 40 .rw) S fun id S'=>k (.tup [.slice id 0 (expL l l').length (expL l l').length 2 false,.int .i64 0]) S'):RC Tryz.prog 45 [v,v'] S k:=by
 obtain ⟨i40,hi40,hs40⟩:=info40
 refine RC.lab2 mixed f45 h h' [.cells (cellsOf (expL l l')) 40 .rw] ?_ ?_ ?_ (newsK_one hk)
 ·rintro (_|a) o h
  ·simp at h;subst h;rfl
  ·simp at h
 ·rintro rfl e i
  generalize hK:Post _ _ _ _ _ _ _=K
  apply wy
  ·intro Q hQ
   conv=>whnf
   exact hQ
  apply wx
  ·intro Q hQ
   conv=>whnf
   exact hQ
  intro K0 hK0
  unfold codeOf
  conv=>arg 7;whnf
  repeat(first|((first|refine yw ?_|refine zX ?_|refine yX ?_|refine zk ?_);intro _ _)|refine yz ?_|refine xz ?_|refine yj ‹_› ?_|refine zw ‹_› ?_|refine yx ‹_› ?_|refine yq ‹_› ?_|refine zZ ?_|refine yy ?_|refine yv ?_|refine zq ?_|refine zY (fun Q hQ=>by (conv=>whnf);exact hQ) ?_|refine zj (fun Q hQ=>by (conv=>whnf);exact hQ) ?_|(apply yk;(·intro _ _ hy;(conv=>whnf);exact hy);(·intro Q hQ;(conv=>whnf);repeat(first|exact hQ|((first|refine xw (by first|rfl|assumption) ?_|refine xx (by first|rfl|assumption) ?_|refine zy ?_|refine zx ?_|unfold yZ);(conv=>whnf))));(·intro Q hQ;(conv=>whnf);exact hQ))|(apply yY;(·intro _ _ hy;(conv=>whnf);exact hy);(·intro Q hQ;(conv=>whnf);exact hQ)))
  apply xq
  ·(intro _ _ hy;(conv=>whnf);exact hy)
  intro Q hQ
  conv=>whnf
  refine right_run (LV.nil _) ok ?_
  rw [hQ]
  conv=>whnf
  repeat(first|((first|refine yw ?_|refine zX ?_|refine yX ?_|refine zk ?_);intro _ _)|refine yz ?_|refine xz ?_|refine yj ‹_› ?_|refine zw ‹_› ?_|refine yx ‹_› ?_|refine yq ‹_› ?_|refine zZ ?_|refine yy ?_|refine yv ?_|refine zq ?_|refine zY (fun Q hQ=>by (conv=>whnf);exact hQ) ?_|refine zj (fun Q hQ=>by (conv=>whnf);exact hQ) ?_|(apply yk;(·intro _ _ hy;(conv=>whnf);exact hy);(·intro Q hQ;(conv=>whnf);repeat(first|exact hQ|((first|refine xw (by first|rfl|assumption) ?_|refine xx (by first|rfl|assumption) ?_|refine zy ?_|refine zx ?_|unfold yZ);(conv=>whnf))));(·intro Q hQ;(conv=>whnf);exact hQ))|(apply yY;(·intro _ _ hy;(conv=>whnf);exact hy);(·intro Q hQ;(conv=>whnf);exact hQ)))
  apply xq
  ·(intro _ _ hy;(conv=>whnf);exact hy)
  intro Q hQ
  conv=>whnf
  refine right_run (LV.mk (e:=e) (fl:=.ro) rfl (Nat.le_refl _)) ok' ?_
  rw [hQ]
  conv=>whnf
  repeat(first|((first|refine yw ?_|refine zX ?_|refine yX ?_|refine zk ?_);intro _ _)|refine yz ?_|refine xz ?_|refine yj ‹_› ?_|refine zw ‹_› ?_|refine yx ‹_› ?_|refine yq ‹_› ?_|refine zZ ?_|refine yy ?_|refine yv ?_|refine zq ?_|refine zY (fun Q hQ=>by (conv=>whnf);exact hQ) ?_|refine zj (fun Q hQ=>by (conv=>whnf);exact hQ) ?_|(apply yk;(·intro _ _ hy;(conv=>whnf);exact hy);(·intro Q hQ;(conv=>whnf);repeat(first|exact hQ|((first|refine xw (by first|rfl|assumption) ?_|refine xx (by first|rfl|assumption) ?_|refine zy ?_|refine zx ?_|unfold yZ);(conv=>whnf))));(·intro Q hQ;(conv=>whnf);exact hQ))|(apply yY;(·intro _ _ hy;(conv=>whnf);exact hy);(·intro Q hQ;(conv=>whnf);exact hQ)))
  refine LP.induct l'.length (fun j E S'=>j ≤ l'.length∧S'=mkS [(ngl,.cells (cellsOf l') e .ro),(ngl+1,.map (ents ((l'.take j).foldl (expT [] l') ([],0)).1) ((l'.take j).foldl (expT [] l') ([],0)).2)] (ngl+2)∧Fits E 0 [.nilSlice,.slice ngl 0 l'.length l'.length 2 false,sl E 2,sl E 3,sl E 4,sl E 5,.map (ngl+1),sl E 7,sl E 8,sl E 9,sl E 10,sl E 11,sl E 12,sl E 13,sl E 14,sl E 15,sl E 16,sl E 17,.slice ngl 0 l'.length l'.length 2 false,.int .i64 (.ofNat l'.length),.int .i64 (.ofNat j),sl E 21,sl E 22,sl E 23,sl E 24,sl E 25,sl E 26,sl E 27,sl E 28,sl E 29,sl E 30,sl E 31,sl E 32,sl E 33,sl E 34,sl E 35,sl E 36,sl E 37,sl E 38,sl E 39,sl E 40,sl E 41,sl E 42,sl E 43,sl E 44,sl E 45,sl E 46,sl E 47,sl E 48,sl E 49,sl E 50,sl E 51,sl E 52,sl E 53,sl E 54,sl E 55,sl E 56,sl E 57,sl E 58,sl E 59,sl E 60,sl E 61]) ⟨Nat.zero_le _,by kernel_rfl,⟨rfl,rfl,zz rfl,zz rfl,zz rfl,zz rfl,rfl,zz rfl,zz rfl,zz rfl,zz rfl,zz rfl,zz rfl,zz rfl,zz rfl,zz rfl,zz rfl,zz rfl,rfl,rfl,rfl,zz rfl,zz rfl,zz rfl,zz rfl,zz rfl,zz rfl,zz rfl,zz rfl,zz rfl,zz rfl,zz rfl,zz rfl,zz rfl,zz rfl,zz rfl,zz rfl,zz rfl,zz rfl,zz rfl,zz rfl,zz rfl,zz rfl,zz rfl,zz rfl,zz rfl,zz rfl,zz rfl,zz rfl,zz rfl,zz rfl,zz rfl,zz rfl,zz rfl,zz rfl,zz rfl,zz rfl,zz rfl,zz rfl,zz rfl,zz rfl,zz rfl,trivial⟩⟩ ?_
  intro j E S' ⟨hjl,hS',hf⟩ ih
  subst hS'
  refine LP.tree hf (⟨some (.nilSlice),⟨some (.slice ngl 0 l'.length l'.length 2 false),⟨some (sl E 5),⟨some (sl E 21),z0,z0,z0,z0⟩,⟨some (sl E 37),z0,z0,z0,z0⟩,⟨some (sl E 53),z0,z0,z0,z0⟩,z1⟩,⟨some (sl E 9),⟨some (sl E 25),z0,z0,z0,z0⟩,⟨some (sl E 41),z0,z0,z0,z0⟩,⟨some (sl E 57),z0,z0,z0,z0⟩,z1⟩,⟨some (sl E 13),⟨some (sl E 29),z0,z0,z0,z0⟩,⟨some (sl E 45),z0,z0,z0,z0⟩,⟨some (sl E 61),z0,z0,z0,z0⟩,z1⟩,⟨some (sl E 17),⟨some (sl E 33),z0,z0,z0,z0⟩,⟨some (sl E 49),z0,z0,z0,z0⟩,z1,z1⟩⟩,⟨some (sl E 2),⟨some (.map (ngl+1)),⟨some (sl E 22),z0,z0,z0,z0⟩,⟨some (sl E 38),z0,z0,z0,z0⟩,⟨some (sl E 54),z0,z0,z0,z0⟩,z1⟩,⟨some (sl E 10),⟨some (sl E 26),z0,z0,z0,z0⟩,⟨some (sl E 42),z0,z0,z0,z0⟩,⟨some (sl E 58),z0,z0,z0,z0⟩,z1⟩,⟨some (sl E 14),⟨some (sl E 30),z0,z0,z0,z0⟩,⟨some (sl E 46),z0,z0,z0,z0⟩,z1,z1⟩,⟨some (.slice ngl 0 l'.length l'.length 2 false),⟨some (sl E 34),z0,z0,z0,z0⟩,⟨some (sl E 50),z0,z0,z0,z0⟩,z1,z1⟩⟩,⟨some (sl E 3),⟨some (sl E 7),⟨some (sl E 23),z0,z0,z0,z0⟩,⟨some (sl E 39),z0,z0,z0,z0⟩,⟨some (sl E 55),z0,z0,z0,z0⟩,z1⟩,⟨some (sl E 11),⟨some (sl E 27),z0,z0,z0,z0⟩,⟨some (sl E 43),z0,z0,z0,z0⟩,⟨some (sl E 59),z0,z0,z0,z0⟩,z1⟩,⟨some (sl E 15),⟨some (sl E 31),z0,z0,z0,z0⟩,⟨some (sl E 47),z0,z0,z0,z0⟩,z1,z1⟩,⟨some (.int .i64 (.ofNat l'.length)),⟨some (sl E 35),z0,z0,z0,z0⟩,⟨some (sl E 51),z0,z0,z0,z0⟩,z1,z1⟩⟩,⟨some (sl E 4),⟨some (sl E 8),⟨some (sl E 24),z0,z0,z0,z0⟩,⟨some (sl E 40),z0,z0,z0,z0⟩,⟨some (sl E 56),z0,z0,z0,z0⟩,z1⟩,⟨some (sl E 12),⟨some (sl E 28),z0,z0,z0,z0⟩,⟨some (sl E 44),z0,z0,z0,z0⟩,⟨some (sl E 60),z0,z0,z0,z0⟩,z1⟩,⟨some (sl E 16),⟨some (sl E 32),z0,z0,z0,z0⟩,⟨some (sl E 48),z0,z0,z0,z0⟩,z1,z1⟩,⟨some (.int .i64 (.ofNat j)),⟨some (sl E 36),z0,z0,z0,z0⟩,⟨some (sl E 52),z0,z0,z0,z0⟩,z1,z1⟩⟩⟩) (by kernel_rfl) (LP.gc' mixed fun _ _=>?_)
  clear hf
  cases hb:ltI (.ofNat j) (.ofNat l'.length)
  ·have hge:l'.length ≤ j:=by rw [ltI_eq] at hb;simpa using hb
   repeat(first|((first|refine yw ?_|refine zX ?_|refine yX ?_|refine zk ?_);intro _ _)|refine yz ?_|refine xz ?_|refine yj ‹_› ?_|refine zw ‹_› ?_|refine yx ‹_› ?_|refine yq ‹_› ?_|refine zZ ?_|refine yy ?_|refine yv ?_|refine zq ?_|refine zY (fun Q hQ=>by (conv=>whnf);exact hQ) ?_|refine zj (fun Q hQ=>by (conv=>whnf);exact hQ) ?_|(apply yk;(·intro _ _ hy;(conv=>whnf);exact hy);(·intro Q hQ;(conv=>whnf);repeat(first|exact hQ|((first|refine xw (by first|rfl|assumption) ?_|refine xx (by first|rfl|assumption) ?_|refine zy ?_|refine zx ?_|unfold yZ);(conv=>whnf))));(·intro Q hQ;(conv=>whnf);exact hQ))|(apply yY;(·intro _ _ hy;(conv=>whnf);exact hy);(·intro Q hQ;(conv=>whnf);exact hQ)))
   apply xq
   ·(intro _ _ hy;(conv=>whnf);exact hy)
   intro Q hQ
   conv=>whnf
   refine put_run (LV.nil _) (by simp) ok.full (t:=((l'.take j).foldl (expT [] l') ([],0)).1) (c:=((l'.take j).foldl (expT [] l') ([],0)).2) rfl ?_
   conv=>whnf
   rw [hQ]
   conv=>whnf
   rw [List.take_of_length_le hge]
   repeat(first|((first|refine yw ?_|refine zX ?_|refine yX ?_|refine zk ?_);intro _ _)|refine yz ?_|refine xz ?_|refine yj ‹_› ?_|refine zw ‹_› ?_|refine yx ‹_› ?_|refine yq ‹_› ?_|refine zZ ?_|refine yy ?_|refine yv ?_|refine zq ?_|refine zY (fun Q hQ=>by (conv=>whnf);exact hQ) ?_|refine zj (fun Q hQ=>by (conv=>whnf);exact hQ) ?_|(apply yk;(·intro _ _ hy;(conv=>whnf);exact hy);(·intro Q hQ;(conv=>whnf);repeat(first|exact hQ|((first|refine xw (by first|rfl|assumption) ?_|refine xx (by first|rfl|assumption) ?_|refine zy ?_|refine zx ?_|unfold yZ);(conv=>whnf))));(·intro Q hQ;(conv=>whnf);exact hQ))|(apply yY;(·intro _ _ hy;(conv=>whnf);exact hy);(·intro Q hQ;(conv=>whnf);exact hQ)))
   apply xq
   ·(intro _ _ hy;(conv=>whnf);exact hy)
   intro Q hQ
   conv=>whnf
   refine labels_run hL (x:=[].foldl putT (l'.foldl (expT [] l') ([],0))) rfl (.puts _ (expTs_ok _ .nil)) hne (by have:=tabL_length ([].foldl putT (l'.foldl (expT [] l') ([],0)));unfold expL at hR;omega) ?_
   conv=>whnf
   rw [hQ]
   conv=>whnf
   repeat(first|((first|refine yw ?_|refine zX ?_|refine yX ?_|refine zk ?_);intro _ _)|refine yz ?_|refine xz ?_|refine yj ‹_› ?_|refine zw ‹_› ?_|refine yx ‹_› ?_|refine yq ‹_› ?_|refine zZ ?_|refine yy ?_|refine yv ?_|refine zq ?_|refine zY (fun Q hQ=>by (conv=>whnf);exact hQ) ?_|refine zj (fun Q hQ=>by (conv=>whnf);exact hQ) ?_|(apply yk;(·intro _ _ hy;(conv=>whnf);exact hy);(·intro Q hQ;(conv=>whnf);repeat(first|exact hQ|((first|refine xw (by first|rfl|assumption) ?_|refine xx (by first|rfl|assumption) ?_|refine zy ?_|refine zx ?_|unfold yZ);(conv=>whnf))));(·intro Q hQ;(conv=>whnf);exact hQ))|(apply yY;(·intro _ _ hy;(conv=>whnf);exact hy);(·intro Q hQ;(conv=>whnf);exact hQ)))
   apply xq
   ·(intro _ _ hy;(conv=>whnf);exact hy)
   intro Q hQ
   conv=>whnf
   refine bound_run _ _ _ _ _ _ hR ?_
   rw [hQ]
   conv=>whnf
   repeat(first|((first|refine yw ?_|refine zX ?_|refine yX ?_|refine zk ?_);intro _ _)|refine yz ?_|refine xz ?_|refine yj ‹_› ?_|refine zw ‹_› ?_|refine yx ‹_› ?_|refine yq ‹_› ?_|refine zZ ?_|refine yy ?_|refine yv ?_|refine zq ?_|refine zY (fun Q hQ=>by (conv=>whnf);exact hQ) ?_|refine zj (fun Q hQ=>by (conv=>whnf);exact hQ) ?_|(apply yk;(·intro _ _ hy;(conv=>whnf);exact hy);(·intro Q hQ;(conv=>whnf);repeat(first|exact hQ|((first|refine xw (by first|rfl|assumption) ?_|refine xx (by first|rfl|assumption) ?_|refine zy ?_|refine zx ?_|unfold yZ);(conv=>whnf))));(·intro Q hQ;(conv=>whnf);exact hQ))|(apply yY;(·intro _ _ hy;(conv=>whnf);exact hy);(·intro Q hQ;(conv=>whnf);exact hQ)))
   conv=>whnf
   rw [← hK]
   refine ⟨[_],nodup1 _,?_,.tup (.cons (.slice _ _ _ _ _ _ _ (Rou.new (a:=0) rfl (Nat.le_of_ble_eq_true rfl) (by simp)) (.inr (Nat.le_refl _)) (Nat.le_refl _) (by simp)) (.cons (.int _ _) .nil)),trivial,⟨⟨_,rfl,.cells (wv _) (.inl rfl)⟩,trivial⟩⟩
   intro g hg
   rw [List.mem_singleton] at hg
   subst hg
   exact Nat.le_of_ble_eq_true rfl
  ·have hlt:j < l'.length:=by rw [ltI_eq] at hb;simpa using hb
   have hnm:expN l'[j].1 ∈ namesX:=expX (hs' _ (List.getElem_mem hlt))
   have hle1:Nat.ble (Nat.add (len' [101,120,112,111,114,116,101,100,95]) (len' l'[j].1)) 9223372036854775807=true:=Nat.ble_eq_true_of_le (by rw [len'_eq,len'_eq];have:=name_short (hs' _ (List.getElem_mem hlt));show 9+l'[j].1.length ≤ _;omega)
   have hle2:Nat.ble (Nat.add (len' (getL (expN l'[j].1) [])) (len' (getL (expN l'[j].1) l'))) 9223372036854775807=true:=Nat.ble_eq_true_of_le (by rw [len'_eq,len'_eq];have:=getL_short (n:=expN l'[j].1) ok.val;have:=getL_short (n:=expN l'[j].1) ok'.val;show (getL (expN l'[j].1) []).length+_ ≤ _;omega)
   have hblt:Nat.blt j l'.length=true:=hb
   repeat(first|((first|refine yw ?_|refine zX ?_|refine yX ?_|refine zk ?_);intro _ _)|refine yz ?_|refine xz ?_|refine yj ‹_› ?_|refine zw ‹_› ?_|refine yx ‹_› ?_|refine yq ‹_› ?_|refine zZ ?_|refine yy ?_|refine yv ?_|refine zq ?_|refine zY (fun Q hQ=>by (conv=>whnf);exact hQ) ?_|refine zj (fun Q hQ=>by (conv=>whnf);exact hQ) ?_|(apply yk;(·intro _ _ hy;(conv=>whnf);exact hy);(·intro Q hQ;(conv=>whnf);repeat(first|exact hQ|((first|refine xw (by first|rfl|assumption) ?_|refine xx (by first|rfl|assumption) ?_|refine zy ?_|refine zx ?_|unfold yZ);(conv=>whnf))));(·intro Q hQ;(conv=>whnf);exact hQ))|(apply yY;(·intro _ _ hy;(conv=>whnf);exact hy);(·intro Q hQ;(conv=>whnf);exact hQ)))
   apply yk
   ·(intro _ _ hy;(conv=>whnf);exact hy)
   ·intro Q hQ
    conv=>whnf
    refine bcase (fun _=>?_) (fun h=>absurd (h.symm.trans hblt) (by simp))
    conv=>whnf
    repeat(first|exact hQ|((first|refine xw (by first|rfl|assumption) ?_|refine xx (by first|rfl|assumption) ?_|refine zy ?_|refine zx ?_);(conv=>whnf)))
   ·(intro Q hQ;(conv=>whnf);exact hQ)
   repeat(first|((first|refine yw ?_|refine zX ?_|refine yX ?_|refine zk ?_);intro _ _)|refine yz ?_|refine xz ?_|refine yj ‹_› ?_|refine zw ‹_› ?_|refine yx ‹_› ?_|refine yq ‹_› ?_|refine zZ ?_|refine yy ?_|refine yv ?_|refine zq ?_|refine zY (fun Q hQ=>by (conv=>whnf);exact hQ) ?_|refine zj (fun Q hQ=>by (conv=>whnf);exact hQ) ?_|(apply yk;(·intro _ _ hy;(conv=>whnf);exact hy);(·intro Q hQ;(conv=>whnf);repeat(first|exact hQ|((first|refine xw (by first|rfl|assumption) ?_|refine xx (by first|rfl|assumption) ?_|refine zy ?_|refine zx ?_|unfold yZ);(conv=>whnf))));(·intro Q hQ;(conv=>whnf);exact hQ))|(apply yY;(·intro _ _ hy;(conv=>whnf);exact hy);(·intro Q hQ;(conv=>whnf);exact hQ)))
   apply yk
   ·(intro _ _ hy;(conv=>whnf);exact hy)
   ·intro Q hQ
    conv=>whnf
    refine partK_lab agg40 hi40 hs40 (j:=j) (List.getElem?_eq_getElem hlt) (show 0+j * 2=2 * j by omega) ?_
    exact hQ
   ·(intro Q hQ;(conv=>whnf);exact hQ)
   repeat(first|((first|refine yw ?_|refine zX ?_|refine yX ?_|refine zk ?_);intro _ _)|refine yz ?_|refine xz ?_|refine yj ‹_› ?_|refine zw ‹_› ?_|refine yx ‹_› ?_|refine yq ‹_› ?_|refine zZ ?_|refine yy ?_|refine yv ?_|refine zq ?_|refine zY (fun Q hQ=>by (conv=>whnf);exact hQ) ?_|refine zj (fun Q hQ=>by (conv=>whnf);exact hQ) ?_|(apply yk;(·intro _ _ hy;(conv=>whnf);exact hy);(·intro Q hQ;(conv=>whnf);repeat(first|exact hQ|((first|refine xw (by first|rfl|assumption) ?_|refine xx (by first|rfl|assumption) ?_|refine zy ?_|refine zx ?_|unfold yZ);(conv=>whnf))));(·intro Q hQ;(conv=>whnf);exact hQ))|(apply yY;(·intro _ _ hy;(conv=>whnf);exact hy);(·intro Q hQ;(conv=>whnf);exact hQ)))
   apply xq
   ·(intro _ _ hy;(conv=>whnf);exact hy)
   intro Q hQ
   conv=>whnf
   refine get_run (LV.nil _) (by simp) _ ?_
   rw [hQ]
   conv=>whnf
   by_cases hg:getL l'[j].1 []=[]
   ·
    apply yk
    ·(intro _ _ hy;(conv=>whnf);exact hy)
    ·intro Q hQ
     conv=>whnf
     refine xw (by rw [eqS_eq,hg];rfl) ?_
     exact hQ
    ·(intro Q hQ;(conv=>whnf);exact hQ)
    repeat(first|((first|refine yw ?_|refine zX ?_|refine yX ?_|refine zk ?_);intro _ _)|refine yz ?_|refine xz ?_|refine yj ‹_› ?_|refine zw ‹_› ?_|refine yx ‹_› ?_|refine yq ‹_› ?_|refine zZ ?_|refine yy ?_|refine yv ?_|refine zq ?_|refine zY (fun Q hQ=>by (conv=>whnf);exact hQ) ?_|refine zj (fun Q hQ=>by (conv=>whnf);exact hQ) ?_|(apply yk;(·intro _ _ hy;(conv=>whnf);exact hy);(·intro Q hQ;(conv=>whnf);repeat(first|exact hQ|((first|refine xw (by first|rfl|assumption) ?_|refine xx (by first|rfl|assumption) ?_|refine zy ?_|refine zx ?_|unfold yZ);(conv=>whnf))));(·intro Q hQ;(conv=>whnf);exact hQ))|(apply yY;(·intro _ _ hy;(conv=>whnf);exact hy);(·intro Q hQ;(conv=>whnf);exact hQ)))
    apply xq
    ·(intro _ _ hy;(conv=>whnf);exact hy)
    intro Q hQ
    conv=>whnf
    refine mapUp (q:=l'[j]) ?_
    conv=>whnf
    rw [hQ]
    conv=>whnf
    repeat(first|((first|refine yw ?_|refine zX ?_|refine yX ?_|refine zk ?_);intro _ _)|refine yz ?_|refine xz ?_|refine yj ‹_› ?_|refine zw ‹_› ?_|refine yx ‹_› ?_|refine yq ‹_› ?_|refine zZ ?_|refine yy ?_|refine yv ?_|refine zq ?_|refine zY (fun Q hQ=>by (conv=>whnf);exact hQ) ?_|refine zj (fun Q hQ=>by (conv=>whnf);exact hQ) ?_|(apply yk;(·intro _ _ hy;(conv=>whnf);exact hy);(·intro Q hQ;(conv=>whnf);repeat(first|exact hQ|((first|refine xw (by first|rfl|assumption) ?_|refine xx (by first|rfl|assumption) ?_|refine zy ?_|refine zx ?_|unfold yZ);(conv=>whnf))));(·intro Q hQ;(conv=>whnf);exact hQ))|(apply yY;(·intro _ _ hy;(conv=>whnf);exact hy);(·intro Q hQ;(conv=>whnf);exact hQ)))
    apply yk
    ·(intro _ _ hy;(conv=>whnf);exact hy)
    ·intro Q hQ
     conv=>whnf
     refine wq (j+1) rfl (by have:=ok'.few;show j+1 ≤ 9223372036854775807;omega) ?_
     exact hQ
    ·(intro Q hQ;(conv=>whnf);exact hQ)
    repeat(first|((first|refine yw ?_|refine zX ?_|refine yX ?_|refine zk ?_);intro _ _)|refine yz ?_|refine xz ?_|refine yj ‹_› ?_|refine zw ‹_› ?_|refine yx ‹_› ?_|refine yq ‹_› ?_|refine zZ ?_|refine yy ?_|refine yv ?_|refine zq ?_|refine zY (fun Q hQ=>by (conv=>whnf);exact hQ) ?_|refine zj (fun Q hQ=>by (conv=>whnf);exact hQ) ?_|(apply yk;(·intro _ _ hy;(conv=>whnf);exact hy);(·intro Q hQ;(conv=>whnf);repeat(first|exact hQ|((first|refine xw (by first|rfl|assumption) ?_|refine xx (by first|rfl|assumption) ?_|refine zy ?_|refine zx ?_|unfold yZ);(conv=>whnf))));(·intro Q hQ;(conv=>whnf);exact hQ))|(apply yY;(·intro _ _ hy;(conv=>whnf);exact hy);(·intro Q hQ;(conv=>whnf);exact hQ)))
    have htk:((l'.take (j+1)).foldl (expT [] l') ([],0))=putT ((l'.take j).foldl (expT [] l') ([],0)) l'[j]:=by
     rw [List.take_succ_eq_append_getElem hlt,List.foldl_append]
     show expT [] l' _ l'[j]=_
     unfold expT
     rw [if_pos hg]
    refine ⟨mkS [(ngl,.cells (cellsOf l') e .ro),(ngl+1,.map (ents ((l'.take (j+1)).foldl (expT [] l') ([],0)).1) ((l'.take (j+1)).foldl (expT [] l') ([],0)).2)] (ngl+2),⟨Nat.le_refl _,?_⟩,rfl,ih _ _ hlt ⟨by omega,rfl,⟨rfl,rfl,zz rfl,zz rfl,zz rfl,zz rfl,rfl,zz rfl,zz rfl,zz rfl,zz rfl,zz rfl,zz rfl,zz rfl,zz rfl,zz rfl,zz rfl,zz rfl,rfl,rfl,rfl,zz rfl,zz rfl,zz rfl,zz rfl,zz rfl,zz rfl,zz rfl,zz rfl,zz rfl,zz rfl,zz rfl,zz rfl,zz rfl,zz rfl,zz rfl,zz rfl,zz rfl,zz rfl,zz rfl,zz rfl,zz rfl,zz rfl,zz rfl,zz rfl,zz rfl,zz rfl,zz rfl,zz rfl,zz rfl,zz rfl,zz rfl,zz rfl,zz rfl,zz rfl,zz rfl,zz rfl,zz rfl,zz rfl,zz rfl,zz rfl,zz rfl,trivial⟩⟩⟩
    repeat' (first
     | exact trivial
     | exact Nat.le_of_ble_eq_true rfl
     | exact ⟨_,rfl,.cells (wv _) (.inl rfl)⟩
     | exact ⟨_,rfl,by rw [htk];exact .map (EI_ents _)⟩
     | apply And.intro)
   ·
    exact absurd rfl hg
 ·intro e e' i i'
  generalize hK:Post _ _ _ _ _ _ _=K
  apply wy
  ·intro Q hQ
   conv=>whnf
   exact hQ
  apply wx
  ·intro Q hQ
   conv=>whnf
   exact hQ
  intro K0 hK0
  unfold codeOf
  conv=>arg 7;whnf
  repeat(first|((first|refine yw ?_|refine zX ?_|refine yX ?_|refine zk ?_);intro _ _)|refine yz ?_|refine xz ?_|refine yj ‹_› ?_|refine zw ‹_› ?_|refine yx ‹_› ?_|refine yq ‹_› ?_|refine zZ ?_|refine yy ?_|refine yv ?_|refine zq ?_|refine zY (fun Q hQ=>by (conv=>whnf);exact hQ) ?_|refine zj (fun Q hQ=>by (conv=>whnf);exact hQ) ?_|(apply yk;(·intro _ _ hy;(conv=>whnf);exact hy);(·intro Q hQ;(conv=>whnf);repeat(first|exact hQ|((first|refine xw (by first|rfl|assumption) ?_|refine xx (by first|rfl|assumption) ?_|refine zy ?_|refine zx ?_|unfold yZ);(conv=>whnf))));(·intro Q hQ;(conv=>whnf);exact hQ))|(apply yY;(·intro _ _ hy;(conv=>whnf);exact hy);(·intro Q hQ;(conv=>whnf);exact hQ)))
  apply xq
  ·(intro _ _ hy;(conv=>whnf);exact hy)
  intro Q hQ
  conv=>whnf
  refine right_run (LV.mk (e:=e) (fl:=.ro) rfl (Nat.le_refl _)) ok ?_
  rw [hQ]
  conv=>whnf
  repeat(first|((first|refine yw ?_|refine zX ?_|refine yX ?_|refine zk ?_);intro _ _)|refine yz ?_|refine xz ?_|refine yj ‹_› ?_|refine zw ‹_› ?_|refine yx ‹_› ?_|refine yq ‹_› ?_|refine zZ ?_|refine yy ?_|refine yv ?_|refine zq ?_|refine zY (fun Q hQ=>by (conv=>whnf);exact hQ) ?_|refine zj (fun Q hQ=>by (conv=>whnf);exact hQ) ?_|(apply yk;(·intro _ _ hy;(conv=>whnf);exact hy);(·intro Q hQ;(conv=>whnf);repeat(first|exact hQ|((first|refine xw (by first|rfl|assumption) ?_|refine xx (by first|rfl|assumption) ?_|refine zy ?_|refine zx ?_|unfold yZ);(conv=>whnf))));(·intro Q hQ;(conv=>whnf);exact hQ))|(apply yY;(·intro _ _ hy;(conv=>whnf);exact hy);(·intro Q hQ;(conv=>whnf);exact hQ)))
  apply xq
  ·(intro _ _ hy;(conv=>whnf);exact hy)
  intro Q hQ
  conv=>whnf
  refine right_run (LV.mk (e:=e') (fl:=.ro) rfl (Nat.le_refl _)) ok' ?_
  rw [hQ]
  conv=>whnf
  repeat(first|((first|refine yw ?_|refine zX ?_|refine yX ?_|refine zk ?_);intro _ _)|refine yz ?_|refine xz ?_|refine yj ‹_› ?_|refine zw ‹_› ?_|refine yx ‹_› ?_|refine yq ‹_› ?_|refine zZ ?_|refine yy ?_|refine yv ?_|refine zq ?_|refine zY (fun Q hQ=>by (conv=>whnf);exact hQ) ?_|refine zj (fun Q hQ=>by (conv=>whnf);exact hQ) ?_|(apply yk;(·intro _ _ hy;(conv=>whnf);exact hy);(·intro Q hQ;(conv=>whnf);repeat(first|exact hQ|((first|refine xw (by first|rfl|assumption) ?_|refine xx (by first|rfl|assumption) ?_|refine zy ?_|refine zx ?_|unfold yZ);(conv=>whnf))));(·intro Q hQ;(conv=>whnf);exact hQ))|(apply yY;(·intro _ _ hy;(conv=>whnf);exact hy);(·intro Q hQ;(conv=>whnf);exact hQ)))
  refine LP.induct l'.length (fun j E S'=>j ≤ l'.length∧S'=mkS [(ngl,.cells (cellsOf l') e' .ro),(ngl+1,.cells (cellsOf l) e .ro),(ngl+2,.map (ents ((l'.take j).foldl (expT l l') ([],0)).1) ((l'.take j).foldl (expT l l') ([],0)).2)] (ngl+3)∧Fits E 0 [.slice (ngl+1) 0 l.length l.length 2 false,.slice ngl 0 l'.length l'.length 2 false,sl E 2,sl E 3,sl E 4,sl E 5,.map (ngl+2),sl E 7,sl E 8,sl E 9,sl E 10,sl E 11,sl E 12,sl E 13,sl E 14,sl E 15,sl E 16,sl E 17,.slice ngl 0 l'.length l'.length 2 false,.int .i64 (.ofNat l'.length),.int .i64 (.ofNat j),sl E 21,sl E 22,sl E 23,sl E 24,sl E 25,sl E 26,sl E 27,sl E 28,sl E 29,sl E 30,sl E 31,sl E 32,sl E 33,sl E 34,sl E 35,sl E 36,sl E 37,sl E 38,sl E 39,sl E 40,sl E 41,sl E 42,sl E 43,sl E 44,sl E 45,sl E 46,sl E 47,sl E 48,sl E 49,sl E 50,sl E 51,sl E 52,sl E 53,sl E 54,sl E 55,sl E 56,sl E 57,sl E 58,sl E 59,sl E 60,sl E 61]) ⟨Nat.zero_le _,by kernel_rfl,⟨rfl,rfl,zz rfl,zz rfl,zz rfl,zz rfl,rfl,zz rfl,zz rfl,zz rfl,zz rfl,zz rfl,zz rfl,zz rfl,zz rfl,zz rfl,zz rfl,zz rfl,rfl,rfl,rfl,zz rfl,zz rfl,zz rfl,zz rfl,zz rfl,zz rfl,zz rfl,zz rfl,zz rfl,zz rfl,zz rfl,zz rfl,zz rfl,zz rfl,zz rfl,zz rfl,zz rfl,zz rfl,zz rfl,zz rfl,zz rfl,zz rfl,zz rfl,zz rfl,zz rfl,zz rfl,zz rfl,zz rfl,zz rfl,zz rfl,zz rfl,zz rfl,zz rfl,zz rfl,zz rfl,zz rfl,zz rfl,zz rfl,zz rfl,zz rfl,zz rfl,trivial⟩⟩ ?_
  intro j E S' ⟨hjl,hS',hf⟩ ih
  subst hS'
  refine LP.tree hf (⟨some (.slice (ngl+1) 0 l.length l.length 2 false),⟨some (.slice ngl 0 l'.length l'.length 2 false),⟨some (sl E 5),⟨some (sl E 21),z0,z0,z0,z0⟩,⟨some (sl E 37),z0,z0,z0,z0⟩,⟨some (sl E 53),z0,z0,z0,z0⟩,z1⟩,⟨some (sl E 9),⟨some (sl E 25),z0,z0,z0,z0⟩,⟨some (sl E 41),z0,z0,z0,z0⟩,⟨some (sl E 57),z0,z0,z0,z0⟩,z1⟩,⟨some (sl E 13),⟨some (sl E 29),z0,z0,z0,z0⟩,⟨some (sl E 45),z0,z0,z0,z0⟩,⟨some (sl E 61),z0,z0,z0,z0⟩,z1⟩,⟨some (sl E 17),⟨some (sl E 33),z0,z0,z0,z0⟩,⟨some (sl E 49),z0,z0,z0,z0⟩,z1,z1⟩⟩,⟨some (sl E 2),⟨some (.map (ngl+2)),⟨some (sl E 22),z0,z0,z0,z0⟩,⟨some (sl E 38),z0,z0,z0,z0⟩,⟨some (sl E 54),z0,z0,z0,z0⟩,z1⟩,⟨some (sl E 10),⟨some (sl E 26),z0,z0,z0,z0⟩,⟨some (sl E 42),z0,z0,z0,z0⟩,⟨some (sl E 58),z0,z0,z0,z0⟩,z1⟩,⟨some (sl E 14),⟨some (sl E 30),z0,z0,z0,z0⟩,⟨some (sl E 46),z0,z0,z0,z0⟩,z1,z1⟩,⟨some (.slice ngl 0 l'.length l'.length 2 false),⟨some (sl E 34),z0,z0,z0,z0⟩,⟨some (sl E 50),z0,z0,z0,z0⟩,z1,z1⟩⟩,⟨some (sl E 3),⟨some (sl E 7),⟨some (sl E 23),z0,z0,z0,z0⟩,⟨some (sl E 39),z0,z0,z0,z0⟩,⟨some (sl E 55),z0,z0,z0,z0⟩,z1⟩,⟨some (sl E 11),⟨some (sl E 27),z0,z0,z0,z0⟩,⟨some (sl E 43),z0,z0,z0,z0⟩,⟨some (sl E 59),z0,z0,z0,z0⟩,z1⟩,⟨some (sl E 15),⟨some (sl E 31),z0,z0,z0,z0⟩,⟨some (sl E 47),z0,z0,z0,z0⟩,z1,z1⟩,⟨some (.int .i64 (.ofNat l'.length)),⟨some (sl E 35),z0,z0,z0,z0⟩,⟨some (sl E 51),z0,z0,z0,z0⟩,z1,z1⟩⟩,⟨some (sl E 4),⟨some (sl E 8),⟨some (sl E 24),z0,z0,z0,z0⟩,⟨some (sl E 40),z0,z0,z0,z0⟩,⟨some (sl E 56),z0,z0,z0,z0⟩,z1⟩,⟨some (sl E 12),⟨some (sl E 28),z0,z0,z0,z0⟩,⟨some (sl E 44),z0,z0,z0,z0⟩,⟨some (sl E 60),z0,z0,z0,z0⟩,z1⟩,⟨some (sl E 16),⟨some (sl E 32),z0,z0,z0,z0⟩,⟨some (sl E 48),z0,z0,z0,z0⟩,z1,z1⟩,⟨some (.int .i64 (.ofNat j)),⟨some (sl E 36),z0,z0,z0,z0⟩,⟨some (sl E 52),z0,z0,z0,z0⟩,z1,z1⟩⟩⟩) (by kernel_rfl) (LP.gc' mixed fun _ _=>?_)
  clear hf
  cases hb:ltI (.ofNat j) (.ofNat l'.length)
  ·have hge:l'.length ≤ j:=by rw [ltI_eq] at hb;simpa using hb
   repeat(first|((first|refine yw ?_|refine zX ?_|refine yX ?_|refine zk ?_);intro _ _)|refine yz ?_|refine xz ?_|refine yj ‹_› ?_|refine zw ‹_› ?_|refine yx ‹_› ?_|refine yq ‹_› ?_|refine zZ ?_|refine yy ?_|refine yv ?_|refine zq ?_|refine zY (fun Q hQ=>by (conv=>whnf);exact hQ) ?_|refine zj (fun Q hQ=>by (conv=>whnf);exact hQ) ?_|(apply yk;(·intro _ _ hy;(conv=>whnf);exact hy);(·intro Q hQ;(conv=>whnf);repeat(first|exact hQ|((first|refine xw (by first|rfl|assumption) ?_|refine xx (by first|rfl|assumption) ?_|refine zy ?_|refine zx ?_|unfold yZ);(conv=>whnf))));(·intro Q hQ;(conv=>whnf);exact hQ))|(apply yY;(·intro _ _ hy;(conv=>whnf);exact hy);(·intro Q hQ;(conv=>whnf);exact hQ)))
   apply xq
   ·(intro _ _ hy;(conv=>whnf);exact hy)
   intro Q hQ
   conv=>whnf
   refine put_run (LV.mk (e:=e) (fl:=.ro) rfl (Nat.le_refl _)) ok.lt ok.full (t:=((l'.take j).foldl (expT l l') ([],0)).1) (c:=((l'.take j).foldl (expT l l') ([],0)).2) rfl ?_
   conv=>whnf
   rw [hQ]
   conv=>whnf
   rw [List.take_of_length_le hge]
   repeat(first|((first|refine yw ?_|refine zX ?_|refine yX ?_|refine zk ?_);intro _ _)|refine yz ?_|refine xz ?_|refine yj ‹_› ?_|refine zw ‹_› ?_|refine yx ‹_› ?_|refine yq ‹_› ?_|refine zZ ?_|refine yy ?_|refine yv ?_|refine zq ?_|refine zY (fun Q hQ=>by (conv=>whnf);exact hQ) ?_|refine zj (fun Q hQ=>by (conv=>whnf);exact hQ) ?_|(apply yk;(·intro _ _ hy;(conv=>whnf);exact hy);(·intro Q hQ;(conv=>whnf);repeat(first|exact hQ|((first|refine xw (by first|rfl|assumption) ?_|refine xx (by first|rfl|assumption) ?_|refine zy ?_|refine zx ?_|unfold yZ);(conv=>whnf))));(·intro Q hQ;(conv=>whnf);exact hQ))|(apply yY;(·intro _ _ hy;(conv=>whnf);exact hy);(·intro Q hQ;(conv=>whnf);exact hQ)))
   apply xq
   ·(intro _ _ hy;(conv=>whnf);exact hy)
   intro Q hQ
   conv=>whnf
   refine labels_run hL (x:=l.foldl putT (l'.foldl (expT l l') ([],0))) rfl (.puts _ (expTs_ok _ .nil)) hne (by have:=tabL_length (l.foldl putT (l'.foldl (expT l l') ([],0)));unfold expL at hR;omega) ?_
   conv=>whnf
   rw [hQ]
   conv=>whnf
   repeat(first|((first|refine yw ?_|refine zX ?_|refine yX ?_|refine zk ?_);intro _ _)|refine yz ?_|refine xz ?_|refine yj ‹_› ?_|refine zw ‹_› ?_|refine yx ‹_› ?_|refine yq ‹_› ?_|refine zZ ?_|refine yy ?_|refine yv ?_|refine zq ?_|refine zY (fun Q hQ=>by (conv=>whnf);exact hQ) ?_|refine zj (fun Q hQ=>by (conv=>whnf);exact hQ) ?_|(apply yk;(·intro _ _ hy;(conv=>whnf);exact hy);(·intro Q hQ;(conv=>whnf);repeat(first|exact hQ|((first|refine xw (by first|rfl|assumption) ?_|refine xx (by first|rfl|assumption) ?_|refine zy ?_|refine zx ?_|unfold yZ);(conv=>whnf))));(·intro Q hQ;(conv=>whnf);exact hQ))|(apply yY;(·intro _ _ hy;(conv=>whnf);exact hy);(·intro Q hQ;(conv=>whnf);exact hQ)))
   apply xq
   ·(intro _ _ hy;(conv=>whnf);exact hy)
   intro Q hQ
   conv=>whnf
   refine bound_run _ _ _ _ _ _ hR ?_
   rw [hQ]
   conv=>whnf
   repeat(first|((first|refine yw ?_|refine zX ?_|refine yX ?_|refine zk ?_);intro _ _)|refine yz ?_|refine xz ?_|refine yj ‹_› ?_|refine zw ‹_› ?_|refine yx ‹_› ?_|refine yq ‹_› ?_|refine zZ ?_|refine yy ?_|refine yv ?_|refine zq ?_|refine zY (fun Q hQ=>by (conv=>whnf);exact hQ) ?_|refine zj (fun Q hQ=>by (conv=>whnf);exact hQ) ?_|(apply yk;(·intro _ _ hy;(conv=>whnf);exact hy);(·intro Q hQ;(conv=>whnf);repeat(first|exact hQ|((first|refine xw (by first|rfl|assumption) ?_|refine xx (by first|rfl|assumption) ?_|refine zy ?_|refine zx ?_|unfold yZ);(conv=>whnf))));(·intro Q hQ;(conv=>whnf);exact hQ))|(apply yY;(·intro _ _ hy;(conv=>whnf);exact hy);(·intro Q hQ;(conv=>whnf);exact hQ)))
   conv=>whnf
   rw [← hK]
   refine ⟨[_],nodup1 _,?_,.tup (.cons (.slice _ _ _ _ _ _ _ (Rou.new (a:=0) rfl (Nat.le_of_ble_eq_true rfl) (by simp)) (.inr (Nat.le_refl _)) (Nat.le_refl _) (by simp)) (.cons (.int _ _) .nil)),trivial,⟨⟨_,rfl,.cells (wv _) (.inl rfl)⟩,trivial⟩⟩
   intro g hg
   rw [List.mem_singleton] at hg
   subst hg
   exact Nat.le_of_ble_eq_true rfl
  ·have hlt:j < l'.length:=by rw [ltI_eq] at hb;simpa using hb
   have hnm:expN l'[j].1 ∈ namesX:=expX (hs' _ (List.getElem_mem hlt))
   have hle1:Nat.ble (Nat.add (len' [101,120,112,111,114,116,101,100,95]) (len' l'[j].1)) 9223372036854775807=true:=Nat.ble_eq_true_of_le (by rw [len'_eq,len'_eq];have:=name_short (hs' _ (List.getElem_mem hlt));show 9+l'[j].1.length ≤ _;omega)
   have hle2:Nat.ble (Nat.add (len' (getL (expN l'[j].1) l)) (len' (getL (expN l'[j].1) l'))) 9223372036854775807=true:=Nat.ble_eq_true_of_le (by rw [len'_eq,len'_eq];have:=getL_short (n:=expN l'[j].1) ok.val;have:=getL_short (n:=expN l'[j].1) ok'.val;show (getL (expN l'[j].1) l).length+_ ≤ _;omega)
   have hblt:Nat.blt j l'.length=true:=hb
   repeat(first|((first|refine yw ?_|refine zX ?_|refine yX ?_|refine zk ?_);intro _ _)|refine yz ?_|refine xz ?_|refine yj ‹_› ?_|refine zw ‹_› ?_|refine yx ‹_› ?_|refine yq ‹_› ?_|refine zZ ?_|refine yy ?_|refine yv ?_|refine zq ?_|refine zY (fun Q hQ=>by (conv=>whnf);exact hQ) ?_|refine zj (fun Q hQ=>by (conv=>whnf);exact hQ) ?_|(apply yk;(·intro _ _ hy;(conv=>whnf);exact hy);(·intro Q hQ;(conv=>whnf);repeat(first|exact hQ|((first|refine xw (by first|rfl|assumption) ?_|refine xx (by first|rfl|assumption) ?_|refine zy ?_|refine zx ?_|unfold yZ);(conv=>whnf))));(·intro Q hQ;(conv=>whnf);exact hQ))|(apply yY;(·intro _ _ hy;(conv=>whnf);exact hy);(·intro Q hQ;(conv=>whnf);exact hQ)))
   apply yk
   ·(intro _ _ hy;(conv=>whnf);exact hy)
   ·intro Q hQ
    conv=>whnf
    refine bcase (fun _=>?_) (fun h=>absurd (h.symm.trans hblt) (by simp))
    conv=>whnf
    repeat(first|exact hQ|((first|refine xw (by first|rfl|assumption) ?_|refine xx (by first|rfl|assumption) ?_|refine zy ?_|refine zx ?_);(conv=>whnf)))
   ·(intro Q hQ;(conv=>whnf);exact hQ)
   repeat(first|((first|refine yw ?_|refine zX ?_|refine yX ?_|refine zk ?_);intro _ _)|refine yz ?_|refine xz ?_|refine yj ‹_› ?_|refine zw ‹_› ?_|refine yx ‹_› ?_|refine yq ‹_› ?_|refine zZ ?_|refine yy ?_|refine yv ?_|refine zq ?_|refine zY (fun Q hQ=>by (conv=>whnf);exact hQ) ?_|refine zj (fun Q hQ=>by (conv=>whnf);exact hQ) ?_|(apply yk;(·intro _ _ hy;(conv=>whnf);exact hy);(·intro Q hQ;(conv=>whnf);repeat(first|exact hQ|((first|refine xw (by first|rfl|assumption) ?_|refine xx (by first|rfl|assumption) ?_|refine zy ?_|refine zx ?_|unfold yZ);(conv=>whnf))));(·intro Q hQ;(conv=>whnf);exact hQ))|(apply yY;(·intro _ _ hy;(conv=>whnf);exact hy);(·intro Q hQ;(conv=>whnf);exact hQ)))
   apply yk
   ·(intro _ _ hy;(conv=>whnf);exact hy)
   ·intro Q hQ
    conv=>whnf
    refine partK_lab agg40 hi40 hs40 (j:=j) (List.getElem?_eq_getElem hlt) (show 0+j * 2=2 * j by omega) ?_
    exact hQ
   ·(intro Q hQ;(conv=>whnf);exact hQ)
   repeat(first|((first|refine yw ?_|refine zX ?_|refine yX ?_|refine zk ?_);intro _ _)|refine yz ?_|refine xz ?_|refine yj ‹_› ?_|refine zw ‹_› ?_|refine yx ‹_› ?_|refine yq ‹_› ?_|refine zZ ?_|refine yy ?_|refine yv ?_|refine zq ?_|refine zY (fun Q hQ=>by (conv=>whnf);exact hQ) ?_|refine zj (fun Q hQ=>by (conv=>whnf);exact hQ) ?_|(apply yk;(·intro _ _ hy;(conv=>whnf);exact hy);(·intro Q hQ;(conv=>whnf);repeat(first|exact hQ|((first|refine xw (by first|rfl|assumption) ?_|refine xx (by first|rfl|assumption) ?_|refine zy ?_|refine zx ?_|unfold yZ);(conv=>whnf))));(·intro Q hQ;(conv=>whnf);exact hQ))|(apply yY;(·intro _ _ hy;(conv=>whnf);exact hy);(·intro Q hQ;(conv=>whnf);exact hQ)))
   apply xq
   ·(intro _ _ hy;(conv=>whnf);exact hy)
   intro Q hQ
   conv=>whnf
   refine get_run (LV.mk (e:=e) (fl:=.ro) rfl (Nat.le_refl _)) ok.lt _ ?_
   rw [hQ]
   conv=>whnf
   by_cases hg:getL l'[j].1 l=[]
   ·
    apply yk
    ·(intro _ _ hy;(conv=>whnf);exact hy)
    ·intro Q hQ
     conv=>whnf
     refine xw (by rw [eqS_eq,hg];rfl) ?_
     exact hQ
    ·(intro Q hQ;(conv=>whnf);exact hQ)
    repeat(first|((first|refine yw ?_|refine zX ?_|refine yX ?_|refine zk ?_);intro _ _)|refine yz ?_|refine xz ?_|refine yj ‹_› ?_|refine zw ‹_› ?_|refine yx ‹_› ?_|refine yq ‹_› ?_|refine zZ ?_|refine yy ?_|refine yv ?_|refine zq ?_|refine zY (fun Q hQ=>by (conv=>whnf);exact hQ) ?_|refine zj (fun Q hQ=>by (conv=>whnf);exact hQ) ?_|(apply yk;(·intro _ _ hy;(conv=>whnf);exact hy);(·intro Q hQ;(conv=>whnf);repeat(first|exact hQ|((first|refine xw (by first|rfl|assumption) ?_|refine xx (by first|rfl|assumption) ?_|refine zy ?_|refine zx ?_|unfold yZ);(conv=>whnf))));(·intro Q hQ;(conv=>whnf);exact hQ))|(apply yY;(·intro _ _ hy;(conv=>whnf);exact hy);(·intro Q hQ;(conv=>whnf);exact hQ)))
    apply xq
    ·(intro _ _ hy;(conv=>whnf);exact hy)
    intro Q hQ
    conv=>whnf
    refine mapUp (q:=l'[j]) ?_
    conv=>whnf
    rw [hQ]
    conv=>whnf
    repeat(first|((first|refine yw ?_|refine zX ?_|refine yX ?_|refine zk ?_);intro _ _)|refine yz ?_|refine xz ?_|refine yj ‹_› ?_|refine zw ‹_› ?_|refine yx ‹_› ?_|refine yq ‹_› ?_|refine zZ ?_|refine yy ?_|refine yv ?_|refine zq ?_|refine zY (fun Q hQ=>by (conv=>whnf);exact hQ) ?_|refine zj (fun Q hQ=>by (conv=>whnf);exact hQ) ?_|(apply yk;(·intro _ _ hy;(conv=>whnf);exact hy);(·intro Q hQ;(conv=>whnf);repeat(first|exact hQ|((first|refine xw (by first|rfl|assumption) ?_|refine xx (by first|rfl|assumption) ?_|refine zy ?_|refine zx ?_|unfold yZ);(conv=>whnf))));(·intro Q hQ;(conv=>whnf);exact hQ))|(apply yY;(·intro _ _ hy;(conv=>whnf);exact hy);(·intro Q hQ;(conv=>whnf);exact hQ)))
    apply yk
    ·(intro _ _ hy;(conv=>whnf);exact hy)
    ·intro Q hQ
     conv=>whnf
     refine wq (j+1) rfl (by have:=ok'.few;show j+1 ≤ 9223372036854775807;omega) ?_
     exact hQ
    ·(intro Q hQ;(conv=>whnf);exact hQ)
    repeat(first|((first|refine yw ?_|refine zX ?_|refine yX ?_|refine zk ?_);intro _ _)|refine yz ?_|refine xz ?_|refine yj ‹_› ?_|refine zw ‹_› ?_|refine yx ‹_› ?_|refine yq ‹_› ?_|refine zZ ?_|refine yy ?_|refine yv ?_|refine zq ?_|refine zY (fun Q hQ=>by (conv=>whnf);exact hQ) ?_|refine zj (fun Q hQ=>by (conv=>whnf);exact hQ) ?_|(apply yk;(·intro _ _ hy;(conv=>whnf);exact hy);(·intro Q hQ;(conv=>whnf);repeat(first|exact hQ|((first|refine xw (by first|rfl|assumption) ?_|refine xx (by first|rfl|assumption) ?_|refine zy ?_|refine zx ?_|unfold yZ);(conv=>whnf))));(·intro Q hQ;(conv=>whnf);exact hQ))|(apply yY;(·intro _ _ hy;(conv=>whnf);exact hy);(·intro Q hQ;(conv=>whnf);exact hQ)))
    have htk:((l'.take (j+1)).foldl (expT l l') ([],0))=putT ((l'.take j).foldl (expT l l') ([],0)) l'[j]:=by
     rw [List.take_succ_eq_append_getElem hlt,List.foldl_append]
     show expT l l' _ l'[j]=_
     unfold expT
     simp [hg]
    refine ⟨mkS [(ngl,.cells (cellsOf l') e' .ro),(ngl+1,.cells (cellsOf l) e .ro),(ngl+2,.map (ents ((l'.take (j+1)).foldl (expT l l') ([],0)).1) ((l'.take (j+1)).foldl (expT l l') ([],0)).2)] (ngl+3),⟨Nat.le_refl _,?_⟩,rfl,ih _ _ hlt ⟨by omega,rfl,⟨rfl,rfl,zz rfl,zz rfl,zz rfl,zz rfl,rfl,zz rfl,zz rfl,zz rfl,zz rfl,zz rfl,zz rfl,zz rfl,zz rfl,zz rfl,zz rfl,zz rfl,rfl,rfl,rfl,zz rfl,zz rfl,zz rfl,zz rfl,zz rfl,zz rfl,zz rfl,zz rfl,zz rfl,zz rfl,zz rfl,zz rfl,zz rfl,zz rfl,zz rfl,zz rfl,zz rfl,zz rfl,zz rfl,zz rfl,zz rfl,zz rfl,zz rfl,zz rfl,zz rfl,zz rfl,zz rfl,zz rfl,zz rfl,zz rfl,zz rfl,zz rfl,zz rfl,zz rfl,zz rfl,zz rfl,zz rfl,zz rfl,zz rfl,zz rfl,zz rfl,trivial⟩⟩⟩
    repeat' (first
     | exact trivial
     | exact Nat.le_of_ble_eq_true rfl
     | exact ⟨_,rfl,.cells (wv _) (.inl rfl)⟩
     | exact ⟨_,rfl,by rw [htk];exact .map (EI_ents _)⟩
     | apply And.intro)
   ·
    have hg2:eqS (getL l'[j].1 l) []=false:=by rw [eqS_eq];simpa using hg
    apply yk
    ·(intro _ _ hy;(conv=>whnf);exact hy)
    ·intro Q hQ
     conv=>whnf
     refine xx hg2 ?_
     exact hQ
    ·(intro Q hQ;(conv=>whnf);exact hQ)
    repeat(first|((first|refine yw ?_|refine zX ?_|refine yX ?_|refine zk ?_);intro _ _)|refine yz ?_|refine xz ?_|refine yj ‹_› ?_|refine zw ‹_› ?_|refine yx ‹_› ?_|refine yq ‹_› ?_|refine zZ ?_|refine yy ?_|refine yv ?_|refine zq ?_|refine zY (fun Q hQ=>by (conv=>whnf);exact hQ) ?_|refine zj (fun Q hQ=>by (conv=>whnf);exact hQ) ?_|(apply yk;(·intro _ _ hy;(conv=>whnf);exact hy);(·intro Q hQ;(conv=>whnf);repeat(first|exact hQ|((first|refine xw (by first|rfl|assumption) ?_|refine xx (by first|rfl|assumption) ?_|refine zy ?_|refine zx ?_|unfold yZ);(conv=>whnf))));(·intro Q hQ;(conv=>whnf);exact hQ))|(apply yY;(·intro _ _ hy;(conv=>whnf);exact hy);(·intro Q hQ;(conv=>whnf);exact hQ)))
    apply yk
    ·(intro _ _ hy;(conv=>whnf);exact hy)
    ·intro Q hQ
     conv=>whnf
     refine bcase (fun _=>?_) (fun h=>absurd (h.symm.trans hle1) (by simp))
     conv=>whnf
     exact hQ
    ·(intro Q hQ;(conv=>whnf);exact hQ)
    repeat(first|((first|refine yw ?_|refine zX ?_|refine yX ?_|refine zk ?_);intro _ _)|refine yz ?_|refine xz ?_|refine yj ‹_› ?_|refine zw ‹_› ?_|refine yx ‹_› ?_|refine yq ‹_› ?_|refine zZ ?_|refine yy ?_|refine yv ?_|refine zq ?_|refine zY (fun Q hQ=>by (conv=>whnf);exact hQ) ?_|refine zj (fun Q hQ=>by (conv=>whnf);exact hQ) ?_|(apply yk;(·intro _ _ hy;(conv=>whnf);exact hy);(·intro Q hQ;(conv=>whnf);repeat(first|exact hQ|((first|refine xw (by first|rfl|assumption) ?_|refine xx (by first|rfl|assumption) ?_|refine zy ?_|refine zx ?_|unfold yZ);(conv=>whnf))));(·intro Q hQ;(conv=>whnf);exact hQ))|(apply yY;(·intro _ _ hy;(conv=>whnf);exact hy);(·intro Q hQ;(conv=>whnf);exact hQ)))
    by_cases hcat:getL (expN l'[j].1) l ++ getL (expN l'[j].1) l'=[]
    ·have hce:eqS (getL (expN l'[j].1) l ++ getL (expN l'[j].1) l') []=true:=by rw [eqS_eq,hcat];rfl
     repeat(first|(apply xk;(·exact rfl);(·exact rfl);(·intro _ _ hy;(conv=>whnf);exact hy);(·exact rfl);(·intro Q hQ;(conv=>whnf);repeat(first|exact hQ|((first|refine xw (by first|rfl|assumption) ?_|refine xx (by first|rfl|assumption) ?_|refine zy ?_|refine zx ?_|unfold yZ);(conv=>whnf))));(·intro Q hQ;(conv=>whnf);exact hQ))|(apply xX;(·exact rfl);(·exact rfl);(·intro _ _ hy;(conv=>whnf);exact hy);(·exact rfl);(·intro Q hQ;(conv=>whnf);repeat(first|exact hQ|((first|refine xw (by first|rfl|assumption) ?_|refine xx (by first|rfl|assumption) ?_|refine zy ?_|refine zx ?_|unfold yZ);(conv=>whnf))));(·intro Q hQ;(conv=>whnf);exact hQ);intro _)|(apply xY;(·exact rfl);(·exact rfl);(·intro _ _ hy;(conv=>whnf);exact hy);(·intro Q hQ;(conv=>whnf);exact hQ))|refine xZ ?_)
     apply wz
     ·exact rfl
     ·exact rfl
     ·(intro _ _ hy;(conv=>whnf);exact hy)
     ·exact rfl
     ·kernel_rfl
     ·(intro Q hQ;exact hQ)
     intro Q hQ
     conv=>whnf
     refine nameX hnm ?_
     rw [hQ]
     conv=>whnf
     repeat(first|(apply xk;(·exact rfl);(·exact rfl);(·intro _ _ hy;(conv=>whnf);exact hy);(·exact rfl);(·intro Q hQ;(conv=>whnf);repeat(first|exact hQ|((first|refine xw (by first|rfl|assumption) ?_|refine xx (by first|rfl|assumption) ?_|refine zy ?_|refine zx ?_|unfold yZ);(conv=>whnf))));(·intro Q hQ;(conv=>whnf);exact hQ))|(apply xX;(·exact rfl);(·exact rfl);(·intro _ _ hy;(conv=>whnf);exact hy);(·exact rfl);(·intro Q hQ;(conv=>whnf);repeat(first|exact hQ|((first|refine xw (by first|rfl|assumption) ?_|refine xx (by first|rfl|assumption) ?_|refine zy ?_|refine zx ?_|unfold yZ);(conv=>whnf))));(·intro Q hQ;(conv=>whnf);exact hQ);intro _)|(apply xY;(·exact rfl);(·exact rfl);(·intro _ _ hy;(conv=>whnf);exact hy);(·intro Q hQ;(conv=>whnf);exact hQ))|refine xZ ?_)
     apply wz
     ·exact rfl
     ·exact rfl
     ·(intro _ _ hy;(conv=>whnf);exact hy)
     ·exact rfl
     ·kernel_rfl
     ·(intro Q hQ;exact hQ)
     intro Q hQ
     conv=>whnf
     refine get_run (LV.mk (e:=e) (fl:=.ro) rfl (Nat.le_refl _)) ok.lt _ ?_
     rw [hQ]
     conv=>whnf
     repeat(first|(apply xk;(·exact rfl);(·exact rfl);(·intro _ _ hy;(conv=>whnf);exact hy);(·exact rfl);(·intro Q hQ;(conv=>whnf);repeat(first|exact hQ|((first|refine xw (by first|rfl|assumption) ?_|refine xx (by first|rfl|assumption) ?_|refine zy ?_|refine zx ?_|unfold yZ);(conv=>whnf))));(·intro Q hQ;(conv=>whnf);exact hQ))|(apply xX;(·exact rfl);(·exact rfl);(·intro _ _ hy;(conv=>whnf);exact hy);(·exact rfl);(·intro Q hQ;(conv=>whnf);repeat(first|exact hQ|((first|refine xw (by first|rfl|assumption) ?_|refine xx (by first|rfl|assumption) ?_|refine zy ?_|refine zx ?_|unfold yZ);(conv=>whnf))));(·intro Q hQ;(conv=>whnf);exact hQ);intro _)|(apply xY;(·exact rfl);(·exact rfl);(·intro _ _ hy;(conv=>whnf);exact hy);(·intro Q hQ;(conv=>whnf);exact hQ))|refine xZ ?_)
     apply wz
     ·exact rfl
     ·exact rfl
     ·(intro _ _ hy;(conv=>whnf);exact hy)
     ·exact rfl
     ·kernel_rfl
     ·(intro Q hQ;exact hQ)
     intro Q hQ
     conv=>whnf
     refine get_run (LV.mk (e:=e') (fl:=.ro) rfl (Nat.le_refl _)) ok'.lt _ ?_
     rw [hQ]
     conv=>whnf
     repeat(first|(apply xk;(·exact rfl);(·exact rfl);(·intro _ _ hy;(conv=>whnf);exact hy);(·exact rfl);(·intro Q hQ;(conv=>whnf);repeat(first|exact hQ|((first|refine xw (by first|rfl|assumption) ?_|refine xx (by first|rfl|assumption) ?_|refine zy ?_|refine zx ?_|unfold yZ);(conv=>whnf))));(·intro Q hQ;(conv=>whnf);exact hQ))|(apply xX;(·exact rfl);(·exact rfl);(·intro _ _ hy;(conv=>whnf);exact hy);(·exact rfl);(·intro Q hQ;(conv=>whnf);repeat(first|exact hQ|((first|refine xw (by first|rfl|assumption) ?_|refine xx (by first|rfl|assumption) ?_|refine zy ?_|refine zx ?_|unfold yZ);(conv=>whnf))));(·intro Q hQ;(conv=>whnf);exact hQ);intro _)|(apply xY;(·exact rfl);(·exact rfl);(·intro _ _ hy;(conv=>whnf);exact hy);(·intro Q hQ;(conv=>whnf);exact hQ))|refine xZ ?_)
     apply xk
     ·exact rfl
     ·exact rfl
     ·(intro _ _ hy;(conv=>whnf);exact hy)
     ·exact rfl
     ·intro Q hQ
      conv=>whnf
      refine bcase (fun _=>?_) (fun h=>absurd (h.symm.trans hle2) (by simp))
      refine appK_intro ?_
      exact hQ
     ·(intro Q hQ;(conv=>whnf);exact hQ)
     repeat(first|(apply xk;(·exact rfl);(·exact rfl);(·intro _ _ hy;(conv=>whnf);exact hy);(·exact rfl);(·intro Q hQ;(conv=>whnf);repeat(first|exact hQ|((first|refine xw (by first|rfl|assumption) ?_|refine xx (by first|rfl|assumption) ?_|refine zy ?_|refine zx ?_|unfold yZ);(conv=>whnf))));(·intro Q hQ;(conv=>whnf);exact hQ))|(apply xX;(·exact rfl);(·exact rfl);(·intro _ _ hy;(conv=>whnf);exact hy);(·exact rfl);(·intro Q hQ;(conv=>whnf);repeat(first|exact hQ|((first|refine xw (by first|rfl|assumption) ?_|refine xx (by first|rfl|assumption) ?_|refine zy ?_|refine zx ?_|unfold yZ);(conv=>whnf))));(·intro Q hQ;(conv=>whnf);exact hQ);intro _)|(apply xY;(·exact rfl);(·exact rfl);(·intro _ _ hy;(conv=>whnf);exact hy);(·intro Q hQ;(conv=>whnf);exact hQ))|refine xZ ?_)
     refine ww ‹_› ?_
     repeat (first
      | refine wY (by first|simp|(intro c hc;simp at hc;rcases hc with rfl|rfl|rfl <;> exact ⟨rfl,rfl⟩)|(intro c hc;simp at hc;rcases hc with rfl|rfl <;> exact ⟨rfl,rfl⟩)|(intro c hc;simp at hc;rcases hc with rfl;exact ⟨rfl,rfl⟩)) ‹_› (by first|exact vq _|exact vj _ _|rfl) (by first|exact .inl rfl|exact .inr rfl) ?_
      | refine vz ?_)
     conv=>whnf
     repeat(first|((first|refine yw ?_|refine zX ?_|refine yX ?_|refine zk ?_);intro _ _)|refine yz ?_|refine xz ?_|refine yj ‹_› ?_|refine zw ‹_› ?_|refine yx ‹_› ?_|refine yq ‹_› ?_|refine zZ ?_|refine yy ?_|refine yv ?_|refine zq ?_|refine zY (fun Q hQ=>by (conv=>whnf);exact hQ) ?_|refine zj (fun Q hQ=>by (conv=>whnf);exact hQ) ?_|(apply yk;(·intro _ _ hy;(conv=>whnf);exact hy);(·intro Q hQ;(conv=>whnf);repeat(first|exact hQ|((first|refine xw (by first|rfl|assumption) ?_|refine xx (by first|rfl|assumption) ?_|refine zy ?_|refine zx ?_|unfold yZ);(conv=>whnf))));(·intro Q hQ;(conv=>whnf);exact hQ))|(apply yY;(·intro _ _ hy;(conv=>whnf);exact hy);(·intro Q hQ;(conv=>whnf);exact hQ)))
     apply xq
     ·(intro _ _ hy;(conv=>whnf);exact hy)
     intro Q hQ
     conv=>whnf
     refine mapUp (q:=(expN l'[j].1,l'[j].2)) ?_
     conv=>whnf
     rw [hQ]
     conv=>whnf
     repeat(first|((first|refine yw ?_|refine zX ?_|refine yX ?_|refine zk ?_);intro _ _)|refine yz ?_|refine xz ?_|refine yj ‹_› ?_|refine zw ‹_› ?_|refine yx ‹_› ?_|refine yq ‹_› ?_|refine zZ ?_|refine yy ?_|refine yv ?_|refine zq ?_|refine zY (fun Q hQ=>by (conv=>whnf);exact hQ) ?_|refine zj (fun Q hQ=>by (conv=>whnf);exact hQ) ?_|(apply yk;(·intro _ _ hy;(conv=>whnf);exact hy);(·intro Q hQ;(conv=>whnf);repeat(first|exact hQ|((first|refine xw (by first|rfl|assumption) ?_|refine xx (by first|rfl|assumption) ?_|refine zy ?_|refine zx ?_|unfold yZ);(conv=>whnf))));(·intro Q hQ;(conv=>whnf);exact hQ))|(apply yY;(·intro _ _ hy;(conv=>whnf);exact hy);(·intro Q hQ;(conv=>whnf);exact hQ)))
     apply yk
     ·(intro _ _ hy;(conv=>whnf);exact hy)
     ·intro Q hQ
      conv=>whnf
      refine wq (j+1) rfl (by have:=ok'.few;show j+1 ≤ 9223372036854775807;omega) ?_
      exact hQ
     ·(intro Q hQ;(conv=>whnf);exact hQ)
     repeat(first|((first|refine yw ?_|refine zX ?_|refine yX ?_|refine zk ?_);intro _ _)|refine yz ?_|refine xz ?_|refine yj ‹_› ?_|refine zw ‹_› ?_|refine yx ‹_› ?_|refine yq ‹_› ?_|refine zZ ?_|refine yy ?_|refine yv ?_|refine zq ?_|refine zY (fun Q hQ=>by (conv=>whnf);exact hQ) ?_|refine zj (fun Q hQ=>by (conv=>whnf);exact hQ) ?_|(apply yk;(·intro _ _ hy;(conv=>whnf);exact hy);(·intro Q hQ;(conv=>whnf);repeat(first|exact hQ|((first|refine xw (by first|rfl|assumption) ?_|refine xx (by first|rfl|assumption) ?_|refine zy ?_|refine zx ?_|unfold yZ);(conv=>whnf))));(·intro Q hQ;(conv=>whnf);exact hQ))|(apply yY;(·intro _ _ hy;(conv=>whnf);exact hy);(·intro Q hQ;(conv=>whnf);exact hQ)))
     have htk:((l'.take (j+1)).foldl (expT l l') ([],0))=putT ((l'.take j).foldl (expT l l') ([],0)) (expN l'[j].1,l'[j].2):=by
      rw [List.take_succ_eq_append_getElem hlt,List.foldl_append]
      show expT l l' _ l'[j]=_
      unfold expT
      rw [if_neg hg,if_pos hcat]
     refine ⟨mkS [(ngl,.cells (cellsOf l') e' .ro),(ngl+1,.cells (cellsOf l) e .ro),(ngl+2,.map (ents ((l'.take (j+1)).foldl (expT l l') ([],0)).1) ((l'.take (j+1)).foldl (expT l l') ([],0)).2)] (ngl+3),⟨Nat.le_refl _,?_⟩,rfl,ih _ _ hlt ⟨by omega,rfl,⟨rfl,rfl,zz rfl,zz rfl,zz rfl,zz rfl,rfl,zz rfl,zz rfl,zz rfl,zz rfl,zz rfl,zz rfl,zz rfl,zz rfl,zz rfl,zz rfl,zz rfl,rfl,rfl,rfl,zz rfl,zz rfl,zz rfl,zz rfl,zz rfl,zz rfl,zz rfl,zz rfl,zz rfl,zz rfl,zz rfl,zz rfl,zz rfl,zz rfl,zz rfl,zz rfl,zz rfl,zz rfl,zz rfl,zz rfl,zz rfl,zz rfl,zz rfl,zz rfl,zz rfl,zz rfl,zz rfl,zz rfl,zz rfl,zz rfl,zz rfl,zz rfl,zz rfl,zz rfl,zz rfl,zz rfl,zz rfl,zz rfl,zz rfl,zz rfl,zz rfl,trivial⟩⟩⟩
     repeat' (first
      | exact trivial
      | exact Nat.le_of_ble_eq_true rfl
      | exact ⟨_,rfl,.cells (wv _) (.inl rfl)⟩
      | exact ⟨_,rfl,by rw [htk];exact .map (EI_ents _)⟩
      | apply And.intro)
    ·have hce:eqS (getL (expN l'[j].1) l ++ getL (expN l'[j].1) l') []=false:=by rw [eqS_eq];simpa using hcat
     repeat(first|(apply xk;(·exact rfl);(·exact rfl);(·intro _ _ hy;(conv=>whnf);exact hy);(·exact rfl);(·intro Q hQ;(conv=>whnf);repeat(first|exact hQ|((first|refine xw (by first|rfl|assumption) ?_|refine xx (by first|rfl|assumption) ?_|refine zy ?_|refine zx ?_|unfold yZ);(conv=>whnf))));(·intro Q hQ;(conv=>whnf);exact hQ))|(apply xX;(·exact rfl);(·exact rfl);(·intro _ _ hy;(conv=>whnf);exact hy);(·exact rfl);(·intro Q hQ;(conv=>whnf);repeat(first|exact hQ|((first|refine xw (by first|rfl|assumption) ?_|refine xx (by first|rfl|assumption) ?_|refine zy ?_|refine zx ?_|unfold yZ);(conv=>whnf))));(·intro Q hQ;(conv=>whnf);exact hQ);intro _)|(apply xY;(·exact rfl);(·exact rfl);(·intro _ _ hy;(conv=>whnf);exact hy);(·intro Q hQ;(conv=>whnf);exact hQ))|refine xZ ?_)
     apply wz
     ·exact rfl
     ·exact rfl
     ·(intro _ _ hy;(conv=>whnf);exact hy)
     ·exact rfl
     ·kernel_rfl
     ·(intro Q hQ;exact hQ)
     intro Q hQ
     conv=>whnf
     refine nameX hnm ?_
     rw [hQ]
     conv=>whnf
     repeat(first|(apply xk;(·exact rfl);(·exact rfl);(·intro _ _ hy;(conv=>whnf);exact hy);(·exact rfl);(·intro Q hQ;(conv=>whnf);repeat(first|exact hQ|((first|refine xw (by first|rfl|assumption) ?_|refine xx (by first|rfl|assumption) ?_|refine zy ?_|refine zx ?_|unfold yZ);(conv=>whnf))));(·intro Q hQ;(conv=>whnf);exact hQ))|(apply xX;(·exact rfl);(·exact rfl);(·intro _ _ hy;(conv=>whnf);exact hy);(·exact rfl);(·intro Q hQ;(conv=>whnf);repeat(first|exact hQ|((first|refine xw (by first|rfl|assumption) ?_|refine xx (by first|rfl|assumption) ?_|refine zy ?_|refine zx ?_|unfold yZ);(conv=>whnf))));(·intro Q hQ;(conv=>whnf);exact hQ);intro _)|(apply xY;(·exact rfl);(·exact rfl);(·intro _ _ hy;(conv=>whnf);exact hy);(·intro Q hQ;(conv=>whnf);exact hQ))|refine xZ ?_)
     apply wz
     ·exact rfl
     ·exact rfl
     ·(intro _ _ hy;(conv=>whnf);exact hy)
     ·exact rfl
     ·kernel_rfl
     ·(intro Q hQ;exact hQ)
     intro Q hQ
     conv=>whnf
     refine get_run (LV.mk (e:=e) (fl:=.ro) rfl (Nat.le_refl _)) ok.lt _ ?_
     rw [hQ]
     conv=>whnf
     repeat(first|(apply xk;(·exact rfl);(·exact rfl);(·intro _ _ hy;(conv=>whnf);exact hy);(·exact rfl);(·intro Q hQ;(conv=>whnf);repeat(first|exact hQ|((first|refine xw (by first|rfl|assumption) ?_|refine xx (by first|rfl|assumption) ?_|refine zy ?_|refine zx ?_|unfold yZ);(conv=>whnf))));(·intro Q hQ;(conv=>whnf);exact hQ))|(apply xX;(·exact rfl);(·exact rfl);(·intro _ _ hy;(conv=>whnf);exact hy);(·exact rfl);(·intro Q hQ;(conv=>whnf);repeat(first|exact hQ|((first|refine xw (by first|rfl|assumption) ?_|refine xx (by first|rfl|assumption) ?_|refine zy ?_|refine zx ?_|unfold yZ);(conv=>whnf))));(·intro Q hQ;(conv=>whnf);exact hQ);intro _)|(apply xY;(·exact rfl);(·exact rfl);(·intro _ _ hy;(conv=>whnf);exact hy);(·intro Q hQ;(conv=>whnf);exact hQ))|refine xZ ?_)
     apply wz
     ·exact rfl
     ·exact rfl
     ·(intro _ _ hy;(conv=>whnf);exact hy)
     ·exact rfl
     ·kernel_rfl
     ·(intro Q hQ;exact hQ)
     intro Q hQ
     conv=>whnf
     refine get_run (LV.mk (e:=e') (fl:=.ro) rfl (Nat.le_refl _)) ok'.lt _ ?_
     rw [hQ]
     conv=>whnf
     repeat(first|(apply xk;(·exact rfl);(·exact rfl);(·intro _ _ hy;(conv=>whnf);exact hy);(·exact rfl);(·intro Q hQ;(conv=>whnf);repeat(first|exact hQ|((first|refine xw (by first|rfl|assumption) ?_|refine xx (by first|rfl|assumption) ?_|refine zy ?_|refine zx ?_|unfold yZ);(conv=>whnf))));(·intro Q hQ;(conv=>whnf);exact hQ))|(apply xX;(·exact rfl);(·exact rfl);(·intro _ _ hy;(conv=>whnf);exact hy);(·exact rfl);(·intro Q hQ;(conv=>whnf);repeat(first|exact hQ|((first|refine xw (by first|rfl|assumption) ?_|refine xx (by first|rfl|assumption) ?_|refine zy ?_|refine zx ?_|unfold yZ);(conv=>whnf))));(·intro Q hQ;(conv=>whnf);exact hQ);intro _)|(apply xY;(·exact rfl);(·exact rfl);(·intro _ _ hy;(conv=>whnf);exact hy);(·intro Q hQ;(conv=>whnf);exact hQ))|refine xZ ?_)
     apply xk
     ·exact rfl
     ·exact rfl
     ·(intro _ _ hy;(conv=>whnf);exact hy)
     ·exact rfl
     ·intro Q hQ
      conv=>whnf
      refine bcase (fun _=>?_) (fun h=>absurd (h.symm.trans hle2) (by simp))
      refine appK_intro ?_
      exact hQ
     ·(intro Q hQ;(conv=>whnf);exact hQ)
     repeat(first|(apply xk;(·exact rfl);(·exact rfl);(·intro _ _ hy;(conv=>whnf);exact hy);(·exact rfl);(·intro Q hQ;(conv=>whnf);repeat(first|exact hQ|((first|refine xw (by first|rfl|assumption) ?_|refine xx (by first|rfl|assumption) ?_|refine zy ?_|refine zx ?_|unfold yZ);(conv=>whnf))));(·intro Q hQ;(conv=>whnf);exact hQ))|(apply xX;(·exact rfl);(·exact rfl);(·intro _ _ hy;(conv=>whnf);exact hy);(·exact rfl);(·intro Q hQ;(conv=>whnf);repeat(first|exact hQ|((first|refine xw (by first|rfl|assumption) ?_|refine xx (by first|rfl|assumption) ?_|refine zy ?_|refine zx ?_|unfold yZ);(conv=>whnf))));(·intro Q hQ;(conv=>whnf);exact hQ);intro _)|(apply xY;(·exact rfl);(·exact rfl);(·intro _ _ hy;(conv=>whnf);exact hy);(·intro Q hQ;(conv=>whnf);exact hQ))|refine xZ ?_)
     refine ww ‹_› ?_
     repeat (first
      | refine wY (by first|simp|(intro c hc;simp at hc;rcases hc with rfl|rfl|rfl <;> exact ⟨rfl,rfl⟩)|(intro c hc;simp at hc;rcases hc with rfl|rfl <;> exact ⟨rfl,rfl⟩)|(intro c hc;simp at hc;rcases hc with rfl;exact ⟨rfl,rfl⟩)) ‹_› (by first|exact vq _|exact vj _ _|rfl) (by first|exact .inl rfl|exact .inr rfl) ?_
      | refine vz ?_)
     conv=>whnf
     repeat(first|((first|refine yw ?_|refine zX ?_|refine yX ?_|refine zk ?_);intro _ _)|refine yz ?_|refine xz ?_|refine yj ‹_› ?_|refine zw ‹_› ?_|refine yx ‹_› ?_|refine yq ‹_› ?_|refine zZ ?_|refine yy ?_|refine yv ?_|refine zq ?_|refine zY (fun Q hQ=>by (conv=>whnf);exact hQ) ?_|refine zj (fun Q hQ=>by (conv=>whnf);exact hQ) ?_|(apply yk;(·intro _ _ hy;(conv=>whnf);exact hy);(·intro Q hQ;(conv=>whnf);repeat(first|exact hQ|((first|refine xw (by first|rfl|assumption) ?_|refine xx (by first|rfl|assumption) ?_|refine zy ?_|refine zx ?_|unfold yZ);(conv=>whnf))));(·intro Q hQ;(conv=>whnf);exact hQ))|(apply yY;(·intro _ _ hy;(conv=>whnf);exact hy);(·intro Q hQ;(conv=>whnf);exact hQ)))
     apply yk
     ·(intro _ _ hy;(conv=>whnf);exact hy)
     ·intro Q hQ
      conv=>whnf
      refine wq (j+1) rfl (by have:=ok'.few;show j+1 ≤ 9223372036854775807;omega) ?_
      exact hQ
     ·(intro Q hQ;(conv=>whnf);exact hQ)
     repeat(first|((first|refine yw ?_|refine zX ?_|refine yX ?_|refine zk ?_);intro _ _)|refine yz ?_|refine xz ?_|refine yj ‹_› ?_|refine zw ‹_› ?_|refine yx ‹_› ?_|refine yq ‹_› ?_|refine zZ ?_|refine yy ?_|refine yv ?_|refine zq ?_|refine zY (fun Q hQ=>by (conv=>whnf);exact hQ) ?_|refine zj (fun Q hQ=>by (conv=>whnf);exact hQ) ?_|(apply yk;(·intro _ _ hy;(conv=>whnf);exact hy);(·intro Q hQ;(conv=>whnf);repeat(first|exact hQ|((first|refine xw (by first|rfl|assumption) ?_|refine xx (by first|rfl|assumption) ?_|refine zy ?_|refine zx ?_|unfold yZ);(conv=>whnf))));(·intro Q hQ;(conv=>whnf);exact hQ))|(apply yY;(·intro _ _ hy;(conv=>whnf);exact hy);(·intro Q hQ;(conv=>whnf);exact hQ)))
     have htk:((l'.take (j+1)).foldl (expT l l') ([],0))=((l'.take j).foldl (expT l l') ([],0)):=by
      rw [List.take_succ_eq_append_getElem hlt,List.foldl_append]
      show expT l l' _ l'[j]=_
      unfold expT
      rw [if_neg hg,if_neg hcat]
     refine ⟨mkS [(ngl,.cells (cellsOf l') e' .ro),(ngl+1,.cells (cellsOf l) e .ro),(ngl+2,.map (ents ((l'.take (j+1)).foldl (expT l l') ([],0)).1) ((l'.take (j+1)).foldl (expT l l') ([],0)).2)] (ngl+3),⟨Nat.le_refl _,?_⟩,rfl,ih _ _ hlt ⟨by omega,rfl,⟨rfl,rfl,zz rfl,zz rfl,zz rfl,zz rfl,rfl,zz rfl,zz rfl,zz rfl,zz rfl,zz rfl,zz rfl,zz rfl,zz rfl,zz rfl,zz rfl,zz rfl,rfl,rfl,rfl,zz rfl,zz rfl,zz rfl,zz rfl,zz rfl,zz rfl,zz rfl,zz rfl,zz rfl,zz rfl,zz rfl,zz rfl,zz rfl,zz rfl,zz rfl,zz rfl,zz rfl,zz rfl,zz rfl,zz rfl,zz rfl,zz rfl,zz rfl,zz rfl,zz rfl,zz rfl,zz rfl,zz rfl,zz rfl,zz rfl,zz rfl,zz rfl,zz rfl,zz rfl,zz rfl,zz rfl,zz rfl,zz rfl,zz rfl,zz rfl,zz rfl,trivial⟩⟩⟩
     repeat' (first
      | exact trivial
      | exact Nat.le_of_ble_eq_true rfl
      | exact ⟨_,rfl,.cells (wv _) (.inl rfl)⟩
      | exact ⟨_,rfl,by rw [htk];exact .map (EI_ents _)⟩
      | apply And.intro)
end Go.Am
/- body.ready: no own label is hidden. -/
namespace Go.Am
open Go.Proofs
set_option maxRecDepth 100000
attribute [local irreducible] fN fI fB yZ wrapK bAppend evOps wk drOps rdsAll sl

theorem f42:FnAt Tryz.prog 42 6 [.tmp 2] (codeOf Tryz.f42):=⟨Tryz.f42,by kernel_rfl,rfl,by kernel_rfl,by kernel_rfl,by kernel_rfl⟩
theorem f62:FnAt Tryz.prog 62 19 [.tmp 4] (codeOf Tryz.f62):=⟨Tryz.f62,by kernel_rfl,rfl,by kernel_rfl,by kernel_rfl,by kernel_rfl⟩
theorem f41:FnAt Tryz.prog 41 9 [.tmp 4] (codeOf Tryz.f41):=⟨Tryz.f41,by kernel_rfl,rfl,by kernel_rfl,by kernel_rfl,by kernel_rfl⟩
theorem f43:FnAt Tryz.prog 43 43 [.tmp 2,.tmp 3,.tmp 4] (codeOf Tryz.f43):=⟨Tryz.f43,by kernel_rfl,rfl,by kernel_rfl,by kernel_rfl,by kernel_rfl⟩

set_option maxHeartbeats 2000000 in
theorem r1_run {q:Lab} (hn:q.1 ∈ namesX) (hh:hid q.1=false) {S:St} {k:V→St→Prop} (hk:k (.bool false) S):RC Tryz.prog 42 [labV q] S k:=by
 refine RC.read mixed f42 (l:=[labV q]) [] [] [] [] (v2:=.bool false) (by simp) rfl rfl (by simp) (by simp) (.cons (.agg (.cons (.str _) (.cons (.str _) .nil))) .nil) (by simp) ?_ hk
 generalize hK:Post _ _ _ _ _ _ _=K
 unfold labV
 apply wy
 ·intro Q hQ
  conv=>whnf
  exact hQ
 apply wx
 ·intro Q hQ
  conv=>whnf
  exact hQ
 intro K0 hK0
 unfold codeOf
 conv=>arg 7;whnf
 repeat(first|((first|refine yw ?_|refine zX ?_|refine yX ?_|refine zk ?_);intro _ _)|refine yz ?_|refine xz ?_|refine yj ‹_› ?_|refine zw ‹_› ?_|refine yx ‹_› ?_|refine yq ‹_› ?_|refine zZ ?_|refine yy ?_|refine yv ?_|refine zq ?_|refine zY (fun Q hQ=>by (conv=>whnf);exact hQ) ?_|refine zj (fun Q hQ=>by (conv=>whnf);exact hQ) ?_|(apply yk;(·intro _ _ hy;(conv=>whnf);exact hy);(·intro Q hQ;(conv=>whnf);repeat(first|exact hQ|((first|refine xw (by first|rfl|assumption) ?_|refine xx (by first|rfl|assumption) ?_|refine zy ?_|refine zx ?_|unfold yZ);(conv=>whnf))));(·intro Q hQ;(conv=>whnf);exact hQ))|(apply yY;(·intro _ _ hy;(conv=>whnf);exact hy);(·intro Q hQ;(conv=>whnf);exact hQ)))
 apply xq
 ·(intro _ _ hy;(conv=>whnf);exact hy)
 intro Q hQ
 conv=>whnf
 refine hidX hn ?_
 rw [hQ]
 conv=>whnf
 rw [hh]
 repeat(first|((first|refine yw ?_|refine zX ?_|refine yX ?_|refine zk ?_);intro _ _)|refine yz ?_|refine xz ?_|refine yj ‹_› ?_|refine zw ‹_› ?_|refine yx ‹_› ?_|refine yq ‹_› ?_|refine zZ ?_|refine yy ?_|refine yv ?_|refine zq ?_|refine zY (fun Q hQ=>by (conv=>whnf);exact hQ) ?_|refine zj (fun Q hQ=>by (conv=>whnf);exact hQ) ?_|(apply yk;(·intro _ _ hy;(conv=>whnf);exact hy);(·intro Q hQ;(conv=>whnf);repeat(first|exact hQ|((first|refine xw (by first|rfl|assumption) ?_|refine xx (by first|rfl|assumption) ?_|refine zy ?_|refine zx ?_|unfold yZ);(conv=>whnf))));(·intro Q hQ;(conv=>whnf);exact hQ))|(apply yY;(·intro _ _ hy;(conv=>whnf);exact hy);(·intro Q hQ;(conv=>whnf);exact hQ)))
 conv=>whnf
 rw [← hK]
 exact ⟨[],List.nodup_nil,by simp,.bool _,trivial,trivial⟩
set_option maxHeartbeats 2000000 in
theorem idx62_run {l:List Lab} {v:V} {S:St} (h:LV S v l) (ok:OkL l) (hh:∀ q ∈ l,hid q.1=false) {k:V→St→Prop} (hk:k (.int .i64 (.negSucc 0)) S):RC Tryz.prog 62 [v,.func (.func 42) [] []] S k:=by
 obtain ⟨i40,hi40,hs40⟩:=info40
 refine RC.lab mixed f62 h (fun _=>.cons (.func _ .nil .nil) .nil) [] (by simp) (v2:=.int .i64 (.negSucc 0)) ?_ ?_ hk
 ·rintro rfl
  generalize hK:Post _ _ _ _ _ _ _=K
  apply wy
  ·intro Q hQ
   conv=>whnf
   exact hQ
  apply wx
  ·intro Q hQ
   conv=>whnf
   exact hQ
  intro K0 hK0
  unfold codeOf
  conv=>arg 7;whnf
  repeat(first|((first|refine yw ?_|refine zX ?_|refine yX ?_|refine zk ?_);intro _ _)|refine yz ?_|refine xz ?_|refine yj ‹_› ?_|refine zw ‹_› ?_|refine yx ‹_› ?_|refine yq ‹_› ?_|refine zZ ?_|refine yy ?_|refine yv ?_|refine zq ?_|refine zY (fun Q hQ=>by (conv=>whnf);exact hQ) ?_|refine zj (fun Q hQ=>by (conv=>whnf);exact hQ) ?_|(apply yk;(·intro _ _ hy;(conv=>whnf);exact hy);(·intro Q hQ;(conv=>whnf);repeat(first|exact hQ|((first|refine xw (by first|rfl|assumption) ?_|refine xx (by first|rfl|assumption) ?_|refine zy ?_|refine zx ?_|unfold yZ);(conv=>whnf))));(·intro Q hQ;(conv=>whnf);exact hQ))|(apply yY;(·intro _ _ hy;(conv=>whnf);exact hy);(·intro Q hQ;(conv=>whnf);exact hQ)))
  refine LP.step mixed ?_
  repeat(first|((first|refine yw ?_|refine zX ?_|refine yX ?_|refine zk ?_);intro _ _)|refine yz ?_|refine xz ?_|refine yj ‹_› ?_|refine zw ‹_› ?_|refine yx ‹_› ?_|refine yq ‹_› ?_|refine zZ ?_|refine yy ?_|refine yv ?_|refine zq ?_|refine zY (fun Q hQ=>by (conv=>whnf);exact hQ) ?_|refine zj (fun Q hQ=>by (conv=>whnf);exact hQ) ?_|(apply yk;(·intro _ _ hy;(conv=>whnf);exact hy);(·intro Q hQ;(conv=>whnf);repeat(first|exact hQ|((first|refine xw (by first|rfl|assumption) ?_|refine xx (by first|rfl|assumption) ?_|refine zy ?_|refine zx ?_|unfold yZ);(conv=>whnf))));(·intro Q hQ;(conv=>whnf);exact hQ))|(apply yY;(·intro _ _ hy;(conv=>whnf);exact hy);(·intro Q hQ;(conv=>whnf);exact hQ)))
  conv=>whnf
  rw [← hK]
  exact ⟨[],List.nodup_nil,by simp,.int _ _,trivial,trivial⟩
 ·intro e i
  generalize hK:Post _ _ _ _ _ _ _=K
  apply wy
  ·intro Q hQ
   conv=>whnf
   exact hQ
  apply wx
  ·intro Q hQ
   conv=>whnf
   exact hQ
  intro K0 hK0
  unfold codeOf
  conv=>arg 7;whnf
  repeat(first|((first|refine yw ?_|refine zX ?_|refine yX ?_|refine zk ?_);intro _ _)|refine yz ?_|refine xz ?_|refine yj ‹_› ?_|refine zw ‹_› ?_|refine yx ‹_› ?_|refine yq ‹_› ?_|refine zZ ?_|refine yy ?_|refine yv ?_|refine zq ?_|refine zY (fun Q hQ=>by (conv=>whnf);exact hQ) ?_|refine zj (fun Q hQ=>by (conv=>whnf);exact hQ) ?_|(apply yk;(·intro _ _ hy;(conv=>whnf);exact hy);(·intro Q hQ;(conv=>whnf);repeat(first|exact hQ|((first|refine xw (by first|rfl|assumption) ?_|refine xx (by first|rfl|assumption) ?_|refine zy ?_|refine zx ?_|unfold yZ);(conv=>whnf))));(·intro Q hQ;(conv=>whnf);exact hQ))|(apply yY;(·intro _ _ hy;(conv=>whnf);exact hy);(·intro Q hQ;(conv=>whnf);exact hQ)))
  refine LP.induct0 l.length (fun j E=>j ≤ l.length∧Fits E 0 [.slice ngl 0 l.length l.length 2 false,.func (.func 42) [] [],sl E 2,sl E 3,sl E 4,sl E 5,.slice ngl 0 l.length l.length 2 false,.int .i64 (.ofNat l.length),.int .i64 (.ofNat j),sl E 9,sl E 10,sl E 11,sl E 12,sl E 13,sl E 14,sl E 15,sl E 16,sl E 17,sl E 18]) ⟨Nat.zero_le _,⟨rfl,rfl,zz rfl,zz rfl,zz rfl,zz rfl,rfl,rfl,rfl,zz rfl,zz rfl,zz rfl,zz rfl,zz rfl,zz rfl,zz rfl,zz rfl,zz rfl,zz rfl,trivial⟩⟩ ?_
  intro j E ⟨hjl,hf⟩ ih
  refine LP.tree hf (⟨some (.slice ngl 0 l.length l.length 2 false),⟨some (.func (.func 42) [] []),⟨some (sl E 5),z1,z1,z1,z1⟩,⟨some (sl E 9),z1,z1,z1,z1⟩,⟨some (sl E 13),z1,z1,z1,z1⟩,⟨some (sl E 17),z1,z1,z1,z1⟩⟩,⟨some (sl E 2),⟨some (.slice ngl 0 l.length l.length 2 false),z1,z1,z1,z1⟩,⟨some (sl E 10),z1,z1,z1,z1⟩,⟨some (sl E 14),z1,z1,z1,z1⟩,⟨some (sl E 18),z1,z1,z1,z1⟩⟩,⟨some (sl E 3),⟨some (.int .i64 (.ofNat l.length)),z1,z1,z1,z1⟩,⟨some (sl E 11),z1,z1,z1,z1⟩,⟨some (sl E 15),z1,z1,z1,z1⟩,z2⟩,⟨some (sl E 4),⟨some (.int .i64 (.ofNat j)),z1,z1,z1,z1⟩,⟨some (sl E 12),z1,z1,z1,z1⟩,⟨some (sl E 16),z1,z1,z1,z1⟩,z2⟩⟩) (by kernel_rfl) (LP.gc' mixed fun _ _=>?_)
  clear hf
  cases hb:ltI (.ofNat j) (.ofNat l.length)
  ·have hge:l.length ≤ j:=by rw [ltI_eq] at hb;simpa using hb
   repeat(first|((first|refine yw ?_|refine zX ?_|refine yX ?_|refine zk ?_);intro _ _)|refine yz ?_|refine xz ?_|refine yj ‹_› ?_|refine zw ‹_› ?_|refine yx ‹_› ?_|refine yq ‹_› ?_|refine zZ ?_|refine yy ?_|refine yv ?_|refine zq ?_|refine zY (fun Q hQ=>by (conv=>whnf);exact hQ) ?_|refine zj (fun Q hQ=>by (conv=>whnf);exact hQ) ?_|(apply yk;(·intro _ _ hy;(conv=>whnf);exact hy);(·intro Q hQ;(conv=>whnf);repeat(first|exact hQ|((first|refine xw (by first|rfl|assumption) ?_|refine xx (by first|rfl|assumption) ?_|refine zy ?_|refine zx ?_|unfold yZ);(conv=>whnf))));(·intro Q hQ;(conv=>whnf);exact hQ))|(apply yY;(·intro _ _ hy;(conv=>whnf);exact hy);(·intro Q hQ;(conv=>whnf);exact hQ)))
   conv=>whnf
   rw [← hK]
   exact ⟨[],List.nodup_nil,by simp,.int _ _,trivial,trivial⟩
  ·have hlt:j < l.length:=by rw [ltI_eq] at hb;simpa using hb
   have hblt:Nat.blt j l.length=true:=hb
   repeat(first|((first|refine yw ?_|refine zX ?_|refine yX ?_|refine zk ?_);intro _ _)|refine yz ?_|refine xz ?_|refine yj ‹_› ?_|refine zw ‹_› ?_|refine yx ‹_› ?_|refine yq ‹_› ?_|refine zZ ?_|refine yy ?_|refine yv ?_|refine zq ?_|refine zY (fun Q hQ=>by (conv=>whnf);exact hQ) ?_|refine zj (fun Q hQ=>by (conv=>whnf);exact hQ) ?_|(apply yk;(·intro _ _ hy;(conv=>whnf);exact hy);(·intro Q hQ;(conv=>whnf);repeat(first|exact hQ|((first|refine xw (by first|rfl|assumption) ?_|refine xx (by first|rfl|assumption) ?_|refine zy ?_|refine zx ?_|unfold yZ);(conv=>whnf))));(·intro Q hQ;(conv=>whnf);exact hQ))|(apply yY;(·intro _ _ hy;(conv=>whnf);exact hy);(·intro Q hQ;(conv=>whnf);exact hQ)))
   apply yk
   ·(intro _ _ hy;(conv=>whnf);exact hy)
   ·intro Q hQ
    conv=>whnf
    refine bcase (fun _=>?_) (fun h=>absurd (h.symm.trans hblt) (by simp))
    conv=>whnf
    repeat(first|exact hQ|((first|refine xw (by first|rfl|assumption) ?_|refine xx (by first|rfl|assumption) ?_|refine zy ?_|refine zx ?_);(conv=>whnf)))
   ·(intro Q hQ;(conv=>whnf);exact hQ)
   repeat(first|((first|refine yw ?_|refine zX ?_|refine yX ?_|refine zk ?_);intro _ _)|refine yz ?_|refine xz ?_|refine yj ‹_› ?_|refine zw ‹_› ?_|refine yx ‹_› ?_|refine yq ‹_› ?_|refine zZ ?_|refine yy ?_|refine yv ?_|refine zq ?_|refine zY (fun Q hQ=>by (conv=>whnf);exact hQ) ?_|refine zj (fun Q hQ=>by (conv=>whnf);exact hQ) ?_|(apply yk;(·intro _ _ hy;(conv=>whnf);exact hy);(·intro Q hQ;(conv=>whnf);repeat(first|exact hQ|((first|refine xw (by first|rfl|assumption) ?_|refine xx (by first|rfl|assumption) ?_|refine zy ?_|refine zx ?_|unfold yZ);(conv=>whnf))));(·intro Q hQ;(conv=>whnf);exact hQ))|(apply yY;(·intro _ _ hy;(conv=>whnf);exact hy);(·intro Q hQ;(conv=>whnf);exact hQ)))
   apply yk
   ·(intro _ _ hy;(conv=>whnf);exact hy)
   ·intro Q hQ
    conv=>whnf
    refine partK_lab agg40 hi40 hs40 (j:=j) (List.getElem?_eq_getElem hlt) (show 0+j * 2=2 * j by omega) ?_
    exact hQ
   ·(intro Q hQ;(conv=>whnf);exact hQ)
   repeat(first|((first|refine yw ?_|refine zX ?_|refine yX ?_|refine zk ?_);intro _ _)|refine yz ?_|refine xz ?_|refine yj ‹_› ?_|refine zw ‹_› ?_|refine yx ‹_› ?_|refine yq ‹_› ?_|refine zZ ?_|refine yy ?_|refine yv ?_|refine zq ?_|refine zY (fun Q hQ=>by (conv=>whnf);exact hQ) ?_|refine zj (fun Q hQ=>by (conv=>whnf);exact hQ) ?_|(apply yk;(·intro _ _ hy;(conv=>whnf);exact hy);(·intro Q hQ;(conv=>whnf);repeat(first|exact hQ|((first|refine xw (by first|rfl|assumption) ?_|refine xx (by first|rfl|assumption) ?_|refine zy ?_|refine zx ?_|unfold yZ);(conv=>whnf))));(·intro Q hQ;(conv=>whnf);exact hQ))|(apply yY;(·intro _ _ hy;(conv=>whnf);exact hy);(·intro Q hQ;(conv=>whnf);exact hQ)))
   apply xq
   ·(intro _ _ hy;(conv=>whnf);exact hy)
   intro Q hQ
   conv=>whnf
   refine r1_run (ok.name _ (List.getElem_mem hlt)) (hh _ (List.getElem_mem hlt)) ?_
   rw [hQ]
   conv=>whnf
   repeat(first|((first|refine yw ?_|refine zX ?_|refine yX ?_|refine zk ?_);intro _ _)|refine yz ?_|refine xz ?_|refine yj ‹_› ?_|refine zw ‹_› ?_|refine yx ‹_› ?_|refine yq ‹_› ?_|refine zZ ?_|refine yy ?_|refine yv ?_|refine zq ?_|refine zY (fun Q hQ=>by (conv=>whnf);exact hQ) ?_|refine zj (fun Q hQ=>by (conv=>whnf);exact hQ) ?_|(apply yk;(·intro _ _ hy;(conv=>whnf);exact hy);(·intro Q hQ;(conv=>whnf);repeat(first|exact hQ|((first|refine xw (by first|rfl|assumption) ?_|refine xx (by first|rfl|assumption) ?_|refine zy ?_|refine zx ?_|unfold yZ);(conv=>whnf))));(·intro Q hQ;(conv=>whnf);exact hQ))|(apply yY;(·intro _ _ hy;(conv=>whnf);exact hy);(·intro Q hQ;(conv=>whnf);exact hQ)))
   apply yk
   ·(intro _ _ hy;(conv=>whnf);exact hy)
   ·intro Q hQ
    conv=>whnf
    refine wq (j+1) rfl (by have:=ok.few;show j+1 ≤ 9223372036854775807;omega) ?_
    exact hQ
   ·(intro Q hQ;(conv=>whnf);exact hQ)
   repeat(first|((first|refine yw ?_|refine zX ?_|refine yX ?_|refine zk ?_);intro _ _)|refine yz ?_|refine xz ?_|refine yj ‹_› ?_|refine zw ‹_› ?_|refine yx ‹_› ?_|refine yq ‹_› ?_|refine zZ ?_|refine yy ?_|refine yv ?_|refine zq ?_|refine zY (fun Q hQ=>by (conv=>whnf);exact hQ) ?_|refine zj (fun Q hQ=>by (conv=>whnf);exact hQ) ?_|(apply yk;(·intro _ _ hy;(conv=>whnf);exact hy);(·intro Q hQ;(conv=>whnf);repeat(first|exact hQ|((first|refine xw (by first|rfl|assumption) ?_|refine xx (by first|rfl|assumption) ?_|refine zy ?_|refine zx ?_|unfold yZ);(conv=>whnf))));(·intro Q hQ;(conv=>whnf);exact hQ))|(apply yY;(·intro _ _ hy;(conv=>whnf);exact hy);(·intro Q hQ;(conv=>whnf);exact hQ)))
   refine ⟨_,⟨Nat.le_refl _,?_⟩,rfl,ih _ hlt ⟨by omega,⟨rfl,rfl,zz rfl,zz rfl,zz rfl,zz rfl,rfl,rfl,rfl,zz rfl,zz rfl,zz rfl,zz rfl,zz rfl,zz rfl,zz rfl,zz rfl,zz rfl,zz rfl,trivial⟩⟩⟩
   repeat' (first
    | exact trivial
    | exact Nat.le_of_ble_eq_true rfl
    | exact ⟨_,rfl,.cells (wv _) (.inl rfl)⟩
    | apply And.intro)
set_option maxHeartbeats 2000000 in
theorem has41_run {l:List Lab} {v:V} {S:St} (h:LV S v l) (ok:OkL l) (hh:∀ q ∈ l,hid q.1=false) {k:V→St→Prop} (hk:k (.bool false) S):RC Tryz.prog 41 [v,.func (.func 42) [] []] S k:=by
 refine RC.lab mixed f41 h (fun _=>.cons (.func _ .nil .nil) .nil) [] (by simp) (v2:=.bool false) ?_ ?_ hk
 ·rintro rfl
  generalize hK:Post _ _ _ _ _ _ _=K
  apply wy
  ·intro Q hQ
   conv=>whnf
   exact hQ
  apply wx
  ·intro Q hQ
   conv=>whnf
   exact hQ
  intro K0 hK0
  unfold codeOf
  conv=>arg 7;whnf
  repeat(first|((first|refine yw ?_|refine zX ?_|refine yX ?_|refine zk ?_);intro _ _)|refine yz ?_|refine xz ?_|refine yj ‹_› ?_|refine zw ‹_› ?_|refine yx ‹_› ?_|refine yq ‹_› ?_|refine zZ ?_|refine yy ?_|refine yv ?_|refine zq ?_|refine zY (fun Q hQ=>by (conv=>whnf);exact hQ) ?_|refine zj (fun Q hQ=>by (conv=>whnf);exact hQ) ?_|(apply yk;(·intro _ _ hy;(conv=>whnf);exact hy);(·intro Q hQ;(conv=>whnf);repeat(first|exact hQ|((first|refine xw (by first|rfl|assumption) ?_|refine xx (by first|rfl|assumption) ?_|refine zy ?_|refine zx ?_|unfold yZ);(conv=>whnf))));(·intro Q hQ;(conv=>whnf);exact hQ))|(apply yY;(·intro _ _ hy;(conv=>whnf);exact hy);(·intro Q hQ;(conv=>whnf);exact hQ)))
  apply xq
  ·(intro _ _ hy;(conv=>whnf);exact hy)
  intro Q hQ
  conv=>whnf
  refine idx62_run (LV.nil _) ok hh ?_
  rw [hQ]
  conv=>whnf
  repeat(first|((first|refine yw ?_|refine zX ?_|refine yX ?_|refine zk ?_);intro _ _)|refine yz ?_|refine xz ?_|refine yj ‹_› ?_|refine zw ‹_› ?_|refine yx ‹_› ?_|refine yq ‹_› ?_|refine zZ ?_|refine yy ?_|refine yv ?_|refine zq ?_|refine zY (fun Q hQ=>by (conv=>whnf);exact hQ) ?_|refine zj (fun Q hQ=>by (conv=>whnf);exact hQ) ?_|(apply yk;(·intro _ _ hy;(conv=>whnf);exact hy);(·intro Q hQ;(conv=>whnf);repeat(first|exact hQ|((first|refine xw (by first|rfl|assumption) ?_|refine xx (by first|rfl|assumption) ?_|refine zy ?_|refine zx ?_|unfold yZ);(conv=>whnf))));(·intro Q hQ;(conv=>whnf);exact hQ))|(apply yY;(·intro _ _ hy;(conv=>whnf);exact hy);(·intro Q hQ;(conv=>whnf);exact hQ)))
  conv=>whnf
  rw [← hK]
  exact ⟨[],List.nodup_nil,by simp,.bool _,trivial,trivial⟩
 ·intro e i
  generalize hK:Post _ _ _ _ _ _ _=K
  apply wy
  ·intro Q hQ
   conv=>whnf
   exact hQ
  apply wx
  ·intro Q hQ
   conv=>whnf
   exact hQ
  intro K0 hK0
  unfold codeOf
  conv=>arg 7;whnf
  repeat(first|((first|refine yw ?_|refine zX ?_|refine yX ?_|refine zk ?_);intro _ _)|refine yz ?_|refine xz ?_|refine yj ‹_› ?_|refine zw ‹_› ?_|refine yx ‹_› ?_|refine yq ‹_› ?_|refine zZ ?_|refine yy ?_|refine yv ?_|refine zq ?_|refine zY (fun Q hQ=>by (conv=>whnf);exact hQ) ?_|refine zj (fun Q hQ=>by (conv=>whnf);exact hQ) ?_|(apply yk;(·intro _ _ hy;(conv=>whnf);exact hy);(·intro Q hQ;(conv=>whnf);repeat(first|exact hQ|((first|refine xw (by first|rfl|assumption) ?_|refine xx (by first|rfl|assumption) ?_|refine zy ?_|refine zx ?_|unfold yZ);(conv=>whnf))));(·intro Q hQ;(conv=>whnf);exact hQ))|(apply yY;(·intro _ _ hy;(conv=>whnf);exact hy);(·intro Q hQ;(conv=>whnf);exact hQ)))
  apply xq
  ·(intro _ _ hy;(conv=>whnf);exact hy)
  intro Q hQ
  conv=>whnf
  refine idx62_run (LV.mk (e:=e) (fl:=.ro) rfl (Nat.le_refl _)) ok hh ?_
  rw [hQ]
  conv=>whnf
  repeat(first|((first|refine yw ?_|refine zX ?_|refine yX ?_|refine zk ?_);intro _ _)|refine yz ?_|refine xz ?_|refine yj ‹_› ?_|refine zw ‹_› ?_|refine yx ‹_› ?_|refine yq ‹_› ?_|refine zZ ?_|refine yy ?_|refine yv ?_|refine zq ?_|refine zY (fun Q hQ=>by (conv=>whnf);exact hQ) ?_|refine zj (fun Q hQ=>by (conv=>whnf);exact hQ) ?_|(apply yk;(·intro _ _ hy;(conv=>whnf);exact hy);(·intro Q hQ;(conv=>whnf);repeat(first|exact hQ|((first|refine xw (by first|rfl|assumption) ?_|refine xx (by first|rfl|assumption) ?_|refine zy ?_|refine zx ?_|unfold yZ);(conv=>whnf))));(·intro Q hQ;(conv=>whnf);exact hQ))|(apply yY;(·intro _ _ hy;(conv=>whnf);exact hy);(·intro Q hQ;(conv=>whnf);exact hQ)))
  conv=>whnf
  rw [← hK]
  exact ⟨[],List.nodup_nil,by simp,.bool _,trivial,trivial⟩
/-- relabel.New without rules. -/
theorem new43_run {S:St} {k:V→St→Prop} (hk:newK (.cells [.nilSlice,.bool true] 128 .ex) S fun id S=>k (.tup [.ptr id 0,.int .i64 (.negSucc 0),.int .i64 0]) S):RC Tryz.prog 43 [.nilSlice] S k:=by
 refine RC.read mixed f43 (l:=[.nilSlice]) [] [] [] [.cells [.nilSlice,.bool true] 128 .ex] (v2:=.tup [.ptr S.next 0,.int .i64 (.negSucc 0),.int .i64 0]) (by simp) rfl rfl (by simp) (by simp) (.cons .nilSlice .nil) ?_ ?_ (newsK_one hk)
 ·rintro (_|a) o h
  ·simp at h;subst h;rfl
  ·simp at h
 ·generalize hK:Post _ _ _ _ _ _ _=K
  apply wy
  ·intro Q hQ
   conv=>whnf
   exact hQ
  apply wx
  ·intro Q hQ
   conv=>whnf
   exact hQ
  intro K0 hK0
  unfold codeOf
  conv=>arg 7;whnf
  repeat(first|((first|refine yw ?_|refine zX ?_|refine yX ?_|refine zk ?_);intro _ _)|refine yz ?_|refine xz ?_|refine yj ‹_› ?_|refine zw ‹_› ?_|refine yx ‹_› ?_|refine yq ‹_› ?_|refine zZ ?_|refine yy ?_|refine yv ?_|refine zq ?_|refine zY (fun Q hQ=>by (conv=>whnf);exact hQ) ?_|refine zj (fun Q hQ=>by (conv=>whnf);exact hQ) ?_|(apply yk;(·intro _ _ hy;(conv=>whnf);exact hy);(·intro Q hQ;(conv=>whnf);repeat(first|exact hQ|((first|refine xw (by first|rfl|assumption) ?_|refine xx (by first|rfl|assumption) ?_|refine zy ?_|refine zx ?_|unfold yZ);(conv=>whnf))));(·intro Q hQ;(conv=>whnf);exact hQ))|(apply yY;(·intro _ _ hy;(conv=>whnf);exact hy);(·intro Q hQ;(conv=>whnf);exact hQ)))
  refine LP.step mixed ?_
  repeat(first|((first|refine yw ?_|refine zX ?_|refine yX ?_|refine zk ?_);intro _ _)|refine yz ?_|refine xz ?_|refine yj ‹_› ?_|refine zw ‹_› ?_|refine yx ‹_› ?_|refine yq ‹_› ?_|refine zZ ?_|refine yy ?_|refine yv ?_|refine zq ?_|refine zY (fun Q hQ=>by (conv=>whnf);exact hQ) ?_|refine zj (fun Q hQ=>by (conv=>whnf);exact hQ) ?_|(apply yk;(·intro _ _ hy;(conv=>whnf);exact hy);(·intro Q hQ;(conv=>whnf);repeat(first|exact hQ|((first|refine xw (by first|rfl|assumption) ?_|refine xx (by first|rfl|assumption) ?_|refine zy ?_|refine zx ?_|unfold yZ);(conv=>whnf))));(·intro Q hQ;(conv=>whnf);exact hQ))|(apply yY;(·intro _ _ hy;(conv=>whnf);exact hy);(·intro Q hQ;(conv=>whnf);exact hQ)))
  conv=>whnf
  rw [← hK]
  exact ⟨[_],nodup1 _,fun g hg=>by rw [List.mem_singleton] at hg;subst hg;exact Nat.le_of_ble_eq_true rfl,.tup (.cons (.ptr _ (Rou.new (a:=0) rfl (Nat.le_of_ble_eq_true rfl) (by simp))) (.cons (.int _ _) (.cons (.int _ _) .nil))),trivial,⟨⟨_,rfl,.cells (.cons .nilSlice (.cons (.bool _) .nil)) (.inl rfl)⟩,trivial⟩⟩
end Go.Am
