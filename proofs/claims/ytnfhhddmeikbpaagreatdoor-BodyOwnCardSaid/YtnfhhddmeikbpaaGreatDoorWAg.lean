/- Part 7 of the proof that BodyOwn returns true, and leaves its arguments as they were, for every input, over a start where the listed variables hold what the program lays: the statement Rows.BodyOwnCardSaid. -/
import Derived.Test.YtnfhhddmeikbpaaGreatDoorWAf
import Derived.Test.YtnfhhddmeikbpaaGreatDoorWAe
import Derived.Test.YtnfhhddmeikbpaaGreatDoorWAd
set_option linter.unusedVariables false
set_option linter.unusedSimpArgs false
/- label.Check: nothing is wrong with right labels. -/
namespace Go.Am
open Go.Proofs
set_option maxRecDepth 100000
attribute [local irreducible] fN fI fB yZ wrapK wk drOps rdsAll sl
/-- What is known of right labels. -/
structure RightL (l:List Lab):Prop where
 few:l.length ≤ 64
 one:∀ q ∈ l,∀ (S:St) (k:V→St→Prop),k (.int .i64 0) S→RC Tryz.prog 27 [labV q] S k
 full:∀ q ∈ l,q.2 ≠ []
 asc:∀ (j:Nat) (h:j+1 < l.length),ltS (l[j]'(by omega)).1 l[j+1].1=true
theorem f60:FnAt Tryz.prog 60 46 [.tmp 2,.tmp 3] (codeOf Tryz.f60):=⟨Tryz.f60,by kernel_rfl,rfl,by kernel_rfl,by kernel_rfl,by kernel_rfl⟩
set_option maxHeartbeats 2000000 in
theorem check_run (i c:Nat) (ex:Bool) (l:List Lab) (rest:List V) (hl:RightL l) {S:St} (fl:Fl) (e:TypeId) (hrow:S.hs.get i=some (.cells (cellsOf l ++ rest) e fl)) (hc:l.length ≤ c) {k:V→St→Prop} (hk:k (.tup [.int .i64 (.negSucc 0),.int .i64 0]) S) :
  RC Tryz.prog 60 [.slice i 0 l.length c 2 ex] S k:=by
 obtain ⟨i40,hi40,hs40⟩:=info40
 refine RC.read mixed f60 (l:=[.slice ngl 0 l.length l.length 2 false]) [i] [.cells (cellsOf l ++ rest) e fl] [.cells (cellsOf l) e .ro] [] (v2:=.tup [.int .i64 (.negSucc 0),.int .i64 0]) ?_ rfl rfl ?_ ?_ ?_ (by simp) ?_ hk
 ·rintro (_|a) o h
  ·simp at h;subst h;rfl
  ·simp at h
 ·rintro (_|a) j o h1 h2
  ·simp at h1 h2;subst h1;subst h2;exact hrow
  ·simp at h1
 ·rintro (_|a) o1 o2 h1 h2
  ·simp at h1 h2;subst h1;subst h2;exact .part (wv l)
  ·simp at h1
 ·exact .cons (.slice _ _ _ _ _ _ _ (Rin.at (a:=0) rfl (by simp)) (.inr (Nat.le_refl _)) hc (by simp)) .nil
 ·generalize hK:Post _ _ _ _ _ _ _=K
  apply wy
  ·intro Q hQ
   conv=>whnf
   exact hQ
  apply wx
  ·intro Q hQ
   conv=>whnf
   exact hQ
  intro K0 hK0
  unfold codeOf
  conv=>arg 7;whnf
  repeat(first|((first|refine yw ?_|refine zX ?_);intro _ _)|(refine xy ?_;intro _ _;(conv=>whnf))|(refine zk ?_;intro _ _)|refine yz ?_|refine yj ‹_› ?_|refine zw ‹_› ?_|refine yx ‹_› ?_|refine yq ‹_› ?_|refine zZ ?_|refine yy ?_|refine yv ?_|refine zq ?_|((first|refine xw (by first|rfl|assumption) ?_|refine xx (by first|rfl|assumption) ?_);(conv=>whnf))|refine zY (fun Q hQ=>by (conv=>whnf);exact hQ) ?_|refine zj (fun Q hQ=>by (conv=>whnf);exact hQ) ?_|((first|refine zy ?_|refine zx ?_);(conv=>whnf)))
  refine xx (by have:=hl.few;rw [ltI_eq];simp;omega) ?_
  conv=>whnf
  repeat(first|((first|refine yw ?_|refine zX ?_);intro _ _)|(refine xy ?_;intro _ _;(conv=>whnf))|(refine zk ?_;intro _ _)|refine yz ?_|refine yj ‹_› ?_|refine zw ‹_› ?_|refine yx ‹_› ?_|refine yq ‹_› ?_|refine zZ ?_|refine yy ?_|refine yv ?_|refine zq ?_|((first|refine xw (by first|rfl|assumption) ?_|refine xx (by first|rfl|assumption) ?_);(conv=>whnf))|refine zY (fun Q hQ=>by (conv=>whnf);exact hQ) ?_|refine zj (fun Q hQ=>by (conv=>whnf);exact hQ) ?_|((first|refine zy ?_|refine zx ?_);(conv=>whnf)))
  refine LP.induct0 l.length (fun j E=>j ≤ l.length∧Fits E 0 [.slice ngl 0 l.length l.length 2 false,sl E 1,sl E 2,sl E 3,sl E 4,sl E 5,sl E 6,sl E 7,sl E 8,sl E 9,.slice ngl 0 l.length l.length 2 false,.int .i64 (.ofNat l.length),.int .i64 (.ofNat j),sl E 13,sl E 14,sl E 15,sl E 16,sl E 17,sl E 18,sl E 19,sl E 20,sl E 21,sl E 22,sl E 23,sl E 24,sl E 25,sl E 26,sl E 27,sl E 28,sl E 29,sl E 30,sl E 31,sl E 32,sl E 33,sl E 34,sl E 35,sl E 36,sl E 37,sl E 38,sl E 39,sl E 40,sl E 41,sl E 42,sl E 43,sl E 44,sl E 45]) ⟨Nat.zero_le _,⟨rfl,zz rfl,zz rfl,zz rfl,zz rfl,zz rfl,zz rfl,zz rfl,zz rfl,zz rfl,rfl,rfl,rfl,zz rfl,zz rfl,zz rfl,zz rfl,zz rfl,zz rfl,zz rfl,zz rfl,zz rfl,zz rfl,zz rfl,zz rfl,zz rfl,zz rfl,zz rfl,zz rfl,zz rfl,zz rfl,zz rfl,zz rfl,zz rfl,zz rfl,zz rfl,zz rfl,zz rfl,zz rfl,zz rfl,zz rfl,zz rfl,zz rfl,zz rfl,zz rfl,zz rfl,trivial⟩⟩ ?_
  intro j E ⟨hjl,hf⟩ ih
  refine LP.tree hf (⟨some (.slice ngl 0 l.length l.length 2 false),⟨some (sl E 1),⟨some (sl E 5),⟨some (sl E 21),z0,z0,z0,z0⟩,⟨some (sl E 37),z0,z0,z0,z0⟩,z1,z1⟩,⟨some (sl E 9),⟨some (sl E 25),z0,z0,z0,z0⟩,⟨some (sl E 41),z0,z0,z0,z0⟩,z1,z1⟩,⟨some (sl E 13),⟨some (sl E 29),z0,z0,z0,z0⟩,⟨some (sl E 45),z0,z0,z0,z0⟩,z1,z1⟩,⟨some (sl E 17),⟨some (sl E 33),z0,z0,z0,z0⟩,z1,z1,z1⟩⟩,⟨some (sl E 2),⟨some (sl E 6),⟨some (sl E 22),z0,z0,z0,z0⟩,⟨some (sl E 38),z0,z0,z0,z0⟩,z1,z1⟩,⟨some (.slice ngl 0 l.length l.length 2 false),⟨some (sl E 26),z0,z0,z0,z0⟩,⟨some (sl E 42),z0,z0,z0,z0⟩,z1,z1⟩,⟨some (sl E 14),⟨some (sl E 30),z0,z0,z0,z0⟩,z1,z1,z1⟩,⟨some (sl E 18),⟨some (sl E 34),z0,z0,z0,z0⟩,z1,z1,z1⟩⟩,⟨some (sl E 3),⟨some (sl E 7),⟨some (sl E 23),z0,z0,z0,z0⟩,⟨some (sl E 39),z0,z0,z0,z0⟩,z1,z1⟩,⟨some (.int .i64 (.ofNat l.length)),⟨some (sl E 27),z0,z0,z0,z0⟩,⟨some (sl E 43),z0,z0,z0,z0⟩,z1,z1⟩,⟨some (sl E 15),⟨some (sl E 31),z0,z0,z0,z0⟩,z1,z1,z1⟩,⟨some (sl E 19),⟨some (sl E 35),z0,z0,z0,z0⟩,z1,z1,z1⟩⟩,⟨some (sl E 4),⟨some (sl E 8),⟨some (sl E 24),z0,z0,z0,z0⟩,⟨some (sl E 40),z0,z0,z0,z0⟩,z1,z1⟩,⟨some (.int .i64 (.ofNat j)),⟨some (sl E 28),z0,z0,z0,z0⟩,⟨some (sl E 44),z0,z0,z0,z0⟩,z1,z1⟩,⟨some (sl E 16),⟨some (sl E 32),z0,z0,z0,z0⟩,z1,z1,z1⟩,⟨some (sl E 20),⟨some (sl E 36),z0,z0,z0,z0⟩,z1,z1,z1⟩⟩⟩) (by kernel_rfl) (LP.gc' mixed fun _ _=>?_)
  clear hf
  repeat(first|((first|refine yw ?_|refine zX ?_);intro _ _)|(refine xy ?_;intro _ _;(conv=>whnf))|(refine zk ?_;intro _ _)|refine yz ?_|refine yj ‹_› ?_|refine zw ‹_› ?_|refine yx ‹_› ?_|refine yq ‹_› ?_|refine zZ ?_|refine yy ?_|refine yv ?_|refine zq ?_|((first|refine xw (by first|rfl|assumption) ?_|refine xx (by first|rfl|assumption) ?_);(conv=>whnf))|refine zY (fun Q hQ=>by (conv=>whnf);exact hQ) ?_|refine zj (fun Q hQ=>by (conv=>whnf);exact hQ) ?_|((first|refine zy ?_|refine zx ?_);(conv=>whnf)))
  refine fB_split (fun hb=>?_) (fun hb=>?_)
  ·have hlt:j < l.length:=by rw [ltI_eq] at hb;simpa using hb
   conv=>whnf
   repeat(first|((first|refine yw ?_|refine zX ?_);intro _ _)|(refine xy ?_;intro _ _;(conv=>whnf))|(refine zk ?_;intro _ _)|refine yz ?_|refine yj ‹_› ?_|refine zw ‹_› ?_|refine yx ‹_› ?_|refine yq ‹_› ?_|refine zZ ?_|refine yy ?_|refine yv ?_|refine zq ?_|((first|refine xw (by first|rfl|assumption) ?_|refine xx (by first|rfl|assumption) ?_);(conv=>whnf))|refine zY (fun Q hQ=>by (conv=>whnf);exact hQ) ?_|refine zj (fun Q hQ=>by (conv=>whnf);exact hQ) ?_|((first|refine zy ?_|refine zx ?_);(conv=>whnf)))
   refine bcase (fun _=>?_) (fun h=>absurd (h.symm.trans hb) (by simp))
   conv=>whnf
   repeat(first|((first|refine yw ?_|refine zX ?_);intro _ _)|(refine xy ?_;intro _ _;(conv=>whnf))|(refine zk ?_;intro _ _)|refine yz ?_|refine yj ‹_› ?_|refine zw ‹_› ?_|refine yx ‹_› ?_|refine yq ‹_› ?_|refine zZ ?_|refine yy ?_|refine yv ?_|refine zq ?_|((first|refine xw (by first|rfl|assumption) ?_|refine xx (by first|rfl|assumption) ?_);(conv=>whnf))|refine zY (fun Q hQ=>by (conv=>whnf);exact hQ) ?_|refine zj (fun Q hQ=>by (conv=>whnf);exact hQ) ?_|((first|refine zy ?_|refine zx ?_);(conv=>whnf)))
   refine partK_lab agg40 hi40 hs40 (j:=j) (List.getElem?_eq_getElem hlt) (show 0+j * 2=2 * j by omega) ?_
   conv=>whnf
   repeat(first|((first|refine yw ?_|refine zX ?_);intro _ _)|(refine xy ?_;intro _ _;(conv=>whnf))|(refine zk ?_;intro _ _)|refine yz ?_|refine yj ‹_› ?_|refine zw ‹_› ?_|refine yx ‹_› ?_|refine yq ‹_› ?_|refine zZ ?_|refine yy ?_|refine yv ?_|refine zq ?_|((first|refine xw (by first|rfl|assumption) ?_|refine xx (by first|rfl|assumption) ?_);(conv=>whnf))|refine zY (fun Q hQ=>by (conv=>whnf);exact hQ) ?_|refine zj (fun Q hQ=>by (conv=>whnf);exact hQ) ?_|((first|refine zy ?_|refine zx ?_);(conv=>whnf)))
   unfold yZ
   conv=>whnf
   repeat(first|((first|refine yw ?_|refine zX ?_);intro _ _)|(refine xy ?_;intro _ _;(conv=>whnf))|(refine zk ?_;intro _ _)|refine yz ?_|refine yj ‹_› ?_|refine zw ‹_› ?_|refine yx ‹_› ?_|refine yq ‹_› ?_|refine zZ ?_|refine yy ?_|refine yv ?_|refine zq ?_|((first|refine xw (by first|rfl|assumption) ?_|refine xx (by first|rfl|assumption) ?_);(conv=>whnf))|refine zY (fun Q hQ=>by (conv=>whnf);exact hQ) ?_|refine zj (fun Q hQ=>by (conv=>whnf);exact hQ) ?_|((first|refine zy ?_|refine zx ?_);(conv=>whnf)))
   refine hl.one l[j] (List.getElem_mem hlt) _ _ ?_
   conv=>whnf
   repeat(first|((first|refine yw ?_|refine zX ?_);intro _ _)|(refine xy ?_;intro _ _;(conv=>whnf))|(refine zk ?_;intro _ _)|refine yz ?_|refine yj ‹_› ?_|refine zw ‹_› ?_|refine yx ‹_› ?_|refine yq ‹_› ?_|refine zZ ?_|refine yy ?_|refine yv ?_|refine zq ?_|((first|refine xw (by first|rfl|assumption) ?_|refine xx (by first|rfl|assumption) ?_);(conv=>whnf))|refine zY (fun Q hQ=>by (conv=>whnf);exact hQ) ?_|refine zj (fun Q hQ=>by (conv=>whnf);exact hQ) ?_|((first|refine zy ?_|refine zx ?_);(conv=>whnf)))
   have hv:eqS l[j].2 []=false:=by
    have:=hl.full l[j] (List.getElem_mem hlt)
    rw [eqS_eq];simpa using this
   cases hj0:ltI 0 (Int.ofNat j)
   ·
    repeat(first|(apply xk;(·exact rfl);(·exact rfl);(·intro _ _ hy;(conv=>whnf);exact hy);(·exact rfl);(·intro Q hQ;(conv=>whnf);repeat(first|exact hQ|((first|refine xw (by first|rfl|assumption) ?_|refine xx (by first|rfl|assumption) ?_|refine zy ?_|refine zx ?_|unfold yZ);(conv=>whnf))));(·intro Q hQ;(conv=>whnf);exact hQ))|(apply xX;(·exact rfl);(·exact rfl);(·intro _ _ hy;(conv=>whnf);exact hy);(·exact rfl);(·intro Q hQ;(conv=>whnf);repeat(first|exact hQ|((first|refine xw (by first|rfl|assumption) ?_|refine xx (by first|rfl|assumption) ?_|refine zy ?_|refine zx ?_|unfold yZ);(conv=>whnf))));(·intro Q hQ;(conv=>whnf);exact hQ);intro _)|(apply xY;(·exact rfl);(·exact rfl);(·intro _ _ hy;(conv=>whnf);exact hy);(·intro Q hQ;(conv=>whnf);exact hQ))|refine xZ ?_)
    refine ww ‹_› ?_
    repeat (first
     | refine wY (by simp) ‹_› (by first|exact vq _|exact vj _ _|rfl) (by first|exact .inl rfl|exact .inr rfl) ?_
     | refine vz ?_)
    conv=>whnf
    repeat(first|((first|refine yw ?_|refine zX ?_);intro _ _)|(refine xy ?_;intro _ _;(conv=>whnf))|(refine zk ?_;intro _ _)|refine yz ?_|refine yj ‹_› ?_|refine zw ‹_› ?_|refine yx ‹_› ?_|refine yq ‹_› ?_|refine zZ ?_|refine yy ?_|refine yv ?_|refine zq ?_|((first|refine xw (by first|rfl|assumption) ?_|refine xx (by first|rfl|assumption) ?_);(conv=>whnf))|refine zY (fun Q hQ=>by (conv=>whnf);exact hQ) ?_|refine zj (fun Q hQ=>by (conv=>whnf);exact hQ) ?_|((first|refine zy ?_|refine zx ?_);(conv=>whnf)))
    refine wq (j+1) rfl (by have:=hl.few;show j+1 ≤ 9223372036854775807;omega) ?_
    conv=>whnf
    repeat(first|((first|refine yw ?_|refine zX ?_);intro _ _)|(refine xy ?_;intro _ _;(conv=>whnf))|(refine zk ?_;intro _ _)|refine yz ?_|refine yj ‹_› ?_|refine zw ‹_› ?_|refine yx ‹_› ?_|refine yq ‹_› ?_|refine zZ ?_|refine yy ?_|refine yv ?_|refine zq ?_|((first|refine xw (by first|rfl|assumption) ?_|refine xx (by first|rfl|assumption) ?_);(conv=>whnf))|refine zY (fun Q hQ=>by (conv=>whnf);exact hQ) ?_|refine zj (fun Q hQ=>by (conv=>whnf);exact hQ) ?_|((first|refine zy ?_|refine zx ?_);(conv=>whnf)))
    refine ⟨_,⟨Nat.le_refl _,?_⟩,rfl,ih _ hlt ⟨by omega,⟨rfl,zz rfl,zz rfl,zz rfl,zz rfl,zz rfl,zz rfl,zz rfl,zz rfl,zz rfl,rfl,rfl,rfl,zz rfl,zz rfl,zz rfl,zz rfl,zz rfl,zz rfl,zz rfl,zz rfl,zz rfl,zz rfl,zz rfl,zz rfl,zz rfl,zz rfl,zz rfl,zz rfl,zz rfl,zz rfl,zz rfl,zz rfl,zz rfl,zz rfl,zz rfl,zz rfl,zz rfl,zz rfl,zz rfl,zz rfl,zz rfl,zz rfl,zz rfl,zz rfl,zz rfl,trivial⟩⟩⟩
    repeat' (first
     | exact trivial
     | exact Nat.le_of_ble_eq_true rfl
     | exact ⟨_,rfl,.cells (wv _) (.inl rfl)⟩
     | apply And.intro)
   ·obtain ⟨m,rfl⟩:∃ m,j=m+1:=by
     rw [ltI_eq] at hj0
     simp at hj0
     exact ⟨j - 1,by omega⟩
    have hm:Nat.blt m l.length=true:=Nat.ble_eq_true_of_le (by omega)
    repeat(first|(apply xk;(·exact rfl);(·exact rfl);(·intro _ _ hy;(conv=>whnf);exact hy);(·exact rfl);(·intro Q hQ;(conv=>whnf);repeat(first|exact hQ|((first|refine xw (by first|rfl|assumption) ?_|refine xx (by first|rfl|assumption) ?_|refine zy ?_|refine zx ?_|unfold yZ);(conv=>whnf))));(·intro Q hQ;(conv=>whnf);exact hQ))|(apply xX;(·exact rfl);(·exact rfl);(·intro _ _ hy;(conv=>whnf);exact hy);(·exact rfl);(·intro Q hQ;(conv=>whnf);repeat(first|exact hQ|((first|refine xw (by first|rfl|assumption) ?_|refine xx (by first|rfl|assumption) ?_|refine zy ?_|refine zx ?_|unfold yZ);(conv=>whnf))));(·intro Q hQ;(conv=>whnf);exact hQ);intro _)|(apply xY;(·exact rfl);(·exact rfl);(·intro _ _ hy;(conv=>whnf);exact hy);(·intro Q hQ;(conv=>whnf);exact hQ))|refine xZ ?_)
    apply xk
    ·exact rfl
    ·exact rfl
    ·(intro _ _ hy;(conv=>whnf);exact hy)
    ·exact rfl
    ·intro Q hQ
     conv=>whnf
     refine wq m (by show Int.subNatNat (m+1) 1=_;rw [Int.subNatNat_of_le (by omega)];rfl) (by have:=hl.few;show m ≤ 9223372036854775807;omega) ?_
     exact hQ
    ·(intro Q hQ;(conv=>whnf);exact hQ)
    repeat(first|(apply xk;(·exact rfl);(·exact rfl);(·intro _ _ hy;(conv=>whnf);exact hy);(·exact rfl);(·intro Q hQ;(conv=>whnf);repeat(first|exact hQ|((first|refine xw (by first|rfl|assumption) ?_|refine xx (by first|rfl|assumption) ?_|refine zy ?_|refine zx ?_|unfold yZ);(conv=>whnf))));(·intro Q hQ;(conv=>whnf);exact hQ))|(apply xX;(·exact rfl);(·exact rfl);(·intro _ _ hy;(conv=>whnf);exact hy);(·exact rfl);(·intro Q hQ;(conv=>whnf);repeat(first|exact hQ|((first|refine xw (by first|rfl|assumption) ?_|refine xx (by first|rfl|assumption) ?_|refine zy ?_|refine zx ?_|unfold yZ);(conv=>whnf))));(·intro Q hQ;(conv=>whnf);exact hQ);intro _)|(apply xY;(·exact rfl);(·exact rfl);(·intro _ _ hy;(conv=>whnf);exact hy);(·intro Q hQ;(conv=>whnf);exact hQ))|refine xZ ?_)
    apply xk
    ·exact rfl
    ·exact rfl
    ·(intro _ _ hy;(conv=>whnf);exact hy)
    ·exact rfl
    ·intro Q hQ
     conv=>whnf
     refine bcase (fun _=>?_) (fun h=>absurd (h.symm.trans hm) (by simp))
     conv=>whnf
     repeat(first|exact hQ|((first|refine xw (by first|rfl|assumption) ?_|refine xx (by first|rfl|assumption) ?_|refine zy ?_|refine zx ?_);(conv=>whnf)))
    ·(intro Q hQ;(conv=>whnf);exact hQ)
    repeat(first|(apply xk;(·exact rfl);(·exact rfl);(·intro _ _ hy;(conv=>whnf);exact hy);(·exact rfl);(·intro Q hQ;(conv=>whnf);repeat(first|exact hQ|((first|refine xw (by first|rfl|assumption) ?_|refine xx (by first|rfl|assumption) ?_|refine zy ?_|refine zx ?_|unfold yZ);(conv=>whnf))));(·intro Q hQ;(conv=>whnf);exact hQ))|(apply xX;(·exact rfl);(·exact rfl);(·intro _ _ hy;(conv=>whnf);exact hy);(·exact rfl);(·intro Q hQ;(conv=>whnf);repeat(first|exact hQ|((first|refine xw (by first|rfl|assumption) ?_|refine xx (by first|rfl|assumption) ?_|refine zy ?_|refine zx ?_|unfold yZ);(conv=>whnf))));(·intro Q hQ;(conv=>whnf);exact hQ);intro _)|(apply xY;(·exact rfl);(·exact rfl);(·intro _ _ hy;(conv=>whnf);exact hy);(·intro Q hQ;(conv=>whnf);exact hQ))|refine xZ ?_)
    apply xX
    ·exact rfl
    ·exact rfl
    ·(intro _ _ hy;(conv=>whnf);exact hy)
    ·exact rfl
    ·intro Q hQ
     conv=>whnf
     refine vX agg9 (2 * m) (show 0+m * 2+0=2 * m by omega) (cellsOf_at (by omega)).1 ?_
     exact hQ
    ·(intro Q hQ;(conv=>whnf);exact hQ)
    intro _
    have hlt1:=hl.asc m hlt
    have hlt2:=ltS_asymm hlt1
    have hlt3:eqS l[m+1].1 l[m].1=false:=eqS_ne (Ne.symm (ltS_ne hlt1))
    repeat(first|(apply xk;(·exact rfl);(·exact rfl);(·intro _ _ hy;(conv=>whnf);exact hy);(·exact rfl);(·intro Q hQ;(conv=>whnf);repeat(first|exact hQ|((first|refine xw (by first|rfl|assumption) ?_|refine xx (by first|rfl|assumption) ?_|refine zy ?_|refine zx ?_|unfold yZ);(conv=>whnf))));(·intro Q hQ;(conv=>whnf);exact hQ))|(apply xX;(·exact rfl);(·exact rfl);(·intro _ _ hy;(conv=>whnf);exact hy);(·exact rfl);(·intro Q hQ;(conv=>whnf);repeat(first|exact hQ|((first|refine xw (by first|rfl|assumption) ?_|refine xx (by first|rfl|assumption) ?_|refine zy ?_|refine zx ?_|unfold yZ);(conv=>whnf))));(·intro Q hQ;(conv=>whnf);exact hQ);intro _)|(apply xY;(·exact rfl);(·exact rfl);(·intro _ _ hy;(conv=>whnf);exact hy);(·intro Q hQ;(conv=>whnf);exact hQ))|refine xZ ?_)
    refine ww ‹_› ?_
    repeat (first
     | refine wY (by simp) ‹_› (by first|exact vq _|exact vj _ _|rfl) (by first|exact .inl rfl|exact .inr rfl) ?_
     | refine vz ?_)
    conv=>whnf
    repeat(first|((first|refine yw ?_|refine zX ?_);intro _ _)|(refine xy ?_;intro _ _;(conv=>whnf))|(refine zk ?_;intro _ _)|refine yz ?_|refine yj ‹_› ?_|refine zw ‹_› ?_|refine yx ‹_› ?_|refine yq ‹_› ?_|refine zZ ?_|refine yy ?_|refine yv ?_|refine zq ?_|((first|refine xw (by first|rfl|assumption) ?_|refine xx (by first|rfl|assumption) ?_);(conv=>whnf))|refine zY (fun Q hQ=>by (conv=>whnf);exact hQ) ?_|refine zj (fun Q hQ=>by (conv=>whnf);exact hQ) ?_|((first|refine zy ?_|refine zx ?_);(conv=>whnf)))
    refine wq (m+1+1) rfl (by have:=hl.few;show m+1+1 ≤ 9223372036854775807;omega) ?_
    conv=>whnf
    repeat(first|((first|refine yw ?_|refine zX ?_);intro _ _)|(refine xy ?_;intro _ _;(conv=>whnf))|(refine zk ?_;intro _ _)|refine yz ?_|refine yj ‹_› ?_|refine zw ‹_› ?_|refine yx ‹_› ?_|refine yq ‹_› ?_|refine zZ ?_|refine yy ?_|refine yv ?_|refine zq ?_|((first|refine xw (by first|rfl|assumption) ?_|refine xx (by first|rfl|assumption) ?_);(conv=>whnf))|refine zY (fun Q hQ=>by (conv=>whnf);exact hQ) ?_|refine zj (fun Q hQ=>by (conv=>whnf);exact hQ) ?_|((first|refine zy ?_|refine zx ?_);(conv=>whnf)))
    refine ⟨_,⟨Nat.le_refl _,?_⟩,rfl,ih _ hlt ⟨by omega,⟨rfl,zz rfl,zz rfl,zz rfl,zz rfl,zz rfl,zz rfl,zz rfl,zz rfl,zz rfl,rfl,rfl,rfl,zz rfl,zz rfl,zz rfl,zz rfl,zz rfl,zz rfl,zz rfl,zz rfl,zz rfl,zz rfl,zz rfl,zz rfl,zz rfl,zz rfl,zz rfl,zz rfl,zz rfl,zz rfl,zz rfl,zz rfl,zz rfl,zz rfl,zz rfl,zz rfl,zz rfl,zz rfl,zz rfl,zz rfl,zz rfl,zz rfl,zz rfl,zz rfl,zz rfl,trivial⟩⟩⟩
    repeat' (first
     | exact trivial
     | exact Nat.le_of_ble_eq_true rfl
     | exact ⟨_,rfl,.cells (wv _) (.inl rfl)⟩
     | apply And.intro)
  ·have hge:l.length ≤ j:=by rw [ltI_eq] at hb;simpa using hb
   conv=>whnf
   repeat(first|((first|refine yw ?_|refine zX ?_);intro _ _)|(refine xy ?_;intro _ _;(conv=>whnf))|(refine zk ?_;intro _ _)|refine yz ?_|refine yj ‹_› ?_|refine zw ‹_› ?_|refine yx ‹_› ?_|refine yq ‹_› ?_|refine zZ ?_|refine yy ?_|refine yv ?_|refine zq ?_|((first|refine xw (by first|rfl|assumption) ?_|refine xx (by first|rfl|assumption) ?_);(conv=>whnf))|refine zY (fun Q hQ=>by (conv=>whnf);exact hQ) ?_|refine zj (fun Q hQ=>by (conv=>whnf);exact hQ) ?_|((first|refine zy ?_|refine zx ?_);(conv=>whnf)))
   conv=>whnf
   rw [← hK]
   exact ⟨[],List.nodup_nil,by simp,.tup (.cons (.int _ _) (.cons (.int _ _) .nil)),trivial,trivial⟩
end Go.Am
/- Labels as values; calls with one row of labels. -/
namespace Go.Am
open Go.Proofs
set_option maxRecDepth 100000
/-- A value that is a row of labels. -/
def LV (S:St) (v:V) (l:List Lab):Prop :=
 (v=.nilSlice∧l=[]) ∨ ∃ i c ex rest e fl,v=.slice i 0 l.length c 2 ex∧l.length ≤ c∧S.hs.get i=some (.cells (cellsOf l ++ rest) e fl)
theorem RC.lab {P:Program} (hm:P.follows .mixedOrders=true) {c:FuncId} {n:Nat} {rs:List ResultVar} {code:Code} (hf:FnAt P c n rs code) {l:List Lab} {v:V} {S:St} (h:LV S v l) {more:List V} (hmore:∀ R,VIs R more more) (news:List O)
  (hwn:∀ (a:Nat) (o:O),news[a]?=some o→o.wr=true) {v2:V} {k:V→St→Prop}
  (h0:l=[]→buildK (numb ngl []) ⟨.nil,ngl+0⟩ (runF P n rs code (.nilSlice :: more) (Post 0 [] (ngl+0) S.next [] news v2)))
  (h1:∀ e i,buildK (numb ngl [.cells (cellsOf l) e .ro]) ⟨.nil,ngl+1⟩ (runF P n rs code (.slice ngl 0 l.length l.length 2 false :: more) (Post 1 [i] (ngl+1) S.next [] news v2)))
  (hk:newsK news S (k v2)):RC P c (v :: more) S k:=by
 rcases h with ⟨rfl,rfl⟩|⟨i,cap,ex,rest,e,fl,rfl,hc,hrow⟩
 ·exact RC.read hm hf [] [] [] news (by simp) rfl rfl (by simp) (by simp) (.cons .nilSlice (hmore _)) hwn (h0 rfl) hk
 ·refine RC.read hm hf [i] [.cells (cellsOf l ++ rest) e fl] [.cells (cellsOf l) e .ro] news ?_ rfl rfl ?_ ?_ (.cons ?_ (hmore _)) hwn (h1 e i) hk
  ·rintro (_|a) o h
   ·simp at h;subst h;rfl
   ·simp at h
  ·rintro (_|a) j o h1 h2
   ·simp at h1 h2;subst h1;subst h2;exact hrow
   ·simp at h1
  ·rintro (_|a) o1 o2 h1 h2
   ·simp at h1 h2;subst h1;subst h2;exact .part (wv l)
   ·simp at h1
  ·exact .slice _ _ _ _ _ _ _ (Rin.at (a:=0) rfl (by simp)) (.inr (Nat.le_refl _)) hc (by simp)
end Go.Am
/- label.Get, label.Right. -/
namespace Go.Am
open Go.Proofs
set_option maxRecDepth 100000
attribute [local irreducible] fN fI fB yZ wrapK wk drOps rdsAll sl

theorem f8:FnAt Tryz.prog 8 20 [.tmp 4] (codeOf Tryz.f8):=⟨Tryz.f8,by kernel_rfl,rfl,by kernel_rfl,by kernel_rfl,by kernel_rfl⟩

set_option maxHeartbeats 2000000 in
theorem get_run {l:List Lab} {v:V} {S:St} (h:LV S v l) (hlen:l.length < 9223372036854775807) (s:List UInt8) {k:V→St→Prop} (hk:k (.str (getL s l)) S):RC Tryz.prog 8 [v,.str s] S k:=by
 obtain ⟨i40,hi40,hs40⟩:=info40
 refine RC.lab mixed f8 h (fun _=>.cons (.str _) .nil) [] (by simp) (v2:=.str (getL s l)) ?_ ?_ hk
 ·rintro rfl
  generalize hK:Post _ _ _ _ _ _ _=K
  apply wy
  ·intro Q hQ
   conv=>whnf
   exact hQ
  apply wx
  ·intro Q hQ
   conv=>whnf
   exact hQ
  intro K0 hK0
  unfold codeOf
  conv=>arg 7;whnf
  repeat(first|((first|refine yw ?_|refine zX ?_);intro _ _)|(refine xy ?_;intro _ _;(conv=>whnf))|(refine zk ?_;intro _ _)|refine yz ?_|refine yj ‹_› ?_|refine zw ‹_› ?_|refine yx ‹_› ?_|refine yq ‹_› ?_|refine zZ ?_|refine yy ?_|refine yv ?_|refine zq ?_|((first|refine xw (by first|rfl|assumption) ?_|refine xx (by first|rfl|assumption) ?_);(conv=>whnf))|refine zY (fun Q hQ=>by (conv=>whnf);exact hQ) ?_|refine zj (fun Q hQ=>by (conv=>whnf);exact hQ) ?_|((first|refine zy ?_|refine zx ?_);(conv=>whnf)))
  refine LP.step mixed ?_
  repeat(first|((first|refine yw ?_|refine zX ?_);intro _ _)|(refine xy ?_;intro _ _;(conv=>whnf))|(refine zk ?_;intro _ _)|refine yz ?_|refine yj ‹_› ?_|refine zw ‹_› ?_|refine yx ‹_› ?_|refine yq ‹_› ?_|refine zZ ?_|refine yy ?_|refine yv ?_|refine zq ?_|((first|refine xw (by first|rfl|assumption) ?_|refine xx (by first|rfl|assumption) ?_);(conv=>whnf))|refine zY (fun Q hQ=>by (conv=>whnf);exact hQ) ?_|refine zj (fun Q hQ=>by (conv=>whnf);exact hQ) ?_|((first|refine zy ?_|refine zx ?_);(conv=>whnf)))
  conv=>whnf
  conv=>whnf
  rw [← hK]
  exact ⟨[],List.nodup_nil,by simp,.str _,trivial,trivial⟩
 ·intro e i
  generalize hK:Post _ _ _ _ _ _ _=K
  apply wy
  ·intro Q hQ
   conv=>whnf
   exact hQ
  apply wx
  ·intro Q hQ
   conv=>whnf
   exact hQ
  intro K0 hK0
  unfold codeOf
  conv=>arg 7;whnf
  repeat(first|((first|refine yw ?_|refine zX ?_);intro _ _)|(refine xy ?_;intro _ _;(conv=>whnf))|(refine zk ?_;intro _ _)|refine yz ?_|refine yj ‹_› ?_|refine zw ‹_› ?_|refine yx ‹_› ?_|refine yq ‹_› ?_|refine zZ ?_|refine yy ?_|refine yv ?_|refine zq ?_|((first|refine xw (by first|rfl|assumption) ?_|refine xx (by first|rfl|assumption) ?_);(conv=>whnf))|refine zY (fun Q hQ=>by (conv=>whnf);exact hQ) ?_|refine zj (fun Q hQ=>by (conv=>whnf);exact hQ) ?_|((first|refine zy ?_|refine zx ?_);(conv=>whnf)))
  refine LP.induct0 l.length (fun j E=>j ≤ l.length∧(∀ q ∈ l.take j,q.1 ≠ s)∧Fits E 0 [.slice ngl 0 l.length l.length 2 false,.str s,sl E 2,sl E 3,sl E 4,sl E 5,sl E 6,.slice ngl 0 l.length l.length 2 false,.int .i64 (.ofNat l.length),.int .i64 (.ofNat j),sl E 10,sl E 11,sl E 12,sl E 13,sl E 14,sl E 15,sl E 16,sl E 17,sl E 18,sl E 19]) ⟨Nat.zero_le _,by simp,⟨rfl,rfl,zz rfl,zz rfl,zz rfl,zz rfl,zz rfl,rfl,rfl,rfl,zz rfl,zz rfl,zz rfl,zz rfl,zz rfl,zz rfl,zz rfl,zz rfl,zz rfl,zz rfl,trivial⟩⟩ ?_
  intro j E ⟨hjl,hno,hf⟩ ih
  refine LP.tree hf (⟨some (.slice ngl 0 l.length l.length 2 false),⟨some (.str s),⟨some (sl E 5),z1,z1,z1,z1⟩,⟨some (.int .i64 (.ofNat j)),z1,z1,z1,z1⟩,⟨some (sl E 13),z1,z1,z1,z1⟩,⟨some (sl E 17),z1,z1,z1,z1⟩⟩,⟨some (sl E 2),⟨some (sl E 6),z1,z1,z1,z1⟩,⟨some (sl E 10),z1,z1,z1,z1⟩,⟨some (sl E 14),z1,z1,z1,z1⟩,⟨some (sl E 18),z1,z1,z1,z1⟩⟩,⟨some (sl E 3),⟨some (.slice ngl 0 l.length l.length 2 false),z1,z1,z1,z1⟩,⟨some (sl E 11),z1,z1,z1,z1⟩,⟨some (sl E 15),z1,z1,z1,z1⟩,⟨some (sl E 19),z1,z1,z1,z1⟩⟩,⟨some (sl E 4),⟨some (.int .i64 (.ofNat l.length)),z1,z1,z1,z1⟩,⟨some (sl E 12),z1,z1,z1,z1⟩,⟨some (sl E 16),z1,z1,z1,z1⟩,z2⟩⟩) (by kernel_rfl) (LP.gc' mixed fun _ _=>?_)
  clear hf
  repeat(first|((first|refine yw ?_|refine zX ?_);intro _ _)|(refine xy ?_;intro _ _;(conv=>whnf))|(refine zk ?_;intro _ _)|refine yz ?_|refine yj ‹_› ?_|refine zw ‹_› ?_|refine yx ‹_› ?_|refine yq ‹_› ?_|refine zZ ?_|refine yy ?_|refine yv ?_|refine zq ?_|((first|refine xw (by first|rfl|assumption) ?_|refine xx (by first|rfl|assumption) ?_);(conv=>whnf))|refine zY (fun Q hQ=>by (conv=>whnf);exact hQ) ?_|refine zj (fun Q hQ=>by (conv=>whnf);exact hQ) ?_|((first|refine zy ?_|refine zx ?_);(conv=>whnf)))
  refine fB_split (fun hb=>?_) (fun hb=>?_)
  ·have hlt:j < l.length:=by rw [ltI_eq] at hb;simpa using hb
   conv=>whnf
   repeat(first|((first|refine yw ?_|refine zX ?_);intro _ _)|(refine xy ?_;intro _ _;(conv=>whnf))|(refine zk ?_;intro _ _)|refine yz ?_|refine yj ‹_› ?_|refine zw ‹_› ?_|refine yx ‹_› ?_|refine yq ‹_› ?_|refine zZ ?_|refine yy ?_|refine yv ?_|refine zq ?_|((first|refine xw (by first|rfl|assumption) ?_|refine xx (by first|rfl|assumption) ?_);(conv=>whnf))|refine zY (fun Q hQ=>by (conv=>whnf);exact hQ) ?_|refine zj (fun Q hQ=>by (conv=>whnf);exact hQ) ?_|((first|refine zy ?_|refine zx ?_);(conv=>whnf)))
   refine bcase (fun _=>?_) (fun h=>absurd (h.symm.trans hb) (by simp))
   conv=>whnf
   repeat(first|((first|refine yw ?_|refine zX ?_);intro _ _)|(refine xy ?_;intro _ _;(conv=>whnf))|(refine zk ?_;intro _ _)|refine yz ?_|refine yj ‹_› ?_|refine zw ‹_› ?_|refine yx ‹_› ?_|refine yq ‹_› ?_|refine zZ ?_|refine yy ?_|refine yv ?_|refine zq ?_|((first|refine xw (by first|rfl|assumption) ?_|refine xx (by first|rfl|assumption) ?_);(conv=>whnf))|refine zY (fun Q hQ=>by (conv=>whnf);exact hQ) ?_|refine zj (fun Q hQ=>by (conv=>whnf);exact hQ) ?_|((first|refine zy ?_|refine zx ?_);(conv=>whnf)))
   refine partK_lab agg40 hi40 hs40 (j:=j) (List.getElem?_eq_getElem hlt) (show 0+j * 2=2 * j by omega) ?_
   conv=>whnf
   repeat(first|((first|refine yw ?_|refine zX ?_);intro _ _)|(refine xy ?_;intro _ _;(conv=>whnf))|(refine zk ?_;intro _ _)|refine yz ?_|refine yj ‹_› ?_|refine zw ‹_› ?_|refine yx ‹_› ?_|refine yq ‹_› ?_|refine zZ ?_|refine yy ?_|refine yv ?_|refine zq ?_|((first|refine xw (by first|rfl|assumption) ?_|refine xx (by first|rfl|assumption) ?_);(conv=>whnf))|refine zY (fun Q hQ=>by (conv=>whnf);exact hQ) ?_|refine zj (fun Q hQ=>by (conv=>whnf);exact hQ) ?_|((first|refine zy ?_|refine zx ?_);(conv=>whnf)))
   unfold yZ
   conv=>whnf
   repeat(first|((first|refine yw ?_|refine zX ?_);intro _ _)|(refine xy ?_;intro _ _;(conv=>whnf))|(refine zk ?_;intro _ _)|refine yz ?_|refine yj ‹_› ?_|refine zw ‹_› ?_|refine yx ‹_› ?_|refine yq ‹_› ?_|refine zZ ?_|refine yy ?_|refine yv ?_|refine zq ?_|((first|refine xw (by first|rfl|assumption) ?_|refine xx (by first|rfl|assumption) ?_);(conv=>whnf))|refine zY (fun Q hQ=>by (conv=>whnf);exact hQ) ?_|refine zj (fun Q hQ=>by (conv=>whnf);exact hQ) ?_|((first|refine zy ?_|refine zx ?_);(conv=>whnf)))
   refine fB_split (fun hb=>?_) (fun hb=>?_)
   ·rw [eqS_eq] at hb
    have hname:l[j].1=s:=eq_of_beq hb
    conv=>whnf
    repeat(first|((first|refine yw ?_|refine zX ?_);intro _ _)|(refine xy ?_;intro _ _;(conv=>whnf))|(refine zk ?_;intro _ _)|refine yz ?_|refine yj ‹_› ?_|refine zw ‹_› ?_|refine yx ‹_› ?_|refine yq ‹_› ?_|refine zZ ?_|refine yy ?_|refine yv ?_|refine zq ?_|((first|refine xw (by first|rfl|assumption) ?_|refine xx (by first|rfl|assumption) ?_);(conv=>whnf))|refine zY (fun Q hQ=>by (conv=>whnf);exact hQ) ?_|refine zj (fun Q hQ=>by (conv=>whnf);exact hQ) ?_|((first|refine zy ?_|refine zx ?_);(conv=>whnf)))
    unfold yZ
    conv=>whnf
    repeat(first|((first|refine yw ?_|refine zX ?_);intro _ _)|(refine xy ?_;intro _ _;(conv=>whnf))|(refine zk ?_;intro _ _)|refine yz ?_|refine yj ‹_› ?_|refine zw ‹_› ?_|refine yx ‹_› ?_|refine yq ‹_› ?_|refine zZ ?_|refine yy ?_|refine yv ?_|refine zq ?_|((first|refine xw (by first|rfl|assumption) ?_|refine xx (by first|rfl|assumption) ?_);(conv=>whnf))|refine zY (fun Q hQ=>by (conv=>whnf);exact hQ) ?_|refine zj (fun Q hQ=>by (conv=>whnf);exact hQ) ?_|((first|refine zy ?_|refine zx ?_);(conv=>whnf)))
    conv=>whnf
    rw [← hK,getL_at hlt hno hname]
    exact ⟨[],List.nodup_nil,by simp,.str _,trivial,trivial⟩
   ·rw [eqS_eq] at hb
    have hname:l[j].1 ≠ s:=fun h=>by rw [h] at hb;simp at hb
    conv=>whnf
    repeat(first|((first|refine yw ?_|refine zX ?_);intro _ _)|(refine xy ?_;intro _ _;(conv=>whnf))|(refine zk ?_;intro _ _)|refine yz ?_|refine yj ‹_› ?_|refine zw ‹_› ?_|refine yx ‹_› ?_|refine yq ‹_› ?_|refine zZ ?_|refine yy ?_|refine yv ?_|refine zq ?_|((first|refine xw (by first|rfl|assumption) ?_|refine xx (by first|rfl|assumption) ?_);(conv=>whnf))|refine zY (fun Q hQ=>by (conv=>whnf);exact hQ) ?_|refine zj (fun Q hQ=>by (conv=>whnf);exact hQ) ?_|((first|refine zy ?_|refine zx ?_);(conv=>whnf)))
    refine wq (j+1) rfl (by show j+1 ≤ 9223372036854775807;omega) ?_
    conv=>whnf
    repeat(first|((first|refine yw ?_|refine zX ?_);intro _ _)|(refine xy ?_;intro _ _;(conv=>whnf))|(refine zk ?_;intro _ _)|refine yz ?_|refine yj ‹_› ?_|refine zw ‹_› ?_|refine yx ‹_› ?_|refine yq ‹_› ?_|refine zZ ?_|refine yy ?_|refine yv ?_|refine zq ?_|((first|refine xw (by first|rfl|assumption) ?_|refine xx (by first|rfl|assumption) ?_);(conv=>whnf))|refine zY (fun Q hQ=>by (conv=>whnf);exact hQ) ?_|refine zj (fun Q hQ=>by (conv=>whnf);exact hQ) ?_|((first|refine zy ?_|refine zx ?_);(conv=>whnf)))
    refine ⟨_,⟨Nat.le_refl _,?_⟩,rfl,ih _ hlt ⟨by omega,fun q hq=>?_,⟨rfl,rfl,zz rfl,zz rfl,zz rfl,zz rfl,zz rfl,rfl,rfl,rfl,zz rfl,zz rfl,zz rfl,zz rfl,zz rfl,zz rfl,zz rfl,zz rfl,zz rfl,zz rfl,trivial⟩⟩⟩
    ·
     repeat' (first
      | exact trivial
      | exact Nat.le_of_ble_eq_true rfl
      | exact ⟨_,rfl,.cells (wv _) (.inl rfl)⟩
      | apply And.intro)
    ·rw [List.take_succ_eq_append_getElem hlt] at hq
     rcases List.mem_append.1 hq with hq|hq
     ·exact hno q hq
     ·simp at hq;rw [hq];exact hname
  ·have hge:l.length ≤ j:=by rw [ltI_eq] at hb;simpa using hb
   conv=>whnf
   repeat(first|((first|refine yw ?_|refine zX ?_);intro _ _)|(refine xy ?_;intro _ _;(conv=>whnf))|(refine zk ?_;intro _ _)|refine yz ?_|refine yj ‹_› ?_|refine zw ‹_› ?_|refine yx ‹_› ?_|refine yq ‹_› ?_|refine zZ ?_|refine yy ?_|refine yv ?_|refine zq ?_|((first|refine xw (by first|rfl|assumption) ?_|refine xx (by first|rfl|assumption) ?_);(conv=>whnf))|refine zY (fun Q hQ=>by (conv=>whnf);exact hQ) ?_|refine zj (fun Q hQ=>by (conv=>whnf);exact hQ) ?_|((first|refine zy ?_|refine zx ?_);(conv=>whnf)))
   conv=>whnf
   rw [← hK,getL_none (fun q hq=>hno q (by rw [List.take_of_length_le hge];exact hq))]
   exact ⟨[],List.nodup_nil,by simp,.str _,trivial,trivial⟩
end Go.Am
/- Names and values that the makers of samples make; label.one; closed calls. -/
namespace Go.Am
open Go.Proofs
set_option maxRecDepth 100000
attribute [local irreducible] fN fI fB yZ wrapK wk drOps rdsAll sl

def names04:List (List UInt8):=[[97],[98],[99],[106,111,98],[105,110,115,116,97,110,99,101],[95,95,110,97,109,101,95,95],[95,95,97,100,100,114,101,115,115,95,95],[95,95,109,101,116,97,95,120],[101,120,112,111,114,116,101,100,95,97],[101,120,112,111,114,116,101,100,95,98],[101,120,112,111,114,116,101,100,95,106,111,98],[101,120,112,111,114,116,101,100,95,101,120,112,111,114,116,101,100,95,97],[108,101],[65],[95],[120,57]]
def namesE:List (List UInt8):=[[101,120,112,111,114,116,101,100,95,97],[101,120,112,111,114,116,101,100,95,98],[101,120,112,111,114,116,101,100,95,99],[101,120,112,111,114,116,101,100,95,106,111,98],[101,120,112,111,114,116,101,100,95,105,110,115,116,97,110,99,101],[101,120,112,111,114,116,101,100,95,95,95,110,97,109,101,95,95],[101,120,112,111,114,116,101,100,95,95,95,97,100,100,114,101,115,115,95,95],[101,120,112,111,114,116,101,100,95,95,95,109,101,116,97,95,120],[101,120,112,111,114,116,101,100,95,101,120,112,111,114,116,101,100,95,97],[101,120,112,111,114,116,101,100,95,101,120,112,111,114,116,101,100,95,98],[101,120,112,111,114,116,101,100,95,101,120,112,111,114,116,101,100,95,106,111,98],[101,120,112,111,114,116,101,100,95,101,120,112,111,114,116,101,100,95,101,120,112,111,114,116,101,100,95,97],[101,120,112,111,114,116,101,100,95,108,101],[101,120,112,111,114,116,101,100,95,65],[101,120,112,111,114,116,101,100,95,95],[101,120,112,111,114,116,101,100,95,120,57]]
def namesX:List (List UInt8):=names04 ++ namesE
def vals04:List (List UInt8):=[[],[49],[50],[195,169],[117,112],[97,32,98],[10],[57]]
def mets:List (List UInt8):=[[117,112],[97],[104,116,116,112,95,116,111,116,97,108],[97,58,98],[120],[108,101],[95],[122,57]]
def valsX:List (List UInt8):=vals04 ++ mets
noncomputable def runs0 (n:Nat):Runs:=evAllH Tryz.prog xts (fun _=>none) (evDraw Tryz.prog) n
theorem runs0_ok (n:Nat):CallOk Tryz.prog (runs0 n).call:=(evAllH_ok xts_ok (fun _ _ h=>by cases h) (fun _ _ hc hd=>evDraw_ok mixed hc hd) n).1
/-- A call that is run to its end, and leaves the heap alone. -/
theorem RC.closed (n:Nat) {g:FuncId} {l:List V} {S:St} {v:V} {k:V→St→Prop} (h:∀ K:V→St→Prop,(runs0 n).call g l S K=K v S) (hk:k v S):RC Tryz.prog g l S k:=by
 have h1:(runs0 n).call g l S (fun r S'=>r=v∧S'=S):=by rw [h];exact ⟨rfl,rfl⟩
 obtain ⟨r,S',⟨rfl,rfl⟩,h2⟩:=runs0_ok n _ _ _ _ h1
 exact .mk _ _ h2 hk
theorem nameX {s:List UInt8} (h:s ∈ namesX) {S:St} {k:V→St→Prop} (hk:k (.bool true) S):RC Tryz.prog 54 [.str s] S k:=by
 refine RC.closed 90 (fun K=>?_) hk
 simp only [namesX,names04,namesE,List.cons_append,List.nil_append,List.mem_cons,List.mem_nil_iff,or_false] at h
 rcases h with rfl|rfl|rfl|rfl|rfl|rfl|rfl|rfl|rfl|rfl|rfl|rfl|rfl|rfl|rfl|rfl|rfl|rfl|rfl|rfl|rfl|rfl|rfl|rfl|rfl|rfl|rfl|rfl|rfl|rfl|rfl|rfl <;> kernel_rfl
theorem valX {s:List UInt8} (h:s ∈ valsX) {S:St} {k:V→St→Prop} (hk:k (.bool true) S):RC Tryz.prog 55 [.str s] S k:=by
 refine RC.closed 60 (fun K=>?_) hk
 simp only [valsX,vals04,mets,List.cons_append,List.nil_append,List.mem_cons,List.mem_nil_iff,or_false] at h
 rcases h with rfl|rfl|rfl|rfl|rfl|rfl|rfl|rfl|rfl|rfl|rfl|rfl|rfl|rfl|rfl|rfl <;> kernel_rfl
theorem metX {s:List UInt8} (h:s ∈ mets) {S:St} {k:V→St→Prop} (hk:k (.bool true) S):RC Tryz.prog 44 [.str s] S k:=by
 refine RC.closed 60 (fun K=>?_) hk
 simp only [mets,List.mem_cons,List.mem_nil_iff,or_false] at h
 rcases h with rfl|rfl|rfl|rfl|rfl|rfl|rfl|rfl <;> kernel_rfl
/-- That a name begins with two underscores. -/
noncomputable def hid (s:List UInt8):Bool:=match s with|a :: b :: _=>Nat.beq a.toNat 95 && Nat.beq b.toNat 95|_=>false
theorem hidX {s:List UInt8} (h:s ∈ namesX) {S:St} {k:V→St→Prop} (hk:k (.bool (hid s)) S):RC Tryz.prog 9 [.str s,.str [95,95]] S k:=by
 refine RC.closed 60 (fun K=>?_) hk
 simp only [namesX,names04,namesE,List.cons_append,List.nil_append,List.mem_cons,List.mem_nil_iff,or_false] at h
 rcases h with rfl|rfl|rfl|rfl|rfl|rfl|rfl|rfl|rfl|rfl|rfl|rfl|rfl|rfl|rfl|rfl|rfl|rfl|rfl|rfl|rfl|rfl|rfl|rfl|rfl|rfl|rfl|rfl|rfl|rfl|rfl|rfl <;> kernel_rfl

theorem f27:FnAt Tryz.prog 27 13 [.tmp 2] (codeOf Tryz.f27):=⟨Tryz.f27,by kernel_rfl,rfl,by kernel_rfl,by kernel_rfl,by kernel_rfl⟩

set_option maxHeartbeats 2000000 in
theorem one_run {q:Lab} (hn:q.1 ∈ namesX) (hv:q.2 ∈ valsX) {S:St} {k:V→St→Prop} (hk:k (.int .i64 0) S):RC Tryz.prog 27 [labV q] S k:=by
 refine RC.read mixed f27 (l:=[labV q]) [] [] [] [] (v2:=.int .i64 0) (by simp) rfl rfl (by simp) (by simp) (.cons (.agg (.cons (.str _) (.cons (.str _) .nil))) .nil) (by simp) ?_ hk
 generalize hK:Post _ _ _ _ _ _ _=K
 unfold labV
 apply wy
 ·intro Q hQ
  conv=>whnf
  exact hQ
 apply wx
 ·intro Q hQ
  conv=>whnf
  exact hQ
 intro K0 hK0
 unfold codeOf
 conv=>arg 7;whnf
 repeat(first|((first|refine yw ?_|refine zX ?_);intro _ _)|(refine xy ?_;intro _ _;(conv=>whnf))|(refine zk ?_;intro _ _)|refine yz ?_|refine yj ‹_› ?_|refine zw ‹_› ?_|refine yx ‹_› ?_|refine yq ‹_› ?_|refine zZ ?_|refine yy ?_|refine yv ?_|refine zq ?_|((first|refine xw (by first|rfl|assumption) ?_|refine xx (by first|rfl|assumption) ?_);(conv=>whnf))|refine zY (fun Q hQ=>by (conv=>whnf);exact hQ) ?_|refine zj (fun Q hQ=>by (conv=>whnf);exact hQ) ?_|((first|refine zy ?_|refine zx ?_);(conv=>whnf)))
 unfold yZ
 conv=>whnf
 repeat(first|((first|refine yw ?_|refine zX ?_);intro _ _)|(refine xy ?_;intro _ _;(conv=>whnf))|(refine zk ?_;intro _ _)|refine yz ?_|refine yj ‹_› ?_|refine zw ‹_› ?_|refine yx ‹_› ?_|refine yq ‹_› ?_|refine zZ ?_|refine yy ?_|refine yv ?_|refine zq ?_|((first|refine xw (by first|rfl|assumption) ?_|refine xx (by first|rfl|assumption) ?_);(conv=>whnf))|refine zY (fun Q hQ=>by (conv=>whnf);exact hQ) ?_|refine zj (fun Q hQ=>by (conv=>whnf);exact hQ) ?_|((first|refine zy ?_|refine zx ?_);(conv=>whnf)))
 refine nameX hn ?_
 conv=>whnf
 repeat(first|((first|refine yw ?_|refine zX ?_);intro _ _)|(refine xy ?_;intro _ _;(conv=>whnf))|(refine zk ?_;intro _ _)|refine yz ?_|refine yj ‹_› ?_|refine zw ‹_› ?_|refine yx ‹_› ?_|refine yq ‹_› ?_|refine zZ ?_|refine yy ?_|refine yv ?_|refine zq ?_|((first|refine xw (by first|rfl|assumption) ?_|refine xx (by first|rfl|assumption) ?_);(conv=>whnf))|refine zY (fun Q hQ=>by (conv=>whnf);exact hQ) ?_|refine zj (fun Q hQ=>by (conv=>whnf);exact hQ) ?_|((first|refine zy ?_|refine zx ?_);(conv=>whnf)))
 unfold yZ
 conv=>whnf
 repeat(first|((first|refine yw ?_|refine zX ?_);intro _ _)|(refine xy ?_;intro _ _;(conv=>whnf))|(refine zk ?_;intro _ _)|refine yz ?_|refine yj ‹_› ?_|refine zw ‹_› ?_|refine yx ‹_› ?_|refine yq ‹_› ?_|refine zZ ?_|refine yy ?_|refine yv ?_|refine zq ?_|((first|refine xw (by first|rfl|assumption) ?_|refine xx (by first|rfl|assumption) ?_);(conv=>whnf))|refine zY (fun Q hQ=>by (conv=>whnf);exact hQ) ?_|refine zj (fun Q hQ=>by (conv=>whnf);exact hQ) ?_|((first|refine zy ?_|refine zx ?_);(conv=>whnf)))
 refine valX hv ?_
 conv=>whnf
 repeat(first|((first|refine yw ?_|refine zX ?_);intro _ _)|(refine xy ?_;intro _ _;(conv=>whnf))|(refine zk ?_;intro _ _)|refine yz ?_|refine yj ‹_› ?_|refine zw ‹_› ?_|refine yx ‹_› ?_|refine yq ‹_› ?_|refine zZ ?_|refine yy ?_|refine yv ?_|refine zq ?_|((first|refine xw (by first|rfl|assumption) ?_|refine xx (by first|rfl|assumption) ?_);(conv=>whnf))|refine zY (fun Q hQ=>by (conv=>whnf);exact hQ) ?_|refine zj (fun Q hQ=>by (conv=>whnf);exact hQ) ?_|((first|refine zy ?_|refine zx ?_);(conv=>whnf)))
 conv=>whnf
 rw [← hK]
 exact ⟨[],List.nodup_nil,by simp,.int _ _,trivial,trivial⟩
end Go.Am
/- Right labels; label.Right. -/
namespace Go.Am
open Go.Proofs
set_option maxRecDepth 100000
attribute [local irreducible] fN fI fB yZ wrapK wk drOps rdsAll sl

/-- Right labels of the makers' names and values. -/
structure OkL (l:List Lab):Prop where
 name:∀ q ∈ l,q.1 ∈ namesX
 val:∀ q ∈ l,q.2 ∈ valsX
 full:∀ q ∈ l,q.2 ≠ []
 asc:l.Pairwise fun p q=>ltS p.1 q.1=true
theorem sub_length:∀ {a b:List (List UInt8)},a.Nodup→(∀ x ∈ a,x ∈ b)→a.length ≤ b.length
 | [],_,_,_=>Nat.zero_le _
 | x :: a,b,hn,hs=>by
   have hx:x ∈ b:=hs x (by simp)
   have hn':=List.nodup_cons.1 hn
   have:=sub_length (a:=a) (b:=b.erase x) hn'.2 fun y hy=>(List.mem_erase_of_ne (fun e=>hn'.1 (by rw [← e];exact hy))).2 (hs y (by simp [hy]))
   rw [List.length_erase_of_mem hx] at this
   have:0 < b.length:=List.length_pos_of_mem hx
   simp;omega
theorem OkL.nodup {l:List Lab} (h:OkL l):(l.map (·.1)).Nodup:=by
 rw [List.Nodup,List.pairwise_map]
 exact h.asc.imp fun h=>ltS_ne h
theorem OkL.few {l:List Lab} (h:OkL l):l.length ≤ 32:=by
 have:=sub_length h.nodup (b:=namesX) fun x hx=>by
  obtain ⟨q,hq,rfl⟩:=List.mem_map.1 hx
  exact h.name q hq
 have h2:namesX.length=32:=rfl
 rw [h2] at this
 simpa using this
theorem OkL.right {l:List Lab} (h:OkL l):RightL l where
 few:=Nat.le_trans h.few (by omega)
 one:=fun q hq S k hk=>one_run (h.name q hq) (h.val q hq) hk
 full:=h.full
 asc:=fun j hj=>List.pairwise_iff_getElem.1 h.asc j (j+1) (by omega) hj (by omega)
theorem OkL.lt {l:List Lab} (h:OkL l):l.length < 9223372036854775807:=by have:=h.few;omega
theorem LV.mk {S:St} {i c:Nat} {ex:Bool} {l:List Lab} {e:TypeId} {fl:Fl} (h:S.hs.get i=some (.cells (cellsOf l) e fl)) (hc:l.length ≤ c):LV S (.slice i 0 l.length c 2 ex) l :=
 .inr ⟨i,c,ex,[],e,fl,rfl,hc,by rw [List.append_nil];exact h⟩
theorem LV.nil (S:St):LV S .nilSlice []:=.inl ⟨rfl,rfl⟩
set_option maxHeartbeats 2000000 in
theorem check_nil {S:St} {k:V→St→Prop} (hk:k (.tup [.int .i64 (.negSucc 0),.int .i64 0]) S):RC Tryz.prog 60 [.nilSlice] S k:=by
 refine RC.read mixed f60 (l:=[.nilSlice]) [] [] [] [] (v2:=.tup [.int .i64 (.negSucc 0),.int .i64 0]) (by simp) rfl rfl (by simp) (by simp) (.cons .nilSlice .nil) (by simp) ?_ hk
 generalize hK:Post _ _ _ _ _ _ _=K
 apply wy
 ·intro Q hQ
  conv=>whnf
  exact hQ
 apply wx
 ·intro Q hQ
  conv=>whnf
  exact hQ
 intro K0 hK0
 unfold codeOf
 conv=>arg 7;whnf
 repeat(first|((first|refine yw ?_|refine zX ?_);intro _ _)|(refine xy ?_;intro _ _;(conv=>whnf))|(refine zk ?_;intro _ _)|refine yz ?_|refine yj ‹_› ?_|refine zw ‹_› ?_|refine yx ‹_› ?_|refine yq ‹_› ?_|refine zZ ?_|refine yy ?_|refine yv ?_|refine zq ?_|((first|refine xw (by first|rfl|assumption) ?_|refine xx (by first|rfl|assumption) ?_);(conv=>whnf))|refine zY (fun Q hQ=>by (conv=>whnf);exact hQ) ?_|refine zj (fun Q hQ=>by (conv=>whnf);exact hQ) ?_|((first|refine zy ?_|refine zx ?_);(conv=>whnf)))
 refine LP.step mixed ?_
 repeat(first|((first|refine yw ?_|refine zX ?_);intro _ _)|(refine xy ?_;intro _ _;(conv=>whnf))|(refine zk ?_;intro _ _)|refine yz ?_|refine yj ‹_› ?_|refine zw ‹_› ?_|refine yx ‹_› ?_|refine yq ‹_› ?_|refine zZ ?_|refine yy ?_|refine yv ?_|refine zq ?_|((first|refine xw (by first|rfl|assumption) ?_|refine xx (by first|rfl|assumption) ?_);(conv=>whnf))|refine zY (fun Q hQ=>by (conv=>whnf);exact hQ) ?_|refine zj (fun Q hQ=>by (conv=>whnf);exact hQ) ?_|((first|refine zy ?_|refine zx ?_);(conv=>whnf)))
 conv=>whnf
 rw [← hK]
 exact ⟨[],List.nodup_nil,by simp,.tup (.cons (.int _ _) (.cons (.int _ _) .nil)),trivial,trivial⟩
theorem check_LV {l:List Lab} {v:V} {S:St} (h:LV S v l) (ok:OkL l) {k:V→St→Prop} (hk:k (.tup [.int .i64 (.negSucc 0),.int .i64 0]) S):RC Tryz.prog 60 [v] S k:=by
 rcases h with ⟨rfl,rfl⟩|⟨i,cap,ex,rest,e,fl,rfl,hc,hrow⟩
 ·exact check_nil hk
 ·exact check_run i cap ex l rest ok.right fl e hrow hc hk

theorem f35:FnAt Tryz.prog 35 12 [.tmp 2] (codeOf Tryz.f35):=⟨Tryz.f35,by kernel_rfl,rfl,by kernel_rfl,by kernel_rfl,by kernel_rfl⟩

set_option maxHeartbeats 2000000 in
theorem right_run {l:List Lab} {v:V} {S:St} (h:LV S v l) (ok:OkL l) {k:V→St→Prop} (hk:k (.bool true) S):RC Tryz.prog 35 [v] S k:=by
 refine RC.lab mixed f35 h (fun _=>.nil) [] (by simp) (v2:=.bool true) ?_ ?_ hk
 ·rintro rfl
  generalize hK:Post _ _ _ _ _ _ _=K
  apply wy
  ·intro Q hQ
   conv=>whnf
   exact hQ
  apply wx
  ·intro Q hQ
   conv=>whnf
   exact hQ
  intro K0 hK0
  unfold codeOf
  conv=>arg 7;whnf
  repeat(first|((first|refine yw ?_|refine zX ?_);intro _ _)|(refine xy ?_;intro _ _;(conv=>whnf))|(refine zk ?_;intro _ _)|refine yz ?_|refine yj ‹_› ?_|refine zw ‹_› ?_|refine yx ‹_› ?_|refine yq ‹_› ?_|refine zZ ?_|refine yy ?_|refine yv ?_|refine zq ?_|((first|refine xw (by first|rfl|assumption) ?_|refine xx (by first|rfl|assumption) ?_);(conv=>whnf))|refine zY (fun Q hQ=>by (conv=>whnf);exact hQ) ?_|refine zj (fun Q hQ=>by (conv=>whnf);exact hQ) ?_|((first|refine zy ?_|refine zx ?_);(conv=>whnf)))
  refine check_nil ?_
  conv=>whnf
  repeat(first|((first|refine yw ?_|refine zX ?_);intro _ _)|(refine xy ?_;intro _ _;(conv=>whnf))|(refine zk ?_;intro _ _)|refine yz ?_|refine yj ‹_› ?_|refine zw ‹_› ?_|refine yx ‹_› ?_|refine yq ‹_› ?_|refine zZ ?_|refine yy ?_|refine yv ?_|refine zq ?_|((first|refine xw (by first|rfl|assumption) ?_|refine xx (by first|rfl|assumption) ?_);(conv=>whnf))|refine zY (fun Q hQ=>by (conv=>whnf);exact hQ) ?_|refine zj (fun Q hQ=>by (conv=>whnf);exact hQ) ?_|((first|refine zy ?_|refine zx ?_);(conv=>whnf)))
  conv=>whnf
  rw [← hK]
  exact ⟨[],List.nodup_nil,by simp,.bool _,trivial,trivial⟩
 ·intro e i
  generalize hK:Post _ _ _ _ _ _ _=K
  apply wy
  ·intro Q hQ
   conv=>whnf
   exact hQ
  apply wx
  ·intro Q hQ
   conv=>whnf
   exact hQ
  intro K0 hK0
  unfold codeOf
  conv=>arg 7;whnf
  repeat(first|((first|refine yw ?_|refine zX ?_);intro _ _)|(refine xy ?_;intro _ _;(conv=>whnf))|(refine zk ?_;intro _ _)|refine yz ?_|refine yj ‹_› ?_|refine zw ‹_› ?_|refine yx ‹_› ?_|refine yq ‹_› ?_|refine zZ ?_|refine yy ?_|refine yv ?_|refine zq ?_|((first|refine xw (by first|rfl|assumption) ?_|refine xx (by first|rfl|assumption) ?_);(conv=>whnf))|refine zY (fun Q hQ=>by (conv=>whnf);exact hQ) ?_|refine zj (fun Q hQ=>by (conv=>whnf);exact hQ) ?_|((first|refine zy ?_|refine zx ?_);(conv=>whnf)))
  refine check_LV (LV.mk (e:=e) (fl:=.ro) rfl (Nat.le_refl _)) ok ?_
  conv=>whnf
  repeat(first|((first|refine yw ?_|refine zX ?_);intro _ _)|(refine xy ?_;intro _ _;(conv=>whnf))|(refine zk ?_;intro _ _)|refine yz ?_|refine yj ‹_› ?_|refine zw ‹_› ?_|refine yx ‹_› ?_|refine yq ‹_› ?_|refine zZ ?_|refine yy ?_|refine yv ?_|refine zq ?_|((first|refine xw (by first|rfl|assumption) ?_|refine xx (by first|rfl|assumption) ?_);(conv=>whnf))|refine zY (fun Q hQ=>by (conv=>whnf);exact hQ) ?_|refine zj (fun Q hQ=>by (conv=>whnf);exact hQ) ?_|((first|refine zy ?_|refine zx ?_);(conv=>whnf)))
  conv=>whnf
  rw [← hK]
  exact ⟨[],List.nodup_nil,by simp,.bool _,trivial,trivial⟩
end Go.Am
/- Tables of labels, as maps hold them. -/
namespace Go.Am

/-- A table: labels and their stamps. -/
abbrev Tab:=List (Lab × Nat)
def ents (t:Tab):List (V × V × Nat):=t.map fun x=>(.str x.1.1,labV x.1,x.2)
/-- The label put where its name stands. -/
def setT (q:Lab):Tab→Option Tab
 | []=>none
 | x :: t=>if x.1.1=q.1 then some ((q,x.2) :: t) else (setT q t).map (x :: ·)
def putT (x:Tab × Nat) (q:Lab):Tab × Nat:=match setT q x.1 with
 | some t=>(t,x.2)
 | none=>(x.1 ++ [(q,x.2)],x.2+1)
theorem findK_cons (s:List UInt8) (x:Lab × Nat) (t:Tab) (n:Nat):findK 1 (.str s) (ents (x :: t)) n=if x.1.1=s then some (some (n,labV x.1)) else findK 1 (.str s) (ents t) (n+1):=by
 show Bool.rec (motive:=fun _=>Option (Option (Nat × V))) (findK 1 (.str s) (ents t) (n+1)) (some (some (n,labV x.1))) (eqS s x.1.1)=_
 rw [eqS_eq]
 by_cases h:x.1.1=s
 ·rw [if_pos h,h];simp
 ·rw [if_neg h]
  have:(s == x.1.1)=false:=by simpa using fun e=>h e.symm
  rw [this]
theorem find_none {q:Lab}:∀ {t:Tab} {n:Nat},setT q t=none→findK 1 (.str q.1) (ents t) n=some none
 | [],_,_=>rfl
 | x :: t,n,h=>by
   unfold setT at h
   by_cases hx:x.1.1=q.1
   ·rw [if_pos hx] at h;cases h
   ·rw [if_neg hx] at h
    rw [findK_cons,if_neg hx]
    exact find_none (by simpa using h)
theorem find_some {q:Lab}:∀ {t t':Tab} {n:Nat},setT q t=some t'→∃ (i:Nat) (v:V) (e:V × V × Nat),findK 1 (.str q.1) (ents t) n=some (some (n+i,v))∧(ents t)[i]?=some e∧ents t'=(ents t).set i (.str q.1,labV q,e.2.2)
 | [],_,_,h=>by cases h
 | x :: t,t',n,h=>by
   unfold setT at h
   by_cases hx:x.1.1=q.1
   ·rw [if_pos hx] at h
    cases h
    exact ⟨0,labV x.1,(.str x.1.1,labV x.1,x.2),by rw [findK_cons,if_pos hx];rfl,rfl,rfl⟩
   ·rw [if_neg hx] at h
    cases ht:setT q t with
    | none=>rw [ht] at h;cases h
    | some t1 =>
      rw [ht] at h
      cases h
      obtain ⟨i,v,e,h1,h2,h3⟩:=find_some (n:=n+1) ht
      exact ⟨i+1,v,e,by rw [findK_cons,if_neg hx,h1];congr 3;omega,by simpa [ents] using h2,by simp only [ents,List.map_cons,List.set_cons_succ] at h3 ⊢;rw [h3]⟩
theorem appK_intro {α:Type} {m:List α}:∀ {l:List α} {k:List α→Prop},k (l ++ m)→appK l m k
 | [],k,h=>h
 | x :: l,k,h=>by
   show appK l m fun r=>k (x :: r)
   exact appK_intro (l:=l) (k:=fun r=>k (x :: r)) h
theorem upd_intro {α:Type} {x:α}:∀ {l:List α} {n:Nat} {k:List α→Prop},n < l.length→k (l.set n x)→upd x l n k
 | [],n,k,h,_=>by simp at h
 | y :: l,0,k,_,h=>h
 | y :: l,n+1,k,hn,h=>by
   show upd x l n fun l=>k (y :: l)
   exact upd_intro (by simpa using hn) h
/-- What a table's update comes to. -/
theorem mapUp {q:Lab} {t:Tab} {c id:Nat} {S:St} {K:St→Prop} (h:putK id (some (.map (ents (putT (t,c) q).1) (putT (t,c) q).2)) S K) :
  Option.rec (motive:=fun _=>Prop) False (fun r=>Option.rec (motive:=fun _=>Prop) (appK (ents t) [(.str q.1,labV q,c)] fun es=>putK id (some (.map es (Nat.succ c))) S fun S=>K S)
   (fun r=>Option.rec (motive:=fun _=>Prop) False (fun e=>upd (.str q.1,labV q,e.2.2) (ents t) r.1 fun es=>putK id (some (.map es c)) S fun S=>K S) (nth (ents t) r.1)) r) (findK 1 (.str q.1) (ents t) 0):=by
 unfold putT at h
 cases hs:setT q t with
 | none =>
   rw [find_none hs]
   rw [hs] at h
   refine appK_intro ?_
   have e:ents t ++ [(V.str q.1,labV q,c)]=ents (t ++ [(q,c)]):=by simp [ents]
   rw [e];exact h
 | some t' =>
   obtain ⟨i,v,e,h1,h2,h3⟩:=find_some (n:=0) hs
   rw [h1]
   rw [hs] at h
   show Option.rec (motive:=fun _=>Prop) False _ (nth (ents t) (0+i))
   rw [Nat.zero_add,nth_eq,h2]
   have hi:i < (ents t).length:=(List.getElem?_eq_some_iff.1 h2).1
   refine upd_intro hi ?_
   rw [← h3];exact h
/-- A small heap, by its objects. -/
noncomputable def T.ins (x:O) (n:Nat) (t:T O):T O:=T.set (some x) deep n t (fun t=>t) t
noncomputable def mkS (l:List (Nat × O)) (n:Nat):St:=⟨List.rec (motive:=fun _=>T O) .nil (fun q _ ih=>T.ins q.2 q.1 ih) l,n⟩
theorem VIs_self_lab {R:Nat→Nat→Prop} (q:Lab):VI R (labV q) (labV q):=.agg (.cons (.str _) (.cons (.str _) .nil))
theorem EI_ents {R:Nat→Nat→Prop}:∀ t:Tab,EI R (ents t) (ents t)
 | []=>.nil
 | x :: t=>.cons (.str _) (VIs_self_lab x.1) (EI_ents t)
end Go.Am
/- (label.table).put. -/
namespace Go.Am
open Go.Proofs
set_option maxRecDepth 100000
attribute [local irreducible] fN fI fB yZ wrapK wk drOps rdsAll sl

theorem f36:FnAt Tryz.prog 36 23 [] (codeOf Tryz.f36):=⟨Tryz.f36,by kernel_rfl,rfl,by kernel_rfl,by kernel_rfl,by kernel_rfl⟩

set_option maxHeartbeats 2000000 in
theorem put_run {l:List Lab} {v:V} {S:St} (h:LV S v l) (hlen:l.length < 9223372036854775807) (hfull:∀ q ∈ l,q.2 ≠ []) {m:Nat} {t:Tab} {c:Nat} (hm:S.hs.get m=some (.map (ents t) c)) {k:V→St→Prop}
  (hk:putK m (some (.map (ents (l.foldl putT (t,c)).1) (l.foldl putT (t,c)).2)) S fun S=>k (.tup []) S):RC Tryz.prog 36 [.map m,v] S k:=by
 obtain ⟨i40,hi40,hs40⟩:=info40
 rcases h with ⟨rfl,rfl⟩|⟨i,cap,ex,rest,e,fl,rfl,hc,hrow⟩
 ·refine RC.small mixed f36 (l:=[.map ngl,.nilSlice]) 0 [m] [.map (ents t) c] [.map (ents t) c] [.map (ents t) c] [] (v2:=.tup []) ?_ (by simp) rfl rfl rfl ?_ ?_ (.cons (.map (Rin.at (a:=0) rfl (by simp))) (.cons .nilSlice .nil)) ?_ (by simp) ?_ hk
  ·rintro (_|a) (_|b) x _ h1 h2 <;> simp at h1 h2 ⊢
  ·rintro (_|a) j o h1 h2
   ·simp at h1 h2;subst h1;subst h2;exact hm
   ·simp at h1
  ·rintro (_|a) o1 o2 h1 h2
   ·simp at h1 h2;subst h1;subst h2;exact .map (EI_ents t)
   ·simp at h1
  ·rintro (_|a) o h
   ·simp at h;subst h;rfl
   ·simp at h
  ·generalize hK:Post _ _ _ _ _ _ _=K
   apply wy
   ·intro Q hQ
    conv=>whnf
    exact hQ
   apply wx
   ·intro Q hQ
    conv=>whnf
    exact hQ
   intro K0 hK0
   unfold codeOf
   conv=>arg 7;whnf
   repeat(first|((first|refine yw ?_|refine zX ?_);intro _ _)|(refine xy ?_;intro _ _;(conv=>whnf))|(refine zk ?_;intro _ _)|refine yz ?_|refine yj ‹_› ?_|refine zw ‹_› ?_|refine yx ‹_› ?_|refine yq ‹_› ?_|refine zZ ?_|refine yy ?_|refine yv ?_|refine zq ?_|((first|refine xw (by first|rfl|assumption) ?_|refine xx (by first|rfl|assumption) ?_);(conv=>whnf))|refine zY (fun Q hQ=>by (conv=>whnf);exact hQ) ?_|refine zj (fun Q hQ=>by (conv=>whnf);exact hQ) ?_|((first|refine zy ?_|refine zx ?_);(conv=>whnf)))
   refine LP.step mixed ?_
   repeat(first|((first|refine yw ?_|refine zX ?_);intro _ _)|(refine xy ?_;intro _ _;(conv=>whnf))|(refine zk ?_;intro _ _)|refine yz ?_|refine yj ‹_› ?_|refine zw ‹_› ?_|refine yx ‹_› ?_|refine yq ‹_› ?_|refine zZ ?_|refine yy ?_|refine yv ?_|refine zq ?_|((first|refine xw (by first|rfl|assumption) ?_|refine xx (by first|rfl|assumption) ?_);(conv=>whnf))|refine zY (fun Q hQ=>by (conv=>whnf);exact hQ) ?_|refine zj (fun Q hQ=>by (conv=>whnf);exact hQ) ?_|((first|refine zy ?_|refine zx ?_);(conv=>whnf)))
   conv=>whnf
   rw [← hK]
   exact ⟨[],List.nodup_nil,by simp,.tup .nil,⟨⟨_,rfl,.map (EI_ents t)⟩,trivial⟩,trivial⟩
 ·refine RC.small mixed f36 (l:=[.map (ngl+1),.slice ngl 0 l.length l.length 2 false]) 1 [i,m] [.cells (cellsOf l ++ rest) e fl,.map (ents t) c] [.cells (cellsOf l) e .ro,.map (ents t) c] [.map (ents (l.foldl putT (t,c)).1) (l.foldl putT (t,c)).2] [] (v2:=.tup []) ?_ ?_ rfl rfl rfl ?_ ?_
   (.cons (.map (Rin.at (a:=1) rfl (by simp))) (.cons (.slice _ _ _ _ _ _ _ (Rin.at (a:=0) rfl (by simp)) (.inr (Nat.le_refl _)) hc (by simp)) .nil)) ?_ (by simp) ?_ hk
  ·have hne:i ≠ m:=fun e=>by rw [e,hm] at hrow;cases hrow
   rintro (_|_|a) (_|_|b) x h0 h1 h2 <;> simp at h0 h1 h2 ⊢
   exact hne (h2.trans h1.symm)
  ·rintro (_|a) o h1 h2
   ·simp at h2;subst h2;rfl
   ·omega
  ·rintro (_|_|a) j o h1 h2
   ·simp at h1 h2;subst h1;subst h2;exact hrow
   ·simp at h1 h2;subst h1;subst h2;exact hm
   ·simp at h1
  ·rintro (_|_|a) o1 o2 h1 h2
   ·simp at h1 h2;subst h1;subst h2;exact .part (wv l)
   ·simp at h1 h2;subst h1;subst h2;exact .map (EI_ents t)
   ·simp at h1
  ·rintro (_|a) o h
   ·simp at h;subst h;rfl
   ·simp at h
  ·generalize hK:Post _ _ _ _ _ _ _=K
   apply wy
   ·intro Q hQ
    conv=>whnf
    exact hQ
   apply wx
   ·intro Q hQ
    conv=>whnf
    exact hQ
   intro K0 hK0
   unfold codeOf
   conv=>arg 7;whnf
   repeat(first|((first|refine yw ?_|refine zX ?_);intro _ _)|(refine xy ?_;intro _ _;(conv=>whnf))|(refine zk ?_;intro _ _)|refine yz ?_|refine yj ‹_› ?_|refine zw ‹_› ?_|refine yx ‹_› ?_|refine yq ‹_› ?_|refine zZ ?_|refine yy ?_|refine yv ?_|refine zq ?_|((first|refine xw (by first|rfl|assumption) ?_|refine xx (by first|rfl|assumption) ?_);(conv=>whnf))|refine zY (fun Q hQ=>by (conv=>whnf);exact hQ) ?_|refine zj (fun Q hQ=>by (conv=>whnf);exact hQ) ?_|((first|refine zy ?_|refine zx ?_);(conv=>whnf)))
   refine LP.induct l.length (fun j E S'=>j ≤ l.length∧S'=mkS [(ngl,.cells (cellsOf l) e .ro),(ngl+1,.map (ents ((l.take j).foldl putT (t,c)).1) ((l.take j).foldl putT (t,c)).2)] (ngl+2)∧Fits E 0 [.map (ngl+1),.slice ngl 0 l.length l.length 2 false,sl E 2,sl E 3,sl E 4,sl E 5,.slice ngl 0 l.length l.length 2 false,.int .i64 (.ofNat l.length),.int .i64 (.ofNat j),sl E 9,sl E 10,sl E 11,sl E 12,sl E 13,sl E 14,sl E 15,sl E 16,sl E 17,sl E 18,sl E 19,sl E 20,sl E 21,sl E 22]) ⟨Nat.zero_le _,by kernel_rfl,⟨rfl,rfl,zz rfl,zz rfl,zz rfl,zz rfl,rfl,rfl,rfl,zz rfl,zz rfl,zz rfl,zz rfl,zz rfl,zz rfl,zz rfl,zz rfl,zz rfl,zz rfl,zz rfl,zz rfl,zz rfl,zz rfl,trivial⟩⟩ ?_
   intro j E S' ⟨hjl,hS',hf⟩ ih
   subst hS'
   refine LP.tree hf (⟨some (.map (ngl+1)),⟨some (.slice ngl 0 l.length l.length 2 false),⟨some (sl E 5),⟨some (sl E 21),z0,z0,z0,z0⟩,z1,z1,z1⟩,⟨some (sl E 9),z1,z1,z1,z1⟩,⟨some (sl E 13),z1,z1,z1,z1⟩,⟨some (sl E 17),z1,z1,z1,z1⟩⟩,⟨some (sl E 2),⟨some (.slice ngl 0 l.length l.length 2 false),⟨some (sl E 22),z0,z0,z0,z0⟩,z1,z1,z1⟩,⟨some (sl E 10),z1,z1,z1,z1⟩,⟨some (sl E 14),z1,z1,z1,z1⟩,⟨some (sl E 18),z1,z1,z1,z1⟩⟩,⟨some (sl E 3),⟨some (.int .i64 (.ofNat l.length)),z1,z1,z1,z1⟩,⟨some (sl E 11),z1,z1,z1,z1⟩,⟨some (sl E 15),z1,z1,z1,z1⟩,⟨some (sl E 19),z1,z1,z1,z1⟩⟩,⟨some (sl E 4),⟨some (.int .i64 (.ofNat j)),z1,z1,z1,z1⟩,⟨some (sl E 12),z1,z1,z1,z1⟩,⟨some (sl E 16),z1,z1,z1,z1⟩,⟨some (sl E 20),z1,z1,z1,z1⟩⟩⟩) (by kernel_rfl) (LP.gc' mixed fun _ _=>?_)
   clear hf
   repeat(first|((first|refine yw ?_|refine zX ?_);intro _ _)|(refine xy ?_;intro _ _;(conv=>whnf))|(refine zk ?_;intro _ _)|refine yz ?_|refine yj ‹_› ?_|refine zw ‹_› ?_|refine yx ‹_› ?_|refine yq ‹_› ?_|refine zZ ?_|refine yy ?_|refine yv ?_|refine zq ?_|((first|refine xw (by first|rfl|assumption) ?_|refine xx (by first|rfl|assumption) ?_);(conv=>whnf))|refine zY (fun Q hQ=>by (conv=>whnf);exact hQ) ?_|refine zj (fun Q hQ=>by (conv=>whnf);exact hQ) ?_|((first|refine zy ?_|refine zx ?_);(conv=>whnf)))
   refine fB_split (fun hb=>?_) (fun hb=>?_)
   ·have hlt:j < l.length:=by rw [ltI_eq] at hb;simpa using hb
    have hv:eqS l[j].2 []=false:=eqS_ne (hfull l[j] (List.getElem_mem hlt))
    conv=>whnf
    repeat(first|((first|refine yw ?_|refine zX ?_);intro _ _)|(refine xy ?_;intro _ _;(conv=>whnf))|(refine zk ?_;intro _ _)|refine yz ?_|refine yj ‹_› ?_|refine zw ‹_› ?_|refine yx ‹_› ?_|refine yq ‹_› ?_|refine zZ ?_|refine yy ?_|refine yv ?_|refine zq ?_|((first|refine xw (by first|rfl|assumption) ?_|refine xx (by first|rfl|assumption) ?_);(conv=>whnf))|refine zY (fun Q hQ=>by (conv=>whnf);exact hQ) ?_|refine zj (fun Q hQ=>by (conv=>whnf);exact hQ) ?_|((first|refine zy ?_|refine zx ?_);(conv=>whnf)))
    refine bcase (fun _=>?_) (fun h=>absurd (h.symm.trans hb) (by simp))
    conv=>whnf
    repeat(first|((first|refine yw ?_|refine zX ?_);intro _ _)|(refine xy ?_;intro _ _;(conv=>whnf))|(refine zk ?_;intro _ _)|refine yz ?_|refine yj ‹_› ?_|refine zw ‹_› ?_|refine yx ‹_› ?_|refine yq ‹_› ?_|refine zZ ?_|refine yy ?_|refine yv ?_|refine zq ?_|((first|refine xw (by first|rfl|assumption) ?_|refine xx (by first|rfl|assumption) ?_);(conv=>whnf))|refine zY (fun Q hQ=>by (conv=>whnf);exact hQ) ?_|refine zj (fun Q hQ=>by (conv=>whnf);exact hQ) ?_|((first|refine zy ?_|refine zx ?_);(conv=>whnf)))
    refine partK_lab agg40 hi40 hs40 (j:=j) (List.getElem?_eq_getElem hlt) (show 0+j * 2=2 * j by omega) ?_
    conv=>whnf
    repeat(first|((first|refine yw ?_|refine zX ?_);intro _ _)|(refine xy ?_;intro _ _;(conv=>whnf))|(refine zk ?_;intro _ _)|refine yz ?_|refine yj ‹_› ?_|refine zw ‹_› ?_|refine yx ‹_› ?_|refine yq ‹_› ?_|refine zZ ?_|refine yy ?_|refine yv ?_|refine zq ?_|((first|refine xw (by first|rfl|assumption) ?_|refine xx (by first|rfl|assumption) ?_);(conv=>whnf))|refine zY (fun Q hQ=>by (conv=>whnf);exact hQ) ?_|refine zj (fun Q hQ=>by (conv=>whnf);exact hQ) ?_|((first|refine zy ?_|refine zx ?_);(conv=>whnf)))
    unfold yZ
    conv=>whnf
    repeat(first|((first|refine yw ?_|refine zX ?_);intro _ _)|(refine xy ?_;intro _ _;(conv=>whnf))|(refine zk ?_;intro _ _)|refine yz ?_|refine yj ‹_› ?_|refine zw ‹_› ?_|refine yx ‹_› ?_|refine yq ‹_› ?_|refine zZ ?_|refine yy ?_|refine yv ?_|refine zq ?_|((first|refine xw (by first|rfl|assumption) ?_|refine xx (by first|rfl|assumption) ?_);(conv=>whnf))|refine zY (fun Q hQ=>by (conv=>whnf);exact hQ) ?_|refine zj (fun Q hQ=>by (conv=>whnf);exact hQ) ?_|((first|refine zy ?_|refine zx ?_);(conv=>whnf)))
    unfold yZ
    conv=>whnf
    repeat(first|((first|refine yw ?_|refine zX ?_);intro _ _)|(refine xy ?_;intro _ _;(conv=>whnf))|(refine zk ?_;intro _ _)|refine yz ?_|refine yj ‹_› ?_|refine zw ‹_› ?_|refine yx ‹_› ?_|refine yq ‹_› ?_|refine zZ ?_|refine yy ?_|refine yv ?_|refine zq ?_|((first|refine xw (by first|rfl|assumption) ?_|refine xx (by first|rfl|assumption) ?_);(conv=>whnf))|refine zY (fun Q hQ=>by (conv=>whnf);exact hQ) ?_|refine zj (fun Q hQ=>by (conv=>whnf);exact hQ) ?_|((first|refine zy ?_|refine zx ?_);(conv=>whnf)))
    unfold yZ
    conv=>whnf
    repeat(first|((first|refine yw ?_|refine zX ?_);intro _ _)|(refine xy ?_;intro _ _;(conv=>whnf))|(refine zk ?_;intro _ _)|refine yz ?_|refine yj ‹_› ?_|refine zw ‹_› ?_|refine yx ‹_› ?_|refine yq ‹_› ?_|refine zZ ?_|refine yy ?_|refine yv ?_|refine zq ?_|((first|refine xw (by first|rfl|assumption) ?_|refine xx (by first|rfl|assumption) ?_);(conv=>whnf))|refine zY (fun Q hQ=>by (conv=>whnf);exact hQ) ?_|refine zj (fun Q hQ=>by (conv=>whnf);exact hQ) ?_|((first|refine zy ?_|refine zx ?_);(conv=>whnf)))
    refine mapUp (q:=l[j]) ?_
    conv=>whnf
    repeat(first|((first|refine yw ?_|refine zX ?_);intro _ _)|(refine xy ?_;intro _ _;(conv=>whnf))|(refine zk ?_;intro _ _)|refine yz ?_|refine yj ‹_› ?_|refine zw ‹_› ?_|refine yx ‹_› ?_|refine yq ‹_› ?_|refine zZ ?_|refine yy ?_|refine yv ?_|refine zq ?_|((first|refine xw (by first|rfl|assumption) ?_|refine xx (by first|rfl|assumption) ?_);(conv=>whnf))|refine zY (fun Q hQ=>by (conv=>whnf);exact hQ) ?_|refine zj (fun Q hQ=>by (conv=>whnf);exact hQ) ?_|((first|refine zy ?_|refine zx ?_);(conv=>whnf)))
    refine wq (j+1) rfl (by show j+1 ≤ 9223372036854775807;omega) ?_
    conv=>whnf
    repeat(first|((first|refine yw ?_|refine zX ?_);intro _ _)|(refine xy ?_;intro _ _;(conv=>whnf))|(refine zk ?_;intro _ _)|refine yz ?_|refine yj ‹_› ?_|refine zw ‹_› ?_|refine yx ‹_› ?_|refine yq ‹_› ?_|refine zZ ?_|refine yy ?_|refine yv ?_|refine zq ?_|((first|refine xw (by first|rfl|assumption) ?_|refine xx (by first|rfl|assumption) ?_);(conv=>whnf))|refine zY (fun Q hQ=>by (conv=>whnf);exact hQ) ?_|refine zj (fun Q hQ=>by (conv=>whnf);exact hQ) ?_|((first|refine zy ?_|refine zx ?_);(conv=>whnf)))
    have htk:(l.take (j+1)).foldl putT (t,c)=putT ((l.take j).foldl putT (t,c)) l[j]:=by
     rw [List.take_succ_eq_append_getElem hlt,List.foldl_append];rfl
    refine ⟨mkS [(ngl,.cells (cellsOf l) e .ro),(ngl+1,.map (ents ((l.take (j+1)).foldl putT (t,c)).1) ((l.take (j+1)).foldl putT (t,c)).2)] (ngl+2),⟨Nat.le_refl _,?_⟩,rfl,ih _ _ hlt ⟨by omega,rfl,⟨rfl,rfl,zz rfl,zz rfl,zz rfl,zz rfl,rfl,rfl,rfl,zz rfl,zz rfl,zz rfl,zz rfl,zz rfl,zz rfl,zz rfl,zz rfl,zz rfl,zz rfl,zz rfl,zz rfl,zz rfl,zz rfl,trivial⟩⟩⟩
    repeat' (first
     | exact trivial
     | exact Nat.le_of_ble_eq_true rfl
     | exact ⟨_,rfl,.cells (wv _) (.inl rfl)⟩
     | exact ⟨_,rfl,by rw [htk];exact .map (EI_ents _)⟩
     | apply And.intro)
   ·have hge:l.length ≤ j:=by rw [ltI_eq] at hb;simpa using hb
    conv=>whnf
    repeat(first|((first|refine yw ?_|refine zX ?_);intro _ _)|(refine xy ?_;intro _ _;(conv=>whnf))|(refine zk ?_;intro _ _)|refine yz ?_|refine yj ‹_› ?_|refine zw ‹_› ?_|refine yx ‹_› ?_|refine yq ‹_› ?_|refine zZ ?_|refine yy ?_|refine yv ?_|refine zq ?_|((first|refine xw (by first|rfl|assumption) ?_|refine xx (by first|rfl|assumption) ?_);(conv=>whnf))|refine zY (fun Q hQ=>by (conv=>whnf);exact hQ) ?_|refine zj (fun Q hQ=>by (conv=>whnf);exact hQ) ?_|((first|refine zy ?_|refine zx ?_);(conv=>whnf)))
    conv=>whnf
    rw [← hK]
    refine ⟨[],List.nodup_nil,by simp,.tup .nil,⟨⟨_,rfl,?_⟩,trivial⟩,trivial⟩
    rw [List.take_of_length_le hge]
    exact .map (EI_ents _)
end Go.Am
/- The labels of a table, in order. -/
namespace Go.Am
variable {P:Program}

/-- The contract of (label.table).labels. -/
def LabelsOk (P:Program) (g:FuncId) (e:TypeId):Prop:=∀ args S k,labelsK e args S k→∃ v S',k v S'∧CallS P g args S.hs v S'.hs
theorem LabelsOk.rc {g:FuncId} {e:TypeId} (h:LabelsOk P g e) {args:List V} {S:St} {k:V→St→Prop} (hk:labelsK e args S k):RC P g args S k:=by
 obtain ⟨v,S',h1,h2⟩:=h _ _ _ hk
 exact .mk v S' h2 h1
/-- A label into a row that is in order. -/
noncomputable def insL (q:Lab):List Lab→List Lab
 | []=>[q]
 | x :: l=>if ltS q.1 x.1=true then q :: x :: l else x :: insL q l
noncomputable def sortL:List Lab→List Lab→List Lab
 | [],acc=>acc
 | q :: l,acc=>sortL l (insL q acc)
theorem insL_mem {q x:Lab}:∀ {l:List Lab},x ∈ insL q l ↔ x=q ∨ x ∈ l
 | []=>by simp [insL]
 | y :: l=>by
   unfold insL
   split
   ·simp
   ·simp only [List.mem_cons,insL_mem (l:=l)]
    constructor
    ·rintro (h|h|h) <;> simp [h]
    ·rintro (h|h|h) <;> simp [h]
theorem insL_length {q:Lab}:∀ {l:List Lab},(insL q l).length=l.length+1
 | []=>rfl
 | y :: l=>by
   unfold insL
   split
   ·rfl
   ·simp [insL_length (l:=l)]
theorem insL_asc {q:Lab}:∀ {l:List Lab},l.Pairwise (fun p q=>ltS p.1 q.1=true)→(∀ x ∈ l,x.1 ≠ q.1)→(insL q l).Pairwise fun p q=>ltS p.1 q.1=true
 | [],_,_=>List.pairwise_singleton _ _
 | y :: l,h,hn=>by
   have h':=List.pairwise_cons.1 h
   unfold insL
   split
   ·rename_i hlt
    refine List.pairwise_cons.2 ⟨fun x hx=>?_,h⟩
    rcases List.mem_cons.1 hx with rfl|hx
    ·exact hlt
    ·exact ltS_trans hlt (h'.1 x hx)
   ·rename_i hlt
    have hyq:ltS y.1 q.1=true:=by
     cases hb:ltS y.1 q.1 with
     | true=>rfl
     | false=>exact absurd (ltS_total hb (by simpa using hlt)) (hn y (by simp))
    refine List.pairwise_cons.2 ⟨fun x hx=>?_,insL_asc h'.2 fun x hx=>hn x (by simp [hx])⟩
    rcases insL_mem.1 hx with rfl|hx
    ·exact hyq
    ·exact h'.1 x hx
theorem sortL_mem {x:Lab}:∀ {l acc:List Lab},x ∈ sortL l acc ↔ x ∈ l ∨ x ∈ acc
 | [],acc=>by simp [sortL]
 | q :: l,acc=>by
   unfold sortL
   rw [sortL_mem,insL_mem]
   simp only [List.mem_cons]
   constructor
   ·rintro (h|h|h) <;> simp [h]
   ·rintro ((h|h)|h) <;> simp [h]
theorem sortL_length:∀ {l acc:List Lab},(sortL l acc).length=l.length+acc.length
 | [],acc=>by simp [sortL]
 | q :: l,acc=>by
   unfold sortL
   rw [sortL_length,insL_length];simp;omega
theorem sortL_asc:∀ {l acc:List Lab},acc.Pairwise (fun p q=>ltS p.1 q.1=true)→l.Pairwise (fun p q=>p.1 ≠ q.1)→(∀ x ∈ l,∀ y ∈ acc,y.1 ≠ x.1)→(sortL l acc).Pairwise fun p q=>ltS p.1 q.1=true
 | [],acc,h,_,_=>h
 | q :: l,acc,h,hl,hn=>by
   unfold sortL
   have hl':=List.pairwise_cons.1 hl
   refine sortL_asc (insL_asc h fun x hx=>hn q (by simp) x hx) hl'.2 fun x hx y hy=>?_
   rcases insL_mem.1 hy with rfl|hy
   ·exact hl'.1 x hx
   ·exact hn x (by simp [hx]) y hy
theorem insK_intro {q:Lab}:∀ {l:List Lab} {k:List Lab→Prop},(∀ x ∈ l,x.1 ≠ q.1)→k (insL q l)→insK q.1 q.2 l k
 | [],k,_,h=>h
 | x :: l,k,hn,h=>by
   show Bool.rec (motive:=fun _=>Prop) (Bool.rec (motive:=fun _=>Prop) False (insK q.1 q.2 l fun r=>k (x :: r)) (ltS x.1 q.1)) (k ((q.1,q.2) :: x :: l)) (ltS q.1 x.1)
   unfold insL at h
   cases hb:ltS q.1 x.1 with
   | true=>rw [hb,if_pos rfl] at h;exact h
   | false =>
     rw [hb,if_neg (by simp)] at h
     have hc:ltS x.1 q.1=true:=by
      cases hc:ltS x.1 q.1 with
      | true=>rfl
      | false=>exact absurd (ltS_total hc hb) (hn x (by simp))
     rw [hc]
     exact insK_intro (l:=l) (fun y hy=>hn y (by simp [hy])) h
theorem sortK_intro:∀ {t:Tab} {acc:List Lab} {k:List Lab→Prop},t.Pairwise (fun p q=>p.1.1 ≠ q.1.1)→(∀ x ∈ t,∀ y ∈ acc,y.1 ≠ x.1.1)→k (sortL (t.map (·.1)) acc)→sortK (ents t) acc k
 | [],acc,k,_,_,h=>h
 | x :: t,acc,k,hp,hn,h=>by
   have hp':=List.pairwise_cons.1 hp
   show ifK (eqS x.1.1 x.1.1) (insK x.1.1 x.1.2 acc fun l=>sortK (ents t) l k)
   refine ifK_intro (eqS_self _) (insK_intro (q:=x.1) (fun y hy=>hn x (by simp) y hy) (sortK_intro hp'.2 (fun y hy z hz=>?_) h))
   rcases insL_mem.1 hz with rfl|hz
   ·exact hp'.1 y hy
   ·exact hn y (by simp [hy]) z hz
theorem flatK_intro:∀ {l:List Lab} {k:List V→Prop},k (cellsOf l)→flatK l k
 | [],k,h=>h
 | q :: l,k,h=>by
   show flatK l fun r=>k (.str q.1 :: .str q.2 :: r)
   exact flatK_intro (l:=l) h
/-- The stamps of a table: ascending from one on, below the clock. -/
def Stamps:Tab→Nat→Nat→Prop
 | [],p,c=>p ≤ c
 | x :: t,p,c=>p ≤ x.2∧Stamps t (x.2+1) c
theorem stampsK_eq:∀ {t:Tab} {p c:Nat},Stamps t p c→stampsK (ents t) p c=true
 | [],p,c,h=>Nat.ble_eq_true_of_le h
 | x :: t,p,c,h=>by
   show Bool.rec (motive:=fun _=>Bool) false (stampsK (ents t) (x.2+1) c) (Nat.ble p x.2)=true
   rw [Nat.ble_eq_true_of_le h.1]
   exact stampsK_eq h.2
theorem Stamps.app {q:Lab}:∀ {t:Tab} {p c:Nat},Stamps t p c→Stamps (t ++ [(q,c)]) p (c+1)
 | [],p,c,h=>⟨h,Nat.le_refl _⟩
 | x :: t,p,c,h=>⟨h.1,h.2.app⟩
theorem Stamps.set {q:Lab}:∀ {t t':Tab} {p c:Nat},Stamps t p c→setT q t=some t'→Stamps t' p c
 | [],_,_,_,_,h=>by cases h
 | x :: t,t',p,c,hs,h=>by
   unfold setT at h
   by_cases hx:x.1.1=q.1
   ·rw [if_pos hx] at h;cases h
    exact hs
   ·rw [if_neg hx] at h
    cases ht:setT q t with
    | none=>rw [ht] at h;cases h
    | some t1=>rw [ht] at h;cases h;exact ⟨hs.1,hs.2.set ht⟩
theorem Stamps.put {q:Lab} {x:Tab × Nat} (h:Stamps x.1 0 x.2):Stamps (putT x q).1 0 (putT x q).2:=by
 unfold putT
 cases hs:setT q x.1 with
 | none=>exact h.app
 | some t=>exact h.set hs
/-- The labels of a table. -/
theorem labelsK_intro {e:TypeId} {m:Nat} {S:St} {t:Tab} {c:Nat} {k:V→St→Prop} (hm:S.hs.get m=some (.map (ents t) c)) (hs:Stamps t 0 c) (hp:t.Pairwise fun p q=>p.1.1 ≠ q.1.1) (hn:t ≠ []) (hl:t.length ≤ 4096)
  (hk:newK (.cells (cellsOf (sortL (t.map (·.1)) [])) e .rw) S fun id S=>k (.slice id 0 t.length t.length 2 false) S):labelsK e [.map m] S k:=by
 show mapK S m _
 refine mapK_intro hm ?_
 refine ifK_intro (stampsK_eq hs) ?_
 refine sortK_intro hp (by simp) ?_
 have hlen:(sortL (t.map (·.1)) []).length=t.length:=by rw [sortL_length];simp
 refine ifK_intro (Nat.ble_eq_true_of_le (by rw [len'_eq,hlen];exact hl)) ?_
 have h2:sortL (t.map (·.1)) [] ≠ []:=fun h=>by
  rw [h] at hlen
  cases t with
  | nil=>exact hn rfl
  | cons x t=>simp at hlen
 generalize hL:sortL (t.map (·.1)) []=L at *
 cases L with
 | nil=>exact absurd rfl h2
 | cons q L =>
   show flatK (q :: L) _
   refine flatK_intro ?_
   refine zy ?_
   rw [len'_eq,hlen];exact hk
end Go.Am
/- Tables that labels are put into. -/
namespace Go.Am
def Dist (t:Tab):Prop:=t.Pairwise fun p q=>p.1.1 ≠ q.1.1
theorem setT_none {q:Lab}:∀ {t:Tab},setT q t=none→∀ x ∈ t,x.1.1 ≠ q.1
 | [],_=>by simp
 | x :: t,h=>by
   unfold setT at h
   by_cases hx:x.1.1=q.1
   ·rw [if_pos hx] at h;cases h
   ·rw [if_neg hx] at h
    intro y hy
    rcases List.mem_cons.1 hy with rfl|hy
    ·exact hx
    ·exact setT_none (by simpa using h) y hy
theorem setT_names {q:Lab}:∀ {t t':Tab},setT q t=some t'→t'.map (·.1.1)=t.map (·.1.1)
 | [],_,h=>by cases h
 | x :: t,t',h=>by
   unfold setT at h
   by_cases hx:x.1.1=q.1
   ·rw [if_pos hx] at h;cases h
    simp [hx]
   ·rw [if_neg hx] at h
    cases ht:setT q t with
    | none=>rw [ht] at h;cases h
    | some t1=>rw [ht] at h;cases h;simp only [List.map_cons];rw [setT_names ht]
theorem dist_names {t:Tab}:Dist t ↔ (t.map (·.1.1)).Nodup:=by rw [Dist,List.Nodup,List.pairwise_map]
theorem putT_dist {x:Tab × Nat} {q:Lab} (h:Dist x.1):Dist (putT x q).1:=by
 unfold putT
 cases hs:setT q x.1 with
 | none =>
   refine List.pairwise_append.2 ⟨h,List.pairwise_singleton _ _,fun a ha b hb=>?_⟩
   simp at hb;subst hb
   exact setT_none hs a ha
 | some t=>exact dist_names.2 (by rw [setT_names hs];exact dist_names.1 h)
/-- The names that are there, and the values behind them. -/
theorem setT_mem {q:Lab}:∀ {t t':Tab},Dist t→setT q t=some t'→∀ y:Lab,y ∈ t'.map (·.1) ↔ y=q ∨ (y.1 ≠ q.1∧y ∈ t.map (·.1))
 | [],_,_,h=>by cases h
 | x :: t,t',hd,h=>by
   have hd':=List.pairwise_cons.1 hd
   unfold setT at h
   by_cases hx:x.1.1=q.1
   ·rw [if_pos hx] at h;cases h
    intro y
    simp only [List.map_cons,List.mem_cons]
    constructor
    ·rintro (h|h)
     ·exact .inl h
     ·obtain ⟨z,hz,rfl⟩:=List.mem_map.1 h
      exact .inr ⟨fun e=>hd'.1 z hz (hx.trans e.symm),.inr h⟩
    ·rintro (h|⟨h1,h2|h2⟩)
     ·exact .inl h
     ·exact absurd (by rw [h2];exact hx) h1
     ·exact .inr h2
   ·rw [if_neg hx] at h
    cases ht:setT q t with
    | none=>rw [ht] at h;cases h
    | some t1 =>
      rw [ht] at h;cases h
      intro y
      simp only [List.map_cons,List.mem_cons,setT_mem hd'.2 ht y]
      constructor
      ·rintro (h|h|⟨h1,h2⟩)
       ·exact .inr ⟨by rw [h];exact hx,.inl h⟩
       ·exact .inl h
       ·exact .inr ⟨h1,.inr h2⟩
      ·rintro (h|⟨h1,h2|h2⟩)
       ·exact .inr (.inl h)
       ·exact .inl h2
       ·exact .inr (.inr ⟨h1,h2⟩)
theorem putT_mem {x:Tab × Nat} {q:Lab} (h:Dist x.1) (y:Lab):y ∈ (putT x q).1.map (·.1) ↔ y=q ∨ (y.1 ≠ q.1∧y ∈ x.1.map (·.1)):=by
 unfold putT
 cases hs:setT q x.1 with
 | none =>
   have hn:=setT_none hs
   simp only [List.map_append,List.map_cons,List.map_nil,List.mem_append,List.mem_singleton]
   constructor
   ·rintro (h|h)
    ·obtain ⟨z,hz,rfl⟩:=List.mem_map.1 h
     exact .inr ⟨hn z hz,h⟩
    ·exact .inl h
   ·rintro (h|⟨_,h⟩)
    ·exact .inr h
    ·exact .inl h
 | some t=>exact setT_mem h hs y
/-- What is right of a table. -/
structure TabOk (x:Tab × Nat):Prop where
 dist:Dist x.1
 stamps:Stamps x.1 0 x.2
theorem TabOk.nil:TabOk ([],0):=⟨.nil,Nat.le_refl _⟩
theorem TabOk.put {x:Tab × Nat} (h:TabOk x) (q:Lab):TabOk (putT x q):=⟨putT_dist h.dist,h.stamps.put⟩
theorem TabOk.puts:∀ (l:List Lab) {x:Tab × Nat},TabOk x→TabOk (l.foldl putT x)
 | [],_,h=>h
 | q :: l,_,h=>TabOk.puts l (h.put q)
/-- What is there after labels of different names have been put. -/
theorem puts_mem:∀ {l:List Lab} {x:Tab × Nat},TabOk x→l.Pairwise (fun p q=>p.1 ≠ q.1)→∀ y:Lab,y ∈ (l.foldl putT x).1.map (·.1) ↔ y ∈ l ∨ ((∀ q ∈ l,y.1 ≠ q.1)∧y ∈ x.1.map (·.1))
 | [],x,_,_,y=>by simp
 | q :: l,x,h,hp,y=>by
   have hp':=List.pairwise_cons.1 hp
   show y ∈ (l.foldl putT (putT x q)).1.map (·.1) ↔ _
   rw [puts_mem (h.put q) hp'.2 y,putT_mem h.dist]
   constructor
   ·rintro (h1|⟨h1,h2|⟨h2,h3⟩⟩)
    ·exact .inl (List.mem_cons_of_mem _ h1)
    ·exact .inl (by rw [h2];exact List.mem_cons_self)
    ·refine .inr ⟨fun z hz=>?_,h3⟩
     rcases List.mem_cons.1 hz with rfl|hz
     ·exact h2
     ·exact h1 z hz
   ·rintro (h1|⟨h1,h2⟩)
    ·rcases List.mem_cons.1 h1 with rfl|h1
     ·exact .inr ⟨fun z hz=>hp'.1 z hz,.inl rfl⟩
     ·exact .inl h1
    ·exact .inr ⟨fun z hz=>h1 z (List.mem_cons_of_mem _ hz),.inr ⟨h1 q List.mem_cons_self,h2⟩⟩
/-- The labels of a table, in order. -/
noncomputable def tabL (x:Tab × Nat):List Lab:=sortL (x.1.map (·.1)) []
theorem tabL_mem {x:Tab × Nat} (y:Lab):y ∈ tabL x ↔ y ∈ x.1.map (·.1):=by unfold tabL;rw [sortL_mem];simp
theorem tabL_asc {x:Tab × Nat} (h:TabOk x):(tabL x).Pairwise fun p q=>ltS p.1 q.1=true :=
 sortL_asc .nil (by rw [List.pairwise_map];exact h.dist) (by simp)
theorem tabL_length (x:Tab × Nat):(tabL x).length=x.1.length:=by unfold tabL;rw [sortL_length];simp
theorem asc_ne {l:List Lab} (h:l.Pairwise fun p q=>ltS p.1 q.1=true):l.Pairwise fun p q=>p.1 ≠ q.1:=h.imp fun h=>ltS_ne h
/-- The value of a name, by the label. -/
theorem getL_mem {l:List Lab} (h:l.Pairwise fun p q=>p.1 ≠ q.1) {q:Lab} (hq:q ∈ l):getL q.1 l=q.2:=by
 induction l with
 | nil=>simp at hq
 | cons x l ih =>
   have h':=List.pairwise_cons.1 h
   show (if x.1=q.1 then x.2 else getL q.1 l)=q.2
   rcases List.mem_cons.1 hq with rfl|hq
   ·rw [if_pos rfl]
   ·rw [if_neg (h'.1 q hq)];exact ih h'.2 hq
theorem nodup1 (g:Nat):[g].Nodup:=List.nodup_cons.2 ⟨by simp,List.nodup_nil⟩
end Go.Am
/- label.bound; calls with two rows of labels; (label.table).labels by its contract. -/
namespace Go.Am
open Go.Proofs
set_option maxRecDepth 100000
attribute [local irreducible] fN fI fB yZ wrapK wk drOps rdsAll sl

theorem f31:FnAt Tryz.prog 31 8 [.tmp 2,.tmp 3] (codeOf Tryz.f31):=⟨Tryz.f31,by kernel_rfl,rfl,by kernel_rfl,by kernel_rfl,by kernel_rfl⟩

set_option maxHeartbeats 2000000 in
theorem bound_run (i o n c es:Nat) (ex:Bool) {S:St} {k:V→St→Prop} (h:n ≤ 64) (hk:k (.tup [.slice i o n c es ex,.int .i64 0]) S):RC Tryz.prog 31 [.slice i o n c es ex] S k:=by
 refine RC.run mixed xts_ok (evCall_at f31 ?_)
 generalize hK:k=K
 apply wx
 ·intro Q hQ
  conv=>whnf
  exact hQ
 intro K0 hK0
 unfold codeOf
 conv=>arg 7;whnf
 repeat(first|((first|refine yw ?_|refine zX ?_);intro _ _)|(refine xy ?_;intro _ _;(conv=>whnf))|(refine zk ?_;intro _ _)|refine yz ?_|refine yj ‹_› ?_|refine zw ‹_› ?_|refine yx ‹_› ?_|refine yq ‹_› ?_|refine zZ ?_|refine yy ?_|refine yv ?_|refine zq ?_|((first|refine xw (by first|rfl|assumption) ?_|refine xx (by first|rfl|assumption) ?_);(conv=>whnf))|refine zY (fun Q hQ=>by (conv=>whnf);exact hQ) ?_|refine zj (fun Q hQ=>by (conv=>whnf);exact hQ) ?_|((first|refine zy ?_|refine zx ?_);(conv=>whnf)))
 refine xx (by rw [ltI_eq];simp;omega) ?_
 conv=>whnf
 repeat(first|((first|refine yw ?_|refine zX ?_);intro _ _)|(refine xy ?_;intro _ _;(conv=>whnf))|(refine zk ?_;intro _ _)|refine yz ?_|refine yj ‹_› ?_|refine zw ‹_› ?_|refine yx ‹_› ?_|refine yq ‹_› ?_|refine zZ ?_|refine yy ?_|refine yv ?_|refine zq ?_|((first|refine xw (by first|rfl|assumption) ?_|refine xx (by first|rfl|assumption) ?_);(conv=>whnf))|refine zY (fun Q hQ=>by (conv=>whnf);exact hQ) ?_|refine zj (fun Q hQ=>by (conv=>whnf);exact hQ) ?_|((first|refine zy ?_|refine zx ?_);(conv=>whnf)))
 conv=>whnf
 rw [← hK];exact hk
/-- A value that is a row of labels, and not nil. -/
def LS (S:St) (v:V) (l:List Lab):Prop:=∃ i c ex rest e fl,v=.slice i 0 l.length c 2 ex∧l.length ≤ c∧S.hs.get i=some (.cells (cellsOf l ++ rest) e fl)
theorem LS.lv {S:St} {v:V} {l:List Lab} (h:LS S v l):LV S v l:=.inr h
theorem LS.mk {S:St} {i c:Nat} {ex:Bool} {l:List Lab} {e:TypeId} {fl:Fl} (h:S.hs.get i=some (.cells (cellsOf l) e fl)) (hc:l.length ≤ c):LS S (.slice i 0 l.length c 2 ex) l :=
 ⟨i,c,ex,[],e,fl,rfl,hc,by rw [List.append_nil];exact h⟩
theorem RC.lab2 {P:Program} (hm:P.follows .mixedOrders=true) {c:FuncId} {n:Nat} {rs:List ResultVar} {code:Code} (hf:FnAt P c n rs code) {l l':List Lab} {v v':V} {S:St} (h:LV S v l) (h':LS S v' l') (news:List O)
  (hwn:∀ (a:Nat) (o:O),news[a]?=some o→o.wr=true) {v2:V} {k:V→St→Prop}
  (h0:l=[]→∀ e i,buildK (numb ngl [.cells (cellsOf l') e .ro]) ⟨.nil,ngl+1⟩ (runF P n rs code [.nilSlice,.slice ngl 0 l'.length l'.length 2 false] (Post 1 [i] (ngl+1) S.next [] news v2)))
  (h1:∀ e e' i i',buildK (numb ngl [.cells (cellsOf l') e' .ro,.cells (cellsOf l) e .ro]) ⟨.nil,ngl+2⟩ (runF P n rs code [.slice (ngl+1) 0 l.length l.length 2 false,.slice ngl 0 l'.length l'.length 2 false] (Post 2 [i',i] (ngl+2) S.next [] news v2)))
  (hk:newsK news S (k v2)):RC P c [v,v'] S k:=by
 obtain ⟨i',cap',ex',rest',e',fl',rfl,hc',hrow'⟩:=h'
 rcases h with ⟨rfl,rfl⟩|⟨i,cap,ex,rest,e,fl,rfl,hc,hrow⟩
 ·refine RC.read hm hf [i'] [.cells (cellsOf l' ++ rest') e' fl'] [.cells (cellsOf l') e' .ro] news ?_ rfl rfl ?_ ?_ (.cons .nilSlice (.cons ?_ .nil)) hwn (h0 rfl e' i') hk
  ·rintro (_|a) o h
   ·simp at h;subst h;rfl
   ·simp at h
  ·rintro (_|a) j o h1 h2
   ·simp at h1 h2;subst h1;subst h2;exact hrow'
   ·simp at h1
  ·rintro (_|a) o1 o2 h1 h2
   ·simp at h1 h2;subst h1;subst h2;exact .part (wv l')
   ·simp at h1
  ·exact .slice _ _ _ _ _ _ _ (Rin.at (a:=0) rfl (by simp)) (.inr (Nat.le_refl _)) hc' (by simp)
 ·refine RC.read hm hf [i',i] [.cells (cellsOf l' ++ rest') e' fl',.cells (cellsOf l ++ rest) e fl] [.cells (cellsOf l') e' .ro,.cells (cellsOf l) e .ro] news ?_ rfl rfl ?_ ?_ (.cons ?_ (.cons ?_ .nil)) hwn (h1 e e' i i') hk
  ·rintro (_|_|a) o h
   ·simp at h;subst h;rfl
   ·simp at h;subst h;rfl
   ·simp at h
  ·rintro (_|_|a) j o h1 h2
   ·simp at h1 h2;subst h1;subst h2;exact hrow'
   ·simp at h1 h2;subst h1;subst h2;exact hrow
   ·simp at h1
  ·rintro (_|_|a) o1 o2 h1 h2
   ·simp at h1 h2;subst h1;subst h2;exact .part (wv l')
   ·simp at h1 h2;subst h1;subst h2;exact .part (wv l)
   ·simp at h1
  ·exact .slice _ _ _ _ _ _ _ (Rin.at (a:=1) rfl (by simp)) (.inr (Nat.le_refl _)) hc (by simp)
  ·exact .slice _ _ _ _ _ _ _ (Rin.at (a:=0) rfl (by simp)) (.inr (Nat.le_refl _)) hc' (by simp)
/-- (label.table).labels. -/
theorem labels_run (hL:LabelsOk Tryz.prog 37 40) {m:Nat} {S:St} {x:Tab × Nat} {k:V→St→Prop} (hm:S.hs.get m=some (.map (ents x.1) x.2)) (ok:TabOk x) (hn:x.1 ≠ []) (hl:x.1.length ≤ 4096)
  (hk:newK (.cells (cellsOf (tabL x)) 40 .rw) S fun id S=>k (.slice id 0 (tabL x).length (tabL x).length 2 false) S):RC Tryz.prog 37 [.map m] S k :=
 hL.rc (labelsK_intro hm ok.stamps ok.dist hn hl (by rw [← tabL_length];exact hk))
end Go.Am
/- label.Set. -/
namespace Go.Am
open Go.Proofs
set_option maxRecDepth 100000
attribute [local irreducible] fN fI fB yZ wrapK wk drOps rdsAll sl

theorem f15:FnAt Tryz.prog 15 37 [.tmp 4,.tmp 5] (codeOf Tryz.f15):=⟨Tryz.f15,by kernel_rfl,rfl,by kernel_rfl,by kernel_rfl,by kernel_rfl⟩

theorem newsK_one {o:O} {S:St} {K:Nat→St→Prop} (h:newK o S K):newsK [o] S (K S.next):=by cases S;exact h
set_option maxHeartbeats 4000000 in
theorem set_run (hL:LabelsOk Tryz.prog 37 40) {l l':List Lab} {v v':V} {S:St} (h:LV S v l) (ok:OkL l) (h':LS S v' l') (hlen':l'.length < 9223372036854775807) (hn':∀ q ∈ l',q.1 ∈ namesX) (hv':∀ q ∈ l',q.2 ∈ valsX) (hf':∀ q ∈ l',q.2 ≠ [])
  (hne:(l'.foldl putT (l.foldl putT ([],0))).1 ≠ []) (hR:(tabL (l'.foldl putT (l.foldl putT ([],0)))).length ≤ 64) {k:V→St→Prop}
  (hk:newK (.cells (cellsOf (tabL (l'.foldl putT (l.foldl putT ([],0))))) 40 .rw) S fun id S'=>k (.tup [.slice id 0 (tabL (l'.foldl putT (l.foldl putT ([],0)))).length (tabL (l'.foldl putT (l.foldl putT ([],0)))).length 2 false,.int .i64 0]) S'):RC Tryz.prog 15 [v,v'] S k:=by
 obtain ⟨i40,hi40,hs40⟩:=info40
 refine RC.lab2 mixed f15 h h' [.cells (cellsOf (tabL (l'.foldl putT (l.foldl putT ([],0))))) 40 .rw] ?_ ?_ ?_ (newsK_one hk)
 ·rintro (_|a) o h
  ·simp at h;subst h;rfl
  ·simp at h
 ·rintro rfl e i
  generalize hK:Post _ _ _ _ _ _ _=K
  apply wy
  ·intro Q hQ
   conv=>whnf
   exact hQ
  apply wx
  ·intro Q hQ
   conv=>whnf
   exact hQ
  intro K0 hK0
  unfold codeOf
  conv=>arg 7;whnf
  repeat(first|((first|refine yw ?_|refine zX ?_);intro _ _)|(refine xy ?_;intro _ _;(conv=>whnf))|(refine zk ?_;intro _ _)|refine yz ?_|refine yj ‹_› ?_|refine zw ‹_› ?_|refine yx ‹_› ?_|refine yq ‹_› ?_|refine zZ ?_|refine yy ?_|refine yv ?_|refine zq ?_|((first|refine xw (by first|rfl|assumption) ?_|refine xx (by first|rfl|assumption) ?_);(conv=>whnf))|refine zY (fun Q hQ=>by (conv=>whnf);exact hQ) ?_|refine zj (fun Q hQ=>by (conv=>whnf);exact hQ) ?_|((first|refine zy ?_|refine zx ?_);(conv=>whnf)))
  refine right_run (LV.nil _) ok ?_
  conv=>whnf
  repeat(first|((first|refine yw ?_|refine zX ?_);intro _ _)|(refine xy ?_;intro _ _;(conv=>whnf))|(refine zk ?_;intro _ _)|refine yz ?_|refine yj ‹_› ?_|refine zw ‹_› ?_|refine yx ‹_› ?_|refine yq ‹_› ?_|refine zZ ?_|refine yy ?_|refine yv ?_|refine zq ?_|((first|refine xw (by first|rfl|assumption) ?_|refine xx (by first|rfl|assumption) ?_);(conv=>whnf))|refine zY (fun Q hQ=>by (conv=>whnf);exact hQ) ?_|refine zj (fun Q hQ=>by (conv=>whnf);exact hQ) ?_|((first|refine zy ?_|refine zx ?_);(conv=>whnf)))
  refine LP.induct0 l'.length (fun j E=>j ≤ l'.length∧Fits E 0 [.nilSlice,.slice ngl 0 l'.length l'.length 2 false,sl E 2,sl E 3,sl E 4,sl E 5,sl E 6,sl E 7,sl E 8,sl E 9,sl E 10,sl E 11,sl E 12,.slice ngl 0 l'.length l'.length 2 false,.int .i64 (.ofNat l'.length),.int .i64 (.ofNat j),sl E 16,sl E 17,sl E 18,sl E 19,sl E 20,sl E 21,sl E 22,sl E 23,sl E 24,sl E 25,sl E 26,sl E 27,sl E 28,sl E 29,sl E 30,sl E 31,sl E 32,sl E 33,sl E 34,sl E 35,sl E 36]) ⟨Nat.zero_le _,⟨rfl,rfl,zz rfl,zz rfl,zz rfl,zz rfl,zz rfl,zz rfl,zz rfl,zz rfl,zz rfl,zz rfl,zz rfl,rfl,rfl,rfl,zz rfl,zz rfl,zz rfl,zz rfl,zz rfl,zz rfl,zz rfl,zz rfl,zz rfl,zz rfl,zz rfl,zz rfl,zz rfl,zz rfl,zz rfl,zz rfl,zz rfl,zz rfl,zz rfl,zz rfl,zz rfl,trivial⟩⟩ ?_
  intro j E ⟨hjl,hf⟩ ih
  refine LP.tree hf (⟨some (.nilSlice),⟨some (.slice ngl 0 l'.length l'.length 2 false),⟨some (sl E 5),⟨some (sl E 21),z0,z0,z0,z0⟩,z1,z1,z1⟩,⟨some (sl E 9),⟨some (sl E 25),z0,z0,z0,z0⟩,z1,z1,z1⟩,⟨some (.slice ngl 0 l'.length l'.length 2 false),⟨some (sl E 29),z0,z0,z0,z0⟩,z1,z1,z1⟩,⟨some (sl E 17),⟨some (sl E 33),z0,z0,z0,z0⟩,z1,z1,z1⟩⟩,⟨some (sl E 2),⟨some (sl E 6),⟨some (sl E 22),z0,z0,z0,z0⟩,z1,z1,z1⟩,⟨some (sl E 10),⟨some (sl E 26),z0,z0,z0,z0⟩,z1,z1,z1⟩,⟨some (.int .i64 (.ofNat l'.length)),⟨some (sl E 30),z0,z0,z0,z0⟩,z1,z1,z1⟩,⟨some (sl E 18),⟨some (sl E 34),z0,z0,z0,z0⟩,z1,z1,z1⟩⟩,⟨some (sl E 3),⟨some (sl E 7),⟨some (sl E 23),z0,z0,z0,z0⟩,z1,z1,z1⟩,⟨some (sl E 11),⟨some (sl E 27),z0,z0,z0,z0⟩,z1,z1,z1⟩,⟨some (.int .i64 (.ofNat j)),⟨some (sl E 31),z0,z0,z0,z0⟩,z1,z1,z1⟩,⟨some (sl E 19),⟨some (sl E 35),z0,z0,z0,z0⟩,z1,z1,z1⟩⟩,⟨some (sl E 4),⟨some (sl E 8),⟨some (sl E 24),z0,z0,z0,z0⟩,z1,z1,z1⟩,⟨some (sl E 12),⟨some (sl E 28),z0,z0,z0,z0⟩,z1,z1,z1⟩,⟨some (sl E 16),⟨some (sl E 32),z0,z0,z0,z0⟩,z1,z1,z1⟩,⟨some (sl E 20),⟨some (sl E 36),z0,z0,z0,z0⟩,z1,z1,z1⟩⟩⟩) (by kernel_rfl) (LP.gc' mixed fun _ _=>?_)
  clear hf
  repeat(first|((first|refine yw ?_|refine zX ?_);intro _ _)|(refine xy ?_;intro _ _;(conv=>whnf))|(refine zk ?_;intro _ _)|refine yz ?_|refine yj ‹_› ?_|refine zw ‹_› ?_|refine yx ‹_› ?_|refine yq ‹_› ?_|refine zZ ?_|refine yy ?_|refine yv ?_|refine zq ?_|((first|refine xw (by first|rfl|assumption) ?_|refine xx (by first|rfl|assumption) ?_);(conv=>whnf))|refine zY (fun Q hQ=>by (conv=>whnf);exact hQ) ?_|refine zj (fun Q hQ=>by (conv=>whnf);exact hQ) ?_|((first|refine zy ?_|refine zx ?_);(conv=>whnf)))
  refine fB_split (fun hb=>?_) (fun hb=>?_)
  ·have hlt:j < l'.length:=by rw [ltI_eq] at hb;simpa using hb
   conv=>whnf
   repeat(first|((first|refine yw ?_|refine zX ?_);intro _ _)|(refine xy ?_;intro _ _;(conv=>whnf))|(refine zk ?_;intro _ _)|refine yz ?_|refine yj ‹_› ?_|refine zw ‹_› ?_|refine yx ‹_› ?_|refine yq ‹_› ?_|refine zZ ?_|refine yy ?_|refine yv ?_|refine zq ?_|((first|refine xw (by first|rfl|assumption) ?_|refine xx (by first|rfl|assumption) ?_);(conv=>whnf))|refine zY (fun Q hQ=>by (conv=>whnf);exact hQ) ?_|refine zj (fun Q hQ=>by (conv=>whnf);exact hQ) ?_|((first|refine zy ?_|refine zx ?_);(conv=>whnf)))
   refine bcase (fun _=>?_) (fun h=>absurd (h.symm.trans hb) (by simp))
   conv=>whnf
   repeat(first|((first|refine yw ?_|refine zX ?_);intro _ _)|(refine xy ?_;intro _ _;(conv=>whnf))|(refine zk ?_;intro _ _)|refine yz ?_|refine yj ‹_› ?_|refine zw ‹_› ?_|refine yx ‹_› ?_|refine yq ‹_› ?_|refine zZ ?_|refine yy ?_|refine yv ?_|refine zq ?_|((first|refine xw (by first|rfl|assumption) ?_|refine xx (by first|rfl|assumption) ?_);(conv=>whnf))|refine zY (fun Q hQ=>by (conv=>whnf);exact hQ) ?_|refine zj (fun Q hQ=>by (conv=>whnf);exact hQ) ?_|((first|refine zy ?_|refine zx ?_);(conv=>whnf)))
   refine partK_lab agg40 hi40 hs40 (j:=j) (List.getElem?_eq_getElem hlt) (show 0+j * 2=2 * j by omega) ?_
   conv=>whnf
   repeat(first|((first|refine yw ?_|refine zX ?_);intro _ _)|(refine xy ?_;intro _ _;(conv=>whnf))|(refine zk ?_;intro _ _)|refine yz ?_|refine yj ‹_› ?_|refine zw ‹_› ?_|refine yx ‹_› ?_|refine yq ‹_› ?_|refine zZ ?_|refine yy ?_|refine yv ?_|refine zq ?_|((first|refine xw (by first|rfl|assumption) ?_|refine xx (by first|rfl|assumption) ?_);(conv=>whnf))|refine zY (fun Q hQ=>by (conv=>whnf);exact hQ) ?_|refine zj (fun Q hQ=>by (conv=>whnf);exact hQ) ?_|((first|refine zy ?_|refine zx ?_);(conv=>whnf)))
   unfold yZ
   conv=>whnf
   repeat(first|((first|refine yw ?_|refine zX ?_);intro _ _)|(refine xy ?_;intro _ _;(conv=>whnf))|(refine zk ?_;intro _ _)|refine yz ?_|refine yj ‹_› ?_|refine zw ‹_› ?_|refine yx ‹_› ?_|refine yq ‹_› ?_|refine zZ ?_|refine yy ?_|refine yv ?_|refine zq ?_|((first|refine xw (by first|rfl|assumption) ?_|refine xx (by first|rfl|assumption) ?_);(conv=>whnf))|refine zY (fun Q hQ=>by (conv=>whnf);exact hQ) ?_|refine zj (fun Q hQ=>by (conv=>whnf);exact hQ) ?_|((first|refine zy ?_|refine zx ?_);(conv=>whnf)))
   refine one_run (hn' _ (List.getElem_mem hlt)) (hv' _ (List.getElem_mem hlt)) ?_
   conv=>whnf
   repeat(first|((first|refine yw ?_|refine zX ?_);intro _ _)|(refine xy ?_;intro _ _;(conv=>whnf))|(refine zk ?_;intro _ _)|refine yz ?_|refine yj ‹_› ?_|refine zw ‹_› ?_|refine yx ‹_› ?_|refine yq ‹_› ?_|refine zZ ?_|refine yy ?_|refine yv ?_|refine zq ?_|((first|refine xw (by first|rfl|assumption) ?_|refine xx (by first|rfl|assumption) ?_);(conv=>whnf))|refine zY (fun Q hQ=>by (conv=>whnf);exact hQ) ?_|refine zj (fun Q hQ=>by (conv=>whnf);exact hQ) ?_|((first|refine zy ?_|refine zx ?_);(conv=>whnf)))
   refine wq (j+1) rfl (by show j+1 ≤ 9223372036854775807;omega) ?_
   conv=>whnf
   repeat(first|((first|refine yw ?_|refine zX ?_);intro _ _)|(refine xy ?_;intro _ _;(conv=>whnf))|(refine zk ?_;intro _ _)|refine yz ?_|refine yj ‹_› ?_|refine zw ‹_› ?_|refine yx ‹_› ?_|refine yq ‹_› ?_|refine zZ ?_|refine yy ?_|refine yv ?_|refine zq ?_|((first|refine xw (by first|rfl|assumption) ?_|refine xx (by first|rfl|assumption) ?_);(conv=>whnf))|refine zY (fun Q hQ=>by (conv=>whnf);exact hQ) ?_|refine zj (fun Q hQ=>by (conv=>whnf);exact hQ) ?_|((first|refine zy ?_|refine zx ?_);(conv=>whnf)))
   refine ⟨_,⟨Nat.le_refl _,?_⟩,rfl,ih _ hlt ⟨by omega,⟨rfl,rfl,zz rfl,zz rfl,zz rfl,zz rfl,zz rfl,zz rfl,zz rfl,zz rfl,zz rfl,zz rfl,zz rfl,rfl,rfl,rfl,zz rfl,zz rfl,zz rfl,zz rfl,zz rfl,zz rfl,zz rfl,zz rfl,zz rfl,zz rfl,zz rfl,zz rfl,zz rfl,zz rfl,zz rfl,zz rfl,zz rfl,zz rfl,zz rfl,zz rfl,zz rfl,trivial⟩⟩⟩
   repeat' (first
    | exact trivial
    | exact Nat.le_of_ble_eq_true rfl
    | exact ⟨_,rfl,.cells (wv _) (.inl rfl)⟩
    | apply And.intro)
  ·conv=>whnf
   repeat(first|((first|refine yw ?_|refine zX ?_);intro _ _)|(refine xy ?_;intro _ _;(conv=>whnf))|(refine zk ?_;intro _ _)|refine yz ?_|refine yj ‹_› ?_|refine zw ‹_› ?_|refine yx ‹_› ?_|refine yq ‹_› ?_|refine zZ ?_|refine yy ?_|refine yv ?_|refine zq ?_|((first|refine xw (by first|rfl|assumption) ?_|refine xx (by first|rfl|assumption) ?_);(conv=>whnf))|refine zY (fun Q hQ=>by (conv=>whnf);exact hQ) ?_|refine zj (fun Q hQ=>by (conv=>whnf);exact hQ) ?_|((first|refine zy ?_|refine zx ?_);(conv=>whnf)))
   refine put_run (LV.nil _) (by simp) ok.full (t:=[]) (c:=0) rfl ?_
   conv=>whnf
   repeat(first|((first|refine yw ?_|refine zX ?_);intro _ _)|(refine xy ?_;intro _ _;(conv=>whnf))|(refine zk ?_;intro _ _)|refine yz ?_|refine yj ‹_› ?_|refine zw ‹_› ?_|refine yx ‹_› ?_|refine yq ‹_› ?_|refine zZ ?_|refine yy ?_|refine yv ?_|refine zq ?_|((first|refine xw (by first|rfl|assumption) ?_|refine xx (by first|rfl|assumption) ?_);(conv=>whnf))|refine zY (fun Q hQ=>by (conv=>whnf);exact hQ) ?_|refine zj (fun Q hQ=>by (conv=>whnf);exact hQ) ?_|((first|refine zy ?_|refine zx ?_);(conv=>whnf)))
   refine put_run (LV.mk (e:=e) (fl:=.ro) rfl (Nat.le_refl _)) hlen' hf' (t:=([].foldl putT ([],0)).1) (c:=([].foldl putT ([],0)).2) rfl ?_
   conv=>whnf
   repeat(first|((first|refine yw ?_|refine zX ?_);intro _ _)|(refine xy ?_;intro _ _;(conv=>whnf))|(refine zk ?_;intro _ _)|refine yz ?_|refine yj ‹_› ?_|refine zw ‹_› ?_|refine yx ‹_› ?_|refine yq ‹_› ?_|refine zZ ?_|refine yy ?_|refine yv ?_|refine zq ?_|((first|refine xw (by first|rfl|assumption) ?_|refine xx (by first|rfl|assumption) ?_);(conv=>whnf))|refine zY (fun Q hQ=>by (conv=>whnf);exact hQ) ?_|refine zj (fun Q hQ=>by (conv=>whnf);exact hQ) ?_|((first|refine zy ?_|refine zx ?_);(conv=>whnf)))
   refine labels_run hL (x:=l'.foldl putT ([].foldl putT ([],0))) rfl (.puts _ (.puts _ .nil)) (by simpa using hne) (by have:=tabL_length (l'.foldl putT ([].foldl putT ([],0)));omega) ?_
   conv=>whnf
   repeat(first|((first|refine yw ?_|refine zX ?_);intro _ _)|(refine xy ?_;intro _ _;(conv=>whnf))|(refine zk ?_;intro _ _)|refine yz ?_|refine yj ‹_› ?_|refine zw ‹_› ?_|refine yx ‹_› ?_|refine yq ‹_› ?_|refine zZ ?_|refine yy ?_|refine yv ?_|refine zq ?_|((first|refine xw (by first|rfl|assumption) ?_|refine xx (by first|rfl|assumption) ?_);(conv=>whnf))|refine zY (fun Q hQ=>by (conv=>whnf);exact hQ) ?_|refine zj (fun Q hQ=>by (conv=>whnf);exact hQ) ?_|((first|refine zy ?_|refine zx ?_);(conv=>whnf)))
   refine bound_run _ _ _ _ _ _ hR ?_
   conv=>whnf
   repeat(first|((first|refine yw ?_|refine zX ?_);intro _ _)|(refine xy ?_;intro _ _;(conv=>whnf))|(refine zk ?_;intro _ _)|refine yz ?_|refine yj ‹_› ?_|refine zw ‹_› ?_|refine yx ‹_› ?_|refine yq ‹_› ?_|refine zZ ?_|refine yy ?_|refine yv ?_|refine zq ?_|((first|refine xw (by first|rfl|assumption) ?_|refine xx (by first|rfl|assumption) ?_);(conv=>whnf))|refine zY (fun Q hQ=>by (conv=>whnf);exact hQ) ?_|refine zj (fun Q hQ=>by (conv=>whnf);exact hQ) ?_|((first|refine zy ?_|refine zx ?_);(conv=>whnf)))
   conv=>whnf
   rw [← hK]
   refine ⟨[_],nodup1 _,?_,.tup (.cons (.slice _ _ _ _ _ _ _ (Rou.new (a:=0) rfl (Nat.le_of_ble_eq_true rfl) (by simp)) (.inr (Nat.le_refl _)) (Nat.le_refl _) (by simp)) (.cons (.int _ _) .nil)),trivial,⟨⟨_,rfl,.cells (wv _) (.inl rfl)⟩,trivial⟩⟩
   intro g hg
   rw [List.mem_singleton] at hg
   subst hg
   exact Nat.le_of_ble_eq_true rfl
 ·intro e e' i i'
  generalize hK:Post _ _ _ _ _ _ _=K
  apply wy
  ·intro Q hQ
   conv=>whnf
   exact hQ
  apply wx
  ·intro Q hQ
   conv=>whnf
   exact hQ
  intro K0 hK0
  unfold codeOf
  conv=>arg 7;whnf
  repeat(first|((first|refine yw ?_|refine zX ?_);intro _ _)|(refine xy ?_;intro _ _;(conv=>whnf))|(refine zk ?_;intro _ _)|refine yz ?_|refine yj ‹_› ?_|refine zw ‹_› ?_|refine yx ‹_› ?_|refine yq ‹_› ?_|refine zZ ?_|refine yy ?_|refine yv ?_|refine zq ?_|((first|refine xw (by first|rfl|assumption) ?_|refine xx (by first|rfl|assumption) ?_);(conv=>whnf))|refine zY (fun Q hQ=>by (conv=>whnf);exact hQ) ?_|refine zj (fun Q hQ=>by (conv=>whnf);exact hQ) ?_|((first|refine zy ?_|refine zx ?_);(conv=>whnf)))
  refine right_run (LV.mk (e:=e) (fl:=.ro) rfl (Nat.le_refl _)) ok ?_
  conv=>whnf
  repeat(first|((first|refine yw ?_|refine zX ?_);intro _ _)|(refine xy ?_;intro _ _;(conv=>whnf))|(refine zk ?_;intro _ _)|refine yz ?_|refine yj ‹_› ?_|refine zw ‹_› ?_|refine yx ‹_› ?_|refine yq ‹_› ?_|refine zZ ?_|refine yy ?_|refine yv ?_|refine zq ?_|((first|refine xw (by first|rfl|assumption) ?_|refine xx (by first|rfl|assumption) ?_);(conv=>whnf))|refine zY (fun Q hQ=>by (conv=>whnf);exact hQ) ?_|refine zj (fun Q hQ=>by (conv=>whnf);exact hQ) ?_|((first|refine zy ?_|refine zx ?_);(conv=>whnf)))
  refine LP.induct0 l'.length (fun j E=>j ≤ l'.length∧Fits E 0 [.slice (ngl+1) 0 l.length l.length 2 false,.slice ngl 0 l'.length l'.length 2 false,sl E 2,sl E 3,sl E 4,sl E 5,sl E 6,sl E 7,sl E 8,sl E 9,sl E 10,sl E 11,sl E 12,.slice ngl 0 l'.length l'.length 2 false,.int .i64 (.ofNat l'.length),.int .i64 (.ofNat j),sl E 16,sl E 17,sl E 18,sl E 19,sl E 20,sl E 21,sl E 22,sl E 23,sl E 24,sl E 25,sl E 26,sl E 27,sl E 28,sl E 29,sl E 30,sl E 31,sl E 32,sl E 33,sl E 34,sl E 35,sl E 36]) ⟨Nat.zero_le _,⟨rfl,rfl,zz rfl,zz rfl,zz rfl,zz rfl,zz rfl,zz rfl,zz rfl,zz rfl,zz rfl,zz rfl,zz rfl,rfl,rfl,rfl,zz rfl,zz rfl,zz rfl,zz rfl,zz rfl,zz rfl,zz rfl,zz rfl,zz rfl,zz rfl,zz rfl,zz rfl,zz rfl,zz rfl,zz rfl,zz rfl,zz rfl,zz rfl,zz rfl,zz rfl,zz rfl,trivial⟩⟩ ?_
  intro j E ⟨hjl,hf⟩ ih
  refine LP.tree hf (⟨some (.slice (ngl+1) 0 l.length l.length 2 false),⟨some (.slice ngl 0 l'.length l'.length 2 false),⟨some (sl E 5),⟨some (sl E 21),z0,z0,z0,z0⟩,z1,z1,z1⟩,⟨some (sl E 9),⟨some (sl E 25),z0,z0,z0,z0⟩,z1,z1,z1⟩,⟨some (.slice ngl 0 l'.length l'.length 2 false),⟨some (sl E 29),z0,z0,z0,z0⟩,z1,z1,z1⟩,⟨some (sl E 17),⟨some (sl E 33),z0,z0,z0,z0⟩,z1,z1,z1⟩⟩,⟨some (sl E 2),⟨some (sl E 6),⟨some (sl E 22),z0,z0,z0,z0⟩,z1,z1,z1⟩,⟨some (sl E 10),⟨some (sl E 26),z0,z0,z0,z0⟩,z1,z1,z1⟩,⟨some (.int .i64 (.ofNat l'.length)),⟨some (sl E 30),z0,z0,z0,z0⟩,z1,z1,z1⟩,⟨some (sl E 18),⟨some (sl E 34),z0,z0,z0,z0⟩,z1,z1,z1⟩⟩,⟨some (sl E 3),⟨some (sl E 7),⟨some (sl E 23),z0,z0,z0,z0⟩,z1,z1,z1⟩,⟨some (sl E 11),⟨some (sl E 27),z0,z0,z0,z0⟩,z1,z1,z1⟩,⟨some (.int .i64 (.ofNat j)),⟨some (sl E 31),z0,z0,z0,z0⟩,z1,z1,z1⟩,⟨some (sl E 19),⟨some (sl E 35),z0,z0,z0,z0⟩,z1,z1,z1⟩⟩,⟨some (sl E 4),⟨some (sl E 8),⟨some (sl E 24),z0,z0,z0,z0⟩,z1,z1,z1⟩,⟨some (sl E 12),⟨some (sl E 28),z0,z0,z0,z0⟩,z1,z1,z1⟩,⟨some (sl E 16),⟨some (sl E 32),z0,z0,z0,z0⟩,z1,z1,z1⟩,⟨some (sl E 20),⟨some (sl E 36),z0,z0,z0,z0⟩,z1,z1,z1⟩⟩⟩) (by kernel_rfl) (LP.gc' mixed fun _ _=>?_)
  clear hf
  repeat(first|((first|refine yw ?_|refine zX ?_);intro _ _)|(refine xy ?_;intro _ _;(conv=>whnf))|(refine zk ?_;intro _ _)|refine yz ?_|refine yj ‹_› ?_|refine zw ‹_› ?_|refine yx ‹_› ?_|refine yq ‹_› ?_|refine zZ ?_|refine yy ?_|refine yv ?_|refine zq ?_|((first|refine xw (by first|rfl|assumption) ?_|refine xx (by first|rfl|assumption) ?_);(conv=>whnf))|refine zY (fun Q hQ=>by (conv=>whnf);exact hQ) ?_|refine zj (fun Q hQ=>by (conv=>whnf);exact hQ) ?_|((first|refine zy ?_|refine zx ?_);(conv=>whnf)))
  refine fB_split (fun hb=>?_) (fun hb=>?_)
  ·have hlt:j < l'.length:=by rw [ltI_eq] at hb;simpa using hb
   conv=>whnf
   repeat(first|((first|refine yw ?_|refine zX ?_);intro _ _)|(refine xy ?_;intro _ _;(conv=>whnf))|(refine zk ?_;intro _ _)|refine yz ?_|refine yj ‹_› ?_|refine zw ‹_› ?_|refine yx ‹_› ?_|refine yq ‹_› ?_|refine zZ ?_|refine yy ?_|refine yv ?_|refine zq ?_|((first|refine xw (by first|rfl|assumption) ?_|refine xx (by first|rfl|assumption) ?_);(conv=>whnf))|refine zY (fun Q hQ=>by (conv=>whnf);exact hQ) ?_|refine zj (fun Q hQ=>by (conv=>whnf);exact hQ) ?_|((first|refine zy ?_|refine zx ?_);(conv=>whnf)))
   refine bcase (fun _=>?_) (fun h=>absurd (h.symm.trans hb) (by simp))
   conv=>whnf
   repeat(first|((first|refine yw ?_|refine zX ?_);intro _ _)|(refine xy ?_;intro _ _;(conv=>whnf))|(refine zk ?_;intro _ _)|refine yz ?_|refine yj ‹_› ?_|refine zw ‹_› ?_|refine yx ‹_› ?_|refine yq ‹_› ?_|refine zZ ?_|refine yy ?_|refine yv ?_|refine zq ?_|((first|refine xw (by first|rfl|assumption) ?_|refine xx (by first|rfl|assumption) ?_);(conv=>whnf))|refine zY (fun Q hQ=>by (conv=>whnf);exact hQ) ?_|refine zj (fun Q hQ=>by (conv=>whnf);exact hQ) ?_|((first|refine zy ?_|refine zx ?_);(conv=>whnf)))
   refine partK_lab agg40 hi40 hs40 (j:=j) (List.getElem?_eq_getElem hlt) (show 0+j * 2=2 * j by omega) ?_
   conv=>whnf
   repeat(first|((first|refine yw ?_|refine zX ?_);intro _ _)|(refine xy ?_;intro _ _;(conv=>whnf))|(refine zk ?_;intro _ _)|refine yz ?_|refine yj ‹_› ?_|refine zw ‹_› ?_|refine yx ‹_› ?_|refine yq ‹_› ?_|refine zZ ?_|refine yy ?_|refine yv ?_|refine zq ?_|((first|refine xw (by first|rfl|assumption) ?_|refine xx (by first|rfl|assumption) ?_);(conv=>whnf))|refine zY (fun Q hQ=>by (conv=>whnf);exact hQ) ?_|refine zj (fun Q hQ=>by (conv=>whnf);exact hQ) ?_|((first|refine zy ?_|refine zx ?_);(conv=>whnf)))
   unfold yZ
   conv=>whnf
   repeat(first|((first|refine yw ?_|refine zX ?_);intro _ _)|(refine xy ?_;intro _ _;(conv=>whnf))|(refine zk ?_;intro _ _)|refine yz ?_|refine yj ‹_› ?_|refine zw ‹_› ?_|refine yx ‹_› ?_|refine yq ‹_› ?_|refine zZ ?_|refine yy ?_|refine yv ?_|refine zq ?_|((first|refine xw (by first|rfl|assumption) ?_|refine xx (by first|rfl|assumption) ?_);(conv=>whnf))|refine zY (fun Q hQ=>by (conv=>whnf);exact hQ) ?_|refine zj (fun Q hQ=>by (conv=>whnf);exact hQ) ?_|((first|refine zy ?_|refine zx ?_);(conv=>whnf)))
   refine one_run (hn' _ (List.getElem_mem hlt)) (hv' _ (List.getElem_mem hlt)) ?_
   conv=>whnf
   repeat(first|((first|refine yw ?_|refine zX ?_);intro _ _)|(refine xy ?_;intro _ _;(conv=>whnf))|(refine zk ?_;intro _ _)|refine yz ?_|refine yj ‹_› ?_|refine zw ‹_› ?_|refine yx ‹_› ?_|refine yq ‹_› ?_|refine zZ ?_|refine yy ?_|refine yv ?_|refine zq ?_|((first|refine xw (by first|rfl|assumption) ?_|refine xx (by first|rfl|assumption) ?_);(conv=>whnf))|refine zY (fun Q hQ=>by (conv=>whnf);exact hQ) ?_|refine zj (fun Q hQ=>by (conv=>whnf);exact hQ) ?_|((first|refine zy ?_|refine zx ?_);(conv=>whnf)))
   refine wq (j+1) rfl (by show j+1 ≤ 9223372036854775807;omega) ?_
   conv=>whnf
   repeat(first|((first|refine yw ?_|refine zX ?_);intro _ _)|(refine xy ?_;intro _ _;(conv=>whnf))|(refine zk ?_;intro _ _)|refine yz ?_|refine yj ‹_› ?_|refine zw ‹_› ?_|refine yx ‹_› ?_|refine yq ‹_› ?_|refine zZ ?_|refine yy ?_|refine yv ?_|refine zq ?_|((first|refine xw (by first|rfl|assumption) ?_|refine xx (by first|rfl|assumption) ?_);(conv=>whnf))|refine zY (fun Q hQ=>by (conv=>whnf);exact hQ) ?_|refine zj (fun Q hQ=>by (conv=>whnf);exact hQ) ?_|((first|refine zy ?_|refine zx ?_);(conv=>whnf)))
   refine ⟨_,⟨Nat.le_refl _,?_⟩,rfl,ih _ hlt ⟨by omega,⟨rfl,rfl,zz rfl,zz rfl,zz rfl,zz rfl,zz rfl,zz rfl,zz rfl,zz rfl,zz rfl,zz rfl,zz rfl,rfl,rfl,rfl,zz rfl,zz rfl,zz rfl,zz rfl,zz rfl,zz rfl,zz rfl,zz rfl,zz rfl,zz rfl,zz rfl,zz rfl,zz rfl,zz rfl,zz rfl,zz rfl,zz rfl,zz rfl,zz rfl,zz rfl,zz rfl,trivial⟩⟩⟩
   repeat' (first
    | exact trivial
    | exact Nat.le_of_ble_eq_true rfl
    | exact ⟨_,rfl,.cells (wv _) (.inl rfl)⟩
    | apply And.intro)
  ·conv=>whnf
   repeat(first|((first|refine yw ?_|refine zX ?_);intro _ _)|(refine xy ?_;intro _ _;(conv=>whnf))|(refine zk ?_;intro _ _)|refine yz ?_|refine yj ‹_› ?_|refine zw ‹_› ?_|refine yx ‹_› ?_|refine yq ‹_› ?_|refine zZ ?_|refine yy ?_|refine yv ?_|refine zq ?_|((first|refine xw (by first|rfl|assumption) ?_|refine xx (by first|rfl|assumption) ?_);(conv=>whnf))|refine zY (fun Q hQ=>by (conv=>whnf);exact hQ) ?_|refine zj (fun Q hQ=>by (conv=>whnf);exact hQ) ?_|((first|refine zy ?_|refine zx ?_);(conv=>whnf)))
   refine put_run (LV.mk (e:=e) (fl:=.ro) rfl (Nat.le_refl _)) ok.lt ok.full (t:=[]) (c:=0) rfl ?_
   conv=>whnf
   repeat(first|((first|refine yw ?_|refine zX ?_);intro _ _)|(refine xy ?_;intro _ _;(conv=>whnf))|(refine zk ?_;intro _ _)|refine yz ?_|refine yj ‹_› ?_|refine zw ‹_› ?_|refine yx ‹_› ?_|refine yq ‹_› ?_|refine zZ ?_|refine yy ?_|refine yv ?_|refine zq ?_|((first|refine xw (by first|rfl|assumption) ?_|refine xx (by first|rfl|assumption) ?_);(conv=>whnf))|refine zY (fun Q hQ=>by (conv=>whnf);exact hQ) ?_|refine zj (fun Q hQ=>by (conv=>whnf);exact hQ) ?_|((first|refine zy ?_|refine zx ?_);(conv=>whnf)))
   refine put_run (LV.mk (e:=e') (fl:=.ro) rfl (Nat.le_refl _)) hlen' hf' (t:=(l.foldl putT ([],0)).1) (c:=(l.foldl putT ([],0)).2) rfl ?_
   conv=>whnf
   repeat(first|((first|refine yw ?_|refine zX ?_);intro _ _)|(refine xy ?_;intro _ _;(conv=>whnf))|(refine zk ?_;intro _ _)|refine yz ?_|refine yj ‹_› ?_|refine zw ‹_› ?_|refine yx ‹_› ?_|refine yq ‹_› ?_|refine zZ ?_|refine yy ?_|refine yv ?_|refine zq ?_|((first|refine xw (by first|rfl|assumption) ?_|refine xx (by first|rfl|assumption) ?_);(conv=>whnf))|refine zY (fun Q hQ=>by (conv=>whnf);exact hQ) ?_|refine zj (fun Q hQ=>by (conv=>whnf);exact hQ) ?_|((first|refine zy ?_|refine zx ?_);(conv=>whnf)))
   refine labels_run hL (x:=l'.foldl putT (l.foldl putT ([],0))) rfl (.puts _ (.puts _ .nil)) (by simpa using hne) (by have:=tabL_length (l'.foldl putT (l.foldl putT ([],0)));omega) ?_
   conv=>whnf
   repeat(first|((first|refine yw ?_|refine zX ?_);intro _ _)|(refine xy ?_;intro _ _;(conv=>whnf))|(refine zk ?_;intro _ _)|refine yz ?_|refine yj ‹_› ?_|refine zw ‹_› ?_|refine yx ‹_› ?_|refine yq ‹_› ?_|refine zZ ?_|refine yy ?_|refine yv ?_|refine zq ?_|((first|refine xw (by first|rfl|assumption) ?_|refine xx (by first|rfl|assumption) ?_);(conv=>whnf))|refine zY (fun Q hQ=>by (conv=>whnf);exact hQ) ?_|refine zj (fun Q hQ=>by (conv=>whnf);exact hQ) ?_|((first|refine zy ?_|refine zx ?_);(conv=>whnf)))
   refine bound_run _ _ _ _ _ _ hR ?_
   conv=>whnf
   repeat(first|((first|refine yw ?_|refine zX ?_);intro _ _)|(refine xy ?_;intro _ _;(conv=>whnf))|(refine zk ?_;intro _ _)|refine yz ?_|refine yj ‹_› ?_|refine zw ‹_› ?_|refine yx ‹_› ?_|refine yq ‹_› ?_|refine zZ ?_|refine yy ?_|refine yv ?_|refine zq ?_|((first|refine xw (by first|rfl|assumption) ?_|refine xx (by first|rfl|assumption) ?_);(conv=>whnf))|refine zY (fun Q hQ=>by (conv=>whnf);exact hQ) ?_|refine zj (fun Q hQ=>by (conv=>whnf);exact hQ) ?_|((first|refine zy ?_|refine zx ?_);(conv=>whnf)))
   conv=>whnf
   rw [← hK]
   refine ⟨[_],nodup1 _,?_,.tup (.cons (.slice _ _ _ _ _ _ _ (Rou.new (a:=0) rfl (Nat.le_of_ble_eq_true rfl) (by simp)) (.inr (Nat.le_refl _)) (Nat.le_refl _) (by simp)) (.cons (.int _ _) .nil)),trivial,⟨⟨_,rfl,.cells (wv _) (.inl rfl)⟩,trivial⟩⟩
   intro g hg
   rw [List.mem_singleton] at hg
   subst hg
   exact Nat.le_of_ble_eq_true rfl
end Go.Am
/- Loops whose objects take their old numbers again after each round. -/
namespace Go.Am
variable {P:Program}

/-- 'b': the numbers below it stay as they are. -/
structure ExtB (b:Nat) (ρ:Rho) (S:Hs) (w:World) (ρ':Rho) (S':Hs) (w':World):Prop where
 rho:∀ id,id < b→ρ' id=ρ id
 next:b ≤ S'.next
 size:w.heap.size ≤ w'.heap.size
 keep:∀ b,b < w.heap.size→¬ Own ρ S b→w'.heap[b]?=w.heap[b]?
 own:∀ b,Own ρ' S' b→w.heap.size ≤ b ∨ Own ρ S b
 has:∀ b,Has ρ' S' b→w.heap.size ≤ b ∨ Has ρ S b
 tape:w'.tape=w.tape
 os:w'.os=w.os
 output:w'.output=w.output
 drawn:w.drawn ≤ w'.drawn
theorem Ext.b {b:Nat} {ρ ρ':Rho} {S S':Hs} {w w':World} (h:Ext ρ S w ρ' S' w') (hb:b ≤ S.next):ExtB b ρ S w ρ' S' w' :=
 ⟨fun id hid=>h.rho id (Nat.lt_of_lt_of_le hid hb),Nat.le_trans hb h.next,h.size,h.keep,h.own,h.has,h.tape,h.os,h.output,h.drawn⟩
theorem ExtB.ext {ρ ρ':Rho} {S S':Hs} {w w':World} (h:ExtB S.next ρ S w ρ' S' w'):Ext ρ S w ρ' S' w':=⟨h.rho,h.next,h.size,h.keep,h.own,h.has,h.tape,h.os,h.output,h.drawn⟩
theorem ExtB.trans {b:Nat} {ρ ρ1 ρ2:Rho} {S S1 S2:Hs} {w w1 w2:World} (h:ExtB b ρ S w ρ1 S1 w1) (k:ExtB b ρ1 S1 w1 ρ2 S2 w2):ExtB b ρ S w ρ2 S2 w2 where
 rho id hid:=by rw [k.rho id hid,h.rho id hid]
 next:=k.next
 size:=Nat.le_trans h.size k.size
 keep b hb hn:=by
  rw [k.keep b (Nat.lt_of_lt_of_le hb h.size) (fun ho=>by
   rcases h.own b ho with h'|h'
   ·omega
   ·exact hn h'),h.keep b hb hn]
 own b hb:=by
  rcases k.own b hb with h'|h'
  ·exact .inl (Nat.le_trans h.size h')
  ·exact h.own b h'
 has b hb:=by
  rcases k.has b hb with h'|h'
  ·exact .inl (Nat.le_trans h.size h')
  ·exact h.has b h'
 tape:=k.tape.trans h.tape
 os:=k.os.trans h.os
 output:=k.output.trans h.output
 drawn:=Nat.le_trans h.drawn k.drawn
def AftB (b:Nat) (ρ:Rho) (H:Hs) (w:World) (E':Env) (D':List Nat) (H':Hs) (a':Act) (w':World):Prop:=∃ ρ',ER ρ' E' a'.tmps∧DR ρ' D' a'.defers∧Sim ρ' H' w'∧ExtB b ρ H w ρ' H' w'
def LoopSB (b:Nat) (P:Program) (c:Code) (E:Env) (H:Hs) (x:X) (E':Env) (D':List Nat) (H':Hs):Prop :=
 ∀ (ρ:Rho) (a:Act) (w:World) (Q:Exit→Act→World→Prop),ER ρ E a.tmps→DR ρ [] a.defers→Globs ρ→Sim ρ H w →
   (∀ a' w',AftB b ρ H w E' D' H' a' w'→Q x.toExit a' w')→HeadIn (W none) 0 P c Q a w
inductive LPB (b:Nat) (P:Program):Code→Env→St→KT→Prop
 | mk {c:Code} {E:Env} {S:St} {k:KT} (x:X) (E':Env) (D':List Nat) (S':St) (h:LoopSB b P c E S.hs x E' D' S'.hs) (hk:k x E' D' S'):LPB b P c E S k
/-- At the loop's begin. -/
theorem LPB.lp {c:Code} {E:Env} {S:St} {k:KT} (h:LPB S.next P c E S k):LP P none c E [] S k:=by
 cases h with
 | mk x E' D' S' h hk =>
   refine .mk x E' D' S' (fun ρ r a w Q hro hE hD hg hs hQ=>?_) hk
   have hr:r=none:=hro
   subst hr
   refine h ρ a w Q hE hD hg hs fun a' w' ⟨ρ',h1,h2,h3,h4⟩=>hQ a' w' ⟨ρ',h1,h2,h3,ExtB.ext h4⟩
/-- Numbers and their new ones: those below 'b' as they are, then those of a list in its order. -/
def idxN (i:Nat):List Nat→Nat→Option Nat
 | [],_=>none
 | g :: gs,j=>bif Nat.beq i g then some j else idxN i gs (j+1)
def reN (b:Nat) (gs:List Nat) (i:Nat):Option Nat:=bif Nat.blt i b then some i else idxN i gs b
theorem idxN_some {i j:Nat}:∀ {gs:List Nat} {b:Nat},idxN i gs b=some j→b ≤ j∧j < b+gs.length∧gs[j - b]?=some i
 | [],b,h=>by cases h
 | g :: gs,b,h=>by
   unfold idxN at h
   cases hb:Nat.beq i g with
   | true =>
     rw [hb] at h
     have:b=j:=Option.some.inj h
     subst this
     exact ⟨Nat.le_refl _,by simp,by simp [Nat.eq_of_beq_eq_true hb]⟩
   | false =>
     rw [hb] at h
     obtain ⟨h1,h2,h3⟩:=idxN_some (show idxN i gs (b+1)=some j from h)
     refine ⟨by omega,by simp;omega,?_⟩
     rw [show j - b=j - (b+1)+1 by omega];simpa using h3
/-- How a number goes with its new one. -/
def Rre (b:Nat) (gs:List Nat) (i j:Nat):Prop:=(i < b∧j=i) ∨ (b ≤ j∧j < b+gs.length∧gs[j - b]?=some i)
theorem reN_some {b i j:Nat} {gs:List Nat} (h:reN b gs i=some j):Rre b gs i j:=by
 unfold reN at h
 cases hb:Nat.blt i b with
 | true =>
   rw [hb] at h
   have:i=j:=Option.some.inj h
   subst this
   exact .inl ⟨blt_lt hb,rfl⟩
 | false=>rw [hb] at h;exact .inr (idxN_some h)
mutual
/-- A value with new numbers. -/
def V.re (b:Nat) (gs:List Nat):V→V
 | .ptr id off=>match reN b gs id with|some j=>.ptr j off|none=>.any
 | .slice id off len cap es ex=>match reN b gs id with|some j=>.slice j off len cap es ex|none=>.any
 | .map id=>match reN b gs id with|some j=>.map j|none=>.any
 | .yield id=>match reN b gs id with|some j=>.yield j|none=>.any
 | .func fn a c=>.func fn (V.reL b gs a) (V.reL b gs c)
 | .iface t v=>.iface t (V.re b gs v)
 | .agg a=>.agg (V.reL b gs a)
 | .tup a=>.tup (V.reL b gs a)
 | .bool x=>.bool x
 | .int k m=>.int k m
 | .float k m=>.float k m
 | .str s=>.str s
 | .nilPtr=>.nilPtr
 | .nilSlice=>.nilSlice
 | .nilMap=>.nilMap
 | .nilFunc=>.nilFunc
 | .nilIface=>.nilIface
 | .any=>.any
def V.reL (b:Nat) (gs:List Nat):List V→List V
 | []=>[]
 | v :: l=>V.re b gs v :: V.reL b gs l
end
mutual
theorem V.re_vi (b:Nat) (gs:List Nat):∀ v:V,VI (Rre b gs) v (V.re b gs v)
 | .ptr id off=>by
   unfold V.re
   cases h:reN b gs id with
   | none=>exact .toAny rfl
   | some j=>exact .ptr off (reN_some h)
 | .slice id off len cap es ex=>by
   unfold V.re
   cases h:reN b gs id with
   | none=>exact .toAny rfl
   | some j=>exact .slice off len cap es ex cap ex (reN_some h) (.inl rfl) (Nat.le_refl _) fun h=>⟨h,rfl⟩
 | .map id=>by
   unfold V.re
   cases h:reN b gs id with
   | none=>exact .toAny rfl
   | some j=>exact .map (reN_some h)
 | .yield id=>by
   unfold V.re
   cases h:reN b gs id with
   | none=>exact .toAny rfl
   | some j=>exact .yield (reN_some h)
 | .func fn a c=>.func fn (V.re_vis b gs a) (V.re_vis b gs c)
 | .iface t v=>.iface t (V.re_vi b gs v)
 | .agg a=>.agg (V.re_vis b gs a)
 | .tup a=>.tup (V.re_vis b gs a)
 | .bool x=>.bool x
 | .int k m=>.int k m
 | .float k m=>.float k m
 | .str s=>.str s
 | .nilPtr=>.nilPtr
 | .nilSlice=>.nilSlice
 | .nilMap=>.nilMap
 | .nilFunc=>.nilFunc
 | .nilIface=>.nilIface
 | .any=>.any
theorem V.re_vis (b:Nat) (gs:List Nat):∀ l:List V,VIs (Rre b gs) l (V.reL b gs l)
 | []=>.nil
 | v :: l=>.cons (V.re_vi b gs v) (V.re_vis b gs l)
end
noncomputable def reE (b:Nat) (gs:List Nat) (E:Env):Env:=bl4 fun t=>(tget E t).map (V.re b gs)
theorem reE_get {b:Nat} {gs:List Nat} {E:Env} {t:Nat} {v:V} (h:tget (reE b gs E) t=some v):∃ u,tget E t=some u∧VI (Rre b gs) u v:=by
 by_cases hb:path t=.bad
 ·have:getP (reE b gs E) (path t)=some v:=h
  rw [hb] at this;cases this
 ·have h':getP (reE b gs E) (path t)=some v:=h
  unfold reE at h'
  rw [bl4_get _ _ hb,path_num hb] at h'
  cases hu:tget E t with
  | none=>rw [hu] at h';cases h'
  | some u=>rw [hu] at h';exact ⟨u,rfl,by rw [← Option.some.inj h'];exact V.re_vi b gs u⟩
/-- A heap with new numbers. -/
structure Renum (b:Nat) (gs:List Nat) (S1 S2:St):Prop where
 next:S2.next=b+gs.length
 nodup:gs.Nodup
 high:∀ g ∈ gs,b ≤ g
 held:T.All (fun id o=>∃ i o1,Rre b gs i id∧T.get deep i S1.hp=some o1∧OI (Rre b gs) o1 o) S2.hp 1 0
theorem LPB.gc (hm:P.follows .mixedOrders=true) {b:Nat} {c:Code} {E:Env} {S:St} {k:KT} (hb:b ≤ S.next) (hgl:ngl ≤ b)
  (h:∀ K:KT,K=(fun x E1 D1 S1=>X.casesOn x (∃ gs S2,Renum b gs S1 S2∧D1=[]∧LPB b P c (reE b gs E1) S2 k) (fun id=>k (.exit id) E1 D1 S1) (k .ret E1 D1 S1)) →
   wk P (RC P) (RD P) (LP P) (evDraw P (RC P) (RD P)) none c E [] S K):LPB b P c E S k:=by
 obtain ⟨x,E1,D1,S1,h1,h2⟩:=evCode_spec RC_ok RD_ok LP_ok (evDraw_ok hm RC_ok RD_ok) none c E [] S _ (h _ rfl)
 cases x with
 | normal =>
   obtain ⟨gs,S2,hd,rfl,h3⟩:=h1
   cases h3 with
   | mk x2 E2 D2 S3 h4 h5 =>
     refine .mk x2 E2 D2 S3 (fun ρ a w Q hE hD hg hs hQ=>.of (h2 ρ none a w _ rfl hE hD hg hs fun a1 w1 ⟨ρ1,b1,b2,b3,b4⟩=>?_)) h5
     let ρ2:Rho:=fun j=>if j < b then ρ1 j else (gs[j - b]?).bind ρ1
     have hlow:∀ j,j < b→ρ2 j=ρ1 j:=fun j hj=>if_pos hj
     have hhi:∀ j,b ≤ j→ρ2 j=(gs[j - b]?).bind ρ1:=fun j hj=>if_neg (by omega)
     have hR0:∀ i j l,Rre b gs i j→ρ1 i=some l→ρ2 j=some l:=by
      rintro i j l (⟨hi,rfl⟩|⟨hj,_,hi⟩) hl
      ·rw [hlow _ hi];exact hl
      ·rw [hhi _ hj,hi];exact hl
     have hR:Tr ρ1 ρ2 (Rre b gs):=.of hR0
     have hheld:∀ id o,S2.hs.get id=some o→∃ i o1,Rre b gs i id∧S1.hs.get i=some o1∧OI (Rre b gs) o1 o:=fun id o ho=>hd.held.get ho
     have hinv:∀ id,(S2.hs.get id).isSome→∀ l,ρ2 id=some l→∃ i,Rre b gs i id∧(S1.hs.get i).isSome∧ρ1 i=some l:=fun id hi l hl=>by
      obtain ⟨o,ho⟩:=Option.isSome_iff_exists.1 hi
      obtain ⟨i,o1,r,ho1,_⟩:=hheld id o ho
      obtain ⟨l1,_,p,_,_⟩:=b3.obj i o1 ho1
      have:=hR0 i id l1 r p
      rw [hl] at this;cases this
      exact ⟨i,r,by rw [ho1];rfl,p⟩
     have hsim:Sim ρ2 S2.hs w1:=by
      refine ⟨fun j o ho=>?_,fun j j' lj lj' hj hj' hlj hlj' hrw hne=>?_,fun j hj=>?_⟩
      ·obtain ⟨i,o1,r,ho1,hoi⟩:=hheld j o ho
       obtain ⟨l,co,p,q,s⟩:=b3.obj i o1 ho1
       exact ⟨l,co,hR0 i j l r p,q,hoi.tr hR (.refl l) (fun _=>rfl) s⟩
      ·obtain ⟨i,r,hi,hli⟩:=hinv j hj lj hlj
       obtain ⟨i',r',hi',hli'⟩:=hinv j' hj' lj' hlj'
       refine b3.sep i i' lj lj' hi hi' hli hli' hrw fun e=>hne ?_
       subst e
       rcases r with ⟨p,q⟩|⟨p,q,s⟩
       ·rcases r' with ⟨p',q'⟩|⟨p',q',s'⟩
        ·rw [q,q']
        ·have:=hd.high i (List.mem_of_getElem? s');omega
       ·have:=hd.high i (List.mem_of_getElem? s)
        rcases r' with ⟨p',q'⟩|⟨p',q',s'⟩
        ·omega
        ·obtain ⟨u1,u2⟩:=List.getElem?_eq_some_iff.1 s
         obtain ⟨u3,u4⟩:=List.getElem?_eq_some_iff.1 s'
         have:=nodup_inj hd.nodup u1 u3 (by rw [u2,u4])
         omega
      ·have hj':S2.next ≤ j:=hj
       have:=hd.next
       rw [hhi j (by omega),List.getElem?_eq_none (by omega)];rfl
     have hrho:∀ j,j < b→ρ2 j=ρ j:=fun j hj=>by rw [hlow j hj];exact b4.rho j (Nat.lt_of_lt_of_le hj hb)
     have hext:ExtB b ρ S.hs w ρ2 S2.hs w1 :=
      { rho:=hrho
        next:=by show b ≤ S2.next;rw [hd.next];omega
        size:=b4.size,keep:=b4.keep
        own:=fun y ⟨j,l,p,q,s,t⟩=>by
         obtain ⟨i,_,hi,hli⟩:=hinv j p l q
         exact b4.own y ⟨i,l,hi,hli,s,t⟩
        has:=fun y ⟨j,l,p,q,t⟩=>by
         obtain ⟨i,_,hi,hli⟩:=hinv j p l q
         exact b4.has y ⟨i,l,hi,hli,t⟩
        tape:=b4.tape,os:=b4.os,output:=b4.output,drawn:=b4.drawn }
     have hER:ER ρ2 (reE b gs E1) a1.tmps:=fun t v hv=>by
      obtain ⟨u,hu,hi⟩:=reE_get hv
      obtain ⟨v',p,q⟩:=b1 t u hu
      exact ⟨v',p,hi.tr hR q⟩
     have hDR:DR ρ2 [] a1.defers:=by
      cases hdf:a1.defers with
      | nil=>trivial
      | cons y ys=>rw [hdf] at b2;exact b2.elim
     have hglob:Globs ρ2:=fun i hi=>by
      obtain ⟨l,p,q,r⟩:=hg i hi
      exact ⟨l,by rw [hrho i (by omega)];exact p,q,r⟩
     exact h4 ρ2 a1 w1 Q hER hDR hglob hsim fun a2 w2 ⟨ρ3,c1,c2,c3,c4⟩=>hQ a2 w2 ⟨ρ3,c1,c2,c3,hext.trans c4⟩
 | exit id=>exact .mk (.exit id) E1 D1 S1 (fun ρ a w Q hE hD hg hs hQ=>.of (h2 ρ none a w _ rfl hE hD hg hs fun a1 w1 ⟨ρ1,b1,b2,b3,b4⟩=>hQ a1 w1 ⟨ρ1,b1,b2,b3,b4.b hb⟩)) h1
 | ret=>exact .mk .ret E1 D1 S1 (fun ρ a w Q hE hD hg hs hQ=>.of (h2 ρ none a w _ rfl hE hD hg hs fun a1 w1 ⟨ρ1,b1,b2,b3,b4⟩=>hQ a1 w1 ⟨ρ1,b1,b2,b3,b4.b hb⟩)) h1
theorem LPB.induct {b:Nat} {c:Code} {k:KT} {E:Env} {S:St} (n:Nat) (Inv:Nat→Env→St→Prop) (h0:Inv 0 E S)
  (step:∀ j E S,Inv j E S→(∀ E' S',j < n→Inv (j+1) E' S'→LPB b P c E' S' k)→LPB b P c E S k):LPB b P c E S k:=by
 have key:∀ m j E S,n ≤ j+m→Inv j E S→LPB b P c E S k:=by
  intro m
  induction m with
  | zero=>exact fun j E S hj hi=>step j E S hi fun E' S' hlt _=>by omega
  | succ m ih=>exact fun j E S hj hi=>step j E S hi fun E' S' _ hi'=>ih (j+1) E' S' (by omega) hi'
 exact key n 0 E S (by omega) h0
theorem LPB.tree {b:Nat} {c:Code} {E:Env} {S:St} {k:KT} {L:List V} (hf:Fits E 0 L) (T:Env) (hT:T=envL L) (h:LPB b P c T S k):LPB b P c E S k:=by
 cases h with
 | mk x E' D' S' h hk=>exact .mk x E' D' S' (fun ρ a w Q hE hD hg hs hQ=>h ρ a w Q (fun t v ht=>hE t v (hf.le t v (by rw [← hT];exact ht))) hD hg hs hQ) hk
end Go.Am
/- append to a row of labels. -/
namespace Go.Am
open Go.Proofs
set_option maxRecDepth 100000
theorem takeK_intro {α:Type} {k:List α→Prop}:∀ {n:Nat} {l:List α},n ≤ l.length→k (l.take n)→takeK n l k
 | 0,l,_,h=>by cases l <;> exact h
 | n+1,[],hn,_=>by simp at hn
 | n+1,x :: l,hn,h=>by
   show takeK n l fun r=>k (x :: r)
   exact takeK_intro (n:=n) (l:=l) (by simpa using hn) h
theorem cellsOf_append:∀ (a b:List Lab),cellsOf (a ++ b)=cellsOf a ++ cellsOf b
 | [],_=>rfl
 | q :: a,b=>by simp [cellsOf,cellsOf_append a b]
attribute [local irreducible] fN takeK appK rowK newK putK
theorem app_nil {S:St} {id2:Nat} {q:Lab} {e2:TypeId} {fl2:Fl} (hx:S.hs.get id2=some (.cells (cellsOf [q]) e2 fl2)) {k:V→St→Prop}
  (hk:newK (.cells (cellsOf [q]) 40 .rw) S fun id S=>k (.slice id 0 1 1 2 false) S):bAppend Tryz.prog #[28,28] .nilSlice (.slice id2 0 1 1 2 true) S k:=by
 conv=>whnf
 refine rowK_intro hx ?_
 conv=>whnf
 refine takeK_intro (n:=2) (by simp [cellsOf]) ?_
 conv=>whnf
 exact hk
set_option maxHeartbeats 1000000 in
theorem app_lab {S:St} {id id2:Nat} {o:List Lab} {q:Lab} {e2:TypeId} {fl2:Fl} (ho:S.hs.get id=some (.cells (cellsOf o) 40 .rw)) (hx:S.hs.get id2=some (.cells (cellsOf [q]) e2 fl2)) (hlen:o.length < 4096) {k:V→St→Prop}
  (hk:putK id none S fun S=>newK (.cells (cellsOf (o ++ [q])) 40 .rw) S fun id S=>k (.slice id 0 (o.length+1) (o.length+1) 2 false) S):bAppend Tryz.prog #[28,28] (.slice id 0 o.length o.length 2 false) (.slice id2 0 1 1 2 true) S k:=by
 rw [cellsOf_append] at hk
 conv=>whnf
 refine rowK_intro hx ?_
 conv=>whnf
 refine takeK_intro (n:=2) (by simp [cellsOf]) ?_
 conv=>whnf
 refine zy ?_
 conv=>whnf
 refine bcase (fun h=>?_) (fun _=>?_)
 ·have:o.length+1 ≤ o.length:=Nat.le_of_ble_eq_true h
  omega
 conv=>whnf
 refine bcase (fun _=>?_) (fun h=>?_)
 ·refine rowK_intro ho ?_
  conv=>whnf
  refine takeK_intro (by rw [cellsOf_length];show o.length * 2 ≤ 2 * o.length;omega) ?_
  conv=>whnf
  refine appK_intro ?_
  conv=>whnf
  rw [List.take_of_length_le (by rw [cellsOf_length];show 2 * o.length ≤ o.length * 2;omega)]
  exact hk
 ·have h1:Nat.ble ((o.length+1) * 33) 70368744177664=true:=Nat.ble_eq_true_of_le (by omega)
  exact absurd (h.symm.trans h1) (by simp)
end Go.Am
