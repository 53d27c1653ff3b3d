/- Part 7 of the proof that BodyWrong returns true, and leaves its arguments as they were, for every input, over a start where the listed variables hold what the program lays: the statement Rows.BodyWrongCardSaid. -/
import Derived.Test.YtigihhfdlgjhbaaGreatDoorWAf
import Derived.Test.YtigihhfdlgjhbaaGreatDoorWAd
import Derived.Maps.RangeRun
import Derived.Test.YtigihhfdlgjhbaaGreatDoorWAc
import Derived.Test.YtigihhfdlgjhbaaGreatDoorWAe
set_option linter.unusedVariables false
set_option linter.unusedSimpArgs false
set_option maxRecDepth 100000
set_option maxHeartbeats 400000000
open Go.Proofs.Tryz (prog)
namespace Go.Am
open Go.Proofs
attribute [local irreducible] fN fI fB cR eQ evCode evOps rD kOp aAj wF wH wG kGc aLE aLD kDr kMg drOps fU kK sl
section
attribute [local irreducible] aO bK cM bD
theorem aVm:∃ fn,prog.funcs[181]?=some fn∧fn.body=none:=⟨Tryz.f181,kr,kr⟩
theorem aRb {n:Nat}(hn:n <= 1000000){S:St}{k:V->St->Prop}(hk:bK (.cells (List.replicate n .any) 5 .rw) S fun id S'=>k (.slice id 0 n n 1 false) S'):RC prog 181 [.int .i64 (.ofNat n)] S k:=by
 refine RC.run mixed aS (nN aVm ?_)
 conv=>whnf
 refine ifK_intro (ag om) ?_
 conv=>whnf
 exact hk
theorem aLh {p:Nat}{S:St}(hS:S.hs.get p=some (.cells [.nilPtr,.nilSlice] 93 .ex))(hpr:p < room)(hps:p < S.next){k:V->St->Prop}(hk:∀ S',Abv p S.next S S' 0->S'.hs.get p=some (.cells [.ptr p 0,.nilSlice] 93 .ex)->k (.tup []) S'):RC prog 68 [.ptr p 0] S k:=by
 refine RC.run mixed aS (aG aUP ?_);refine enter ?_;refine go ?_;refine aA hS ?_;refine go ?_;refine aA hS ?_;refine go ?_;refine wN ?_;refine go ?_;refine aA hS ?_
 conv=>whnf
 refine go ?_;refine aA hS ?_;refine bH (v:=.ptr p 0) rfl sm kr rfl sm ?_;refine aE hpr fun S2 hS2=>?_;refine go ?_;exact hk S2 ((Abv.refl p S.next S 0).put hS2 (.inl rfl)) (aR hS2)
theorem aWM:bB prog 133 30 [] (aL Tryz.f133):=fq Tryz.f133
theorem aTB {b p n:Nat}{S:St}(hp:S.hs.get p=some (.cells [.ptr p 0,.nilSlice] 93 .ex))(hpr:p < room)(hps:p < S.next)(hb:b <= S.next)(hn0:0 < n)(hn:n <= 1000000)(hr:S.next+20 < room){k:V->St->Prop}
  (hk:∀ S',Abv p b S S' 20->Bld b S' p []->k (.tup []) S'):RC prog 133 [.ptr p 0,.int .i64 (.ofNat n)] S k:=by
 refine RC.run mixed aS (aG aWM ?_);refine enter ?_;refine go ?_;refine jO ?_;refine aV rfl (by intro Q hQ;(conv=>whnf);exact hQ) ?_;refine aV rfl (by intro Q hQ;(conv=>whnf);exact hQ) ?_;refine aV rfl (by intro Q hQ;(conv=>whnf);exact aP hQ) ?_;refine dE rfl (fun Q hQ=>aA (S:=⟨S.hp,_⟩) hp (aH kr _ rfl rfl hQ)) ?_;refine dE (v:=.int .i64 0) rfl (fun Q hQ=>by (conv=>whnf);exact hQ) ?_;refine aV (v:=.int .i64 0) rfl (by intro Q hQ;(conv=>whnf);exact bI 0 hQ) ?_;refine aV rfl (by intro Q hQ;(conv=>whnf);exact hQ) ?_;refine aV (v:=.int .i64 (.ofNat n)) rfl (by intro Q hQ;(conv=>whnf);exact bI n hQ (Int.zero_add _) om) ?_;refine dK (hs:=rfl) (pe':=[]) (S1:=⟨S.hp,Nat.add S.next 16⟩) (A:=fun Q=>RC prog 181 [.int .i64 (.ofNat n)] ⟨S.hp,Nat.add S.next 16⟩ Q) rfl (fun Q hQ=>by (conv=>whnf);exact hQ) (fun Q hQ=>by (conv=>whnf);exact hQ) ?_;refine aRb hn ?_;refine aD (S:=⟨S.hp,Nat.add S.next 16⟩) (by show S.next+16 < room;omega) fun S1 hS1=>?_;have n1:S1.next=S.next+16+1:=aF hS1
 have k1:∀ id,id < S.next->S1.hs.get id=S.hs.get id:=fun id h=>by rw [aC hS1 (by show id ≠ S.next+16;omega)];rfl
 have x1:S1.hs.get (S.next+16)=some (.cells (List.replicate n .any) 5 .rw):=aJ hS1;have hp1:=(k1 p hps).trans hp;refine n_dopA ?_;refine aV rfl (by intro Q hQ;(conv=>whnf);exact hQ) ?_;refine aV rfl (by intro Q hQ;(conv=>whnf);exact hQ) ?_;refine aV rfl (by intro Q hQ;(conv=>whnf);exact aP hQ) ?_;refine dE rfl (fun Q hQ=>aA hp1 (aH kr _ rfl rfl hQ)) ?_;refine dE (v:=.int .i64 0) rfl (fun Q hQ=>by (conv=>whnf);exact hQ) ?_;refine aV (v:=.slice (S.next+16) 0 0 n 1 false) rfl (by intro Q hQ;(conv=>whnf);exact aP (aP (aP hQ))) ?_;refine aV rfl (by intro Q hQ;(conv=>whnf);exact hQ) ?_;refine zG ?_;refine aGz ?_;refine cS (.inr fun Q hQ=>by (conv=>whnf);exact hQ) (.inr fun Q hQ=>by (conv=>whnf);exact hQ) rfl ?_;refine cS (.inr fun Q hQ=>aA hp1 (aH kr _ rfl rfl hQ)) (.inr fun Q hQ=>aA (S:=⟨S.hp,_⟩) hp (aH kr _ rfl rfl hQ)) rfl ?_;refine cS (.inr fun Q hQ=>by (conv=>whnf);exact hQ) (.inr fun Q hQ=>by (conv=>whnf);exact hQ) rfl ?_;refine cS (.inr fun Q hQ=>aA hp1 (aH kr _ rfl rfl hQ)) (.inr fun Q hQ=>aA (S:=⟨S.hp,_⟩) hp (aH kr _ rfl rfl hQ)) rfl ?_;refine jA ?_;refine iQ ?_;refine yG (fun Q hQ=>by (conv=>whnf);exact hQ) ?_;refine go ?_;refine aA hp1 ?_;refine go ?_;refine aA hp1 ?_;refine bH (v:=.slice (S.next+16) 0 0 n 1 false) rfl sm kr rfl sm ?_;refine aE hpr fun S2 hS2=>?_;have n2:=aK hS2;refine go ?_;refine hk S2 ⟨fun id g1 g2=>by rw [aB hS2 g2];exact k1 id om,om,om⟩ ⟨hpr,om,.ptr p 0,.slice (S.next+16) 0 0 n 1 false,.inr rfl,aR hS2,.inr ⟨S.next+16,List.replicate n .any,sm,om,om,om,om,by simpa using hn0,?_⟩⟩;rw [aB hS2 om];exact x1
theorem aWG:bB prog 93 25 [] (aL Tryz.f93):=fq Tryz.f93
theorem aSP {b p n:Nat}{S:St}(hp:S.hs.get p=some (.cells [.nilPtr,.nilSlice] 93 .ex))(hpr:p < room)(hps:p < S.next)(hpb:p < b)(hb:b <= S.next)(hn0:0 < n)(hn:n <= 1000000)(hr:S.next+60 < room){k:V->St->Prop}
  (hk:∀ S',Abv p b S S' 60->Bld b S' p []->k (.tup []) S'):RC prog 93 [.ptr p 0,.int .i64 (.ofNat n)] S k:=by
 have hB0:Bld b S p []:=⟨hpr,hps,.nilPtr,.nilSlice,.inl rfl,hp,.inl ⟨rfl,rfl⟩⟩
 refine RC.run mixed aS (aG aWG ?_);refine enter ?_;refine go ?_;refine aLh hp hpr hps fun S1 hA1 hp1=>?_;have a1:=hA1.lo;have b1:=hA1.hi;refine go ?_;refine jO ?_;refine aV rfl (by intro Q hQ;(conv=>whnf);exact hQ) ?_;refine aV rfl (by intro Q hQ;(conv=>whnf);exact hQ) ?_;refine aV rfl (by intro Q hQ;(conv=>whnf);exact aP hQ) ?_;refine dE rfl (fun Q hQ=>aA (S:=⟨S1.hp,_⟩) hp1 (aH kr _ rfl rfl hQ)) ?_;refine dE (v:=.int .i64 0) rfl (fun Q hQ=>by (conv=>whnf);exact hQ) ?_;refine aV rfl (by intro Q hQ;(conv=>whnf);exact hQ) ?_;refine aV rfl (by intro Q hQ;(conv=>whnf);exact hQ) ?_;refine aV rfl (by intro Q hQ;(conv=>whnf);exact aP hQ) ?_;refine dE rfl (fun Q hQ=>aA (S:=⟨S1.hp,_⟩) hp1 (aH kr _ rfl rfl hQ)) ?_;refine dE (v:=.int .i64 0) rfl (fun Q hQ=>by (conv=>whnf);exact hQ) ?_;refine aV (v:=.int .i64 0) rfl (by intro Q hQ;(conv=>whnf);exact bI 0 hQ) ?_;refine aV rfl (by intro Q hQ;(conv=>whnf);exact hQ) ?_;refine aV (v:=.bool true) rfl (by intro Q hQ;(conv=>whnf);exact bE (fun _=>hQ) (fun (h:n <= 0)=>absurd h om)) ?_;refine zG ?_;refine aGz ?_;refine lY sm (by intro Q hQ;(conv=>whnf);exact hQ) rfl (.inl rfl) ?_;refine lY sm (by intro Q hQ;exact aA (S:=⟨S1.hp,_⟩) hp1 (aH kr _ rfl rfl hQ)) rfl (.inl rfl) ?_;refine lY sm (by intro Q hQ;(conv=>whnf);exact hQ) rfl (.inl rfl) ?_;refine lY sm (by intro Q hQ;exact aA (S:=⟨S1.hp,_⟩) hp1 (aH kr _ rfl rfl hQ)) rfl (.inl rfl) ?_;refine jA ?_;refine iQ ?_;refine yG (S1:=⟨S1.hp,Nat.add S1.next 13⟩) (fun Q hQ=>by (conv=>whnf);exact hQ) ?_;refine go ?_;have hp2:(⟨S1.hp,Nat.add S1.next 13⟩:St).hs.get p=some (.cells [.ptr p 0,.nilSlice] 93 .ex):=hp1;refine aTB (b:=b) hp2 hpr (by show p < S1.next+13;omega) (by show b <= S1.next+13;omega) hn0 hn (by show S1.next+13+20 < room;omega) fun S3 hA3 hB3=>?_;have a3:S1.next+13 <= S3.next:=hA3.lo;have b3:S3.next <= S1.next+13+20:=hA3.hi;refine go ?_;refine hk S3 ⟨fun id g1 g2=>?_,om,om⟩ hB3;rw [hA3.keep id g1 g2];exact hA1.keep id om g2
end
section
attribute [local irreducible] aO bK cM bD
def TV (S:St)(v:V)(l:List (List UInt8)):Prop:=(v=.nilSlice∧l=[]) ∨ ∃ i off c ex cs e fl,v=.slice i off l.length c 1 ex∧l.length <= c∧i < S.next∧S.hs.get i=some (.cells cs e fl)∧∀ j (h:j < l.length),cs[off+j]?=some (.str l[j])
theorem aJj {l:List (List UInt8)}{j:Nat}(h:j < l.length):(fH l)[j]?=some (.str l[j]):=by rw [yV,ak h];rfl
theorem aAc.tv {b:Nat}{S:St}{v:V}{L:List (List UInt8)}(h:aAc b S v L):TV S v L:=by
 rcases h with ⟨h1,h2⟩|⟨m,h1,h2,h3,h4,h5⟩
 ·exact .inl ⟨h2,h1⟩
 ·exact .inr ⟨m,0,_,false,_,_,_,h1,af _,h3,h5,fun j h=>by rw [Nat.zero_add];exact aJj h⟩
def qT:List (List UInt8)->Nat
 | []=>0
 | x :: l=>x.length+qT l
theorem mV {sep:List UInt8}:∀ {l:List (List UInt8)},l ≠ []->(iH sep l).length=sep.length * (l.length - 1)+qT l
 | [],h=>absurd rfl h
 | [x],_=>by simp [iH,qT]
 | x :: y :: l,_=>by
   rw [nV sm,aq,aq,mV sm];simp only [qT,au];have:l.length+1+1 - 1=(l.length+1 - 1)+1:=om;rw [this,Nat.mul_succ];omega
theorem yW:∀ {l:List (List UInt8)} {j:Nat} (h:j < l.length),qT (l.take (j+1))=qT (l.take j)+l[j].length
 | x :: l,0,_=>by simp [qT]
 | x :: l,j+1,h=>by
   have:=yW (l:=l) (j:=j) (by simpa using h);simp only [List.take_succ_cons,qT,List.getElem_cons_succ] at this ⊢;omega
theorem xB:∀ {l:List (List UInt8)} {j:Nat},qT (l.take j) <= qT l
 | [],j=>by simp
 | x :: l,0=>by simp [qT]
 | x :: l,j+1=>by
   have:=xB (l:=l) (j:=j);simp only [List.take_succ_cons,qT];omega
theorem aBx {sep x:List UInt8}:∀ {l:List (List UInt8)},l ≠ []->iH sep (l ++ [x])=iH sep l ++ (sep ++ x)
 | [],h=>absurd rfl h
 | [y],_=>rfl
 | y :: z :: l,_=>by
   have:=aBx (sep:=sep) (x:=x) (l:=z :: l) sm;rw [List.cons_append,nV sm,this,nV (l:=z :: l) sm];simp
theorem aWQ:bB prog 65 75 [.tmp 4] (aL Tryz.f65):=fq Tryz.f65
theorem aGl {l:List (List UInt8)}{sep:List UInt8}{v:V}{S:St}(h:TV S v l)(hsep:sep.length <= 1)(hfew:l.length <= 100)(hlen:(iH sep l).length <= 900000)(hpos:2 <= l.length->0 < (iH sep l).length)(hn:S.next+400 < room){k:V->St->Prop}
  (hk:∀ S',Abv S.next S.next S S' (80+2 * l.length)->k (.str (iH sep l)) S'):RC prog 65 [v,.str sep] S k:=by
 refine RC.run mixed aS (aG aWQ ?_);refine enter ?_
 rcases h with ⟨rfl,rfl⟩|⟨i,off,c,ex,cs,e,fl,rfl,hc,hi,hS,hat⟩
 ·refine go ?_;exact hk S (Abv.refl ..)
 have hpart:∀ (j:Nat) (h:j < l.length) {t:TypeId} {k:V->Prop},pY prog t=some false->k (.str l[j])->cR prog t (off+j) cs k:=fun j h t k ht hk=>aH ht (off+j) rfl (hat j h) hk
 rcases Nat.lt_or_ge l.length 2 with h2|h2
 ·rcases Nat.lt_or_ge l.length 1 with h1|h1
  ·have:l=[]:=List.eq_nil_of_length_eq_zero om;subst this;refine go ?_;exact hk S (Abv.refl ..)
  ·obtain ⟨x,rfl⟩:∃ x,l=[x]:=by
    match l,h1,h2 with
    | [x],_,_=>exact ⟨x,rfl⟩
   refine go ?_;refine aA hS ?_;refine hpart 0 sm kr ?_;refine go ?_;exact hk S (Abv.refl ..)
 ·obtain ⟨m,hm⟩:∃ m,l.length=m+2:=⟨l.length - 2,om⟩
  refine go ?_;refine bO (b:=0) (fun h=>by omega) (fun _=>?_);refine go ?_;refine bO (b:=1) (fun h=>by omega) (fun _=>?_);refine go ?_;have hls:dH sep=sep.length:=aM sep;have hjl:=mV (sep:=sep) (l:=l) (fun e=>by rw [e] at hm;simp at hm);have hm1:l.length - 1=m+1:=om;rw [hm1] at hjl;obtain ⟨n0,hn0⟩:∃ n0,n0=sep.length * (m+1):=⟨_,rfl⟩
  rw [<- hn0] at hjl;apply LP.join 75 [(0,.slice i off l.length c 1 ex),(1,.str sep),(5,.int .i64 (.ofNat n0)),(39,.slice i off l.length c 1 ex),(40,.int .i64 (.ofNat l.length)),(41,.int .i64 (.ofNat 0))]
  ·intro key;refine bE (a:=0) (fun h=>?_) (fun h=>?_)
   ·have hs1:sep.length=1:=om
    have hn1:n0=m+1:=by rw [hn0,hs1];omega
    rw [hls,hs1];refine go ?_;refine jK (m+1) ?_ (by show l.length=m+1+1;omega);refine go ?_
    obtain ⟨d,hd1,hd2,hd3⟩:∃ d,Int.tdiv 9223372036854775807 (Int.ofNat (m+1))=Int.ofNat d∧1 < d∧d <= 9223372036854775807:=⟨9223372036854775807 / (m+1),rfl,by
     have:2 <= 9223372036854775807 / (m+1):=(Nat.le_div_iff_mul_le om).2 om
     omega,Nat.div_le_self _ _⟩
    refine bI d ?_ hd1 hd3;refine go ?_;refine bE (fun _=>?_) (fun h=>absurd h (by rw [hls,hs1];omega));refine go ?_;refine jK (m+1) ?_ (by show l.length=m+1+1;omega);refine go ?_;refine bI (m+1) ?_ (by rw [hls,hs1];exact Int.one_mul _);refine go ?_;refine bI (m+1) ?_ (Int.zero_add _);refine go ?_;exact key _ ⟨rfl,rfl,rfl,by rw [hn1];rfl,rfl,rfl,rfl,trivial⟩
   ·have hs0:sep.length=0:=om
    have hn1:n0=0:=by rw [hn0,hs0];omega
    subst hn1;refine go ?_;exact key _ kq
  intro E0 hE0;refine LP.induct0 l.length (fun j E=>j <= l.length∧Kn E 75 [(0,.slice i off l.length c 1 ex),(1,.str sep),(5,.int .i64 (.ofNat (n0+qT (l.take j)))),(39,.slice i off l.length c 1 ex),(40,.int .i64 (.ofNat l.length)),(41,.int .i64 (.ofNat j))]) ⟨ai _,hE0⟩ ?_;intro j E ⟨hj,hf⟩ ih;have hsj:=xB (l:=l) (j:=j);refine LP.kn mixed hf ?_;refine go ?_;refine bE (fun hlt=>?_) (fun hge=>?_)
  ·have hst:=yW hlt;have hsj1:=xB (l:=l) (j:=j+1);refine go ?_;refine ifK_intro (ag hlt) ?_;refine go ?_;refine aA hS ?_;rw [show off.add (j.mul 1)=off+j from by rw [show j.mul 1=j from Nat.mul_one j];rfl];refine hpart j hlt kr ?_;refine go ?_;obtain ⟨q,hq⟩:∃ q,9223372036854775807=q+(n0+qT (l.take j)):=⟨9223372036854775807 - (n0+qT (l.take j)),om⟩
   refine jK (a:=9223372036854775807) q ?_ hq;refine go ?_;refine bE (fun h=>absurd h (by rw [aM];omega)) (fun _=>?_);refine go ?_;rw [aM];refine bI (n0+qT (l.take (j+1))) ?_ (by rw [hst,<- Nat.add_assoc];rfl);refine go ?_;refine bI (j+1) ?_;refine go ?_;exact ih _ hlt ⟨hlt,kq⟩
  ·have hje:j=l.length:=om;subst hje;rw [List.take_length] at hf ⊢;rw [<- hjl] at hf ⊢;have hjp:=hpos h2;generalize hN:(iH sep l).length=N at *;refine go ?_;refine aD om fun S1 hS1=>?_;have n1:=aF hS1;refine go ?_;refine aSP (b:=S.next+1) (aJ hS1) om om om om hjp om om fun S2 hA2 hB2=>?_;have a2:=hA2.lo;have b2:=hA2.hi
   have hAi:∀ S',Abv S.next (S.next+1) S1 S' 300->S'.hs.get i=some (.cells cs e fl):=fun S' hA=>by rw [hA.keep i om om,aC hS1 om];exact hS
   refine go ?_;refine ifK_intro (ag (show 1 <= l.length by omega)) ?_;refine go ?_;refine aA (hAi S2 (hA2.le om)) ?_;refine hpart 0 om kr ?_;refine go ?_;refine aFi hB2 om (by have:=yW (l:=l) (j:=0) om;have:=xB (l:=l) (j:=0+1);simp only [List.length_nil];omega) om fun S3 hA3 hB3=>?_;have a3:=hA3.lo;have b3:=hA3.hi;refine go ?_;refine ifK_intro (ag (show 1 <= l.length by omega)) ?_
   conv=>whnf
   refine ifK_intro (ag hc) ?_;refine go ?_;rw [show l.length.sub 1=m+1 from hm1,show off.add (Nat.mul 1 1)=off+1 from rfl];have hA13:Abv S.next (S.next+1) S1 S3 61:=hA2.trans hA3 om;have hl1:l.take (0+1)=[l[0]]:=(an om).trans rfl
   refine LP.induct (m+1) (fun j E S'=>j <= m+1∧Kn E 75 [(0,.slice i off l.length c 1 ex),(1,.str sep),(8,.ptr S.next 0),(63,.slice i (off+1) (m+1) (c.sub 1) 1 ex),(64,.int .i64 (.ofNat (m+1))),(65,.int .i64 (.ofNat j))]∧Bld (S.next+1) S' S.next (iH sep (l.take (j+1)))∧Abv S.next (S.next+1) S1 S' (61+2 * j))
    ⟨ai _,kq,by rw [hl1];exact hB3,hA13⟩ ?_
   rintro j E S4 ⟨hj,hf,hB,hA⟩ ih;have a4:=hA.lo;have b4:=hA.hi;refine LP.kn mixed hf ?_;refine go ?_;refine bE (fun hlt=>?_) (fun hge=>?_)
   ·have hlt2:j+1 < l.length:=om;refine go ?_;refine ifK_intro (ag hlt) ?_;refine go ?_;refine aA (hAi S4 (hA.le om)) ?_;rw [show (off+1).add (j.mul 1)=off+(j+1) from by rw [show j.mul 1=j from Nat.mul_one j];show off+1+j=_;omega];refine hpart (j+1) hlt2 kr ?_;refine go ?_;have htk:l.take (j+1+1)=l.take (j+1) ++ [l[j+1]]:=an hlt2
    have hne:l.take (j+1) ≠ []:=fun e=>by have:=congrArg List.length e;rw [bh,List.length_nil] at this;omega
    have hjs:=aBx (sep:=sep) (x:=l[j+1]) hne
    have hjn:(iH sep (l.take (j+1+1))).length <= N:=by
     rw [mV (fun e=>by have:=congrArg List.length e;rw [bh,List.length_nil] at this;omega),bh,hjl,hn0];have:=xB (l:=l) (j:=j+1+1);have:=Nat.mul_le_mul_left sep.length (show min (j+1+1) l.length - 1 <= m+1 by omega);omega
    rw [htk,hjs] at hjn ih;simp only [aq] at hjn;refine aFi hB om om om fun S5 hA5 hB5=>?_;have a5:=hA5.lo;have b5:=hA5.hi;refine go ?_;refine aFi hB5 om (by rw [aq];omega) om fun S6 hA6 hB6=>?_;have a6:=hA6.lo;have b6:=hA6.hi;refine go ?_;refine bI (j+1) ?_;refine go ?_;exact ih _ S6 om ⟨om,kq,by rw [<- List.append_assoc];exact hB6,(hA.trans hA5 (af _)).trans hA6 om⟩
   ·have hje:j=m+1:=om;subst hje;rw [show l.take (m+1+1)=l from bd om] at hB;refine go ?_;refine vI hB om fun S5 hA5=>?_;have a5:=hA5.lo;have b5:=hA5.hi;refine go ?_;exact hk S5 ⟨fun id g _=>by rw [hA5.keep id om om,hA.keep id om om,aC hS1 om],om,om⟩
end
section
attribute [local irreducible] aO bK cM bD
theorem qA {x y z:List UInt8}{k:List UInt8->Prop}(h:x.length+y.length <= 9223372036854775807)(e:x ++ y=z)(hk:k z):dD (Nat.ble (Nat.add (dH x) (dH y)) 9223372036854775807) (nH x y k):=by subst e;exact gM h hk
theorem aLK {l:List aY}(h:l ≠ []):0 < (gS l).length:=by
 cases l with
 | nil=>exact absurd rfl h
 | cons q l =>
   cases l with
   | nil=>show 0 < (q.1 ++ 61 :: mM q.2).length;simp;omega
   | cons r l=>show 0 < (oK q ++ 44 :: gS (r :: l)).length;simp;omega
theorem aEW (a b:List aY):cJ (a ++ b)=cJ a ++ cJ b:=List.filter_append ..
theorem aWT:bB prog 33 68 [.tmp 2,.tmp 3] (aL Tryz.f33):=fq Tryz.f33
theorem aOv {x:jH}(hx:fD x){i:Nat}{e0:TypeId}{fl0:Fl}{S:St}(h10:jB S)(hS:S.hs.get i=some (.cells (cellsOf x.l) e0 fl0))(hir:i < room)(hn:S.next < room){k:V->St->Prop}
  (hk:∀ S',S'.hs=S.hs->k (.tup [.str (cN x),.int .i64 0]) S'):RC prog 33 [.agg (SC (x,i))] S k:=by
 have hrest:=hx.rest;have hf16:=hx.few16;have hf32:=hx.ok.few;have hll:=rV hx;obtain ⟨e1,hgb⟩:=pM h10
 refine RC.ro mixed aWT hgb sm hS (o':=.cells (cellsOf x.l) e0 .ro) (.cells (aN _) (.inr (.inr rfl))) rfl hir hn (l:=[.agg (SC (x,aI))])
  (.cons (.agg (.cons (.slice _ _ _ _ _ _ _ (iC.at (a:=0) rfl sm) (.inl rfl) (af _) fun h=>⟨h,rfl⟩) (.cons (.int _ _) (.cons (.bool _) (.cons (.int _ _) .nil))))) .nil) (v:=.tup [.str (cN x),.int .i64 0]) rfl (fun S K hn1 hS hg hK=>?_) hk
 have h10:jB S:=⟨e1,(hg _ (ay.2 rfl)).2.2.1⟩
 clear hk hir hn hgb;have hngl:aI=1000:=rfl;have hroom:room=4096:=rfl;have hn:S.next+600 < room:=om;have hi:aI < S.next:=om;generalize aI=i at hS hi hn1 hngl ⊢;refine enter ?_;refine go ?_;refine aD om fun S1 hS1=>?_;have n1:=aF hS1;have hS1i:=(aC hS1 om).trans hS;refine go ?_;refine aA (aJ hS1) ?_;refine aX (n:=4) kr kr (af 4) rfl ?_;refine go ?_;refine aBT hx.r om hS1i om fun S2 hA2=>?_;have a2:=hA2.lo;have b2:=hA2.hi;have hb2:S2.hs.get S.next=some (.cells (SC (x,i)) 49 .ex):=(hA2.keep _ om om).trans (aJ hS1);have hS2i:=(hA2.keep i om om).trans hS1i;refine go ?_;refine aA hb2 ?_;refine go ?_
 refine LP.induct x.l.length (fun j E S'=>∃ v,j <= x.l.length∧Kn E 68 [(1,.ptr S.next 0),(4,v),(14,.slice i 0 x.l.length x.l.length 2 false),(15,.int .i64 (.ofNat x.l.length)),(16,.int .i64 (.ofNat j))]∧aAc (S.next+2) S' v ((cJ (x.l.take j)).map oK)∧Abv S2.next S2.next S2 S' (3 * j))
  ⟨.nilSlice,ai _,kq,.inl ⟨rfl,rfl⟩,Abv.refl _ _ _ _⟩ ?_
 rintro j E S3 ⟨v,hj,hf,hR,hA⟩ ih;have a3:=hA.lo;have b3:=hA.hi;have hb3:=(hA.keep S.next om om).trans hb2;have hS3i:=(hA.keep i om om).trans hS2i;refine LP.kn mixed hf ?_;refine go ?_;refine bE (fun hlt=>?_) (fun hge=>?_)
 ·refine go ?_;refine ifK_intro (ag hlt) ?_;refine go ?_;refine aA hS3i ?_;rw [show Nat.add 0 (j.mul 2)=2 * j from (Nat.zero_add _).trans (Nat.mul_comm j 2)];have hlat:=rT (rest:=[]) hlt;rw [bf] at hlat;refine aX agg40 (n:=2) kr (show 2 * j+2 <= (cellsOf x.l).length by rw [aZ];omega) hlat ?_;have htk:x.l.take (j+1)=x.l.take j ++ [x.l[j]]:=an hlt;have hmem:=az hlt;have hnm:=hx.names x.l[j] hmem;have hq:=fun (h:x.l[j].1 ≠ aW)=>hrest x.l[j] (iT.2 ⟨hmem,h⟩);rw [htk,aEW] at ih;generalize x.l[j]=q at *;refine go ?_;refine aD om fun S4 hS4=>?_;have n4:=aF hS4;refine go ?_;refine aA (aJ hS4) ?_
  conv=>whnf
  refine aE om fun S5 hS5=>?_;have n5:=aK hS5;have hq5:S5.hs.get S3.next=some (.cells [.str q.1,.str q.2] 34 .ex):=aR hS5;have hR5:=hR.keep (S':=S5) (fun id _ g=>by rw [aB hS5 om,aC hS4 om]) om;have hA5:Abv S2.next S2.next S2 S5 (3 * j+1):=(hA.new hS4 (af _) (af _)).put hS5 (.inr om);refine go ?_;refine aA hq5 ?_;refine go ?_;by_cases hqn:q.1=aW
  ·refine eU (fun _=>?_) (fun h=>absurd hqn h);refine go ?_;refine bI (j+1) ?_;refine go ?_
   have he:cJ [q]=[]:=by unfold cJ;simp [hqn]
   rw [he,bf] at ih;exact ih _ S5 hlt ⟨v,hlt,kq,hR5,hA5.le om⟩
  ·refine eU (fun h=>absurd h hqn) (fun _=>?_);have hqv:=hq hqn
   have he:cJ [q]=[q]:=by unfold cJ;simp [hqn]
   rw [he,List.map_append] at ih;have hll2:=aBA hqv.1 hqv.2
   have hl1:q.1.length+1+(mM q.2).length <= 25:=by unfold oK at hll2;simp only [aq,au] at hll2;omega
   refine go ?_;refine aA hq5 ?_;refine go ?_;refine aMh hqv.2 ?_;refine go ?_;refine aA hq5 ?_;refine go ?_;refine gM (by simp only [au,List.length_nil];omega) ?_;refine go ?_;refine gM (by simp only [aq,au,List.length_nil];omega) ?_;refine go ?_;refine aD (o:=.cells [.str (q.1 ++ [61] ++ mM q.2)] 9 .ex) om fun S6 hS6=>?_;have n6:=aF hS6;refine go ?_;refine aJC (hR5.keep (S':=S6) (fun id _ g=>aC hS6 om) om) om (aJ hS6) (by rw [List.length_map];have:=List.length_filter_le (fun q:aY=>decide (q.1 ≠ aW)) (x.l.take j);rw [bh] at this;unfold cJ;omega) om fun S7 v7 hA7 hR7=>?_;have a7:=hA7.lo;have b7:=hA7.hi;refine go ?_;refine bI (j+1) ?_;refine go ?_
   have hlab:q.1 ++ [61] ++ mM q.2=oK q:=by simp [oK]
   rw [hlab] at hR7;exact ih _ S7 hlt ⟨v7,hlt,kq,hR7,⟨fun id g1 g2=>by rw [hA7.keep id om om,aC hS6 om];exact hA5.keep id g1 g2,om,om⟩⟩
 ·have hje:j=x.l.length:=om;subst hje;rw [List.take_length] at hR;refine go ?_;refine aA hb3 ?_;refine go ?_;have hLV3:LV S3 (.slice i 0 x.l.length x.l.length 2 false) x.l:=.inr ⟨i,_,_,[],_,_,rfl,af _,by rw [bf];exact hS3i⟩;refine lX hLV3 om aW ?_;refine go ?_;have hR':=hR;have hml:=(oT hx.met).2.2;have hnl:=oV x.b;have hbl:=aFG hrest;obtain ⟨X,hX⟩:∃ X,X=getL aW x.l ++ aCy (cJ x.l):=⟨_,rfl⟩
  have hXl:X.length <= 1000:=by rw [hX,aq];omega
  rcases hR' with ⟨he,rfl⟩|⟨m0,rfl,y1,y2,y3,y4⟩
  have hr0:cJ x.l=[]:=by simpa using he
  have hX0:getL aW x.l=X:=by rw [hX,hr0];simp [aCy]
  rw [hX0];have hS9:S3.hs.get S.next=some (.cells (SC (x,i)) 49 .ex):=hb3;have n9:S3.next <= S.next+500:=om
  have h109:jB S3:=by
   obtain ⟨e,h⟩:=h10;exact ⟨e,by rw [hA.keep _ om om,hA2.keep _ om om,aC hS1 om];exact h⟩
  generalize S3=S9 at *;refine go ?_
  rotate_left
  refine go ?_;refine bE (a:=0) (fun hpos=>?_) (fun (h:_ <= 0)=>?_)
  rotate_left
  have he:List.map oK (cJ x.l)=[]:=List.eq_nil_of_length_eq_zero om
  have hr0:cJ x.l=[]:=by simpa using he
  have hX0:getL aW x.l=X:=by rw [hX,hr0];simp [aCy]
  rw [hX0];have hS9:S3.hs.get S.next=some (.cells (SC (x,i)) 49 .ex):=hb3;have n9:S3.next <= S.next+500:=om
  have h109:jB S3:=by
   obtain ⟨e,h⟩:=h10;exact ⟨e,by rw [hA.keep _ om om,hA2.keep _ om om,aC hS1 om];exact h⟩
  generalize S3=S9 at *;refine go ?_
  rotate_left
  rotate_left
  refine go ?_;have hjl:iH [44] ((cJ x.l).map oK)=gS (cJ x.l):=(aBB _).symm;have hlb:=sW hrest
  have hrne:cJ x.l ≠ []:=fun e=>by rw [e] at hpos;simp at hpos
  refine aGl hR.tv sm (by rw [List.length_map];omega) (by rw [hjl];omega) (fun _=>by rw [hjl];exact aLK hrne) om fun S9 hA9=>?_;have a9:=hA9.lo;have b9:=hA9.hi;rw [List.length_map] at b9;rw [hjl];refine go ?_;refine qA (z:=123 :: gS (cJ x.l)) (by simp only [au,List.length_nil];omega) rfl ?_;refine go ?_;refine qA (z:=aCy (cJ x.l)) (by simp only [au,List.length_nil];omega) (by cases hr:cJ x.l with|nil=>exact absurd hr hrne|cons q l=>rfl) ?_;refine go ?_;refine qA (z:=X) om hX.symm ?_;have hS9:S9.hs.get S.next=some (.cells (SC (x,i)) 49 .ex):=(hA9.keep _ om om).trans hb3;have n9:S9.next <= S.next+500:=om
  have h109:jB S9:=by
   obtain ⟨e,h⟩:=h10;exact ⟨e,by rw [hA9.keep _ om om,hA.keep _ om om,hA2.keep _ om om,aC hS1 om];exact h⟩
  refine go ?_
  all_goals
   refine aA hS9 ?_;refine go ?_;refine aLW hx.b hx.num h109 ?_;refine go ?_;refine qA (z:=32 :: kI x.b) (by simp only [au,List.length_nil];omega) rfl ?_;refine go ?_;refine qA (z:=X ++ 32 :: kI x.b) (by simp only [au];omega) rfl ?_;refine go ?_;refine aA hS9 ?_;refine go ?_
   have hlx:cN x=X ++ 32 :: (kI x.b ++ pE x):=by rw [hX];unfold cN;rw [List.append_assoc]
   obtain ⟨l,b,st,t⟩:=x
   cases st with
   | false =>
     refine go ?_
     have hf:X ++ 32 :: kI b=cN ⟨l,b,false,t⟩:=by rw [hlx];simp [pE]
     have hf2:(X ++ 32 :: kI b).length <= 2100:=by rw [hf];exact hll
     refine bE (fun (h:65536 < _)=>absurd h (by rw [aM];show ¬ 65536 < (X ++ 32 :: kI b).length;omega)) (fun _=>?_);refine go ?_;have hK:=hK S9;rw [<- hf] at hK;exact hK
   | true =>
     refine go ?_;refine aA hS9 ?_;refine go ?_;refine aGk hx.t1 hx.t2 h109 ?_;have hil:=oR hx.t1 hx.t2;refine go ?_;refine qA (z:=32 :: uP t) (by simp only [au,List.length_nil];exact bg (Nat.add_le_add_left hil 1) dc) rfl ?_;refine go ?_
     have hf:(X ++ 32 :: kI b) ++ 32 :: uP t=cN ⟨l,b,true,t⟩:=by rw [hlx];simp [pE]
     have hf2:((X ++ 32 :: kI b) ++ 32 :: uP t).length <= 2100:=by rw [hf];exact hll
     refine qA (z:=(X ++ 32 :: kI b) ++ 32 :: uP t) (by have:=hf2;rw [aq] at this;exact bg this dc) rfl ?_;refine go ?_;refine bE (fun (h:65536 < _)=>absurd h (by rw [aM];omega)) (fun _=>?_);refine go ?_;have hK:=hK S9;rw [<- hf] at hK;exact hK
end
section
attribute [local irreducible] aO bK cM bD
theorem aJl {l:List jH}{j:Nat}(h:j < l.length):dI (l.take (j+1))=dI (l.take j) ++ (cN l[j] ++ [10]):=by
 rw [an h,xE];simp [dI]
theorem aCl:∀ {l:List jH} {j:Nat},(dI (l.take j)).length <= (dI l).length
 | [],j=>by simp
 | x :: l,0=>by simp [dI]
 | x :: l,j+1=>by
   have:=aCl (l:=l) (j:=j);simp only [List.take_succ_cons,dI,aq,au];omega
theorem aXn:bB prog 18 40 [.tmp 2,.tmp 3,.tmp 4] (aL Tryz.f18):=fq Tryz.f18
theorem zC {L:List (jH × Nat)}{l:List jH}(hLl:L.map (·.1)=l)(hl:∀ x ∈ l,fD x)(hfew:l.length <= 12){S:St}{t b:Nat}{v:V}(hT:pX t S)(ht:t <= S.next)(hR:oJ b S v L)(hLb:oI b S L)(hn:S.next+200 < room){k:V->St->Prop}
  (hk:∀ S',Abv S.next S.next S S' 60->k (.tup [.str (dI l),.int .i64 (.negSucc 0),.int .i64 0]) S'):RC prog 18 [v] S k:=by
 have htl:=sF hl
 have hLn:L.length=l.length:=by rw [<- hLl,List.length_map]
 refine RC.run mixed aS (aG aXn ?_);refine enter ?_;refine go ?_;refine aD om fun S1 hS1=>?_;have n1:=aF hS1;have hB1:Bld (S.next+1) S1 S.next []:=⟨om,om,.nilPtr,.nilSlice,.inl rfl,aJ hS1,.inl ⟨rfl,rfl⟩⟩
 rcases hR with ⟨h0,rfl⟩|⟨m,rfl,y1,y2,y3,y4⟩
 ·subst h0
  have:l=[]:=by rw [<- hLl];rfl
  subst this;refine go ?_;refine LP.one mixed ?_;refine go ?_;refine aAR hB1 ?_;refine go ?_;refine vI hB1 sm fun S2 hA2=>?_;have a2:=hA2.lo;have b2:=hA2.hi;refine go ?_;exact hk S2 ⟨fun id g _=>by rw [hA2.keep id om om,aC hS1 om],om,om⟩
 ·have hS1m:=(aC hS1 om).trans y4;refine go ?_
  refine LP.induct L.length (fun j E S'=>j <= L.length∧Kn E 40 [(0,.slice m 0 L.length L.length 4 false),(5,.ptr S.next 0),(10,.slice m 0 L.length L.length 4 false),(11,.int .i64 (.ofNat L.length)),(12,.int .i64 (.ofNat j))]∧Bld (S.next+1) S' S.next (dI (l.take j))∧Abv S.next (S.next+1) S1 S' (2 * j))
   ⟨ai _,kq,hB1,Abv.refl _ _ _ _⟩ ?_
  rintro j E S2 ⟨hj,hf,hB,hA⟩ ih;have a2:=hA.lo;have b2:=hA.hi;have htj:=aCl (l:=l) (j:=j);refine LP.kn mixed hf ?_;refine go ?_;refine bE (fun hlt=>?_) (fun hge=>?_)
  ·refine go ?_;refine ifK_intro (ag hlt) ?_;refine go ?_;refine aA ((hA.keep m om om).trans hS1m) ?_;have hlat:=aEY (rest:=[]) hlt;rw [bf] at hlat;rw [show Nat.add 0 (j.mul 4)=4 * j from (Nat.zero_add _).trans (Nat.mul_comm j 4)];refine aX (n:=4) kr kr (show 4 * j+4 <= (xI L).length by rw [fK];omega) hlat ?_;have hjl:j < l.length:=om
   have hLj:L[j].1=l[j]:=by simp only [<- hLl,List.getElem_map]
   have hok:=hl l[j] (az hjl);obtain ⟨z1,z2,z3⟩:=hLb L[j] (az hlt);have htk:=aJl hjl;have htj1:=aCl (l:=l) (j:=j+1);rw [htk] at ih htj1;rw [<- hLj] at hok htk htj1 ih;generalize L[j]=q at *;have hll:=rV hok;refine go ?_;refine aD om fun S3 hS3=>?_;have n3:=aF hS3;refine go ?_;refine aA (aJ hS3) ?_
   conv=>whnf
   refine aE om fun S4 hS4=>?_;have n4:=aK hS4
   have hk4:∀ id,id < S2.next->S4.hs.get id=S2.hs.get id:=fun id g=>by rw [aB hS4 om,aC hS3 om]
   have hq4:S4.hs.get S2.next=some (.cells (SC q) 49 .ex):=aR hS4
   have hall:∀ id,id < S.next->S4.hs.get id=S.hs.get id:=fun id g=>by rw [hk4 id om,hA.keep id om om,aC hS1 om]
   have hT4:pX t S4:=hT.keep fun id g=>hall id om;refine go ?_;refine aA hq4 ?_;refine aX (n:=4) kr kr (af 4) rfl ?_;refine go ?_;refine aOv (x:=q.1) (i:=q.2) hok hT4.h10 ((hall q.2 z2).trans z3) om om fun S5 hS5=>?_;have n5:S5.next=S4.next:=congrArg Hs.next hS5;have hB5:Bld (S.next+1) S5 S.next (dI (l.take j)):=hB.keep (fun id g=>by rw [hS5];exact hk4 id g) om;refine go ?_;refine aAR hB5 ?_;refine go ?_;refine bE (fun (h:65536 < _)=>absurd h om) (fun _=>?_);refine go ?_;refine qA (z:=cN q.1 ++ [10]) (by simp only [au,List.length_nil];omega) rfl ?_;refine go ?_;refine aFi hB5 om (by simp only [aq,au,List.length_nil];omega) om fun S6 hA6 hB6=>?_;have a6:=hA6.lo;have b6:=hA6.hi;refine go ?_;refine bI (j+1) ?_;refine go ?_;exact ih _ S6 hlt ⟨hlt,kq,hB6,⟨fun id g1 g2=>by rw [hA6.keep id g1 g2,hS5,hk4 id om];exact hA.keep id g1 g2,om,om⟩⟩
  ·have hje:j=L.length:=om;subst hje;rw [hLn,List.take_length] at hB;refine go ?_;refine bE (fun (h:1000 < _)=>absurd h om) (fun _=>?_);refine go ?_;refine aAR hB ?_;refine go ?_;refine bE (fun (h:65536 < _)=>absurd h om) (fun _=>?_);refine go ?_;refine vI hB om fun S3 hA3=>?_;have a3:=hA3.lo;have b3:=hA3.hi;refine go ?_;exact hk S3 ⟨fun id g _=>by rw [hA3.keep id om om,hA.keep id om om,aC hS1 om],om,om⟩
end
section
theorem aNj {S:St}{i2:Nat}{q r:List UInt8}{e2:TypeId}{fl2:Fl}(hx:S.hs.get i2=some (.cells [.str q,.str r] e2 fl2)){k:V->St->Prop}
  (hk:bK (.cells [.str q,.str r] 9 .rw) S fun id S=>k (.slice id 0 2 2 1 false) S):aO prog #[37,37] .nilSlice (.slice i2 0 2 2 1 true) S k:=by
 unfold aO
 conv=>whnf
 refine aA hx ?_
 conv=>whnf
 exact hk
theorem aNk {S:St}{id i2:Nat}{L:List (List UInt8)}{q r:List UInt8}{e2:TypeId}{fl2:Fl}(ho:S.hs.get id=some (.cells (fH L) 9 .rw))(hx:S.hs.get i2=some (.cells [.str q,.str r] e2 fl2))(hlen:L.length < 4096){k:V->St->Prop}
  (hk:bD id none S fun S=>bK (.cells (fH (L ++ [q,r])) 9 .rw) S fun id S=>k (.slice id 0 (L.length+2) (L.length+2) 1 false) S):aO prog #[37,37] (.slice id 0 L.length L.length 1 false) (.slice i2 0 2 2 1 true) S k:=by
 rw [qR] at hk;unfold aO
 conv=>whnf
 refine aA hx ?_
 conv=>whnf
 refine aP ?_
 conv=>whnf
 refine bX (fun h=>?_) (fun _=>?_)
 ·have:L.length+2 <= L.length:=ae h;omega
 refine ifK_intro (ag ?_) ?_
 ·show (L.length+2) * 17 <= 70368744177664;omega
 refine aA ho ?_;refine bY (ai _) ?_;refine bJ (by show L.length * 1 <= _;rw [List.drop_zero,kR];omega) ?_;refine bZ ?_
 have e:((fH L).drop 0).take (L.length * 1)=fH L:=by rw [List.drop_zero,bd (by rw [kR];omega)]
 show dD (cQ [.str q,.str r]) (bD id none S fun S=>bK (.cells (((fH L).drop 0).take (L.length * 1) ++ [.str q,.str r]) 9 .rw) S fun id S=>k (.slice id 0 (L.length+2) (L.length+2) 1 false) S);rw [e];refine ifK_intro rfl ?_;have e2:fH [q,r]=[.str q,.str r]:=rfl;rw [e2] at hk;exact hk
theorem aPX {b:Nat}{S:St}{v:V}{L:List (List UInt8)}{q r:List UInt8}{i2:Nat}{e2:TypeId}{fl2:Fl}(h:aAc b S v L)(hb:b <= S.next)(hx:S.hs.get i2=some (.cells [.str q,.str r] e2 fl2))(hlen:L.length < 4096)(hn:S.next+1 < room){k:V->St->Prop}
  (hk:∀ S' v',Abv b b S S' 1->aAc b S' v' (L ++ [q,r])->k v' S'):aO prog #[37,37] v (.slice i2 0 2 2 1 true) S k:=by
 rcases h with ⟨rfl,rfl⟩|⟨m,rfl,h2,h3,h4,h5⟩
 ·refine aNj hx ?_;refine aD om fun S2 hS2=>?_;have n2:=aF hS2;exact hk S2 _ ((Abv.refl b b S 0).new hS2 hb om) (.inr ⟨S.next,rfl,hb,om,om,aJ hS2⟩)
 ·refine aNk h5 hx hlen ?_;refine aE h4 fun S2 hS2=>?_;have hn2:=aK hS2;refine aD om fun S3 hS3=>?_;have hn3:=aF hS3;have hA:=((Abv.refl b b S 0).put hS2 (.inr h2)).new hS3 hb (m:=1) om;exact hk S3 _ hA (.inr ⟨S2.next,sm,om,om,om,aJ hS3⟩)
attribute [local irreducible] aO bK cM bD
theorem aVp:bB prog 59 13 [.tmp 4] (aL Tryz.f59):=fq Tryz.f59
theorem aRl {l:List (List UInt8)}{v:V}{S:St}(h:TV S v l)(hne:l ≠ [])(hfew:l.length <= 100)(hlen:(iH [255] l).length <= 900000)(hpos:2 <= l.length->0 < (iH [255] l).length)(hn:S.next+400 < room){k:V->St->Prop}
  (hk:∀ S',Abv S.next S.next S S' 300->k (.str (iH [255] l ++ [255])) S'):RC prog 59 [.str [255],v] S k:=by
 have h':=h
 rcases h' with ⟨rfl,rfl⟩|⟨i,off,c,ex,cs,e,fl,rfl,hc,hi,hS,hat⟩
 ·exact absurd rfl hne
 have hlp:=List.length_pos_iff.2 hne;refine RC.run mixed aS (aG aVp ?_);refine enter ?_;refine go ?_;refine bO (b:=0) (fun h=>by omega) (fun _=>?_);refine go ?_;refine aGl h sm hfew hlen hpos hn fun S1 hA1=>?_;refine go ?_;refine qA (z:=iH [255] l ++ [255]) (by simp only [au,List.length_nil];omega) rfl ?_;refine go ?_;exact hk S1 (hA1.le om)
theorem mX:∀ l:List aY,(mQ l).length=2 * l.length
 | []=>rfl
 | q :: l=>by simp only [mQ,au,mX l];omega
theorem aEP:∀ s ∈ dF,s.length <= 40:=by decide
theorem aHq:∀ s ∈ iB,s.length <= 40:=by decide
theorem aCi:∀ {l:List aY},(∀ q ∈ l,q.1 ∈ dF∧q.2 ∈ iB)->qT (mQ l) <= 80 * l.length
 | [],_=>af _
 | q :: l,h=>by
   have h1:=aEP _ (h q sm).1;have h2:=aHq _ (h q sm).2;have h3:=aCi (l:=l) fun x hx=>h x (be _ hx);simp only [mQ,qT,au];omega
theorem aMB {l:List aY}(ok:kF l):qT (mQ l) <= 80 * l.length:=aCi fun q hq=>⟨ok.name q hq,ok.val q hq⟩
theorem aWK:bB prog 29 26 [.tmp 2,.tmp 3] (aL Tryz.f29):=fq Tryz.f29
theorem aLg {l:List aY}(ok:kF l)(hne:l ≠ []){i:Nat}{e0:TypeId}{fl0:Fl}{S:St}(hS:S.hs.get i=some (.cells (cellsOf l) e0 fl0))(hir:i < room)(hn:S.next < room){k:V->St->Prop}
  (hk:∀ S',S'.hs=S.hs->k (.tup [.str (aGn l),.int .i64 0]) S'):RC prog 29 [.slice i 0 l.length l.length 2 false] S k:=by
 have hkj:=aDu hne;have hfew:=ok.few
 refine RC.ro mixed aWK (gb:=[]) (fun p hp=>by cases hp) sm hS (o':=.cells (cellsOf l) e0 .ro) (.cells (aN _) (.inr (.inr rfl))) rfl hir hn (l:=[.slice aI 0 l.length l.length 2 false])
  (.cons (.slice _ _ _ _ _ _ _ (iC.at (a:=0) rfl sm) (.inl rfl) (af _) fun h=>⟨h,rfl⟩) .nil) (v:=.tup [.str (aGn l),.int .i64 0]) rfl (fun S K hn1 hS hg hK=>?_) hk
 clear hk hir hn;have hngl:aI=1000:=rfl;have hroom:room=4096:=rfl;have hn:S.next+1000 < room:=om;have hi:aI < S.next:=om;generalize aI=i at hS hi hn1 hngl ⊢;have hLV:LV S (.slice i 0 l.length l.length 2 false) l:=.inr ⟨i,_,_,[],_,_,rfl,af _,by rw [bf];exact hS⟩;refine enter ?_;refine go ?_;refine cL hLV ok ?_;refine go ?_;refine LP.induct l.length (fun j E S'=>∃ v,j <= l.length∧Kn E 26 [(0,.slice i 0 l.length l.length 2 false),(4,v),(10,.slice i 0 l.length l.length 2 false),(11,.int .i64 (.ofNat l.length)),(12,.int .i64 (.ofNat j))]∧aAc S.next S' v (mQ (l.take j))∧Abv S.next S.next S S' (3 * j)) ⟨.nilSlice,ai _,kq,.inl ⟨rfl,rfl⟩,Abv.refl _ _ _ _⟩ ?_;rintro j E S3 ⟨v,hj,hf,hR,hA⟩ ih;have a3:=hA.lo;have b3:=hA.hi;have hS3i:=(hA.keep i om om).trans hS;refine LP.kn mixed hf ?_;refine go ?_;refine bE (fun hlt=>?_) (fun hge=>?_)
 ·refine go ?_;refine ifK_intro (ag hlt) ?_;refine go ?_;refine aA hS3i ?_;rw [show Nat.add 0 (j.mul 2)=2 * j from (Nat.zero_add _).trans (Nat.mul_comm j 2)];have hlat:=rT (rest:=[]) hlt;rw [bf] at hlat;refine aX agg40 (n:=2) kr (show 2 * j+2 <= (cellsOf l).length by rw [aZ];omega) hlat ?_;have htk:l.take (j+1)=l.take j ++ [l[j]]:=an hlt;rw [htk,xA] at ih;generalize l[j]=q at *;refine go ?_;refine aD om fun S4 hS4=>?_;have n4:=aF hS4;refine go ?_;refine aA (aJ hS4) ?_
  conv=>whnf
  refine aE om fun S5 hS5=>?_;have n5:=aK hS5;have hq5:S5.hs.get S3.next=some (.cells [.str q.1,.str q.2] 34 .ex):=aR hS5;have hR5:=hR.keep (S':=S5) (fun id _ g=>by rw [aB hS5 om,aC hS4 om]) om;have hA5:Abv S.next S.next S S5 (3 * j+1):=(hA.new hS4 (af _) (af _)).put hS5 (.inr om);refine go ?_;refine aA hq5 ?_;refine go ?_;refine aA hq5 ?_;refine go ?_;refine aD (o:=.cells [.str q.1,.str q.2] 9 .ex) om fun S6 hS6=>?_;have n6:=aF hS6;refine go ?_;refine aPX (hR5.keep (S':=S6) (fun id _ g=>aC hS6 om) om) om (aJ hS6) (by rw [mX,bh];omega) om fun S7 v7 hA7 hR7=>?_;have a7:=hA7.lo;have b7:=hA7.hi;refine go ?_;refine bI (j+1) ?_;refine go ?_;exact ih _ S7 hlt ⟨v7,hlt,kq,hR7,⟨fun id g1 g2=>by rw [hA7.keep id om om,aC hS6 om];exact hA5.keep id g1 g2,om,om⟩⟩
 ·have hje:j=l.length:=om;subst hje;rw [List.take_length] at hR;have hjl:=mV (sep:=[255]) (aCh hne);have hsl:=aMB ok;rw [mX] at hjl;have hlp:=List.length_pos_iff.2 hne;simp only [au,List.length_nil] at hjl;refine go ?_;refine aRl hR.tv (aCh hne) (by rw [mX];omega) om (fun _=>by omega) om fun S8 hA8=>?_;refine go ?_;rw [<- hkj];exact hK S8
end
section
attribute [local irreducible] aO bK cM bD
theorem aKO.ne {x:jH}(h:aKO x):x.l ≠ []:=fun e=>by
 have:=(oT h.met).2.1;rw [e] at this;exact this rfl
theorem aVx:bB prog 15 30 [.tmp 2,.tmp 3] (aL Tryz.f15):=fq Tryz.f15
end
section
attribute [local irreducible] aO bK cM bD mC
end
section
attribute [local irreducible] aO bK cM bD mC
theorem aVJ:bB prog 13 47 [.tmp 2,.tmp 3,.tmp 4] (aL Tryz.f13):=fq Tryz.f13
end
end Go.Am
namespace Go.Am
section
variable {P:Program}
theorem aOJ {tt:Tmp}{E:Env}{H:Hs}{i m since stepped clock:Nat}{seen:List Nat}{es:List (V × V × Nat)}(ht:tget E tt=some (.ptr i 0))(hi:H.get i=some (.mapIter (some m) since seen stepped))(hm:H.get m=some (.map es clock))
  (hold:∀ x ∈ es,x.2.2 < since) (hsc:since <= stepped) {ρ:Rho} {ev:Operand->Value} {x:Oper} {w:World} (hop:x.op=.next (.tmp tt) false) (hev:vC ρ E ev x.op.operands.toList) (hs:cP ρ H w) :
  ((∀ y ∈ es,y.2.2 ∈ seen)∧Nx P ρ H w (.tup [.bool false]) H ((execOp ev x).run P w)) ∨
  ∃ y ∈ es,y.2.2 ∉ seen∧Nx P ρ H w (.tup [.bool true,y.1,y.2.1]) (H.put i (some (.mapIter (some m) since (seen ++ [y.2.2]) clock))) ((execOp ev x).run P w):=by
 have hc:=hev.one (x:=.tmp tt) (v:=.ptr i 0) (by rw [hop];simp [Op.operands]) (show OpV E (.tmp tt) (.ptr i 0) from ht);generalize hce:ev (.tmp tt)=cv at hc
 cases hc with
 | ptr _ hl =>
 rename_i l
 obtain ⟨l',co,a,b,⟨hrw,h0⟩,m',rfl,hmm⟩:=hs.obj i _ hi;rw [hl] at a;cases a;obtain ⟨lm,hlm,rfl⟩:=hmm;obtain ⟨lm',co2,a2,b2,hrw2,es',rfl,hes⟩:=hs.obj m _ hm;rw [hlm] at a2;cases a2
 have hold':∀ y ∈ es'.toList,y.born < since:=fun y hy=>by
  obtain ⟨z,hz,_,_,h3⟩:=hes.mem hy;rw [<- h3];exact hold z hz
 rw [h0] at hce
 rcases run_next_at (P:=P) w x.type l.blk lm.blk since stepped ⟨seen⟩ es' clock b b2 hold' hsc with ⟨hz,hrun⟩|⟨e,he,w1,hw1,hrun⟩
 ·refine .inl ⟨fun y hy=>?_,?_⟩
  ·obtain ⟨e,he,h3⟩:=hes.mem2 hy;have hnil:leftOf es' ⟨seen⟩=#[]:=Array.eq_empty_of_size_eq_zero hz;unfold leftOf at hnil;rw [Array.filter_eq_empty_iff] at hnil;have:=hnil e (by simpa using he);simp at this;rw [h3];exact this
  ·have hr:(execOp ev x).run P w=.ok (.value (.tuple #[.bool false])) w:=by
    simp only [execOp,hop,hce,Nat.zero_add,Sem.run_bind,hrun];rfl
   rw [hr];exact ⟨_,ρ,rfl,.tup (.cons (.bool false) .nil),hs,Ext.refl _ _ _⟩
 ·unfold leftOf at he;simp at he;obtain ⟨he1,he2⟩:=he;obtain ⟨y,hy,hk,hv,hbn⟩:=hes.mem (by simpa using he1);refine .inr ⟨y,hy,by rw [hbn];exact he2,?_⟩
  have hr:(execOp ev x).run P w=.ok (.value (.tuple #[.bool true,e.key,e.val])) (ChangeMaps.setBlock w1 l.blk (.mapIter (some lm.blk) since ((⟨seen⟩:Array Nat).push e.born) clock)):=by
   simp only [execOp,hop,hce,Nat.zero_add,Sem.run_bind,hrun];rfl
  rw [hr]
  have hlt:l.blk < w.heap.size:=by
   rcases Nat.lt_or_ge l.blk w.heap.size with h'|h'
   ·exact h'
   ·simp [Array.getElem?_eq_none h'] at b
  have hh:w1.heap=w.heap∧w1.tape=w.tape∧w1.os=w.os∧w1.output=w.output∧w.drawn <= w1.drawn:=by
   rcases hw1 with rfl|rfl
   ·exact ⟨rfl,rfl,rfl,rfl,af _⟩
   ·exact ⟨rfl,rfl,rfl,rfl,Nat.le_succ _⟩
  have hp:=hs.put_obj (w':=ChangeMaps.setBlock w1 l.blk (.mapIter (some lm.blk) since ((⟨seen⟩:Array Nat).push e.born) clock)) hi hl hrw (o':=.mapIter (some m) since (seen ++ [y.2.2]) clock)
   (co':=.mapIter (some lm.blk) since ((⟨seen⟩:Array Nat).push e.born) clock) (by simp [ChangeMaps.setBlock,hh.1,hlt]) (fun b' hb'=>by simp [ChangeMaps.setBlock,hh.1,Array.getElem?_setIfInBounds_ne (Ne.symm hb')])
   (by simp [ChangeMaps.setBlock,hh.1]) hh.2.1 hh.2.2.1 hh.2.2.2.1 ⟨⟨hrw,h0⟩,some lm.blk,by rw [hbn];simp,lm,hlm,rfl⟩ hh.2.2.2.2
  exact ⟨_,ρ,rfl,.tup (.cons (.bool true) (.cons hk (.cons hv .nil))),hp.1,hp.2⟩
end
section
variable {P:Program}
theorem aJa {b:Nat}{gs:List Nat}{S S1 S2:St}{ρ ρ1:Rho}{w w1:World}{E1:Env}{a1:Act}(hb:b <= S.next)(hgl:aI <= b)(hd:aFo b gs S1 S2)(hg:dZ ρ)(b1:ER ρ1 E1 a1.tmps)(b2:DR ρ1 [] a1.defers)(b3:cP ρ1 S1.hs w1)(b4:Ext ρ S.hs w ρ1 S1.hs w1) :
  ∃ ρ2,ER ρ2 (reE b gs E1) a1.tmps∧DR ρ2 [] a1.defers∧dZ ρ2∧cP ρ2 S2.hs w1∧aAb b ρ S.hs w ρ2 S2.hs w1:=by
 let ρ2:Rho:=fun j=>if j < b then ρ1 j else (gs[j - b]?).bind ρ1
 have hlow:∀ j,j < b->ρ2 j=ρ1 j:=fun j hj=>if_pos hj;have hhi:∀ j,b <= j->ρ2 j=(gs[j - b]?).bind ρ1:=fun j hj=>if_neg om
 have hR0:∀ i j l,Rre b gs i j->ρ1 i=some l->ρ2 j=some l:=by
  rintro i j l (⟨hi,rfl⟩|⟨hj,_,hi⟩) hl
  ·rw [hlow _ hi];exact hl
  ·rw [hhi _ hj,hi];exact hl
 have hR:Tr ρ1 ρ2 (Rre b gs):=.of hR0;have hheld:∀ id o,S2.hs.get id=some o->∃ i o1,Rre b gs i id∧S1.hs.get i=some o1∧OI (Rre b gs) o1 o:=fun id o ho=>hd.held.get ho
 have hinv:∀ id,(S2.hs.get id).isSome->∀ l,ρ2 id=some l->∃ i,Rre b gs i id∧(S1.hs.get i).isSome∧ρ1 i=some l:=fun id hi l hl=>by
  obtain ⟨o,ho⟩:=bc.1 hi;obtain ⟨i,o1,r,ho1,_⟩:=hheld id o ho;obtain ⟨l1,_,p,_,_⟩:=b3.obj i o1 ho1;have:=hR0 i id l1 r p;rw [hl] at this;cases this;exact ⟨i,r,by rw [ho1];rfl,p⟩
 have hsim:cP ρ2 S2.hs w1:=by
  refine ⟨fun j o ho=>?_,fun j j' lj lj' hj hj' hlj hlj' hrw hne=>?_,fun j hj=>?_⟩
  ·obtain ⟨i,o1,r,ho1,hoi⟩:=hheld j o ho;obtain ⟨l,co,p,q,s⟩:=b3.obj i o1 ho1;exact ⟨l,co,hR0 i j l r p,q,hoi.tr hR (.refl l) (fun _=>rfl) s⟩
  ·obtain ⟨i,r,hi,hli⟩:=hinv j hj lj hlj;obtain ⟨i',r',hi',hli'⟩:=hinv j' hj' lj' hlj';refine b3.sep i i' lj lj' hi hi' hli hli' hrw fun e=>hne ?_;subst e
   rcases r with ⟨p,q⟩|⟨p,q,s⟩
   ·rcases r' with ⟨p',q'⟩|⟨p',q',s'⟩
    ·rw [q,q']
    ·have:=hd.high i (List.mem_of_getElem? s');omega
   ·have:=hd.high i (List.mem_of_getElem? s)
    rcases r' with ⟨p',q'⟩|⟨p',q',s'⟩
    ·omega
    ·obtain ⟨u1,u2⟩:=ao.1 s;obtain ⟨u3,u4⟩:=ao.1 s';have:=nA hd.nodup u1 u3 (by rw [u2,u4]);omega
  ·have hj':S2.next <= j:=hj;have:=hd.next;rw [hhi j om,List.getElem?_eq_none om];rfl
 have hrho:∀ j,j < b->ρ2 j=ρ j:=fun j hj=>by rw [hlow j hj];exact b4.rho j (Nat.lt_of_lt_of_le hj hb)
 have hext:aAb b ρ S.hs w ρ2 S2.hs w1 :=
  { rho:=hrho
    next:=by show b <= S2.next;rw [hd.next];omega
    size:=b4.size,keep:=b4.keep
    own:=fun y ⟨j,l,p,q,s,t⟩=>by
     obtain ⟨i,_,hi,hli⟩:=hinv j p l q;exact b4.own y ⟨i,l,hi,hli,s,t⟩
    has:=fun y ⟨j,l,p,q,t⟩=>by
     obtain ⟨i,_,hi,hli⟩:=hinv j p l q;exact b4.has y ⟨i,l,hi,hli,t⟩
    tape:=b4.tape,os:=b4.os,output:=b4.output,drawn:=b4.drawn }
 have hER:ER ρ2 (reE b gs E1) a1.tmps:=fun t v hv=>by
  obtain ⟨u,hu,hi⟩:=aKo hv;obtain ⟨v',p,q⟩:=b1 t u hu;exact ⟨v',p,hi.tr hR q⟩
 have hDR:DR ρ2 [] a1.defers:=by
  cases hdf:a1.defers with
  | nil=>trivial
  | cons y ys=>rw [hdf] at b2;exact b2.elim
 have hglob:dZ ρ2:=fun i hi=>by
  obtain ⟨l,p,q,r⟩:=hg i hi;exact ⟨l,by rw [hrho i om];exact p,q,r⟩
 exact ⟨ρ2,hER,hDR,hglob,hsim,hext⟩
def nF (b:Nat)(P:Program)(c:Code)(E:Env)(H:Hs)(R:X->Env->List Df->Hs->Prop):Prop :=
 ∀ (ρ:Rho) (a:Act) (w:World) (Q:Exit->Act->World->Prop),ER ρ E a.tmps->DR ρ [] a.defers->dZ ρ->cP ρ H w ->
   (∀ x E' D' H' a' w',R x E' D' H'->aUx b ρ H w E' D' H' a' w'->Q x.toExit a' w')->HeadIn (W none) 0 P c Q a w
theorem nF.next {b:Nat}{id:Nat}{ops:Array Oper}{o:Oper}{tail:List Oper}{rest:Code}{tt:Tmp}(hops:ops.toList=o :: tail)(hop:o.op=.next (.tmp tt) false)(hgd:o.guard=none){E:Env}{S:St}{R:X->Env->List Df->Hs->Prop}
  {i m since stepped clock:Nat} {seen:List Nat} {es:List (V × V × Nat)} (ht:tget E tt=some (.ptr i 0)) (hi:S.hs.get i=some (.mapIter (some m) since seen stepped)) (hm:S.hs.get m=some (.map es clock))
  (hold:∀ x ∈ es,x.2.2 < since) (hsc:since <= stepped) (hb:b <= S.next) (hgl:aI <= b)
  (hend:(∀ y ∈ es,y.2.2 ∈ seen)->cW E o.dst (.tup [.bool false]) fun E=>evOps P (RC P) (RD P) ops.toList tail E S fun E S=>evCode P (RC P) (RD P) (LQ P) (cZ P (RC P) (RD P)) none rest E [] S fun x E1 D1 S1=>x ≠ .normal∧R x E1 D1 S1.hs)
  (hdr:P.follows .mixedOrders=true)
  (hstep:∀ y ∈ es,y.2.2 ∉ seen->bD i (some (.mapIter (some m) since (seen ++ [y.2.2]) clock)) S fun S1=>cW E o.dst (.tup [.bool true,y.1,y.2.1]) fun E=>evOps P (RC P) (RD P) ops.toList tail E S1 fun E S=>evCode P (RC P) (RD P) (LQ P) (cZ P (RC P) (RD P)) none rest E [] S fun x E1 D1 S1 =>
   x=.normal∧D1=[]∧∃ gs S2,aFo b gs S1 S2∧nF b P (.seq (.region id ops false) rest) (reE b gs E1) S2.hs R) :
  nF b P (.seq (.region id ops false) rest) E S.hs R:=by
 intro ρ a w Q hE hD hg hs hQ;refine .of (wpIn_seq (wpIn_region ?_))
 have hnd:∀ c,o.op ≠ .defer c:=fun c e=>by rw [hop] at e;cases e
 have hi0:ops[0]?=some o:=by
  have:ops.toList[0]?=some o:=by rw [hops];rfl
  simpa using this
 have hl':ops.toList.drop (0+1)=tail:=by rw [hops];rfl
 have hsz:ops.size=tail.length+1:=by rw [<- Array.length_toList,hops];rfl
 rw [List.range_eq_range',hsz,List.range'_succ]
 have hw:Region.wanted o (yielded ops a.tmps)=true:=by simp [Region.wanted,hgd]
 simp only [wpOpsIn,hi0,hw,if_true];refine ⟨fun f _=>trivial,?_⟩;rw [Oper.semAt_eq _ _ _ hnd]
 have hev:vC ρ E a.eval o.op.operands.toList:=by rw [nP];exact vC.of_ER hE hg _
 rcases aOJ (P:=P) ht hi hm hold hsc hop hev hs with ⟨hall,hnx⟩|⟨y,hy,hns,hnx⟩
 ·refine hnx.upon fun v' w' ρ' hv hs' hx=>?_;have hle:=hx.le hs;obtain ⟨E1,h4,h5⟩:=iK (hend hall);obtain ⟨he',hdf⟩:=h5 ρ ρ' a v' hle hE hv;obtain ⟨E2,S2,h6,h7⟩:=nO fL fM (ops:=ops) tail (0+1) E1 S _ hl' h4;obtain ⟨x,E3,D3,S3,⟨hxn,hR⟩,h8⟩:=cC fL fM oM (evDraw_ok hdr fL fM) none rest E2 [] S2 _ h6;refine h7 none ρ' [] _ w' _ he' (by rw [hdf];exact hD.mono hle) (hg.mono hle) hs' fun a2 w2 ⟨ρ2,c1,c2,c3,c4⟩=>?_;have hle2:=c4.le hs';refine h8 ρ2 none a2 w2 _ rfl c1 c2 ((hg.mono hle).mono hle2) c3 fun a3 w3 ⟨ρ3,d1,d2,d3,d4⟩=>?_;have hq:=hQ x E3 D3 S3.hs a3 w3 hR ⟨ρ3,d1,d2,d3,((hx.trans c4).trans d4).b hb⟩
  cases x with
  | normal=>exact absurd rfl hxn
  | exit id=>exact hq
  | ret=>exact hq
  | goto l=>exact hq
 ·obtain ⟨S1,hk1,hS1⟩:=bS (hstep y hy hns);refine hnx.upon fun v' w' ρ' hv hs' hx=>?_;have hle:=hx.le hs;rw [<- hS1] at hs' hx;obtain ⟨E1,h4,h5⟩:=iK hk1;obtain ⟨he',hdf⟩:=h5 ρ ρ' a v' hle hE hv;obtain ⟨E2,S2,h6,h7⟩:=nO fL fM (ops:=ops) tail (0+1) E1 S1 _ hl' h4;obtain ⟨x,E3,D3,S3,⟨rfl,rfl,gs,S4,hre,hH⟩,h8⟩:=cC fL fM oM (evDraw_ok hdr fL fM) none rest E2 [] S2 _ h6;refine h7 none ρ' [] _ w' _ he' (by rw [hdf];exact hD.mono hle) (hg.mono hle) hs' fun a2 w2 ⟨ρ2,c1,c2,c3,c4⟩=>?_;have hle2:=c4.le hs';refine h8 ρ2 none a2 w2 _ rfl c1 c2 ((hg.mono hle).mono hle2) c3 fun a3 w3 ⟨ρ3,d1,d2,d3,d4⟩=>?_;obtain ⟨ρ4,e1,e2,e3,e4,e5⟩:=aJa hb hgl hre hg d1 d2 d3 ((hx.trans c4).trans d4);exact hH ρ4 a3 w3 Q e1 e2 e3 e4 fun x E' D' H' a' w' hR ⟨ρ5,f1,f2,f3,f4⟩=>hQ x E' D' H' a' w' hR ⟨ρ5,f1,f2,f3,e5.trans f4⟩
end
section
variable {P:Program}
def eO (P:Program)(c:Code)(E:Env)(H:Hs)(R:X->Env->List Df->Hs->Prop):Prop :=
 ∀ (ρ:Rho) (a:Act) (w:World) (Q:Exit->Act->World->Prop),ER ρ E a.tmps->DR ρ [] a.defers->dZ ρ->cP ρ H w ->
   (∀ x E' D' H' a' w',R x E' D' H'->Aft ρ H w E' D' H' a' w'->Q x.toExit a' w')->c.wpIn (W none) 0 P Q a w
theorem eO.ev (hm:P.follows .mixedOrders=true){c:Code}{E:Env}{S:St}{R:X->Env->List Df->Hs->Prop}(h:evCode P (RC P) (RD P) (LQ P) (cZ P (RC P) (RD P)) none c E [] S fun x E D S=>R x E D S.hs):eO P c E S.hs R:=by
 obtain ⟨x,E1,D1,S1,h1,h2⟩:=cC fL fM oM (evDraw_ok hm fL fM) none c E [] S _ h;exact fun ρ a w Q hE hD hg hs hQ=>h2 ρ none a w _ rfl hE hD hg hs fun a' w' ha=>hQ _ _ _ _ _ _ h1 ha
theorem eO.seq {c1 c2:Code}{E:Env}{H:Hs}{R1 R:X->Env->List Df->Hs->Prop}(h1:eO P c1 E H R1)(h2:∀ x E1 D1 H1,R1 x E1 D1 H1->x=.normal∧D1=[]∧eO P c2 E1 H1 R):eO P (.seq c1 c2) E H R:=fun ρ a w Q hE hD hg hs hQ=>by
 refine wpIn_seq (h1 ρ a w _ hE hD hg hs fun x E1 D1 H1 a1 w1 hR ⟨ρ1,b1,b2,b3,b4⟩=>?_);obtain ⟨rfl,rfl,h3⟩:=h2 x E1 D1 H1 hR
 exact h3 ρ1 a1 w1 Q b1 b2 (hg.mono (b4.le hs)) b3 fun x E2 D2 H2 a2 w2 hR2 ha=>hQ x E2 D2 H2 a2 w2 hR2 (by
  obtain ⟨ρ2,c1,c2,c3,c4⟩:=ha
  exact ⟨ρ2,c1,c2,c3,b4.trans c4⟩)
theorem eO.seqE (hm:P.follows .mixedOrders=true){c1 c2:Code}{E:Env}{S:St}{R:X->Env->List Df->Hs->Prop}
  (h:evCode P (RC P) (RD P) (LQ P) (cZ P (RC P) (RD P)) none c1 E [] S fun x E1 D1 S1=>x=.normal∧D1=[]∧eO P c2 E1 S1.hs R):eO P (.seq c1 c2) E S.hs R :=
 eO.seq (eO.ev hm (R:=fun x E1 D1 H1=>x=.normal∧D1=[]∧eO P c2 E1 H1 R) h) fun _ _ _ _ h=>h
theorem eO.blockLoop {id:Nat}{c:Code}{E:Env}{S:St}{R1 R:X->Env->List Df->Hs->Prop}(h:nF S.next P c E S.hs R1)(hR:∀ x E1 D1 H1,R1 x E1 D1 H1->x=.exit id∧R .normal E1 D1 H1):eO P (.block id (.loop c)) E S.hs R:=fun ρ a w Q hE hD hg hs hQ=>by
 refine wpIn_block (HeadIn.loop (h ρ a w _ hE hD hg hs fun x E1 D1 H1 a1 w1 hr ⟨ρ1,b1,b2,b3,b4⟩=>?_));obtain ⟨rfl,h2⟩:=hR x E1 D1 H1 hr;show (if id=id then Q .normal a1 w1 else Q (.exit id) a1 w1);rw [if_pos rfl];exact hQ .normal E1 D1 H1 a1 w1 h2 ⟨ρ1,b1,b2,b3,b4.ext⟩
theorem fP.ofD {f:FuncId}{n:Nat}{rs:List ResultVar}{c:Code}(hf:bB P f n rs c){args:List V}{S:St}{v:V}{Hf:Hs}
  (h:mW args 0 (blank n) fun E=>eO P c E S.hs fun x E1 D1 H1=>(x=.normal ∨ x=.ret)∧D1=[]∧∃ S1:St,S1.hs=H1∧Sub Hf H1∧yO P E1 S1 rs fun l=>match l with|[u]=>u=v|l=>.tup l=v):fP P f args S.hs v Hf:=by
 obtain ⟨fn,hfn,hb,rfl,rfl,hn⟩:=hf.at';obtain ⟨E,h2,h3⟩:=aBq h;intro ρ w l' hg hs hl
 have h0:¬ fn.name = "runtime.NumGoroutine" := by simpa using hn
 have hcall:(callFunc f ⟨l'⟩).run P w=.ok (.enter f ⟨l'⟩) w:=by simp [callFunc,hfn,h0,hb]
 rw [hcall];show CallsIn (W none) 0 P f ⟨l'⟩ w _;refine callsIn_of_wp_marks hfn hb trivial ?_;refine h2 ρ _ w _ (h3 ρ l' hl) trivial hg hs fun x E1 D1 H1 a' w' hR ⟨ρ1,b1,b2,b3,b4⟩=>?_;obtain ⟨hx,rfl,S1,rfl,hsub,hres⟩:=hR
 have hres':gT P fn E1 S1 fun u=>u=v:=by
  have e:(yO P E1 S1 fn.results.toList fun l=>match l with|[u]=>u=v|l=>.tup l=v)=gT P fn E1 S1 fun u=>u=v:=by
   unfold gT
   congr 1
  rw [<- e];exact hres
 obtain ⟨u,rfl,h10⟩:=pA hres'
 have key:LeavesInM (W none) 0 P fn a'.tmps (Rt ρ S.hs w u Hf) a'.defers .returning w':=by
  have hdn:a'.defers=[]:=by
   cases hde:a'.defers with
   | nil=>rfl
   | cons _ _=>rw [hde] at b2;exact b2.elim
  rw [hdn];obtain ⟨v',r1,r2⟩:=h10 ρ1 a'.tmps w' b1 b3;exact ⟨v',r1,v',ρ1,rfl,r2,b3.restrict hsub.1 hsub.2,b4.sub hsub⟩
 rcases hx with rfl|rfl
 ·exact key
 ·exact key
end
end Go.Am
namespace Go.Am
open Go.Proofs
attribute [local irreducible] fN fI fB cR eQ aO evCode evOps rD kOp aAj wF wH wG kGc aLE aLD kDr kMg drOps fU kK sl
section
theorem f62:bB prog 62 19 [.tmp 2] (aL Tryz.f62):=fq Tryz.f62
theorem eO.kn {P:Program}{c:Code}{E:Env}{H:Hs}{R:X->Env->List Df->Hs->Prop}{n:Nat}{l:List (Nat × V)}(hf:Kn E n l)(h:eO P c (aCD E n l) H R):eO P c E H R :=
 fun ρ a w Q hE hD hg hs hQ=>h ρ a w Q (fun t v ht=>hE t v (hf.le t v ht)) hD hg hs hQ
theorem nF.kn {P:Program}{b:Nat}{c:Code}{E:Env}{H:Hs}{R:X->Env->List Df->Hs->Prop}{n:Nat}{l:List (Nat × V)}(hf:Kn E n l)(h:nF b P c (aCD E n l) H R):nF b P c E H R :=
 fun ρ a w Q hE hD hg hs hQ=>h ρ a w Q (fun t v ht=>hE t v (hf.le t v ht)) hD hg hs hQ
theorem cI.le:∀ {t:eY} {p c:Nat},cI t p c->p <= c
 | [],_,_,h=>h
 | z :: t,p,c,h=>by
   have h1:=cI.le (t:=t) h.2;have h2:=h.1;omega
theorem cI.low:∀ {t:eY} {p c:Nat},cI t p c->∀ x ∈ t,p <= x.2
 | [],_,_,_,x,hx=>by simp at hx
 | z :: t,p,c,h,x,hx=>by
   rcases av.1 hx with rfl|hx
   ·exact h.1
   ·have h1:=cI.low (t:=t) h.2 x hx;have h2:=h.1;omega
theorem cI.lt:∀ {t:eY} {p c:Nat},cI t p c->∀ x ∈ t,x.2 < c
 | [],_,_,_,x,hx=>by simp at hx
 | y :: t,p,c,h,x,hx=>by
   rcases av.1 hx with rfl|hx
   ·have:=cI.le (t:=t) h.2;omega
   ·exact cI.lt (t:=t) h.2 x hx
theorem cI.inj:∀ {t:eY} {p c:Nat},cI t p c->∀ x ∈ t,∀ y ∈ t,x.2=y.2->x=y
 | [],_,_,_,x,hx,_,_,_=>by simp at hx
 | z :: t,p,c,h,x,hx,y,hy,e=>by
   rcases av.1 hx with h1|h1
   ·rcases av.1 hy with h2|h2
    ·rw [h1,h2]
    ·have:=cI.low (t:=t) h.2 y h2;subst h1;omega
   ·rcases av.1 hy with h2|h2
    ·have:=cI.low (t:=t) h.2 x h1;subst h2;omega
    ·exact cI.inj (t:=t) h.2 x h1 y h2 e
theorem aJL:∀ {t:eY},t.Pairwise (fun p q=>p.1.1 ≠ q.1.1)->∀ a ∈ t,∀ b ∈ t,a ≠ b->a.1.1 ≠ b.1.1
 | [],_,a,ha,_,_,_=>by simp at ha
 | z :: t,hp,a,ha,b,hb,hab=>by
   have hp':=List.pairwise_cons.1 hp
   rcases av.1 ha with h1|h1
   ·rcases av.1 hb with h2|h2
    ·exact absurd (h1.trans h2.symm) hab
    ·rw [h1];exact hp'.1 b h2
   ·rcases av.1 hb with h2|h2
    ·rw [h2];exact Ne.symm (hp'.1 a h1)
    ·exact aJL hp'.2 a h1 b h2 hab
theorem aKy {S S2:St}(h:T.All (fun id o=>T.get fA id S.hp=some o) S2.hp 1 0)(hn:S.next <= S2.next):Sub S2.hs S.hs:=⟨fun id o ho=>h.get ho,hn⟩
noncomputable def aHr (t:eY)(c:Nat)(vis:eY):St:=match vis with
 | []=>rE [(aI,.map (cA t) c),(aI+1,.mapIter (some aI) c [] c)] (aI+2)
 | v :: l=>rE [(aI,.map (cA t) c),(aI+1,.mapIter (some aI) c ((v :: l).map (·.2)) c),(aI+2,.cells (cellsOf ((v :: l).map (·.1))) 34 .rw)] (aI+3)
noncomputable def aUm (t:eY)(c:Nat):St:=match t with
 | []=>rE [(aI,.map (cA t) c)] (aI+2)
 | _ :: _=>rE [(aI,.map (cA t) c),(aI+2,.cells (cellsOf (cE (t.map (·.1)) [])) 34 .rw)] (aI+3)
structure rI (t vis:eY):Prop where
 sub:∀ x ∈ vis,x ∈ t
 dist:vis.Pairwise fun p q=>p.1.1 ≠ q.1.1
theorem rI.add {t vis:eY}{x:aY × Nat}(h:rI t vis)(hp:t.Pairwise fun p q=>p.1.1 ≠ q.1.1)(hx:x ∈ t)(hn:x.2 ∉ vis.map (·.2)):rI t (vis ++ [x]):=by
 refine ⟨fun y hy=>?_,List.pairwise_append.2 ⟨h.dist,List.pairwise_singleton _ _,fun a ha b hb=>?_⟩⟩
 ·rcases List.mem_append.1 hy with hy|hy
  ·exact h.sub y hy
  ·rw [ay] at hy;subst hy;exact hx
 ·rw [ay] at hb;subst hb;intro e;have hab:a ≠ b:=fun e2=>hn (by rw [<- e2];exact List.mem_map.2 ⟨a,ha,rfl⟩);exact aJL hp a (h.sub a ha) b hx hab e
theorem rI.few {t vis:eY}(h:rI t vis):vis.length <= t.length:=by
 have:=qS (a:=vis.map (·.1.1)) (b:=t.map (·.1.1)) (by rw [List.Nodup,List.pairwise_map];exact h.dist) fun y hy=>by
  obtain ⟨z,hz,rfl⟩:=List.mem_map.1 hy;exact List.mem_map.2 ⟨z,h.sub z hz,rfl⟩
 simpa using this
theorem rI.all {t vis:eY}{c:Nat}(h:rI t vis)(hs:cI t 0 c)(hp:t.Pairwise fun p q=>p.1.1 ≠ q.1.1)(ha:∀ x ∈ t,x.2 ∈ vis.map (·.2)):cE (vis.map (·.1)) []=cE (t.map (·.1)) []:=by
 refine lA (kC .nil (by rw [List.pairwise_map];exact h.dist) sm) (kC .nil (by rw [List.pairwise_map];exact hp) sm) fun x=>?_;rw [lR,lR];simp only [List.not_mem_nil,or_false]
 constructor
 ·intro hx;obtain ⟨z,hz,rfl⟩:=List.mem_map.1 hx;exact List.mem_map.2 ⟨z,h.sub z hz,rfl⟩
 ·intro hx;obtain ⟨z,hz,rfl⟩:=List.mem_map.1 hx;obtain ⟨y,hy,e⟩:=List.mem_map.1 (ha z hz);rw [hs.inj z hz y (h.sub y hy) e.symm];exact List.mem_map.2 ⟨y,hy,rfl⟩
theorem aOu {a:Nat}{l:List Nat}{b:Nat}(h:a :: (l ++ [b]) ≠ []):(a :: (l ++ [b])).getLast h=b:=by rw [List.getLast_cons sm];simp
theorem aLm {t:eY}{x:aY × Nat}{p c:Nat}:cI t p c->x ∈ t->(cA t).find? (fun e=>e.2.2 == x.2)=some (.str x.1.1,gE x.1,x.2):=fun hs hx=>by
 induction t generalizing p with
 | nil=>simp at hx
 | cons y t ih =>
   show ((V.str y.1.1,gE y.1,y.2) :: cA t).find? _=_;rw [List.find?_cons];by_cases e:y.2=x.2
   ·rw [hs.inj y sm x hx e];simp
   ·have hxt:x ∈ t:=by
     rcases av.1 hx with h|h
     ·exact absurd (by rw [h]) e
     ·exact h
    have e2:(y.2 == x.2)=false:=by simpa using e
    show (match y.2 == x.2 with|true=>_|false=>_)=_;rw [e2];exact ih hs.2 hxt
theorem zH {t:eY}{x:aY × Nat}{c b:Nat}{K:V->St->Prop}{S:St}(hx:x ∈ t)(hs:cI t 0 c)(hb:b=x.2)(h:K (.tup [.str x.1.1,gE x.1]) S) :
  Option.rec (motive:=fun _=>Prop) False (fun e=>K (.tup [e.1,e.2.1]) S) ((cA t).find? fun e=>e.2.2 == b):=by
 subst hb;rw [aLm hs hx];exact h
def aWA (t:eY)(c:Nat)(x:X)(E:Env)(D:List Df)(H:Hs):Prop:=x=.exit 0∧D=[]∧∃ vis:eY,rI t vis∧(∀ x ∈ t,x.2 ∈ vis.map (·.2))∧(aHr t c vis).hs=H∧Kn E 19 [(0,.map aI),(3,mD (vis.map (·.1)) (aI+2)),(7,.ptr (aI+1) 0)]
theorem aKI {P:Program}{C:Code}{b:Nat}{R:X->Env->List Df->Hs->Prop}{t:eY}{c:Nat}{F:eY->Env->Prop}(hp:t.Pairwise fun p q=>p.1.1 ≠ q.1.1)
  (step:∀ (vis:eY) (E:Env),rI t vis->F vis E->(∀ (x:aY × Nat) (E':Env),x ∈ t->x.2 ∉ vis.map (·.2)->F (vis ++ [x]) E'->nF b P C E' (aHr t c (vis ++ [x])).hs R)->nF b P C E (aHr t c vis).hs R) :
  ∀ (k:Nat) (vis:eY) (E:Env),t.length <= vis.length+k->rI t vis->F vis E->nF b P C E (aHr t c vis).hs R
 | 0,vis,E,hk,hv,hF=>step vis E hv hF fun x E' hx hn _=>by
   have:=(hv.add hp hx hn).few;simp at this;omega
 | k+1,vis,E,hk,hv,hF=>step vis E hv hF fun x E' hx hn hF'=>aKI hp step k (vis ++ [x]) E' (by simp;omega) (hv.add hp hx hn) hF'
attribute [local irreducible] eO nF
theorem aLI {t:eY}{c:Nat}(hs:cI t 0 c)(hp:t.Pairwise fun p q=>p.1.1 ≠ q.1.1)(hl:t.length <= 4096) :
  fP prog 62 [.map aI] (rE [(aI,.map (cA t) c)] (aI+1)).hs (mD (cE (t.map (·.1)) []) (aI+2)) (aUm t c).hs:=by
 refine fP.ofD f62 ?_
 conv=>arg 2;whnf
 refine eO.seqE mixed ?_;refine goB ?_;refine ⟨rfl,rfl,?_⟩;refine eO.seqE mixed ?_;refine goB ?_;refine ⟨rfl,rfl,?_⟩;refine eO.seq (R1:=fun x E1 D1 H1=>x=.normal∧D1=[]∧∃ vis:eY,rI t vis∧(∀ x ∈ t,x.2 ∈ vis.map (·.2))∧(aHr t c vis).hs=H1∧Kn E1 19 [(0,.map aI),(3,mD (vis.map (·.1)) (aI+2)),(7,.ptr (aI+1) 0)]) ?_ ?_
 ·refine eO.seqE mixed ?_;refine goB ?_;refine ⟨rfl,rfl,?_⟩;refine eO.blockLoop (R1:=aWA t c) ?_ (fun x E1 D1 H1 h=>⟨h.1,rfl,h.2⟩);refine aKI (F:=fun vis E=>Kn E 19 [(0,.map aI),(3,mD (vis.map (·.1)) (aI+2)),(7,.ptr (aI+1) 0)]) hp ?_ t.length [] _ sm ⟨sm,.nil⟩ kq;intro vis E hok hf ih
  cases vis with
  | nil =>
    refine nF.kn hf ?_;refine nF.next (o:=_) (tail:=_) rfl rfl rfl (i:=aI+1) (m:=aI) (since:=c) (stepped:=c) (clock:=c) (seen:=([]:eY).map (·.2)) (es:=cA t) rfl rfl rfl ?_ (af _) (ae rfl) (ae rfl) ?_ mixed ?_
    ·intro x hx;obtain ⟨y,hy,rfl⟩:=List.mem_map.1 hx;exact hs.lt y hy
    ·intro hall;refine goB ?_;exact ⟨sm,rfl,rfl,([]:eY),hok,fun x hx=>hall _ (List.mem_map.2 ⟨x,hx,rfl⟩),rfl,kq⟩
    ·intro y hy hns;obtain ⟨x,hx,rfl⟩:=List.mem_map.1 hy
     have hS:aHr t c (([]:eY) ++ [x])=rE [(aI,.map (cA t) c),(aI+1,.mapIter (some aI) c (([]:eY).map (·.2) ++ [x.2]) c),(aI+2,.cells (cellsOf (([]:eY).map (·.1) ++ [x.1])) 34 .rw)] (aI+3):=by
      rfl
     refine goB ?_;refine ifK_intro (Nat.beq_refl c) ?_;refine zH hx hs rfl ?_;refine goB ?_;refine aEk (q:=x.1) rfl ?_;refine goB ?_;refine ⟨rfl,rfl,[aI+4],rE [(aI,.map (cA t) c),(aI+1,.mapIter (some aI) c (([]:eY).map (·.2) ++ [x.2]) c),(aI+2,.cells (cellsOf (([]:eY).map (·.1) ++ [x.1])) 34 .rw)] (aI+3),⟨rfl,eE _,fun g hg=>by rw [ay] at hg;subst hg;exact ae rfl,?_⟩,?_⟩
     ·repeat' (first
       | exact trivial
       | exact ⟨_,_,.inl ⟨ae rfl,rfl⟩,rfl,.map (gK _)⟩
       | exact ⟨_,_,.inl ⟨ae rfl,rfl⟩,rfl,.mapIter (.inl ⟨ae rfl,rfl⟩)⟩
       | exact ⟨_,_,.inr ⟨ae rfl,ae rfl,rfl⟩,rfl,.cells (aN _) (.inl rfl)⟩
       | apply And.intro)
     rw [<- hS];exact ih x _ hx hns kq
  | cons v0 w0 =>
    refine nF.kn hf ?_;refine nF.next (o:=_) (tail:=_) rfl rfl rfl (i:=aI+1) (m:=aI) (since:=c) (stepped:=c) (clock:=c) (seen:=(v0 :: w0).map (·.2)) (es:=cA t) rfl rfl rfl ?_ (af _) (ae rfl) (ae rfl) ?_ mixed ?_
    ·intro x hx;obtain ⟨y,hy,rfl⟩:=List.mem_map.1 hx;exact hs.lt y hy
    ·intro hall;refine goB ?_;exact ⟨sm,rfl,rfl,(v0 :: w0),hok,fun x hx=>hall _ (List.mem_map.2 ⟨x,hx,rfl⟩),rfl,kq⟩
    ·intro y hy hns;obtain ⟨x,hx,rfl⟩:=List.mem_map.1 hy
     have hS:aHr t c ((v0 :: w0) ++ [x])=rE [(aI,.map (cA t) c),(aI+1,.mapIter (some aI) c ((v0 :: w0).map (·.2) ++ [x.2]) c),(aI+2,.cells (cellsOf ((v0 :: w0).map (·.1) ++ [x.1])) 34 .rw)] (aI+3):=by
      show rE [(aI,.map (cA t) c),(aI+1,.mapIter (some aI) c ((v0 :: (w0 ++ [x])).map (·.2)) c),(aI+2,.cells (cellsOf ((v0 :: (w0 ++ [x])).map (·.1))) 34 .rw)] (aI+3)=_;rw [show (v0 :: (w0 ++ [x])).map (·.2)=(v0 :: w0).map (·.2) ++ [x.2] by simp,show (v0 :: (w0 ++ [x])).map (·.1)=(v0 :: w0).map (·.1) ++ [x.1] by simp]
     have hov:mD (((v0 :: w0) ++ [x]).map (·.1)) (aI+2)=.slice (aI+2) 0 (((v0 :: w0).map (·.1)).length+1) (((v0 :: w0).map (·.1)).length+1) 2 false:=by
      rw [kO sm];simp
     have hlt:((v0 :: w0).map (·.1)).length < 4096:=by
      have h1:=(hok.add hp hx hns).few;simp at h1 ⊢;omega
     refine goB ?_;refine ifK_intro (Nat.beq_refl c) ?_;refine zH hx hs (aOu _) ?_;refine goB ?_;show aO prog #[29,29] (.slice (aI+2) 0 ((v0 :: w0).map (·.1)).length ((v0 :: w0).map (·.1)).length 2 false) (.slice (aI+3).succ 0 1 1 2 true) _ _;refine aEj (q:=x.1) (by rfl) (by rfl) hlt ?_;refine goB ?_;refine ⟨rfl,rfl,[aI+5],rE [(aI,.map (cA t) c),(aI+1,.mapIter (some aI) c ((v0 :: w0).map (·.2) ++ [x.2]) c),(aI+2,.cells (cellsOf ((v0 :: w0).map (·.1) ++ [x.1])) 34 .rw)] (aI+3),⟨rfl,eE _,fun g hg=>by rw [ay] at hg;subst hg;exact ae rfl,?_⟩,?_⟩
     ·repeat' (first
       | exact trivial
       | exact ⟨_,_,.inl ⟨ae rfl,rfl⟩,rfl,.map (gK _)⟩
       | exact ⟨_,_,.inl ⟨ae rfl,rfl⟩,rfl,.mapIter (.inl ⟨ae rfl,rfl⟩)⟩
       | exact ⟨_,_,.inr ⟨ae rfl,ae rfl,rfl⟩,rfl,.cells (aN _) (.inl rfl)⟩
       | apply And.intro)
     rw [<- hS];exact ih x _ hx hns ⟨rfl,rfl,by rw [hov];rfl,rfl,trivial⟩
 ·rintro x E1 D1 H1 ⟨rfl,rfl,vis,hok,hall,rfl,hf⟩;refine ⟨rfl,rfl,?_⟩;have hso:=hok.all hs hp hall;have yA:vis.length <= 4096:=bg hok.few hl
  cases vis with
  | nil =>
    have ht:t=[]:=by
     cases t with
     | nil=>rfl
     | cons y t=>exact absurd (hall y sm) sm
    subst ht;refine eO.kn hf ?_;refine eO.seqE mixed ?_;refine goB ?_;refine sort61_nil ?_;refine goB ?_;refine ⟨rfl,rfl,?_⟩;refine eO.seqE mixed ?_;refine goB ?_;refine ⟨rfl,rfl,?_⟩;refine eO.ev mixed ?_;refine goB ?_;refine ⟨.inr rfl,rfl,_,rfl,?_,?_⟩
    ·refine aKy ?_ (ae kr)
     repeat' (first
      | exact trivial
      | exact rfl
      | apply And.intro)
    ·conv=>whnf
     exact rfl
  | cons v0 w0 =>
    have hv0:v0 ∈ t:=hok.sub v0 sm
    have hT:aUm t c=rE [(aI,.map (cA t) c),(aI+2,.cells (cellsOf (cE (t.map (·.1)) [])) 34 .rw)] (aI+3):=by
     cases t with
     | nil=>simp at hv0
     | cons y t=>rfl
    rw [hT,<- hso]
    have hov:mD (cE ((v0 :: w0).map (·.1)) []) (aI+2)=.slice (aI+2) 0 ((v0 :: w0).map (·.1)).length ((v0 :: w0).map (·.1)).length 2 false:=by
     have hlen:(cE ((v0 :: w0).map (·.1)) []).length=((v0 :: w0).map (·.1)).length:=by rw [dY];simp
     rw [kO (fun h=>by rw [h] at hlen;simp at hlen),hlen]
    rw [hov];refine eO.kn hf ?_;refine eO.seqE mixed ?_;refine goB ?_;refine sort61_run (l:=(v0 :: w0).map (·.1)) (by rw [List.pairwise_map];exact hok.dist) sm (by rw [List.length_map];exact yA) (S:=aHr t c (v0 :: w0)) (id:=aI+2) (e:=34) (fl:=.rw) sm rfl ?_;refine goB ?_;refine ⟨rfl,rfl,?_⟩;refine eO.seqE mixed ?_;refine goB ?_;refine ⟨rfl,rfl,?_⟩;refine eO.ev mixed ?_;refine goB ?_;refine ⟨.inr rfl,rfl,_,rfl,?_,?_⟩
    ·refine aKy ?_ (ae kr)
     repeat' (first
      | exact trivial
      | exact rfl
      | apply And.intro)
    ·exact kO sm _
theorem RC.keepC {P:Program}{c:FuncId}{l l2:List V}(ids:List Nat)(ks os news:List O){S S0 S':St}{v v2:V}{k:V->St->Prop}
  (hids:∀ a b i:Nat,0 <= a->ids[a]?=some i->ids[b]?=some i->a=b) (hlen:ids.length=os.length) (hlen1:ks.length=os.length) (hat:∀ (a i:Nat) (o:O),ids[a]?=some i->ks[a]?=some o->S.hs.get i=some o)
  (hin:∀ (a:Nat) (o' o:O),ks[a]?=some o'->os[a]?=some o->OI (iC ids (aI+os.length)) o' o) (hl:mJ (iC ids (aI+os.length)) l2 l) (hw:∀ (a:Nat) (o:O),ks[a]?=some o->o.wr=true) (hwn:∀ (a:Nat) (o:O),news[a]?=some o->o.wr=true)
  (h0:S0.hs=dU (kJ aI os) (St.hs ⟨.nil,aI+os.length⟩)) (h3:fP P c l S0.hs v S'.hs) (h2:aAC 0 ids (aI+os.length) S.next ks news v2 v S')
  (hk:iX news S (k v2)):RC P c l2 S k:=by
 obtain ⟨S2,h6,h7⟩:=nZ hk;have:=h3.small 0 h0 hids sm hlen hlen1 (by simpa using hlen1) hat hin hl hw hwn h2
 rw [aCp (fun q hq=>by
  obtain ⟨a,ha⟩:=List.getElem?_of_mem hq;rw [List.getElem?_zip_eq_some] at ha
  exact hat a _ _ (by simpa using ha.1) ha.2),<- h7] at this
 exact .mk v2 S2 this h6
theorem aDt {n v:List UInt8}:∀ {l:List aY} {k:List aY->Prop},l.Pairwise (fun p q=>jJ p.1 q.1=true)->aGi n v l k->(∀ x ∈ l,x.1 ≠ n)∧k (yD (n,v) l)
 | [],k,_,h=>⟨sm,h⟩
 | x :: l,k,hp,h=>by
   have hp':=List.pairwise_cons.1 hp;have h':Bool.rec (motive:=fun _=>Prop) (Bool.rec (motive:=fun _=>Prop) False (aGi n v l fun r=>k (x :: r)) (jJ x.1 n)) (k ((n,v) :: x :: l)) (jJ n x.1):=h;unfold yD
   cases hb:jJ n x.1 with
   | true =>
     rw [hb] at h';refine ⟨fun y hy=>?_,by rw [if_pos rfl];exact h'⟩
     rcases av.1 hy with rfl|hy
     ·exact Ne.symm (rW hb)
     ·exact Ne.symm (rW (lN hb (hp'.1 y hy)))
   | false =>
     rw [hb] at h'
     cases hc:jJ x.1 n with
     | false=>rw [hc] at h';exact h'.elim
     | true =>
       rw [hc] at h';obtain ⟨h1,h2⟩:=aDt hp'.2 (show aGi n v l fun r=>k (x :: r) from h');refine ⟨fun y hy=>?_,by rw [if_neg sm];exact h2⟩
       rcases av.1 hy with rfl|hy
       ·exact rW hc
       ·exact h1 y hy
theorem aCe:∀ {es:List (V × V × Nat)} {acc:List aY} {k:List aY->Prop},acc.Pairwise (fun p q=>jJ p.1 q.1=true)->aHg es acc k ->
  ∃ t:eY,es=cA t∧t.Pairwise (fun p q=>p.1.1 ≠ q.1.1)∧(∀ x ∈ t,∀ y ∈ acc,y.1 ≠ x.1.1)∧k (cE (t.map (·.1)) acc)
 | [],acc,k,_,h=>⟨[],rfl,.nil,sm,h⟩
 | e :: es,acc,k,hp,h=>by
   have h':(match e.1,e.2.1 with|.str m,.agg [.str n,.str v]=>dD (kG m n) (aGi n v acc fun l=>aHg es l k)|_,_=>False):=h;obtain ⟨a,b,st⟩:=e
   dsimp only at h'
   split at h'
   ·rename_i m n v
    obtain ⟨h1,h2⟩:=aT h';rw [cY] at h1;have h1':m=n:=eq_of_beq h1;subst h1';obtain ⟨h3,h4⟩:=aDt hp h2;obtain ⟨t,h5,h6,h7,h8⟩:=aCe (aBu hp h3) h4;refine ⟨((m,v),st) :: t,by rw [h5];rfl,List.pairwise_cons.2 ⟨fun x hx=>?_,h6⟩,fun x hx y hy=>?_,h8⟩
    ·exact h7 x hx (m,v) (nT.2 (.inl rfl))
    ·rcases av.1 hx with rfl|hx
     ·exact h3 y hy
     ·exact h7 x hx y (nT.2 (.inr hy))
   ·exact h'.elim
theorem wZ:∀ {t:eY} {p c:Nat},wY (cA t) p c=true->cI t p c
 | [],p,c,h=>ae h
 | x :: t,p,c,h=>by
   have h':Bool.rec (motive:=fun _=>Bool) false (wY (cA t) (x.2+1) c) (Nat.ble p x.2)=true:=h
   cases hb:Nat.ble p x.2 with
   | false=>rw [hb] at h';cases h'
   | true=>rw [hb] at h';exact ⟨ae hb,wZ h'⟩
theorem aBl:∀ {l:List aY} {k:List V->Prop},flatK l k->k (cellsOf l)
 | [],k,h=>h
 | q :: l,k,h=>aBl (l:=l) (show flatK l fun r=>k (.str q.1 :: .str q.2 :: r) from h)
theorem aLJ {t:eY}{c m:Nat}(hs:cI t 0 c)(hp:t.Pairwise fun p q=>p.1.1 ≠ q.1.1)(hl:t.length <= 4096){S:St}(hm:S.hs.get m=some (.map (cA t) c)){k:V->St->Prop}
  (hk:iX (mL (cE (t.map (·.1)) [])) S (k (mD (cE (t.map (·.1)) []) S.next))):RC prog 62 [.map m] S k:=by
 refine RC.keepC [m] [.map (cA t) c] [.map (cA t) c] (mL (cE (t.map (·.1)) [])) ?_ rfl rfl ?_ ?_ (.cons (.map (iC.at (a:=0) rfl sm)) .nil) ?_ tG (S0:=rE [(aI,.map (cA t) c)] (aI+1)) (S':=aUm t c) ?_ (aLI hs hp hl) ?_ hk
 ·rintro (_|a) (_|b) x _ h1 h2 <;> simp at h1 h2 ⊢
 ·rintro (_|a) j o h1 h2
  ·simp at h1 h2;subst h1;subst h2;exact hm
  ·simp at h1
 ·rintro (_|a) o1 o2 h1 h2
  ·simp at h1 h2;subst h1;subst h2;exact .map (gK t)
  ·simp at h1
 ·rintro (_|a) o h
  ·simp at h;subst h;rfl
  ·simp at h
 ·obtain ⟨S0,h1,h2⟩:=fF (l:=kJ aI [.map (cA t) c]) (S:=⟨.nil,aI+1⟩) (k:=fun S=>S=rE [(aI,.map (cA t) c)] (aI+1)) (by
   conv=>whnf
   exact rfl)
  subst h1;exact h2
 ·cases t with
  | nil=>exact ⟨[],bj,sm,.nilSlice,⟨⟨_,rfl,.map (gK _)⟩,trivial⟩,trivial⟩
  | cons x t =>
    have hne:cE ((x :: t).map (·.1)) [] ≠ []:=fun h=>by
     have h1:(cE ((x :: t).map (·.1)) []).length=(x :: t).length:=by rw [dY];simp
     rw [h] at h1;simp at h1
    rw [aEU hne,kO hne,kO hne];exact ⟨[aI+2],eE _,fun g hg=>by rw [ay] at hg;subst hg;exact ae rfl,.slice _ _ _ _ _ _ _ (uF.new (a:=0) rfl (ae rfl) sm) (.inl rfl) (af _) (fun h=>⟨h,rfl⟩),⟨⟨_,rfl,.map (gK _)⟩,trivial⟩,⟨⟨_,rfl,.cells (aN _) (.inl rfl)⟩,trivial⟩⟩
theorem sV:nG prog 62 34:=fun args S k h=>by
 have hrc:RC prog 62 args S k:=by
  unfold wI at h
  split at h
  ·rename_i m
   obtain ⟨es,c,hm,h1⟩:=gV h;obtain ⟨h2,h3⟩:=aT h1;obtain ⟨t,rfl,hp,_,h4⟩:=aCe .nil h3;obtain ⟨h5,h6⟩:=aT h4
   have hlen:(cE (t.map (·.1)) []).length=t.length:=by rw [dY];simp
   have hl:t.length <= 4096:=by
    have:=ae h5;rw [aM,hlen] at this;exact this
   refine aLJ (wZ h2) hp hl hm ?_;generalize cE (t.map (·.1)) []=L at h6 ⊢
   cases L with
   | nil=>exact h6
   | cons q L =>
     have h7:=aBl (show flatK (q :: L) _ from h6);have h8:=bV h7;rw [aM] at h8;exact mZ h8
  ·exact h.elim
 cases hrc with
 | mk v S' h1 h2=>exact ⟨v,S',h2,h1⟩
end
end Go.Am
namespace Go.Am
open Go.Proofs
attribute [local irreducible] fN fI fB cR eQ evCode evOps rD kOp aAj wF wH wG kGc aLE aLD kDr kMg drOps fU kK sl
section
theorem fD.nm {x:jH}(h:fD x):(aW,getL aW x.l) ∈ x.l:=aEH (oT h.met).2.1
attribute [local irreducible] aO bK cM bD
end
section
attribute [local irreducible] aO bK cM bD
structure Eg (B x:Nat)(S:St)(cs cm:Nat)(L:List (jH × Nat))(tg:List aY):Prop where
 row:∃ v e fl,(cs < B∧cs ≠ x)∧S.hs.get cs=some (.cells [v] e fl)∧((L=[]∧v=.nilSlice) ∨ ∃ m,v=.slice m 0 L.length L.length 4 false∧(m < B∧m ≠ x)∧S.hs.get m=some (.cells (xI L) 49 .rw))
 labs:∀ q ∈ L,(q.2 < B∧q.2 ≠ x)∧S.hs.get q.2=some (.cells (cellsOf q.1.l) 34 .rw)
 mak:∃ m r vo e fl fl1 fl0,(cm < B∧cm ≠ x)∧(m < B∧m ≠ x)∧(r < B∧r ≠ x)∧S.hs.get cm=some (.cells [.ptr m 0] e fl)∧S.hs.get m=some (.cells [vo,.ptr r 0] 120 fl1)∧S.hs.get r=some (.cells [.nilSlice,.bool true] 154 fl0)∧∀ S':St,(∀ id,id < B->id ≠ x->S'.hs.get id=S.hs.get id)->LW S' vo tg
theorem aQr:bB prog 54 35 [] (aL Tryz.f54):=fq Tryz.f54
theorem aUX:bB prog 24 6 [.tmp 4] (aL Tryz.f24):=fq Tryz.f24
theorem aNL {v:V}{mm:Nat}(hv:V.one v=true∧v.cells=[v]){S:St}(hn:S.next+1 < room){k:V->St->Prop}(hk:∀ S1 S2:St,S1.hs=S.hs.new (.cells [.ptr mm 0] 69 .ex)->S2.hs=S1.hs.new (.cells [v] 25 .ex)->k (.func (.func 54) [] [.ptr S1.next 0,.ptr S.next 0]) S2):RC prog 24 [.ptr mm 0,v] S k:=by
 refine RC.run mixed aS (aG aUX ?_);refine enter ?_;refine go ?_;refine aD (o:=.cells [.ptr mm 0] 69 .ex) om fun S1 hS1=>?_;have n1:=aF hS1;refine go ?_;rw [hv.2];refine aD om fun S2 hS2=>?_;refine go ?_;exact hk S1 S2 hS1 hS2
end
section
attribute [local irreducible] aO bK cM bD
theorem aXe:bB prog 11 84 [.cell 8 25,.cell 9 3,.cell 10 3,.cell 11 43] (aL Tryz.f11):=fq Tryz.f11
end
section
attribute [local irreducible] aO bK cM bD tC aBL aAl
theorem aRI:V.flat.V.flatL tC=true:=kr
def tQ (S:St):Prop:=∃ e,S.hs.get 5=some (.cells [.int .i64 (.negSucc 0),.int .i64 (.negSucc 0)] e .ro)
structure aAD (B:Nat)(S:St):Prop where
 hB:B < room
 hn:B < S.next
 h10:∃ e,S.hs.get 4=some (.cells aBL e .ro)
 inf:∃ e fl,S.hs.get 12=some (.cells [.int .u64 52,.int .u64 11,.int .i64 (-1023)] e fl)
 ten:∃ e fl e' fl' ex,S.hs.get 15=some (.cells [.slice B 0 23 23 1 ex] e fl)∧S.hs.get B=some (.cells tC e' fl')
 opt:∃ e fl,S.hs.get 11=some (.cells [.bool true] e fl)
 pow:∃ e,S.hs.get 18=some (.cells aAl e .ro)
 non:tQ S
theorem aAD.tabs {B:Nat}{S:St}(h:aAD B S)(hn:1000 <= S.next):pX S.next S:=⟨hn,h.h10,h.inf,by
 obtain ⟨e,fl,e',fl',ex,h1,h2⟩:=h.ten
 exact ⟨B,e,fl,e',fl',ex,h.hn,h1,h2⟩,h.opt,by
 obtain ⟨e,h1⟩:=h.pow
 exact ⟨e,.cons (show 18 < 1000 by decide) rfl h1 (fun _ _ _=>aED yL) (.nil _)⟩⟩
theorem aAD.keep {B:Nat}{S S':St}(h:aAD B S)(hk:∀ id,id < S.next->S'.hs.get id=S.hs.get id)(hn:1000 <= S.next)(hn':S.next <= S'.next):aAD B S':=by
 have hBn:=h.hn;refine ⟨h.hB,om,?_,?_,?_,?_,?_,?_⟩
 ·obtain ⟨e,h1⟩:=h.h10;exact ⟨e,by rw [hk _ om];exact h1⟩
 ·obtain ⟨e,fl,h1⟩:=h.inf;exact ⟨e,fl,by rw [hk _ om];exact h1⟩
 ·obtain ⟨e,fl,e',fl',ex,h1,h2⟩:=h.ten;exact ⟨e,fl,e',fl',ex,by rw [hk _ om];exact h1,by rw [hk _ hBn];exact h2⟩
 ·obtain ⟨e,fl,h1⟩:=h.opt;exact ⟨e,fl,by rw [hk _ om];exact h1⟩
 ·obtain ⟨e,h1⟩:=h.pow;exact ⟨e,by rw [hk _ om];exact h1⟩
 ·obtain ⟨e,h1⟩:=h.non;exact ⟨e,by rw [hk _ om];exact h1⟩
def aCN (e4 e12 e15 e11 e18 e5:TypeId)(ex:Bool):List (Nat × O):=[(4,.cells aBL e4 .ro),(12,.cells [.int .u64 52,.int .u64 11,.int .i64 (-1023)] e12 .ro),(15,.cells [.slice aI 0 23 23 1 ex] e15 .ro),(11,.cells [.bool true] e11 .ro),(18,.cells aAl e18 .ro),(5,.cells [.int .i64 (.negSucc 0),.int .i64 (.negSucc 0)] e5 .ro)]
theorem aKz {e4 e12 e15 e11 e18 e5:TypeId}{ex:Bool}:∀ q ∈ aCN e4 e12 e15 e11 e18 e5 ex,q.1 < 1000:=fun q hq=>by
 simp only [aCN,av,List.not_mem_nil,or_false] at hq
 rcases hq with rfl|rfl|rfl|rfl|rfl|rfl <;> exact ae rfl
theorem aQI {α:Type}{x:α}{l:List α}{a:Nat}{y:α}(h:(x :: l)[a]?=some y):(a=0∧y=x) ∨ ∃ b,a=b+1∧l[b]?=some y:=by
 cases a with
 | zero=>exact .inl ⟨rfl,by simpa using h.symm⟩
 | succ b=>exact .inr ⟨b,rfl,by simpa using h⟩
theorem RC.tab {c:FuncId}{B:Nat}{S:St}(hT:aAD B S)(hS:1000 <= S.next)(io:List Nat)(ks os:List O){l l2:List V}{k:V->St->Prop}(hlen:io.length=os.length)(hlen1:ks.length=os.length)(hfew:os.length <= 100)
  (hio:∀ i ∈ io,aI <= i∧i < room∧i ≠ B) (hnd:io.Nodup) (hat:∀ (a i:Nat) (o:O),io[a]?=some i->ks[a]?=some o->S.hs.get i=some o) (hwk:∀ o ∈ ks,o.wr=true)
  (hin:∀ R:Nat->Nat->Prop,(∀ b i,io[b]?=some i->R i (aI+1+b))->(∀ (a:Nat) (o' o:O),ks[a]?=some o'->os[a]?=some o->OI R o' o)∧mJ R l2 l)
  (hback:∀ R:Nat->Nat->Prop,(∀ b i,io[b]?=some i->R (aI+1+b) i)->∀ (a:Nat) (o' o:O),ks[a]?=some o'->os[a]?=some o->OI R o o')
  (hrun:∀ S0:St,pX (aI+1) S0->S0.next=aI+1+os.length->(∀ (a:Nat) (o:O),os[a]?=some o->S0.hs.get (aI+1+a)=some o)->tQ S0->RC prog c l S0 fun v S'=>∃ (gs:List Nat) (news:List O) (v2:V),(∀ id,id < S0.next->S'.hs.get id=S0.hs.get id)∧gs.Nodup∧(∀ g ∈ gs,S0.next <= g)∧(∀ o ∈ news,o.wr=true)∧S.next+news.length < room∧gs.length=news.length ∧
   (∀ R:Nat->Nat->Prop,(∀ a g,gs[a]?=some g->R g (S.next+a))->(∀ b i,io[b]?=some i->R (aI+1+b) i)->VI R v v2∧tP R S' gs news)∧∀ S2:St,(∀ id,id < S.next->S2.hs.get id=S.hs.get id)->S2.next=S.next+news.length->(∀ (a:Nat) (o:O),news[a]?=some o->S2.hs.get (S.next+a)=some o)->k v2 S2):RC prog c l2 S k:=by
 have hroom:room=4096:=rfl;have hngl:aI=1000:=rfl;obtain ⟨e4,h4⟩:=hT.h10;obtain ⟨e12,l12,h12⟩:=hT.inf;obtain ⟨e15,l15,eB,lB,ex,h15,hBo⟩:=hT.ten;obtain ⟨e11,l11,h11⟩:=hT.opt;obtain ⟨e18,h18⟩:=hT.pow;obtain ⟨e5,h5⟩:=hT.non;have hR0:iC (B :: io) (aI+(os.length+1)) B (aI+0):=iC.at (a:=0) rfl om
 have hRi:∀ b i,io[b]?=some i->iC (B :: io) (aI+(os.length+1)) i (aI+1+b):=fun b i h=>by
  have hb:=(ao.1 h).1;have:=iC.at (ids:=B :: io) (n:=aI+(os.length+1)) (a:=b+1) (i:=i) (by simpa using h) om;rw [show aI+1+b=aI+(b+1) by omega];exact this
 obtain ⟨hin1,hin2⟩:=hin _ hRi;refine RC.small3 (aCN e4 e12 e15 e11 e18 e5 ex) (l:=l) 1 (B :: io) (.cells tC eB lB :: ks) (.cells tC eB .ro :: os) ?_ ?_ ?_ ?_ ?_ ?_ ?_ ?_ hin2 ?_ ?_ ?_
 ·intro p hp;simp only [aCN,av,List.not_mem_nil,or_false] at hp
  rcases hp with rfl|rfl|rfl|rfl|rfl|rfl
  ·exact ⟨ae rfl,rfl,_,h4,.cells (cB aDE) (.inl rfl)⟩
  ·exact ⟨ae rfl,rfl,_,h12,.cells (cB rfl) (.inr (.inr rfl))⟩
  ·exact ⟨ae rfl,rfl,_,h15,.cells (.cons (.slice _ _ _ _ _ _ _ hR0 (.inl rfl) (af _) (fun h=>⟨h,rfl⟩)) .nil) (.inr (.inr rfl))⟩
  ·exact ⟨ae rfl,rfl,_,h11,.cells (cB rfl) (.inr (.inr rfl))⟩
  ·exact ⟨ae rfl,rfl,_,h18,.cells (cB yL) (.inl rfl)⟩
  ·exact ⟨ae rfl,rfl,_,h5,.cells (cB rfl) (.inl rfl)⟩
 ·intro a i ha h
  rcases aQI h with ⟨rfl,_⟩|⟨b,rfl,h⟩
  ·omega
  ·exact (hio i (List.mem_of_getElem? h)).1
 ·intro a b i ha h h'
  cases a with
  | zero=>omega
  | succ a =>
    have q1:io[a]?=some i:=by simpa using h
    cases b with
    | zero =>
      have q2:B=i:=by simpa using h'
      exact absurd q2.symm (hio i (List.mem_of_getElem? q1)).2.2
    | succ b =>
      have q2:io[b]?=some i:=by simpa using h'
      obtain ⟨g1,g2⟩:=ao.1 q1;obtain ⟨g3,g4⟩:=ao.1 q2;rw [nA hnd g1 g3 (g2.trans g4.symm)]
 ·intro a o ha h
  rcases aQI h with ⟨rfl,rfl⟩|⟨b,rfl,h⟩
  ·rfl
  ·omega
 ·simp [hlen]
 ·simp [hlen1]
 ·intro a i o h1 h2
  rcases aQI h1 with ⟨rfl,rfl⟩|⟨b,rfl,h1⟩
  ·simp at h2;subst h2;exact hBo
  ·exact hat b i o h1 (by simpa using h2)
 ·intro a o' o h1 h2
  rcases aQI h1 with ⟨rfl,rfl⟩|⟨b,rfl,h1⟩
  ·simp at h2;subst h2;exact .cells (cB aRI) (.inr (.inr rfl))
  ·exact hin1 b o' o h1 (by simpa using h2)
 ·simp;omega
 ·intro i hi
  rcases av.1 hi with rfl|hi
  ·exact hT.hB
  ·exact (hio i hi).2.1
 ·intro S0 h0
  have hnx:S0.next=aI+1+os.length:=by
   have:=congrArg Hs.next h0;rw [iJ] at this;have h2:S0.next=aI+(os.length+1):=this;omega
  have hgi:∀ (a:Nat) (o:O),(O.cells tC eB .ro :: os)[a]?=some o->S0.hs.get (aI+a)=some o:=fun a o h=>by
   have ha:=(ao.1 h).1;rw [h0,jE,pR,if_pos ⟨om,om⟩,show aI+a - aI=a by omega];exact h
  have hgg:∀ q ∈ aCN e4 e12 e15 e11 e18 e5 ex,S0.hs.get q.1=some q.2:=fun q hq=>by
   have hlt:=aKz q hq;rw [h0,jE,pR,if_neg om];exact tI (show [4,12,15,11,18,5].Nodup by decide) hq
  have hTb:pX (aI+1) S0:=by
   refine ⟨om,⟨e4,hgg _ (.head _)⟩,⟨e12,_,hgg _ (.tail _ (.head _))⟩,⟨aI,e15,_,eB,_,ex,om,hgg _ (.tail _ (.tail _ (.head _))),hgi 0 _ rfl⟩,⟨e11,_,hgg _ (.tail _ (.tail _ (.tail _ (.head _))))⟩,⟨e18,.cons (show 18 < 1000 by decide) rfl (hgg _ (.tail _ (.tail _ (.tail _ (.tail _ (.head _)))))) (fun _ _ _=>aED yL) (.nil _)⟩⟩
  have hoi:∀ (a:Nat) (o:O),os[a]?=some o->S0.hs.get (aI+1+a)=some o:=fun a o h=>by
   rw [show aI+1+a=aI+(a+1) by omega];exact hgi (a+1) o (by simpa using h)
  have hRC:=hrun S0 hTb hnx hoi ⟨e5,hgg _ (.tail _ (.tail _ (.tail _ (.tail _ (.tail _ (.head _))))))⟩
  cases hRC with
  | mk v S' hcall hp =>
  obtain ⟨gs,news,v2,hkeep,hgnd,hgge,hnw,hnr,hgl,hrel,hk⟩:=hp;refine .mk v S' hcall ⟨ks.map some,news,v2,by simp [hlen1],?_,fun a o h=>hnw o (List.mem_of_getElem? h),hnr,⟨gs,hgnd,fun g hg=>?_,?_⟩,fun S2 h2=>?_⟩
  ·intro a o h;rw [List.getElem?_map] at h
   cases hka:ks[a]? with
   | none=>rw [hka] at h;cases h
   | some o1=>rw [hka] at h;cases h;exact hwk _ (List.mem_of_getElem? hka)
  ·have h1:=hgge g hg;show aI+(os.length+1) <= g;omega
  ·have hro:∀ b,b < os.length->roG (aCN e4 e12 e15 e11 e18 e5 ex) 1 (aI+(b+1))=false:=fun b hb=>by
    unfold roG;rw [uT om,Bool.false_or,List.any_eq_false];intro p hp he;have:=aj he;have hlt:=aKz p hp;omega
   have hRo:∀ b i,io[b]?=some i->mS (aCN e4 e12 e15 e11 e18 e5 ex) 1 (B :: io) gs (aI+(os.length+1)) S.next (S.next+news.length) (aI+1+b) i:=fun b i h=>by
    have hb:=(ao.1 h).1;rw [show aI+1+b=aI+(b+1) by omega];exact mS.at (a:=b+1) (by simpa using h) om (hro b om)
   obtain ⟨r1,r2⟩:=hrel (mS (aCN e4 e12 e15 e11 e18 e5 ex) 1 (B :: io) gs (aI+(os.length+1)) S.next (S.next+news.length)) (fun a g h=>mS.new h (by have:=hgge g (List.mem_of_getElem? h);omega) (by have:=(ao.1 h).1;omega)) hRo;refine ⟨r1,?_,r2⟩
   have hHeld:∀ (ks':List O) (n:Nat),(∀ (a:Nat) (o':O),ks'[a]?=some o'->∃ o1,S'.hs.get (n+a)=some o1∧OI (mS (aCN e4 e12 e15 e11 e18 e5 ex) 1 (B :: io) gs (aI+(os.length+1)) S.next (S.next+news.length)) o1 o')->zD (mS (aCN e4 e12 e15 e11 e18 e5 ex) 1 (B :: io) gs (aI+(os.length+1)) S.next (S.next+news.length)) S' n (ks'.map some):=by
    intro ks'
    induction ks' with
    | nil=>intro n _;trivial
    | cons o ks' ih =>
      intro n h;refine ⟨h 0 o rfl,ih (n+1) fun a o' ha=>?_⟩;obtain ⟨o1,g1,g2⟩:=h (a+1) o' (by simpa using ha);exact ⟨o1,by rw [show n+1+a=n+(a+1) by omega];exact g1,g2⟩
   refine hHeld ks (aI+1) fun a o' ha=>?_
   have hal:a < os.length:=by have:=(ao.1 ha).1;omega
   exact ⟨os[a],by rw [hkeep _ om];exact hoi a _ (ak _),hback _ hRo a o' _ ha (ak _)⟩
  ·have hup:∀ j,(fO (io.zip (ks.map some)) S.hs).get j=S.hs.get j:=fun j=>aDT fun q hq=>by
    obtain ⟨a,ha⟩:=List.getElem?_of_mem hq;obtain ⟨a1,a2⟩:=List.getElem?_zip_eq_some.1 ha;rw [List.getElem?_map] at a2
    cases hka:ks[a]? with
    | none=>rw [hka] at a2;cases a2
    | some o1 =>
      rw [hka] at a2;rw [show q.2=some o1 from (Option.some.inj a2).symm];exact hat a _ _ a1 hka
   have hnx2:(fO (io.zip (ks.map some)) S.hs).next=S.next:=fC _ _;have h2':S2.hs=eC news (fO (io.zip (ks.map some)) S.hs):=h2;refine hk S2 (fun id eP=>?_) ?_ fun a o ha=>?_
   ·rw [h2',qJ om];exact hup id
   ·have:=congrArg Hs.next h2';rw [iS,hnx2] at this;exact this
   ·have:=aEQ (H:=fO (io.zip (ks.map some)) S.hs) ha;rw [hnx2] at this;rw [h2'];exact this
end
def aLT (e:TypeId):List (Nat × O):=[(5,.cells [.int .i64 (.negSucc 0),.int .i64 (.negSucc 0)] e .ro)]
theorem tQ.gb {S:St}(h:tQ S):∃ e,∀ p ∈ aLT e,p.1 < aI∧p.2.wr=false∧∃ o',S.hs.get p.1=some o'∧∀ R,OI R o' p.2:=by
 obtain ⟨e,h⟩:=h;refine ⟨e,fun p hp=>?_⟩;rw [aLT,ay] at hp;subst hp;exact ⟨ae rfl,rfl,_,h,fun R=>.cells (cB rfl) (.inr (.inr rfl))⟩
theorem tQ.keep {S S':St}(h:tQ S)(hk:∀ id,id < aI->S'.hs.get id=S.hs.get id):tQ S':=by
 obtain ⟨e,h⟩:=h;exact ⟨e,by rw [hk _ (ae rfl)];exact h⟩
theorem aPh {A:Prop}{v:V}(h:A=(v=v∧([]:List (Option O))=[]∧([]:List (Option O))=[])):A:=h ▸ ⟨rfl,rfl,rfl⟩
theorem aRw {b:Nat}(hb:aI <= b){S:St}(hG:tQ S)(hS:Std S b (rA b)){k:V->St->Prop}(hk:k (.tup [.str aW,.bool true,.int .i64 0]) S):RC prog 193 [.ptr (b+3) 0,.slice (b+5) 0 1 1 3 false,.str []] S k:=by
 obtain ⟨e,hG⟩:=hG.gb;refine RC.cloN (eF 1000) (l:=[.ptr aI 0,.slice 1002 0 1 1 3 false,.str []]) (aLT e) (b+3) ((rA b).drop 3) (((rA 997).drop 3).map roO) (.tup [.str aW,.bool true,.int .i64 0]) (aPh (v:=.tup [.str aW,.bool true,.int .i64 0]) kr) dc hG om (fun a o ha=>by rw [List.getElem?_drop] at ha;rw [Nat.add_assoc];exact hS _ o ha) (fun R hR=>?_) (fun _=>rfl) hk;have q0:R (b+3) 1000:=hR 0 dc;have q1:R (b+4) 1001:=hR 1 dc;have q2:R (b+5) 1002:=hR 2 dc;have q3:R (b+6) 1003:=hR 3 dc;clear hR hS;refine ⟨⟨?_,?_,?_,?_,trivial⟩,?_⟩
 all_goals
  first|refine .cells ?_ (.inr (.inr rfl))|skip
  repeat (first|exact .nil|(refine .cons ?_ ?_;first|exact .int _ _|exact .str _|exact .nilSlice|exact .ptr 0 (by assumption)|exact .slice _ _ _ _ _ _ _ (by assumption) (.inl rfl) (af _) (fun h=>⟨h,rfl⟩)))
theorem aRx {b:Nat}(hb:aI <= b){S:St}(hG:tQ S)(hS:Std S b (rA b)){k:V->St->Prop}(hk:k (.tup [.str [57],.bool true,.int .i64 0]) S):RC prog 193 [.ptr (b+3) 0,.slice (b+6) 0 1 1 3 false,.str []] S k:=by
 obtain ⟨e,hG⟩:=hG.gb;refine RC.cloN (eF 1000) (l:=[.ptr aI 0,.slice 1003 0 1 1 3 false,.str []]) (aLT e) (b+3) ((rA b).drop 3) (((rA 997).drop 3).map roO) (.tup [.str [57],.bool true,.int .i64 0]) (aPh (v:=.tup [.str [57],.bool true,.int .i64 0]) kr) dc hG om (fun a o ha=>by rw [List.getElem?_drop] at ha;rw [Nat.add_assoc];exact hS _ o ha) (fun R hR=>?_) (fun _=>rfl) hk;have q0:R (b+3) 1000:=hR 0 dc;have q1:R (b+4) 1001:=hR 1 dc;have q2:R (b+5) 1002:=hR 2 dc;have q3:R (b+6) 1003:=hR 3 dc;clear hR hS;refine ⟨⟨?_,?_,?_,?_,trivial⟩,?_⟩
 all_goals
  first|refine .cells ?_ (.inr (.inr rfl))|skip
  repeat (first|exact .nil|(refine .cons ?_ ?_;first|exact .int _ _|exact .str _|exact .nilSlice|exact .ptr 0 (by assumption)|exact .slice _ _ _ _ _ _ _ (by assumption) (.inl rfl) (af _) (fun h=>⟨h,rfl⟩)))
theorem aRy {b:Nat}(hb:aI <= b){S:St}(hG:tQ S)(hS:Std S b (rB b)){k:V->St->Prop}(hk:k (.tup [.str aW,.bool true,.int .i64 0]) S):RC prog 193 [.ptr (b+3) 0,.slice (b+5) 0 1 1 3 false,.str []] S k:=by
 obtain ⟨e,hG⟩:=hG.gb;refine RC.cloN (eF 1000) (l:=[.ptr aI 0,.slice 1002 0 1 1 3 false,.str []]) (aLT e) (b+3) ((rB b).drop 3) (((rB 997).drop 3).map roO) (.tup [.str aW,.bool true,.int .i64 0]) (aPh (v:=.tup [.str aW,.bool true,.int .i64 0]) kr) dc hG om (fun a o ha=>by rw [List.getElem?_drop] at ha;rw [Nat.add_assoc];exact hS _ o ha) (fun R hR=>?_) (fun _=>rfl) hk;have q0:R (b+3) 1000:=hR 0 dc;have q1:R (b+4) 1001:=hR 1 dc;have q2:R (b+5) 1002:=hR 2 dc;clear hR hS;refine ⟨⟨?_,?_,?_,trivial⟩,?_⟩
 all_goals
  first|refine .cells ?_ (.inr (.inr rfl))|skip
  repeat (first|exact .nil|(refine .cons ?_ ?_;first|exact .int _ _|exact .str _|exact .nilSlice|exact .ptr 0 (by assumption)|exact .slice _ _ _ _ _ _ _ (by assumption) (.inl rfl) (af _) (fun h=>⟨h,rfl⟩)))
theorem aRz {b:Nat}(hb:aI <= b){S:St}(hG:tQ S)(hS:Std S b (rB b)){k:V->St->Prop}(hk:k (.tup [.str [],.bool true,.int .i64 0]) S):RC prog 193 [.ptr (b+3) 0,.nilSlice,.str []] S k:=by
 obtain ⟨e,hG⟩:=hG.gb;refine RC.cloN (eF 1000) (l:=[.ptr aI 0,.nilSlice,.str []]) (aLT e) (b+3) ((rB b).drop 3) (((rB 997).drop 3).map roO) (.tup [.str [],.bool true,.int .i64 0]) (aPh (v:=.tup [.str [],.bool true,.int .i64 0]) kr) dc hG om (fun a o ha=>by rw [List.getElem?_drop] at ha;rw [Nat.add_assoc];exact hS _ o ha) (fun R hR=>?_) (fun _=>rfl) hk;have q0:R (b+3) 1000:=hR 0 dc;have q1:R (b+4) 1001:=hR 1 dc;have q2:R (b+5) 1002:=hR 2 dc;clear hR hS;refine ⟨⟨?_,?_,?_,trivial⟩,?_⟩
 all_goals
  first|refine .cells ?_ (.inr (.inr rfl))|skip
  repeat (first|exact .nil|(refine .cons ?_ ?_;first|exact .int _ _|exact .str _|exact .nilSlice|exact .ptr 0 (by assumption)|exact .slice _ _ _ _ _ _ _ (by assumption) (.inl rfl) (af _) (fun h=>⟨h,rfl⟩)))
section
attribute [local irreducible] aO bK cM bD eJ
theorem aGh {p:aY->Bool}{fn:FuncId}{caps:List V}{l:List aY}{i c:Nat}{ex:Bool}{e:TypeId}{fl:Fl}{S:St}(hS:S.hs.get i=some (.cells (cellsOf l) e fl))(hlen:l.length <= 64)(hF:∀ q ∈ l,∀ k:V->St->Prop,k (.bool (p q)) S->RC prog fn (gE q :: caps) S k)
  (i0:Nat) (hi0:i0 <= l.length) (hpre:∀ x ∈ l.take i0,p x=false) (hat:∀ h:i0 < l.length,p l[i0]=true) {r:Int} (hr:r=if i0 < l.length then .ofNat i0 else .negSucc 0) {k:V->St->Prop} (hk:k (.int .i64 r) S):RC prog 77 [.slice i 0 l.length c 2 ex,.func (.func fn) [] caps] S k:=by
 refine RC.run mixed aS (aG aNT ?_);refine enter ?_;refine go ?_;refine LP.induct0 l.length (fun j E=>j <= i0∧Kn E 19 [(0,.slice i 0 l.length c 2 ex),(1,.func (.func fn) [] caps),(6,.slice i 0 l.length c 2 ex),(7,.int .i64 (.ofNat l.length)),(8,.int .i64 (.ofNat j))]) ⟨ai _,kq⟩ ?_;intro j E ⟨hj,hf⟩ ih;refine LP.kn mixed hf ?_;refine go ?_;refine bE (fun hlt=>?_) (fun hge=>?_)
 ·refine go ?_;refine ifK_intro (ag hlt) ?_;refine go ?_;refine aA hS ?_;rw [show Nat.add 0 (j.mul 2)=2 * j from (Nat.zero_add _).trans (Nat.mul_comm j 2)];have hlat:=rT (rest:=[]) hlt;rw [bf] at hlat;refine aX agg40 (n:=2) kr (by rw [aZ];omega) hlat ?_;refine go ?_;refine hF l[j] (az hlt) _ ?_;by_cases hji:j < i0
  ·rw [hpre l[j] (by rw [List.mem_take_iff_getElem];exact ⟨j,om,rfl⟩)];refine go ?_;refine bI (j+1) ?_;refine go ?_;exact ih _ hlt ⟨om,kq⟩
  ·have hj':j=i0:=om;subst hj';rw [hat hlt];rw [if_pos hlt] at hr;subst hr;refine go ?_;exact hk
 ·rw [if_neg om] at hr;subst hr;refine go ?_;exact hk
end
section
attribute [local irreducible] aO bK cM bD eJ
theorem aNZ (p:aY->Bool):∀ l:List aY,(∀ x ∈ l,p x=false) ∨ ∃ i,∃ h:i < l.length,p l[i]=true∧∀ x ∈ l.take i,p x=false
 | []=>.inl sm
 | q :: l=>by
   cases hq:p q with
   | true=>exact .inr ⟨0,sm,hq,sm⟩
   | false =>
     rcases aNZ p l with h|⟨i,hi,h1,h2⟩
     ·exact .inl fun x hx=>by
       rcases av.1 hx with rfl|hx
       ·exact hq
       ·exact h x hx
     ·refine .inr ⟨i+1,by simpa using hi,by simpa using h1,fun x hx=>?_⟩;rw [List.take_succ_cons] at hx
      rcases av.1 hx with rfl|hx
      ·exact hq
      ·exact h2 x hx
theorem aUW:bB prog 197 42 [.tmp 4] (aL Tryz.f197):=fq Tryz.f197
theorem aNG {p:aY->Bool}{fn:FuncId}{caps:List V}{l:List aY}(hlen:l.length <= 64){id:Nat}{S:St}(eP:id < S.next)(hg:S.hs.get id=some (.cells (cellsOf l) 34 .rw))(hn:S.next+64 < room)
  (hF:∀ q ∈ l,∀ S':St,(∀ i,i < S.next->i ≠ id->S'.hs.get i=S.hs.get i)->∀ k:V->St->Prop,k (.bool (p q)) S'->RC prog fn (gE q :: caps) S' k) {k:V->St->Prop}
  (hk:∀ S' rest,Abv id S.next S S' l.length->S'.hs.get id=some (.cells (cellsOf (l.filter (fun q=>!p q)) ++ rest) 34 .rw)->k (.slice id 0 (l.filter (fun q=>!p q)).length l.length 2 false) S'):RC prog 197 [.slice id 0 l.length l.length 2 false,.func (.func fn) [] caps] S k:=by
 refine RC.run mixed aS (aG aUW ?_);refine enter ?_;refine go ?_
 rcases aNZ p l with hall|⟨i0,hi0,hat,hpre⟩
 ·refine aGh hg hlen (fun q hq k hk=>hF q hq S (fun _ _ _=>rfl) k hk) l.length (af _) (fun x hx=>hall x (List.mem_of_mem_take hx)) (fun h=>absurd h (Nat.lt_irrefl _)) (r:=.negSucc 0) (by rw [if_neg (Nat.lt_irrefl _)]) ?_;refine go ?_;have:=hk S [] (Abv.refl _ _ _ _);rw [show l.filter (fun q=>!p q)=l from List.filter_eq_self.2 fun q hq=>by rw [hall q hq];rfl,bf] at this;exact this hg
 ·refine aGh hg hlen (fun q hq k hk=>hF q hq S (fun _ _ _=>rfl) k hk) i0 (Nat.le_of_lt hi0) hpre (fun _=>hat) (r:=.ofNat i0) (by rw [if_pos hi0]) ?_;refine go ?_;refine bI (i0+1) ?_;refine go ?_
  have hf0:(l.take (i0+1)).filter (fun q=>!p q)=l.take i0:=by
   rw [an hi0,List.filter_append,show (l.take i0).filter (fun q=>!p q)=l.take i0 from List.filter_eq_self.2 fun q hq=>by rw [hpre q hq];rfl];simp [hat]
  refine LP.induct l.length (fun m E S'=>i0+1+m <= l.length∧∃ (r:List aY) (c:Nat),c=((l.take (i0+1+m)).filter (fun q=>!p q)).length∧r.length=l.length∧r.take c=(l.take (i0+1+m)).filter (fun q=>!p q)∧r.drop (i0+1+m)=l.drop (i0+1+m)∧c <= i0+m∧S'.hs.get id=some (.cells (cellsOf r) 34 .rw)∧Abv id S.next S S' m∧Kn E 42 [(0,.slice id 0 l.length l.length 2 false),(1,.func (.func fn) [] caps),(5,.int .i64 (.ofNat c)),(6,.int .i64 (.ofNat (i0+1+m)))]) ⟨om,l,i0,by rw [Nat.add_zero,hf0,bh];omega,rfl,hf0.symm,rfl,af _,hg,Abv.refl _ _ _ _,kq⟩ ?_;rintro m E S1 ⟨hjl,r,c,hc,hrl,hrt,hrd,hci,h1,hA,hf⟩ ih;have a1:=hA.lo;have b1:=hA.hi;refine LP.kn mixed hf ?_;refine go ?_;refine bE (fun hlt=>?_) (fun hge=>?_)
  ·have hlr:i0+1+m < r.length:=om
   have hrj:r[i0+1+m]=l[i0+1+m]:=by
    have h1:(r.drop (i0+1+m))[0]?=(l.drop (i0+1+m))[0]?:=by rw [hrd]
    rw [List.getElem?_drop,List.getElem?_drop,Nat.add_zero,ak hlr,ak om] at h1;exact Option.some.inj h1
   refine go ?_;refine ifK_intro (ag hlt) ?_;refine go ?_;refine aA h1 ?_;rw [show Nat.add 0 (Nat.mul (i0+1+m) 2)=2 * (i0+1+m) from (Nat.zero_add _).trans (Nat.mul_comm _ 2)];have hlat:=rT (rest:=[]) hlr;rw [bf,hrj] at hlat;refine aX agg40 (n:=2) kr (by rw [aZ];omega) hlat ?_;have hFq:=hF l[i0+1+m] (az hlt);generalize hqq:l[i0+1+m]=q at *;refine go ?_;refine aD om fun S2 hS2=>?_;have n2:=aF hS2;refine go ?_;refine aA (aJ hS2) ?_;refine wrA (xs:=[.str q.1,.str q.2]) sm kr (by show 0 < 2;omega) rfl rfl ?_;refine aE om fun S3 hS3=>?_;have n3:=aK hS3
   have k3:∀ i,i < S1.next->S3.hs.get i=S1.hs.get i:=fun i g=>by rw [aB hS3 om,aC hS2 om]
   refine go ?_;refine aA (aR hS3) ?_;refine aX agg40 (n:=2) kr (af 2) rfl ?_;refine go ?_;refine hFq S3 (fun i g g'=>(k3 i om).trans (hA.keep i g g')) _ ?_
   have hFl:(l.take (i0+1+(m+1))).filter (fun q=>!p q)=(l.take (i0+1+m)).filter (fun q=>!p q) ++ if p q=true then [] else [q]:=by
    show (l.take (i0+1+m+1)).filter _=_;rw [an hlt,List.filter_append,hqq]
    congr 1
    cases hp:p q <;> simp [hp]
   have hrd2:r.drop (i0+1+(m+1))=l.drop (i0+1+(m+1)):=by
    have h1:=congrArg (List.drop 1) hrd;rw [List.drop_drop,List.drop_drop] at h1;exact h1
   have hA3:Abv id S.next S S3 (m+1):=⟨fun i g g'=>(k3 i om).trans (hA.keep i g g'),om,om⟩
   cases hp:p q with
   | true =>
     rw [hp] at hFl;rw [if_pos rfl,bf] at hFl;refine go ?_;refine bI (i0+1+(m+1)) ?_;refine go ?_;exact ih _ S3 om ⟨om,r,c,by rw [hFl];exact hc,hrl,by rw [hFl];exact hrt,hrd2,om,(k3 id om).trans h1,hA3,kq⟩
   | false =>
     rw [hp] at hFl;rw [if_neg sm] at hFl;refine go ?_;refine aA (aR hS3) ?_;refine aX agg40 (n:=2) kr (af 2) rfl ?_;refine go ?_;refine ifK_intro (ag (show c+1 <= l.length by omega)) ?_;refine go ?_;refine aA ((k3 id om).trans h1) ?_
     conv=>whnf
     refine aGD (r:=r) (c:=c) (q:=q) om ((Nat.zero_add _).trans (Nat.mul_comm c 2)) ?_;refine aE om fun S4 hS4=>?_;have n4:=aK hS4;refine go ?_;refine bI (c+1) ?_;refine go ?_;refine bI (i0+1+(m+1)) ?_;refine go ?_;have hcr:c < r.length:=om;refine ih _ S4 om ⟨om,r.set c q,c+1,by rw [hFl,aq,<- hc];rfl,by rw [List.length_set];exact hrl,?_,?_,om,aR hS4,⟨fun i g g'=>by rw [aB hS4 g'];exact hA3.keep i g g',om,om⟩,kq⟩
     ·rw [hFl,<- hrt,an (by rw [List.length_set];exact hcr),List.take_set_of_le (af _)];simp
     ·rw [<- hrd2,List.drop_set_of_lt om]
  ·have hfin:(l.take (i0+1+m)).filter (fun q=>!p q)=l.filter (fun q=>!p q):=by rw [bd om]
   rw [hfin] at hc hrt;refine go ?_;refine ifK_intro (ag om) ?_;refine ifK_intro (ag (af l.length)) ?_;refine aP (aP (aP ?_));refine go ?_;obtain ⟨d,hd⟩:∃ d,l.length - c=d+1:=⟨l.length - c - 1,om⟩
   have hd2:Nat.sub l.length c=d+1:=hd;rw [hd2]
   conv=>whnf
   refine aA h1 ?_
   conv=>whnf
   refine aDD (c:=c) (d:=d+1) (r:=r) om ((Nat.zero_add _).trans (Nat.mul_comm c 2)) ?_;refine aE om fun S2 hS2=>?_;have n2:=aK hS2;refine go ?_;refine ifK_intro (ag om) ?_;refine aP (aP (aP ?_));refine go ?_;rw [hrt] at hS2;rw [hc];refine hk S2 (cellsOf (List.replicate (d+1) ([],[]))) ⟨fun i g g'=>by rw [aB hS2 g'];exact hA.keep i g g',om,om⟩ ?_;rw [<- eS];exact aR hS2
end
section
attribute [local irreducible] aO bK cM bD eJ mC
def rN (n:List UInt8):eY->eY
 | []=>[]
 | x :: t=>if x.1.1=n then t else x :: rN n t
def putE (x:eY × Nat)(q:aY):eY × Nat:=if q.2=[] then (rN q.1 x.1,x.2) else cK x q
theorem aAX (n:List UInt8):∀ t:eY,(rN n t).Sublist t
 | []=>.slnil
 | x :: t=>by
   unfold rN;by_cases h:x.1.1=n
   ·rw [if_pos h];exact .cons _ (List.Sublist.refl t)
   ·rw [if_neg h];exact .cons_cons _ (aAX n t)
theorem cI.del {n:List UInt8}:∀ {t:eY} {p c:Nat},cI t p c->cI (rN n t) p c
 | [],p,c,h=>h
 | x :: t,p,c,h=>by
   unfold rN;by_cases e:x.1.1=n
   ·rw [if_pos e]
    have:∀ {t:eY} {p p' c:Nat},p' <= p->cI t p c->cI t p' c:=fun {t}=>by
     cases t with
     | nil=>exact fun h1 h2=>bg h1 h2
     | cons y t=>exact fun h1 h2=>⟨bg h1 h2.1,h2.2⟩
    exact this (by have:=h.1;omega) h.2
   ·rw [if_neg e];exact ⟨h.1,h.2.del⟩
theorem fE.putE {x:eY × Nat}(h:fE x)(q:aY):fE (putE x q):=by
 unfold Go.Am.putE;by_cases e:q.2=[]
 ·rw [if_pos e];exact ⟨h.dist.sublist (aAX _ _),h.stamps.del⟩
 ·rw [if_neg e];exact h.put q
theorem fE.putEs:∀ (l:List aY) {x:eY × Nat},fE x->fE (l.foldl Go.Am.putE x)
 | [],_,h=>h
 | q :: l,_,h=>fE.putEs l (h.putE q)
theorem aHc {q:aY}:∀ {t t':eY},mF q t=some t'->t'.length=t.length
 | [],_,h=>by cases h
 | x :: t,t',h=>by
   unfold mF at h;by_cases hx:x.1.1=q.1
   ·rw [if_pos hx] at h;cases h;rfl
   ·rw [if_neg hx] at h
    cases ht:mF q t with
    | none=>rw [ht] at h;cases h
    | some t1 =>
      rw [ht] at h;cases h;rw [au,au,aHc ht]
theorem aPe {x:eY × Nat}{q:aY}:(cK x q).1.length <= x.1.length+1:=by
 unfold cK
 cases hs:mF q x.1 with
 | none=>simp
 | some t=>rw [aHc hs];omega
theorem aPd {x:eY × Nat}{q:aY}:(putE x q).1.length <= x.1.length+1:=by
 unfold Go.Am.putE;by_cases e:q.2=[]
 ·rw [if_pos e];exact Nat.le_succ_of_le (aAX _ _).length_le
 ·rw [if_neg e];exact aPe
theorem aFP {n:List UInt8}:∀ {t:eY},aFm t->∀ y:aY,y ∈ (rN n t).map (·.1) ↔ y ∈ t.map (·.1)∧y.1 ≠ n
 | [],_,y=>by simp [rN]
 | x :: t,h,y=>by
   have h':=List.pairwise_cons.1 h;unfold rN;by_cases e:x.1.1=n
   ·rw [if_pos e];simp only [List.map_cons,av]
    constructor
    ·intro hy;obtain ⟨z,hz,rfl⟩:=List.mem_map.1 hy;exact ⟨.inr hy,fun e2=>h'.1 z hz (e.trans e2.symm)⟩
    ·rintro ⟨rfl|hy,h2⟩
     ·exact absurd e h2
     ·exact hy
   ·rw [if_neg e];simp only [List.map_cons,av,aFP h'.2 y]
    constructor
    ·rintro (rfl|⟨h1,h2⟩)
     ·exact ⟨.inl rfl,e⟩
     ·exact ⟨.inr h1,h2⟩
    ·rintro ⟨rfl|h1,h2⟩
     ·exact .inl rfl
     ·exact .inr ⟨h1,h2⟩
theorem aGc {s:List UInt8}:∀ {t:eY} {n:Nat},(nQ 1 (.str s) (cA t) n=some none∧rN s t=t) ∨ ∃ i v,nQ 1 (.str s) (cA t) n=some (some (n+i,v))∧i < (cA t).length∧(cA t).eraseIdx i=cA (rN s t)
 | [],n=>.inl ⟨rfl,rfl⟩
 | x :: t,n=>by
   by_cases hx:x.1.1=s
   ·refine .inr ⟨0,gE x.1,by rw [lH,if_pos hx];rfl,by simp [cA],?_⟩;unfold rN;rw [if_pos hx];rfl
   ·unfold rN;rw [if_neg hx]
    rcases aGc (s:=s) (t:=t) (n:=n+1) with ⟨h1,h2⟩|⟨i,v,h1,h2,h3⟩
    ·exact .inl ⟨by rw [lH,if_neg hx];exact h1,by rw [h2]⟩
    ·refine .inr ⟨i+1,v,by rw [lH,if_neg hx,h1];congr 3;omega,by simpa [cA] using h2,?_⟩;show (cA (x :: t)).eraseIdx (i+1)=_;simp only [cA,List.map_cons,List.eraseIdx_cons_succ] at h3 ⊢;rw [h3]
theorem aAW {α:Type}:∀ {l:List α} {n:Nat} {k:List α->Prop},n < l.length->k (l.eraseIdx n)->aIa l n k
 | [],n,k,h,_=>by simp at h
 | x :: l,0,k,_,h=>h
 | x :: l,n+1,k,hn,h=>by
   show aIa l n fun r=>k (x :: r);exact aAW (by simpa using hn) h
theorem aTP {s:List UInt8}{t:eY}{c id:Nat}{S:St}{K:St->Prop}(h:bD id (some (.map (cA (rN s t)) c)) S K) :
  Option.rec (motive:=fun _=>Prop) False (fun r=>Option.rec (motive:=fun _=>Prop) (bD id (some (.map (cA t) c)) S fun S=>K S) (fun r=>aIa (cA t) r.1 fun es=>bD id (some (.map es c)) S fun S=>K S) r) (nQ 1 (.str s) (cA t) 0):=by
 rcases aGc (s:=s) (t:=t) (n:=0) with ⟨h1,h2⟩|⟨i,v,h1,h2,h3⟩
 ·rw [h1];rw [h2] at h;exact h
 ·rw [h1];show aIa (cA t) (0+i) _;rw [Nat.zero_add];exact aAW h2 (by rw [h3];exact h)
theorem aXc:bB prog 61 23 [] (aL Tryz.f61):=fq Tryz.f61
theorem LV.cells_at {S:St}{l:List aY}{i cc:Nat}{ex:Bool}(h:LV S (.slice i 0 l.length cc 2 ex) l):∃ rest e fl,S.hs.get i=some (.cells (cellsOf l ++ rest) e fl):=by
 rcases h with ⟨h,_⟩|⟨i',c',ex',rest,e,fl,h,_,hg⟩
 ·cases h
 ·cases h;exact ⟨rest,e,fl,hg⟩
theorem aGI {l:List aY}{v:V}{S:St}{B m:Nat}(hmB:B <= m)(hl:∀ S':St,(∀ id,id < B->S'.hs.get id=S.hs.get id)->LV S' v l)(hlen:l.length <= 64)(hm:m < S.next){t:eY}{c:Nat}(hg:S.hs.get m=some (.map (cA t) c))(hn:S.next+64 < room){k:V->St->Prop}
  (hk:∀ S',Abv m S.next S S' l.length->S'.hs.get m=some (.map (cA (l.foldl putE (t,c)).1) (l.foldl putE (t,c)).2)->k (.tup []) S'):RC prog 61 [.map m,v] S k:=by
 refine RC.run mixed aS (aG aXc ?_);refine enter ?_
 rcases hl S fun _ _=>rfl with ⟨rfl,rfl⟩|⟨i,cc,ex,_,_,_,rfl,hcc,_⟩
 ·refine go ?_;refine LP.one mixed ?_;refine go ?_;exact hk S (Abv.refl _ _ _ _) hg
 refine go ?_;refine LP.induct l.length (fun j E S'=>j <= l.length∧Kn E 23 [(0,.map m),(1,.slice i 0 l.length cc 2 ex),(6,.slice i 0 l.length cc 2 ex),(7,.int .i64 (.ofNat l.length)),(8,.int .i64 (.ofNat j))]∧Abv m S.next S S' j∧S'.hs.get m=some (.map (cA ((l.take j).foldl putE (t,c)).1) ((l.take j).foldl putE (t,c)).2)) ⟨ai _,kq,Abv.refl _ _ _ _,hg⟩ ?_;rintro j E S1 ⟨hj,hf,hA,hm1⟩ ih;have a1:=hA.lo;have b1:=hA.hi;refine LP.kn mixed hf ?_;refine go ?_;refine bE (fun hlt=>?_) (fun hge=>?_)
 ·have htk:(l.take (j+1)).foldl putE (t,c)=putE ((l.take j).foldl putE (t,c)) l[j]:=by
   rw [an hlt,List.foldl_append];rfl
  rw [htk] at ih;obtain ⟨rest,e,fl,hS⟩:=(hl S1 fun id g=>hA.keep id om om).cells_at;have hlat:=rT (rest:=rest) hlt;generalize l[j]=q at *;generalize (l.take j).foldl putE (t,c)=x at *;refine go ?_;refine ifK_intro (ag hlt) ?_;refine go ?_;refine aA hS ?_;rw [show Nat.add 0 (j.mul 2)=2 * j from (Nat.zero_add _).trans (Nat.mul_comm j 2)];refine aX agg40 (n:=2) kr (by rw [aq,aZ];omega) hlat ?_;refine go ?_;refine aD om fun S2 hS2=>?_;have n2:=aF hS2;refine go ?_;refine aA (aJ hS2) ?_;refine wrA (xs:=[.str q.1,.str q.2]) sm kr (by show 0 < 2;omega) rfl rfl ?_;refine aE om fun S3 hS3=>?_;have n3:=aK hS3
  have k3:∀ i,i < S1.next->S3.hs.get i=S1.hs.get i:=fun i g=>by rw [aB hS3 om,aC hS2 om]
  refine go ?_;refine aA (aR hS3) ?_;refine aH kr 1 rfl rfl ?_;refine go ?_;refine eU (fun he=>?_) (fun he=>?_)
  ·have hpe:putE x q=(rN q.1 x.1,x.2):=by unfold putE;rw [if_pos he]
   refine go ?_;refine aA (aR hS3) ?_;refine aH kr 0 rfl rfl ?_;refine go ?_;refine jP ((k3 m om).trans hm1) ?_;refine go ?_;refine aTP ?_;refine aE om fun S4 hS4=>?_;have n4:=aK hS4;refine go ?_;refine bI (j+1) ?_;refine go ?_;exact ih _ S4 hlt ⟨hlt,kq,⟨fun i g g'=>by rw [aB hS4 g',k3 i om];exact hA.keep i g g',om,om⟩,by rw [hpe];exact aR hS4⟩
  ·have hpe:putE x q=cK (x.1,x.2) q:=by unfold putE;rw [if_neg he]
   refine go ?_;refine aA (aR hS3) ?_;refine aH kr 0 rfl rfl ?_;refine go ?_;refine aA (aR hS3) ?_;refine aX agg40 (n:=2) kr (af 2) rfl ?_;refine go ?_;refine jP ((k3 m om).trans hm1) ?_;refine go ?_;refine aGw (q:=q) ?_;refine aE om fun S4 hS4=>?_;have n4:=aK hS4;refine go ?_;refine bI (j+1) ?_;refine go ?_;exact ih _ S4 hlt ⟨hlt,kq,⟨fun i g g'=>by rw [aB hS4 g',k3 i om];exact hA.keep i g g',om,om⟩,by rw [hpe];exact aR hS4⟩
 ·have hje:j=l.length:=om;subst hje;rw [List.take_length] at hm1;refine go ?_;exact hk S1 hA hm1
end
section
attribute [local irreducible] aO bK cM bD eJ mC
def mR (b:Nat)(S:St)(v:V)(l:List aY):Prop:=(l=[]∧v=.nilSlice) ∨ ∃ m,v=.slice m 0 l.length l.length 2 false∧b <= m∧m < S.next∧S.hs.get m=some (.cells (cellsOf l) 34 .rw)
theorem mR.lv {b:Nat}{S:St}{v:V}{l:List aY}(h:mR b S v l){S':St}(hk:∀ id,id < S.next->S'.hs.get id=S.hs.get id):LV S' v l:=by
 rcases h with ⟨h1,h2⟩|⟨m,h1,h2,h3,h4⟩
 ·exact .inl ⟨h2,h1⟩
 ·exact .inr ⟨m,_,_,[],_,_,h1,af _,by rw [bf,hk m h3];exact h4⟩
theorem mR.keep {b b':Nat}{S S':St}{v:V}{l:List aY}(h:mR b S v l)(hb:b' <= b)(hk:∀ id,b <= id->id < S.next->S'.hs.get id=S.hs.get id)(hn:S.next <= S'.next):mR b' S' v l:=by
 rcases h with h|⟨m,h1,h2,h3,h4⟩
 ·exact .inl h
 ·exact .inr ⟨m,h1,om,om,by rw [hk m h2 h3];exact h4⟩
theorem mR.one {b:Nat}{S:St}{v:V}{l:List aY}(h:mR b S v l):V.one v=true∧v.cells=[v]:=by
 rcases h with ⟨_,rfl⟩|⟨m,rfl,_⟩ <;> exact ⟨rfl,rfl⟩
theorem aGp {m c:Nat}{S:St}(hm:S.hs.get m=some (.map [] c))(hfar:aI <= m)(hr:m < room){k:V->St->Prop}(hk:∀ S',S'.hs=S.hs.put m (some (.map [] c))->k .nilSlice S'):RC prog 62 [.map m] S k:=by
 refine RC.clo [] (eF 1000) (l:=[.map aI]) 0 [m] [.map [] c] [.map [] c] [] [] .nilSlice [Nat.ble c c] (ks3:=[.map [] c]) (ns3:=[]) kr sm rfl ⟨.nil,rfl,rfl⟩ ⟨rfl,rfl,rfl⟩ sm (by simpa using hfar) (eE m) rfl ?_ (.cons (.map (iC.at (a:=0) rfl sm)) .nil) rfl rfl ?_
 ·rintro (_|a) i o g1 g2
  ·simp at g1 g2;subst g1;subst g2;exact ⟨_,hm,.map .nil⟩
  ·simp at g1
 ·exact uX (by simpa using hr) fun S1 h1=>hk S1 h1
theorem aGq {m:Nat}{S:St}{x:eY × Nat}(hm:S.hs.get m=some (.map (cA x.1) x.2))(ok:fE x)(hl:x.1.length <= 4096)(hfar:aI <= m)(hr:m < S.next)(hn:S.next+1 < room){k:V->St->Prop}
  (hk:∀ S' v,Abv S.next S.next S S' 1->mR S.next S' v (fW x)->k v S'):RC prog 62 [.map m] S k:=by
 by_cases he:x.1=[]
 ·rw [he] at hm;refine aGp hm hfar om fun S1 h1=>?_;have n1:=aK h1
  have:fW x=[]:=by unfold fW;rw [he];rfl
  refine hk S1 .nilSlice ⟨fun id g g'=>?_,om,om⟩ (.inl ⟨this,rfl⟩);by_cases e:id=m
  ·subst e;rw [aR h1,hm];rfl
  ·exact aB h1 e
 ·refine nW sV hm ok he hl (aD om fun S1 h1=>?_);have n1:=aF h1;exact hk S1 _ ((Abv.refl _ _ S 0).new h1 (af _) om) (.inr ⟨S.next,rfl,af _,om,aJ h1⟩)
theorem aHV {b:Nat}{S:St}{v:V}{l:List aY}(h:mR b S v l)(hl:l.length <= 64){k:V->St->Prop}(hk:k (.tup [v,.int .i64 0]) S):RC prog 41 [v] S k:=by
 rcases h with ⟨_,rfl⟩|⟨m,rfl,_⟩
 ·exact aDb hk
 ·exact mY _ _ _ _ _ _ hl hk
noncomputable def setL (l es:List aY):List aY:=fW (es.foldl putE (l.foldl putE ([],0)))
theorem aXi:bB prog 31 37 [.tmp 4,.tmp 5] (aL Tryz.f31):=fq Tryz.f31
theorem aPo {l es:List aY}{v w:V}{S:St}(hl:∀ S':St,(∀ id,id < S.next->S'.hs.get id=S.hs.get id)->LV S' v l)(ok:kF l)(he:∀ S':St,(∀ id,id < S.next->S'.hs.get id=S.hs.get id)->LV S' w es)(hes:∀ q ∈ es,q.1 ∈ dF∧q.2 ∈ iB)(hfew:es.length <= 30)(hn:S.next+200 < room)(hR:(setL l es).length <= 64)(hng:aI <= S.next){k:V->St->Prop}
  (hk:∀ S' v',Abv S.next S.next S S' 100->mR S.next S' v' (setL l es)->k (.tup [v',.int .i64 0]) S'):RC prog 31 [v,w] S k:=by
 have hlf:=ok.few;refine RC.run mixed aS (aG aXi ?_);refine enter ?_;refine go ?_;refine cL (hl S fun _ _=>rfl) ok ?_;refine go ?_
 rcases he S fun _ _=>rfl with ⟨rfl,rfl⟩|⟨i,cc,ex,_,_,_,rfl,hcc,_⟩ <;> refine go ?_
 refine LP.one mixed ?_;refine go ?_
 rotate_left
 refine LP.induct es.length (fun j E S'=>j <= es.length∧Kn E 37 [(0,v),(1,.slice i 0 es.length cc 2 ex),(13,.slice i 0 es.length cc 2 ex),(14,.int .i64 (.ofNat es.length)),(15,.int .i64 (.ofNat j))]∧Abv S.next S.next S S' j) ⟨ai _,kq,Abv.refl _ _ _ _⟩ ?_;rintro j E S1 ⟨hj,hf,hA⟩ ih;have a1:=hA.lo;have b1:=hA.hi;refine LP.kn mixed hf ?_;refine go ?_;refine bE (fun hlt=>?_) (fun hge=>?_)
 ·obtain ⟨rest,e,fl,hS⟩:=(he S1 fun id g=>hA.keep id g om).cells_at;have hlat:=rT (rest:=rest) hlt;have hq:=hes es[j] (az hlt);generalize es[j]=q at *;refine go ?_;refine ifK_intro (ag hlt) ?_;refine go ?_;refine aA hS ?_;rw [show Nat.add 0 (j.mul 2)=2 * j from (Nat.zero_add _).trans (Nat.mul_comm j 2)];refine aX agg40 (n:=2) kr (by rw [aq,aZ];omega) hlat ?_;refine go ?_;refine aD om fun S2 hS2=>?_;have n2:=aF hS2;refine go ?_;refine aA (aJ hS2) ?_;refine wrA (xs:=[.str q.1,.str q.2]) sm kr (by show 0 < 2;omega) rfl rfl ?_;refine aE om fun S3 hS3=>?_;have n3:=aK hS3;refine go ?_;refine aA (aR hS3) ?_;refine aX agg40 (n:=2) kr (af 2) rfl ?_;refine go ?_;refine wQ hq.1 hq.2 ?_;refine go ?_;refine bI (j+1) ?_;refine go ?_;exact ih _ S3 hlt ⟨hlt,kq,⟨fun i g g'=>by rw [aB hS3 om,aC hS2 om];exact hA.keep i g g',om,om⟩⟩
 refine go ?_;clear hf ih
 rotate_left
 have hA:=Abv.refl S.next S.next S 0;have a1:=hA.lo;have b1:=hA.hi
 all_goals
  refine aD om fun S4 hS4=>?_;have n4:=aF hS4;refine go ?_;refine aGI (B:=S.next) (l:=l) (t:=[]) (c:=0) om (fun S' h=>hl S' fun id g=>(h id g).trans ((aC hS4 om).trans (hA.keep id g om))) om om (aJ hS4) om fun S5 hA5 hg5=>?_;have a5:=hA5.lo;have b5:=hA5.hi;have k5:∀ id,id < S.next->S5.hs.get id=S.hs.get id:=fun id g=>(hA5.keep id om om).trans ((aC hS4 om).trans (hA.keep id g om));refine go ?_;refine aGI (B:=S.next) om (fun S' h=>he S' fun id g=>(h id g).trans (k5 id g)) (by first|omega|decide) om hg5 om fun S6 hA6 hg6=>?_;have a6:=hA6.lo;have b6:=hA6.hi;refine go ?_;refine aGq hg6 (.putEs _ (.putEs _ .nil)) (by rw [<- iP];exact bg hR om) om om (by first|omega|(rw [List.length_nil] at b6;omega)) fun S7 v7 hA7 hR7=>?_;have a7:=hA7.lo;have b7:=hA7.hi;refine go ?_;refine aHV hR7 hR ?_;refine go ?_;exact hk S7 v7 ⟨fun id g g'=>(hA7.keep id om om).trans ((hA6.keep id om om).trans (k5 id g)),om,by first|omega|(rw [List.length_nil] at b6;omega)⟩ (hR7.keep om (fun _ _ _=>rfl) (af _))
theorem aVv:bB prog 194 19 [.tmp 4,.tmp 5,.tmp 6] (aL Tryz.f194):=fq Tryz.f194
theorem aGT {l es:List aY}{v w:V}{S:St}(hl:∀ S':St,(∀ id,id < S.next->S'.hs.get id=S.hs.get id)->LV S' v l)(ok:kF l)(he:∀ S':St,(∀ id,id < S.next->S'.hs.get id=S.hs.get id)->LV S' w es)(hes:∀ q ∈ es,q.1 ∈ dF∧q.2 ∈ iB)(hfew:es.length <= 30)(hn:S.next+200 < room)(hR:(setL l es).length <= 64)(hng:aI <= S.next){k:V->St->Prop}
  (hk:∀ S' v',Abv S.next S.next S S' 100->mR S.next S' v' (setL l es)->k (.tup [v',.bool true,.int .i64 0]) S'):RC prog 194 [v,w] S k:=by
 refine RC.run mixed aS (aG aVv ?_);refine enter ?_;refine go ?_;refine aPo hl ok he hes hfew hn hR hng fun S1 v1 hA1 hR1=>?_;refine go ?_;exact hk S1 v1 hA1 hR1
end
section
attribute [local irreducible] aO bK cM bD eJ mC
theorem aDI:∀ {l:List aY} {x:eY × Nat},(∀ q ∈ l,q.2 ≠ [])->l.foldl putE x=l.foldl cK x
 | [],_,_=>rfl
 | q :: l,x,h=>by
   show l.foldl putE (putE x q)=l.foldl cK (cK x q);rw [show putE x q=cK x q by unfold putE;rw [if_neg (h q (List.mem_cons_self ..))]];exact aDI fun y hy=>h y (be _ hy)
theorem aCa (l es:List aY):(setL l es).Pairwise fun p q=>jJ p.1 q.1=true:=xC (.putEs _ (.putEs _ .nil))
theorem aAO {l:List aY}(ok:kF l)(y:aY):y ∈ (l.foldl putE ([],0)).1.map (·.1) ↔ y ∈ l:=by
 rw [aDI ok.full,oB .nil (gL ok.asc)];simp
theorem aHb {l:List aY}(ok:kF l):setL l []=l:=by
 refine lA (aCa _ _) ok.asc fun y=>?_;show y ∈ fW (l.foldl putE ([],0)) ↔ _;rw [kV,aAO ok]
theorem aPp {l:List aY}(ok:kF l){n:List UInt8}:setL l [(n,[])]=l.filter fun q=>!kG q.1 n:=by
 refine lA (aCa _ _) (ok.asc.filter _) fun y=>?_;show y ∈ fW (putE (l.foldl putE ([],0)) (n,[])) ↔ _
 have:putE (l.foldl putE ([],0)) (n,[])=(rN n (l.foldl putE ([],0)).1,(l.foldl putE ([],0)).2):=by unfold putE;rw [if_pos rfl]
 rw [this,kV];show y ∈ (rN n (l.foldl putE ([],0)).1).map (·.1) ↔ _;rw [aFP (fE.putEs l .nil).dist,aAO ok,List.mem_filter,cY];simp
theorem aPq {l:List aY}(ok:kF l){n x:List UInt8}(hx:x ≠ [])(y:aY):y ∈ setL l [(n,x)] ↔ y=(n,x) ∨ (y.1 ≠ n∧y ∈ l):=by
 show y ∈ fW (putE (l.foldl putE ([],0)) (n,x)) ↔ _
 have:putE (l.foldl putE ([],0)) (n,x)=cK (l.foldl putE ([],0)) (n,x):=by unfold putE;rw [if_neg hx]
 rw [this,kV,oA (fE.putEs l .nil).dist,aAO ok]
theorem aJW {n:List UInt8}:∀ {l:List aY},(∀ q ∈ l,q.1 ≠ n)->getL n l=[]
 | [],_=>rfl
 | q :: l,h=>by
   show (if q.1=n then q.2 else getL n l)=[]
   rw [if_neg (h q (List.mem_cons_self ..))];exact aJW fun y hy=>h y (be _ hy)
theorem aDq (l:List aY)(n:List UInt8):getL n (l.filter fun q=>!kG q.1 n)=[]:=aJW fun q hq=>by
 have:=(List.mem_filter.1 hq).2;rw [cY] at this;simpa using this
theorem aWU:bB prog 154 16 [.tmp 4,.tmp 5,.tmp 6] (aL Tryz.f154):=fq Tryz.f154
theorem aLL {l:List aY}{v:V}{S:St}{b:Nat}(hl:∀ S':St,(∀ id,id < S.next->S'.hs.get id=S.hs.get id)->LV S' v l)(hne:l ≠ [])(ok:kF l)(hb:aI <= b)(hbS:b+13 <= S.next)(hS:Std S b (rX b))(hn:S.next+300 < room){k:V->St->Prop}
  (hk:∀ S' v',Abv S.next S.next S S' 180->mR S.next S' v' (l.filter fun q=>!kG q.1 aW)->k (.tup [v',.bool true,.int .i64 0]) S'):RC prog 154 [.ptr (b+2) 0,v] S k:=by
 have hfew:=ok.few;refine RC.run mixed aS (aG aWU ?_);refine enter ?_;refine go ?_;refine aD om fun S1 hS1=>?_;have n1:=aF hS1;have k1:∀ id,id < S.next->S1.hs.get id=S.hs.get id:=fun id g=>aC hS1 om;refine go ?_;refine aFJ (hl S1 k1) (fun _=>hne) om ?_;rw [aEU hne,kO hne];refine wM om fun S2 hS2=>?_;have n2:=aF hS2;refine go ?_;refine aNG (p:=fun q=>kG q.1 aW) om om (aJ hS2) om (fun q hq S' hk' k hk=>?_) fun S3 rest hA3 hg3=>?_
 ·have hk2:∀ id,id < S1.next->S'.hs.get id=S1.hs.get id:=fun id g=>(hk' id om om).trans (aC hS2 om);exact aQZ (b:=b) (pc:=S.next) (ok.name q hq) hb om (hS.keep fun id g1 g2=>(hk2 id (by have:(rX b).length=13:=rfl;omega)).trans (k1 id (by have:(rX b).length=13:=rfl;omega))) ((hk2 S.next om).trans (aJ hS1)) hk
 ·have a3:=hA3.lo;have b3:=hA3.hi;have okf:kF (l.filter fun q=>!kG q.1 aW):=ok.filt;refine go ?_;refine aGT (es:=[]) (l:=l.filter fun q=>!kG q.1 aW) (fun S' h=>?_) okf (fun _ _=>.inl ⟨rfl,rfl⟩) sm sm om (by rw [aHb okf];have:=okf.few;omega) om fun S4 v4 hA4 hR4=>?_
  ·exact .inr ⟨_,_,_,rest,_,_,rfl,List.length_filter_le _ _,by rw [h _ om];exact hg3⟩
  ·have a4:=hA4.lo;have b4:=hA4.hi;rw [aHb okf] at hR4;refine go ?_;exact hk S4 v4 ⟨fun id g _=>(hA4.keep id om om).trans ((hA3.keep id om om).trans ((aC hS2 om).trans (k1 id g))),om,om⟩ (hR4.keep om (fun _ _ _=>rfl) (af _))
end
section
attribute [local irreducible] aO bK cM bD mC
def aTZ (x:List UInt8)(p1 p2 p3:V):O:=.cells [.int .u8 1,.nilSlice,.str [],.str [],.str aW,.str x,.int .i64 0,p1,p2,p3] 200 .ex
theorem aLC {x:List UInt8}{p1 p2 p3 v:V}(h1:V.one p1=true)(h2:V.one p2=true)(h3:V.one p3=true)(hv:V.one v=true){r:Nat}(hr:aI <= r){S:St}(hS:S.hs.get r=some (aTZ x p1 p2 p3)){k:V->St->Prop}(hk:k (.str []) S):RC prog 192 [.ptr r 0,v] S k:=by
 refine RC.cloL (eF 1000) (l:=[.ptr aI 0,.any]) [] [r] [aTZ x p1 p2 p3] [.cells [.int .u8 1,.nilSlice,.str [],.str [],.str aW,.str x,.int .i64 0,.any,.any,.any] 200 .ro] (.str []) (aPh (v:=.str []) kr) rfl sm (by simpa using hr) (eE r) rfl (fun a i o g1 g2=>?_) (fun R hR=>⟨⟨?_,trivial⟩,?_⟩) (fun _=>rfl) hk
 ·rcases a with _|a
  ·simp at g1 g2;subst g1;subst g2;exact hS
  ·simp at g1
 ·exact .cells (.cons (.int _ _) (.cons .nilSlice (.cons (.str _) (.cons (.str _) (.cons (.str _) (.cons (.str _) (.cons (.int _ _) (.cons (.toAny h1) (.cons (.toAny h2) (.cons (.toAny h3) .nil)))))))))) (.inr (.inr rfl))
 ·exact .cons (.ptr 0 (hR 0 r rfl)) (.cons (.toAny hv) .nil)
theorem aXg:bB prog 150 71 [.tmp 4,.tmp 5,.tmp 6] (aL Tryz.f150):=fq Tryz.f150
theorem zW {x:List UInt8}(hx:x ∈ iB){p1 p2 p3:V}(h1:V.one p1=true)(h2:V.one p2=true)(h3:V.one p3=true)(e1:vA 8 p1 p1=true)(e2:vA 8 p2 p2=true)(e3:vA 8 p3 p3=true){r:Nat}(hr:aI <= r){l:List aY}{v:V}{S:St}(hrS:r < S.next)(hS:S.hs.get r=some (aTZ x p1 p2 p3))(hv:V.one v=true)(hl:∀ S':St,(∀ id,id < S.next->S'.hs.get id=S.hs.get id)->LV S' v l)(ok:kF l)(hn:S.next+300 < room)
  (hT:∀ S':St,(∀ id,id < S.next->S'.hs.get id=S.hs.get id)->∀ k:V->St->Prop,k (.tup [.str aW,.bool true,.int .i64 0]) S'->RC prog 193 [p1,p2,.str []] S' k) (hW:∀ S':St,(∀ id,id < S.next->S'.hs.get id=S.hs.get id)->∀ k:V->St->Prop,k (.tup [.str x,.bool true,.int .i64 0]) S'->RC prog 193 [p1,p3,.str []] S' k) (hR:(setL l [(aW,x)]).length <= 64) {k:V->St->Prop}
  (hk:∀ S' v',Abv S.next S.next S S' 180->mR S.next S' v' (setL l [(aW,x)])->k (.tup [v',.bool true,.int .i64 0]) S'):RC prog 150 [.ptr r 0,v] S k:=by
 refine RC.run mixed aS (aG aXg ?_);refine enter ?_;refine go ?_;refine aLC h1 h2 h3 hv hr hS ?_;refine go ?_;refine jO ?_;refine aV rfl (by intro Q hQ;(conv=>whnf);exact hQ) ?_;refine aV rfl (by intro Q hQ;(conv=>whnf);exact hQ) ?_;refine aV rfl (by intro Q hQ;(conv=>whnf);exact aP hQ) ?_;refine dE rfl (fun Q hQ=>aA (S:=⟨S.hp,_⟩) hS (aH kr 7 rfl rfl hQ)) ?_;refine aV rfl (by intro Q hQ;(conv=>whnf);exact hQ) ?_;refine aV rfl (by intro Q hQ;(conv=>whnf);exact hQ) ?_;refine aV rfl (by intro Q hQ;(conv=>whnf);exact aP hQ) ?_;refine dE rfl (fun Q hQ=>aA (S:=⟨S.hp,_⟩) hS (aH kr 8 rfl rfl hQ)) ?_;refine aV rfl (by intro Q hQ;(conv=>whnf);exact hQ) ?_;refine d_callA rfl ?_;refine hT _ (fun _ _=>by rfl) _ ?_;refine n_dopA ?_;refine vX ?_;refine cS (.inl kr) (.inr fun Q hQ=>aA (S:=⟨S.hp,_⟩) hS (aH kr 8 rfl rfl hQ)) e2 ?_;refine cS (.inl kr) (.inr fun Q hQ=>aA (S:=⟨S.hp,_⟩) hS (aH kr 7 rfl rfl hQ)) e1 ?_;refine jA ?_;refine iQ ?_;refine yG (fun Q hQ=>by (conv=>whnf);exact hQ) ?_;refine go ?_;show RC prog 69 [.str aW] ⟨S.hp,S.next+17⟩ _;obtain ⟨S1,hS1,q1,n1⟩:∃ S1:St,(⟨S.hp,S.next+17⟩:St)=S1∧(∀ id,S1.hs.get id=S.hs.get id)∧S1.next=S.next+17:=⟨_,rfl,fun _=>rfl,rfl⟩
 rw [hS1];clear hS1;have hS':=(q1 r).trans hS;refine aGA pQ ?_;refine go ?_;refine jO ?_;refine aV rfl (by intro Q hQ;(conv=>whnf);exact hQ) ?_;refine aV rfl (by intro Q hQ;(conv=>whnf);exact hQ) ?_;refine aV rfl (by intro Q hQ;(conv=>whnf);exact aP hQ) ?_;refine dE rfl (fun Q hQ=>aA (S:=⟨S1.hp,_⟩) hS' (aH kr 7 rfl rfl hQ)) ?_;refine aV rfl (by intro Q hQ;(conv=>whnf);exact hQ) ?_;refine aV rfl (by intro Q hQ;(conv=>whnf);exact hQ) ?_;refine aV rfl (by intro Q hQ;(conv=>whnf);exact aP hQ) ?_;refine dE rfl (fun Q hQ=>aA (S:=⟨S1.hp,_⟩) hS' (aH kr 9 rfl rfl hQ)) ?_;refine aV rfl (by intro Q hQ;(conv=>whnf);exact hQ) ?_;refine d_callA rfl ?_;refine hW _ (fun id _=>by exact q1 id) _ ?_;refine n_dopA ?_;refine vX ?_;refine cS (.inl kr) (.inr fun Q hQ=>aA (S:=⟨S1.hp,_⟩) hS' (aH kr 9 rfl rfl hQ)) e3 ?_;refine cS (.inl kr) (.inr fun Q hQ=>aA (S:=⟨S1.hp,_⟩) hS' (aH kr 7 rfl rfl hQ)) e1 ?_;refine jA ?_;refine iQ ?_;refine yG (fun Q hQ=>by (conv=>whnf);exact hQ) ?_;refine go ?_;show bK (.cells (cellsOf [(aW,x)]) 34 .ex) ⟨S1.hp,S1.next+17⟩ _;obtain ⟨S2,hS2,q2,n2⟩:∃ S2:St,(⟨S1.hp,S1.next+17⟩:St)=S2∧(∀ id,S2.hs.get id=S.hs.get id)∧S2.next=S1.next+17:=⟨_,rfl,q1,rfl⟩
 rw [hS2];clear hS2;refine aD om fun S3 hS3=>?_;have n3:=aF hS3
 have k3:∀ id,id < S.next->S3.hs.get id=S.hs.get id:=fun id g=>by rw [aC hS3 om];exact q2 id
 refine go ?_;refine aGT (es:=[(aW,x)]) (l:=l) (fun S' h=>hl S' fun id g=>(h id om).trans (k3 id g)) ok (fun S' h=>.inr ⟨S2.next,1,true,[],_,_,rfl,af _,by rw [h S2.next om,bf];exact aJ hS3⟩) (fun q hq=>by rw [ay] at hq;subst hq;exact ⟨pQ,hx⟩) sm om hR om fun S4 v4 hA4 hR4=>?_;have a4:=hA4.lo;have b4:=hA4.hi;refine go ?_;exact hk S4 v4 ⟨fun id g g'=>(hA4.keep id om om).trans (k3 id g),om,om⟩ (hR4.keep om (fun _ _ _=>rfl) (af _))
end
section
def aPS:List (V × V × Nat):=[(.int .u8 1,.agg [.str [114,101,112,108,97,99,101],.str [102,114,111,109,32,115,101,112,32,109,97,116,99,104,32,116,111,32,119,105,116,104],.func (Fn.func 150) [] []],0),(.int .u8 2,.agg [.str [107,101,101,112],.str [102,114,111,109,32,115,101,112,32,109,97,116,99,104],.func (Fn.func 151) [] []],1),(.int .u8 3,.agg [.str [100,114,111,112],.str [102,114,111,109,32,115,101,112,32,109,97,116,99,104],.func (Fn.func 151) [] []],2),(.int .u8 4,.agg [.str [104,97,115,104,109,111,100],.str [102,114,111,109,32,115,101,112,32,116,111,32,109,111,100],.func (Fn.func 152) [] []],3),(.int .u8 5,.agg [.str [108,97,98,101,108,109,97,112],.str [109,97,116,99,104,32,119,105,116,104],.func (Fn.func 153) [] []],4),(.int .u8 6,.agg [.str [108,97,98,101,108,100,114,111,112],.str [109,97,116,99,104],.func (Fn.func 154) [] []],5),(.int .u8 7,.agg [.str [108,97,98,101,108,107,101,101,112],.str [109,97,116,99,104],.func (Fn.func 154) [] []],6),(.int .u8 8,.agg [.str [108,111,119,101,114,99,97,115,101],.str [102,114,111,109,32,115,101,112,32,116,111],.func (Fn.func 155) [] []],7),(.int .u8 9,.agg [.str [117,112,112,101,114,99,97,115,101],.str [102,114,111,109,32,115,101,112,32,116,111],.func (Fn.func 155) [] []],8)]
theorem aPT {S:St}(hn:S.next < room){k:V->St->Prop}(hk:∀ S',S'.hs=S.hs.new (.map aPS 9)->k (.map S.next) S'):RC prog 114 [] S k:=by
 refine RC.clo [] (eF 1000) (l:=[]) 0 [] [] [] [.map aPS 9] [aI] (.map aI) [] (ks3:=[]) (ns3:=[.map aPS 9]) kr sm rfl ⟨sm,rfl,rfl⟩ ⟨rfl,rfl,rfl⟩ sm sm .nil rfl (by rintro a j x h1;simp at h1) .nil rfl rfl ?_;refine wM hn fun S1 h1=>?_;exact hk S1 h1
attribute [local irreducible] aO bK cM bD mC
def aUC:V:=.agg [.str [108,97,98,101,108,100,114,111,112],.str [109,97,116,99,104],.func (Fn.func 154) [] []]
def aUB:V:=.agg [.str [114,101,112,108,97,99,101],.str [102,114,111,109,32,115,101,112,32,109,97,116,99,104,32,116,111,32,119,105,116,104],.func (Fn.func 150) [] []]
def doF (a:Int)(fn:FuncId):Prop:=(a=6∧fn=154) ∨ (a=1∧fn=150)
theorem aWY:bB prog 221 13 [.tmp 2] (aL Tryz.f221):=fq Tryz.f221
theorem aOL {a:Int}{fn:FuncId}(ha:doF a fn){cs:List V}{e:TypeId}{fl:Fl}{r:Nat}{S:St}(hS:S.hs.get r=some (.cells (.int .u8 a :: cs) e fl)){k:V->St->Prop}(hk:k (.bool false) S):RC prog 221 [.ptr r 0] S k:=by
 rcases ha with ⟨rfl,_⟩|⟨rfl,_⟩
 all_goals
  refine RC.run mixed aS (aG aWY ?_);refine enter ?_;refine go ?_;refine aA hS ?_;refine aH kr 0 rfl rfl ?_;refine go ?_;exact hk
theorem aWJ:bB prog 177 26 [.tmp 4,.tmp 5,.tmp 6] (aL Tryz.f177):=fq Tryz.f177
theorem aHQ {a:Int}{fn:FuncId}(ha:doF a fn){cs:List V}{e:TypeId}{fl:Fl}{r:Nat}{S:St}(hr:r < S.next)(hS:S.hs.get r=some (.cells (.int .u8 a :: cs) e fl)){l l2:List aY}{v:V}(hl:∀ S':St,(∀ id,id < S.next->S'.hs.get id=S.hs.get id)->LV S' v l)(ok:kF l)(hn:S.next+400 < room)
  (hDo:∀ S':St,(∀ id,id < S.next->S'.hs.get id=S.hs.get id)->S.next <= S'.next->S'.next <= S.next+20->∀ k:V->St->Prop,(∀ S'' v',Abv S'.next S'.next S' S'' 180->mR S'.next S'' v' l2->k (.tup [v',.bool true,.int .i64 0]) S'')->RC prog fn [.ptr r 0,v] S' k) {k:V->St->Prop}
  (hk:∀ S' v',Abv S.next S.next S S' 220->mR S.next S' v' l2->k (.tup [v',.bool true,.int .i64 0]) S'):RC prog 177 [.ptr r 0,v] S k:=by
 refine RC.run mixed aS (aG aWJ ?_);refine enter ?_;refine go ?_;refine aOL ha hS ?_;refine go ?_;refine cL (hl S fun _ _=>rfl) ok ?_;refine go ?_;refine jO ?_;refine dK (hs:=rfl) (pe':=[]) (S1:=⟨S.hp,Nat.add S.next 17⟩) (A:=fun Q=>RC prog 114 [] ⟨S.hp,Nat.add S.next 17⟩ Q) rfl (fun Q hQ=>by (conv=>whnf);exact hQ) (fun Q hQ=>by (conv=>whnf);exact hQ) ?_;refine aPT (S:=⟨S.hp,Nat.add S.next 17⟩) (by show S.next+17 < room;omega) fun S1 hS1=>?_;have n1:S1.next=S.next+17+1:=aF hS1
 have k1:∀ id,id < S.next->S1.hs.get id=S.hs.get id:=fun id h=>by rw [aC hS1 (by show id ≠ S.next+17;omega)];rfl
 have x1:S1.hs.get (S.next+17)=some (.map aPS 9):=aJ hS1;have hS1r:=(k1 r hr).trans hS;refine n_dopA ?_;refine aV rfl (by intro Q hQ;(conv=>whnf);exact hQ) ?_;refine aV rfl (by intro Q hQ;(conv=>whnf);exact hQ) ?_;refine aV rfl (by intro Q hQ;(conv=>whnf);exact aP hQ) ?_;refine aV rfl (by intro Q hQ;(conv=>whnf);exact aP hQ) ?_;refine dE (hs:=rfl) rfl (fun Q hQ=>aA hS1r (aH kr 0 rfl rfl hQ)) ?_
 rcases ha with ⟨rfl,rfl⟩|⟨rfl,rfl⟩
 ·refine dE (hs:=rfl) (v:=aUC) rfl (fun Q hQ=>by (conv=>whnf);refine jP x1 ?_;(conv=>whnf);exact hQ) ?_;refine aV (v:=.func (Fn.func 154) [] []) rfl (by intro Q hQ;(conv=>whnf);exact aH kr 2 rfl rfl hQ) ?_;refine aV rfl (by intro Q hQ;(conv=>whnf);exact hQ) ?_;refine aV rfl (by intro Q hQ;(conv=>whnf);exact hQ) ?_;refine dK (hs:=rfl) (pe':=[]) (S1:=S1) (A:=fun Q=>RC prog 154 [.ptr r 0,v] S1 Q) rfl (fun Q hQ=>by (conv=>whnf);exact hQ) (fun Q hQ=>by (conv=>whnf);exact hQ) ?_;refine hDo S1 k1 om om _ fun S2 v2 hA2 hR2=>?_;have a2:=hA2.lo;have b2:=hA2.hi;refine n_dopA ?_;refine vX ?_;refine eK (.inl kr) (.inr (.inr fun Q hQ=>by (conv=>whnf);refine jP x1 ?_;(conv=>whnf);exact hQ)) (.inl kr) rfl ?_;refine eK (.inl kr) (.inr (.inr fun Q hQ=>aA hS1r (aH kr 0 rfl rfl hQ))) (.inr fun Q hQ=>aA (S:=⟨S.hp,_⟩) hS (aH kr 0 rfl rfl hQ)) rfl ?_;refine jA ?_;refine iQ ?_;refine yG (fun Q hQ=>by (conv=>whnf);exact hQ) ?_;refine go ?_;exact hk S2 v2 ⟨fun id g g'=>(hA2.keep id om om).trans (k1 id g),om,om⟩ (hR2.keep om (fun _ _ _=>rfl) (af _))
 ·refine dE (hs:=rfl) (v:=aUB) rfl (fun Q hQ=>by (conv=>whnf);refine jP x1 ?_;(conv=>whnf);exact hQ) ?_;refine aV (v:=.func (Fn.func 150) [] []) rfl (by intro Q hQ;(conv=>whnf);exact aH kr 2 rfl rfl hQ) ?_;refine aV rfl (by intro Q hQ;(conv=>whnf);exact hQ) ?_;refine aV rfl (by intro Q hQ;(conv=>whnf);exact hQ) ?_;refine dK (hs:=rfl) (pe':=[]) (S1:=S1) (A:=fun Q=>RC prog 150 [.ptr r 0,v] S1 Q) rfl (fun Q hQ=>by (conv=>whnf);exact hQ) (fun Q hQ=>by (conv=>whnf);exact hQ) ?_;refine hDo S1 k1 om om _ fun S2 v2 hA2 hR2=>?_;have a2:=hA2.lo;have b2:=hA2.hi;refine n_dopA ?_;refine vX ?_;refine eK (.inl kr) (.inr (.inr fun Q hQ=>by (conv=>whnf);refine jP x1 ?_;(conv=>whnf);exact hQ)) (.inl kr) rfl ?_;refine eK (.inl kr) (.inr (.inr fun Q hQ=>aA hS1r (aH kr 0 rfl rfl hQ))) (.inr fun Q hQ=>aA (S:=⟨S.hp,_⟩) hS (aH kr 0 rfl rfl hQ)) rfl ?_;refine jA ?_;refine iQ ?_;refine yG (fun Q hQ=>by (conv=>whnf);exact hQ) ?_;refine go ?_;exact hk S2 v2 ⟨fun id g g'=>(hA2.keep id om om).trans (k1 id g),om,om⟩ (hR2.keep om (fun _ _ _=>rfl) (af _))
end
section
attribute [local irreducible] aO bK cM bD mC
theorem aVB:bB prog 176 37 [] (aL Tryz.f176):=fq Tryz.f176
theorem aPt {yl c1 c2 m r:Nat}{v:V}{l2:List aY}{e1 e2 e3:TypeId}{fl1 fl3:Fl}{S:St}(h1:S.hs.get c1=some (.cells [.slice m 0 1 1 1 false] e1 fl1))(h2:S.hs.get c2=some (.cells [v] e2 .ex))(hm:S.hs.get m=some (.cells [.ptr r 0] e3 fl3))(hc2:c2 < room)
  (hAp:∀ K:V->St->Prop,(∀ S' v',Abv S.next S.next S S' 220->mR S.next S' v' l2->K (.tup [v',.bool true,.int .i64 0]) S')->RC prog 177 [.ptr r 0,v] S K) {Fin:St->Prop}
  (hround:∀ S1 v',Abv S.next S.next S S1 220->mR S.next S1 v' l2->∀ K:V->St->Prop,(∀ S2:St,S2.hs.get c2=some (.cells [v] e2 .ex)->(∀ S3:St,S3.hs=S2.hs.put c2 (some (.cells [v'] e2 .ex))->Fin S3)->K (.bool true) S2)->RD prog yl [.int .i64 0,.agg [v',.bool true,.int .i64 0]] S1 K) {k:V->St->Prop}
  (hk:∀ S',Fin S'->k (.tup []) S'):RC prog 176 [.yield yl,.ptr c1 0,.ptr c2 0] S k:=by
 refine RC.run mixed aS (aG aVB ?_);refine enter ?_;refine go ?_;refine aA h1 ?_;refine go ?_;refine LP.one mixed ?_;refine go ?_;refine aA hm ?_;refine aH kr 0 rfl rfl ?_;refine go ?_;refine aA h2 ?_;refine go ?_;refine hAp _ fun S1 v1 hA1 hR1=>?_;refine go ?_;have hR1':=hR1
 rcases hR1' with ⟨_,rfl⟩|⟨m1,rfl,_⟩
 all_goals
  refine go ?_;refine hround S1 _ hA1 hR1 _ fun S2 g2 hF=>?_;refine go ?_;refine aA g2 ?_;refine bH rfl sm kr rfl Nat.zero_lt_one ?_;refine aE hc2 fun S3 hS3=>?_;refine go ?_;refine bI 1 ?_;refine go ?_;refine LP.one mixed ?_;refine go ?_;exact hk S3 (hF S3 hS3)
theorem aVD:bB prog 131 6 [.tmp 4] (aL Tryz.f131):=fq Tryz.f131
theorem aRH {v w:V}(hv:V.one v=true∧v.cells=[v])(hw:V.one w=true∧w.cells=[w]){S:St}(hn:S.next+2 < room){k:V->St->Prop}(hk:∀ S1 S2:St,S1.hs=S.hs.new (.cells [v] 152 .ex)->S2.hs=S1.hs.new (.cells [w] 29 .ex)->k (.func (.func 176) [] [.ptr S.next 0,.ptr S1.next 0]) S2):RC prog 131 [v,w] S k:=by
 refine RC.run mixed aS (aG aVD ?_);refine enter ?_;refine go ?_;rw [hv.2];refine aD om fun S1 hS1=>?_;have n1:=aF hS1;refine go ?_;rw [hw.2];refine aD om fun S2 hS2=>?_;refine go ?_;exact hk S1 S2 hS1 hS2
end
section
attribute [local irreducible] aO bK cM bD mC
theorem aSX {w:V}{S:St}{i2:Nat}{e2:TypeId}{fl2:Fl}(hx:S.hs.get i2=some (.cells [w] e2 fl2)){k:V->St->Prop}
  (hk:bK (.cells [w] 29 .rw) S fun id S=>k (.slice id 0 1 1 1 false) S):aO prog #[177,177] .nilSlice (.slice i2 0 1 1 1 true) S k:=by
 unfold aO
 conv=>whnf
 refine aA hx ?_
 conv=>whnf
 exact hk
theorem aJh {r m ry:Nat}{fl0 fl1:Fl}{S:St}(hrS:r < S.next)(hr:S.hs.get r=some (.cells [.slice m 0 1 1 1 false,.bool true] 154 fl0))(hmS:m < S.next){em:TypeId}(hm:S.hs.get m=some (.cells [.ptr ry 0] em fl1)){l l2:List aY}{v:V}(hv:V.one v=true∧v.cells=[v])(hl:∀ S':St,(∀ id,id < S.next->S'.hs.get id=S.hs.get id)->LV S' v l)(ok:kF l)(hn:S.next+500 < room)
  (hAp:∀ S':St,(∀ id,id < S.next->S'.hs.get id=S.hs.get id)->S.next <= S'.next->S'.next <= S.next+20->∀ K:V->St->Prop,(∀ S'' v',Abv S'.next S'.next S' S'' 220->mR S'.next S'' v' l2->K (.tup [v',.bool true,.int .i64 0]) S'')->RC prog 177 [.ptr ry 0,v] S' K) {k:V->St->Prop}
  (hk:∀ S' v' o,Abv S.next S.next S S' 300->mR S.next S' v' l2->S'.hs.get o=some (.cells [v'] 29 .rw)->k (.tup [.slice o 0 1 1 1 false,.int .i64 (.negSucc 0),.int .i64 0]) S'):RC prog 90 [.ptr r 0,v] S k:=by
 refine RC.run mixed aS (aG f90 ?_);refine enter ?_;refine go ?_;refine aD om fun S1 hS1=>?_;have n1:=aF hS1;refine go ?_;refine aD om fun S2 hS2=>?_;have n2:=aF hS2;refine go ?_;refine aD om fun S3 hS3=>?_;have n3:=aF hS3
 have k3:∀ id,id < S.next->S3.hs.get id=S.hs.get id:=fun id g=>by rw [aC hS3 om,aC hS2 om,aC hS1 om]
 have z0:S3.hs.get S.next=some (.cells [.nilSlice] 177 .ex):=by rw [aC hS3 om,aC hS2 om];exact aJ hS1
 have z1:S3.hs.get S1.next=some (.cells [.int .i64 0] 3 .ex):=by rw [aC hS3 om];exact aJ hS2
 have z2:S3.hs.get S2.next=some (.cells [.int .i64 0] 43 .ex):=aJ hS3;refine go ?_;refine aA ((k3 r hrS).trans hr) ?_;refine aH kr 1 rfl rfl ?_;refine go ?_;refine cL (hl S3 k3) ok ?_;refine go ?_;refine aD om fun S4 hS4=>?_;have n4:=aF hS4;have k4:∀ id,id < S3.next->S4.hs.get id=S3.hs.get id:=fun id g=>aC hS4 om;refine go ?_;refine aA ((k4 r om).trans ((k3 r hrS).trans hr)) ?_;refine aH kr 0 rfl rfl ?_;refine go ?_;refine aRH ⟨rfl,rfl⟩ hv om fun S5 S6 hS5 hS6=>?_;have n5:=aF hS5;have n6:=aF hS6;refine go ?_;refine aEF (ar:=[]) (fun Q hQ=>by (conv=>whnf);exact hQ) kr om fun S7 S8 o ho h7 h8=>?_;have n7:=aF h7;have n8:=aF h8
 have k8:∀ id,id < S4.next->S8.hs.get id=S4.hs.get id:=fun id g=>by rw [aC h8 om,aC h7 om,aC hS6 om,aC hS5 om]
 have kS:∀ id,id < S.next->S8.hs.get id=S.hs.get id:=fun id g=>(k8 id om).trans ((k4 id om).trans (k3 id g))
 have x1:S8.hs.get S4.next=some (.cells [.slice m 0 1 1 1 false] 152 .ex):=by rw [aC h8 om,aC h7 om,aC hS6 om];exact aJ hS5
 have x2:S8.hs.get S5.next=some (.cells [v] 29 .ex):=by rw [aC h8 om,aC h7 om];exact aJ hS6
 have x3:S8.hs.get S3.next=some (.cells [.nilSlice] 177 .ex):=(k8 _ om).trans (aJ hS4);have xl:S8.hs.get S7.next=some o:=aJ h8
 have xd:S8.hs.get S6.next=some .deferred:=by rw [aC h8 om];exact aJ h7
 have y0:=(k8 _ (show S.next < S4.next by omega)).trans ((k4 _ om).trans z0);have y1:=(k8 _ (show S1.next < S4.next by omega)).trans ((k4 _ om).trans z1);have y2:=(k8 _ (show S2.next < S4.next by omega)).trans ((k4 _ om).trans z2);show RC prog 176 [.yield S7.next,.ptr S4.next 0,.ptr S5.next 0] S8 _;clear hS1 hS2 hS3 hS4 hS5 hS6 h7 h8;refine aPt (l2:=l2) (Fin:=fun S'=>∃ v' oo,S'.hs.get S3.next=some (.cells [.slice oo 0 1 1 1 false] 177 .ex)∧S'.hs.get oo=some (.cells [v'] 29 .rw)∧mR S8.next S' v' l2∧S8.next <= oo∧oo < S'.next∧S'.hs.get S7.next=some o∧(∀ id,id < S3.next->S'.hs.get id=S8.hs.get id)∧S8.next <= S'.next∧S'.next <= S8.next+240∧S'.hs.get S6.next=some .deferred) x1 x2 ((kS m hmS).trans hm) om (fun K hK=>hAp S8 kS om om K hK) ?_ ?_
 ·intro T1 v1 hA1 hR1 K hK;have a1:=hA1.lo;have b1:=hA1.hi;rw [ho] at xl;refine aEG mixed _ ((hA1.keep _ om om).trans xl) (fun Q hQ=>by (conv=>whnf);exact hQ) ?_;refine go ?_;refine aD om fun T2 hT2=>?_;have m2:=aF hT2;refine go ?_;refine aA (aJ hT2) ?_;have v1one:=hR1.one;refine wrA (xs:=[v1,.bool true,.int .i64 0]) sm kr (by show 0 < 3;omega) (by show Bool.rec (motive:=fun _=>Bool) false true v1.one=true;rw [v1one.1]) rfl ?_;refine aE om fun T3 hT3=>?_;have m3:=aK hT3
  have q3:∀ id,id < T1.next->T3.hs.get id=T1.hs.get id:=fun id g=>by rw [aB hT3 om,aC hT2 om]
  refine go ?_;have hs3:T3.hs.get T1.next=some (.cells [v1,.bool true,.int .i64 0] 232 .ex):=aR hT3;have xl3:=(q3 S7.next om).trans ((hA1.keep _ om om).trans xl);refine aOA xl3 ?_;refine aE om fun T4 hT4=>?_;have m4:=aK hT4;have q4:∀ id,id ≠ S7.next->T4.hs.get id=T3.hs.get id:=fun id g=>aB hT4 g;have hs4:=(q4 T1.next om).trans hs3;refine go ?_;refine aA hs4 ?_;refine aH kr 1 rfl rfl ?_;refine go ?_;have x34:T4.hs.get S3.next=some (.cells [.nilSlice] 177 .ex):=(q4 _ om).trans ((q3 _ om).trans ((hA1.keep _ om om).trans x3));refine aA x34 ?_;refine go ?_;refine aA hs4 ?_;refine aH kr 0 rfl rfl ?_;refine go ?_;have hR1c:=hR1
  rcases hR1c with ⟨_,rfl⟩|⟨mm,rfl,_⟩
  all_goals
   refine go ?_;refine aD om fun T5 hT5=>?_;have m5:=aF hT5;refine go ?_;refine aSX (aJ hT5) ?_;refine aD om fun T6 hT6=>?_;have m6:=aF hT6
   have q6:∀ id,id < T3.next->T6.hs.get id=T4.hs.get id:=fun id g=>by rw [aC hT6 om,aC hT5 om]
   refine go ?_;refine aA ((q6 _ om).trans x34) ?_;refine bH rfl sm kr rfl Nat.zero_lt_one ?_;refine aE om fun T7 hT7=>?_;have m7:=aK hT7;refine go ?_;have xl7:=(aB hT7 (show S7.next ≠ S3.next by omega)).trans ((q6 S7.next om).trans (aR hT4));refine aOB xl7 ?_;refine aE om fun T8 hT8=>?_;have m8:=aK hT8
   have q8:∀ id,id < T1.next->id ≠ S7.next->id ≠ S3.next->T8.hs.get id=T1.hs.get id:=fun id g g1 g2=>by rw [aB hT8 g1,aB hT7 g2,q6 id om,q4 id g1,q3 id g]
   refine hK T8 ((q8 _ om om om).trans ((hA1.keep _ om om).trans x2)) fun T9 hT9=>?_;have m9:=aK hT9;refine ⟨_,T5.next,?_,?_,hR1.keep (S':=T9) (af _) (fun id g g'=>?_) om,om,om,?_,fun id g=>?_,om,om,?_⟩
   ·rw [aB hT9 om,aB hT8 om];exact aR hT7
   ·rw [aB hT9 om,aB hT8 om,aB hT7 om];exact aJ hT6
   ·rw [aB hT9 om,q8 id om om om]
   ·rw [aB hT9 om,aR hT8,ho]
   ·rw [aB hT9 om,q8 id om om om];exact hA1.keep id om om
   ·rw [aB hT9 om,q8 S6.next om om om,hA1.keep S6.next om om];exact xd
 ·rintro T0 ⟨v',oo,i1,i2,i3,i4,i5,i6,i7,i8,i9,i10⟩;rw [ho] at i6;refine aOC i6 ?_;refine aE om fun T1 hT1=>?_;have m1:=aK hT1;have q1:∀ id,id ≠ S7.next->T1.hs.get id=T0.hs.get id:=fun id g=>aB hT1 g;refine go ?_;refine aA ((q1 _ om).trans i1) ?_;refine go ?_;refine aA ((q1 _ om).trans ((i7 _ om).trans y0)) ?_;refine bH rfl sm kr rfl Nat.zero_lt_one ?_;refine aE om fun T2 hT2=>?_;have m2:=aK hT2;refine go ?_;refine aA ((aB hT2 om).trans ((q1 _ om).trans ((i7 _ om).trans y1))) ?_;refine bH (v:=.int .i64 (.negSucc 0)) rfl sm kr rfl Nat.zero_lt_one ?_;refine aE om fun T3 hT3=>?_;have m3:=aK hT3;refine go ?_;refine aA ((aB hT3 om).trans ((aB hT2 om).trans ((q1 _ om).trans ((i7 _ om).trans y2)))) ?_;refine bH (v:=.int .i64 0) rfl sm kr rfl Nat.zero_lt_one ?_;refine aE om fun T4 hT4=>?_;have m4:=aK hT4;refine go ?_;refine bU .deferred ((aB hT4 om).trans ((aB hT3 om).trans ((aB hT2 om).trans ((q1 _ om).trans i10)))) ?_
  conv=>whnf
  refine aE om fun T5 hT5=>?_;have m5:=aK hT5
  conv=>whnf
  refine aA ((aB hT5 om).trans ((aB hT4 om).trans ((aB hT3 om).trans (aR hT2)))) ?_;refine aH kr 0 rfl rfl ?_
  conv=>whnf
  refine aA ((aB hT5 om).trans ((aB hT4 om).trans (aR hT3))) ?_;refine aH kr 0 rfl rfl ?_
  conv=>whnf
  refine aA ((aB hT5 om).trans (aR hT4)) ?_;refine aH kr 0 rfl rfl ?_
  conv=>whnf
  have w4:∀ id,id ≠ S.next->id ≠ S1.next->id ≠ S2.next->id ≠ S6.next->id ≠ S7.next->T5.hs.get id=T0.hs.get id:=fun id g0 g1 g2 g4 g3=>by rw [aB hT5 g4,aB hT4 g2,aB hT3 g1,aB hT2 g0,q1 id g3]
  refine hk T5 v' oo ⟨fun id g g'=>?_,om,om⟩ (i3.keep om (fun id g g'=>?_) om) ?_
  ·rw [w4 id om om om om om,i7 id om];exact kS id g
  ·exact w4 id om om om om om
  ·rw [w4 oo om om om om om];exact i2
end
section
attribute [local irreducible] aO bK cM bD mC
theorem aHR {r m ry:Nat}{fl0 fl1:Fl}{S:St}(hrS:r < S.next)(hr:S.hs.get r=some (.cells [.slice m 0 1 1 1 false,.bool true] 154 fl0))(hmS:m < S.next){em:TypeId}(hm:S.hs.get m=some (.cells [.ptr ry 0] em fl1)){l l2:List aY}{v:V}(hv:V.one v=true∧v.cells=[v])(hl:∀ S':St,(∀ id,id < S.next->S'.hs.get id=S.hs.get id)->LV S' v l)(ok:kF l)(hn:S.next+500 < room)
  (hAp:∀ S':St,(∀ id,id < S.next->S'.hs.get id=S.hs.get id)->S.next <= S'.next->S'.next <= S.next+20->∀ K:V->St->Prop,(∀ S'' v',Abv S'.next S'.next S' S'' 220->mR S'.next S'' v' l2->K (.tup [v',.bool true,.int .i64 0]) S'')->RC prog 177 [.ptr ry 0,v] S' K) {k:V->St->Prop}
  (hk:∀ S' v',Abv S.next S.next S S' 300->mR S.next S' v' l2->k (.tup [v',.int .i64 (.negSucc 0),.int .i64 0]) S'):RC prog 58 [.ptr r 0,v] S k:=by
 refine RC.run mixed aS (aG f58 ?_);refine enter ?_;refine go ?_;refine aJh hrS hr hmS hm hv hl ok hn hAp fun S1 v1 o hA1 hR1 ho=>?_;refine go ?_;refine bI 0 ?_;refine go ?_;refine aA ho ?_;refine aH kr 0 rfl rfl ?_;refine go ?_;exact hk S1 v1 hA1 hR1
end
section
attribute [local irreducible] aO bK cM bD mC
theorem aRa {tg:List aY}(okT:kF tg)(hT:∀ q ∈ tg,eP q.1=false){x:jH}(hx:fD x){i m r mm ry:Nat}{vo:V}{fl0 fl1 fl3:Fl}{e0 em:TypeId}{fl2:Fl}{S:St}(hi:i < S.next)(hS:S.hs.get i=some (.cells (cellsOf x.l) e0 fl2))(ho:∀ S':St,(∀ id,id < S.next->S'.hs.get id=S.hs.get id)->LV S' vo tg)(hvo:vA 8 vo vo=true)
  (hmS:m < S.next) (hm:S.hs.get m=some (.cells [vo,.ptr r 0] 120 fl1)) (hrS:r < S.next) (hr:S.hs.get r=some (.cells [.slice mm 0 1 1 1 false,.bool true] 154 fl0)) (hmmS:mm < S.next) (hmm:S.hs.get mm=some (.cells [.ptr ry 0] em fl3)) (hn:S.next+600 < room) {l2:List aY} (hfew:l2.length < 9223372036854775807)
  (hbad:∀ (S:St) (k:V->St->Prop),k (.bool false) S->RC prog 55 [.str (getL aW l2)] S k)
  (hAp:∀ (S':St) (v:V),(∀ id,id < S.next->S'.hs.get id=S.hs.get id)->S.next <= S'.next->S'.next <= S.next+60->V.one v=true->(∀ S'':St,(∀ id,id < S'.next->S''.hs.get id=S'.hs.get id)->LV S'' v (kW tg x.l))->∀ K:V->St->Prop,(∀ S'' v',Abv S'.next S'.next S' S'' 220->mR S'.next S'' v' l2->K (.tup [v',.bool true,.int .i64 0]) S'')->RC prog 177 [.ptr ry 0,v] S' K) {k:V->St->Prop}
  (hk:∀ S',Abv S.next S.next S S' 400->k (.tup [.agg zS,.bool false,.int .i64 242]) S'):RC prog 26 [.ptr m 0,.agg (SC (x,i))] S k:=by
 have okX:=expL_ok okT hx.ok hx.names;have hnx:=nameX_in okT hT hx.ok hx.nm;have hneX:kW tg x.l ≠ []:=List.ne_nil_of_mem hnx
 have hne:((tg:List aY).foldl cK (x.l.foldl (eL tg x.l) ([],0))).1 ≠ []:=fun h=>by
  have h1:=hnx;unfold kW at h1;rw [kV,h] at h1;cases h1
 refine RC.run mixed aS (aG f26 ?_);refine enter ?_;refine go ?_;refine aD om fun S1 hS1=>?_;have n1:=aF hS1;refine go ?_;refine aD om fun S2 hS2=>?_;have n2:=aF hS2
 have k2:∀ id,id < S.next->S2.hs.get id=S.hs.get id:=fun id g=>by rw [aC hS2 om,aC hS1 om]
 have z2:S2.hs.get S1.next=some (.cells zS 49 .ex):=aJ hS2
 have s2:S2.hs.get S.next=some (.cells (SC (x,i)) 49 .ex):=by rw [aC hS2 om];exact aJ hS1
 have hm2:=(k2 m hmS).trans hm;refine go ?_;refine jO ?_;refine aV rfl (by intro Q hQ;(conv=>whnf);exact hQ) ?_;refine aV rfl (by intro Q hQ;(conv=>whnf);exact hQ) ?_;refine aV rfl (by intro Q hQ;(conv=>whnf);exact aP hQ) ?_;refine dE rfl (fun Q hQ=>aA (S:=⟨S2.hp,_⟩) hm2 (aH kr 0 rfl rfl hQ)) ?_;refine aV rfl (by intro Q hQ;(conv=>whnf);exact aP hQ) ?_;refine dE rfl (fun Q hQ=>aA (S:=⟨S2.hp,_⟩) s2 (aH kr 0 rfl rfl hQ)) ?_;refine dK (hs:=rfl) (pe':=[]) (S1:=⟨S2.hp,Nat.add S2.next 12⟩) (A:=fun Q=>RC prog 57 [vo,.slice i 0 x.l.length x.l.length 2 false] ⟨S2.hp,Nat.add S2.next 12⟩ Q) rfl (fun Q hQ=>by (conv=>whnf);exact hQ) (fun Q hQ=>by (conv=>whnf);exact hQ) ?_;refine aIp sV (S:=⟨S2.hp,Nat.add S2.next 12⟩) (ho _ k2) okT ⟨i,_,_,[],_,_,rfl,af _,by rw [bf];exact (k2 i hi).trans hS⟩ hx.ok hx.names hne (bg okX.few dc) ?_;refine aD (S:=⟨S2.hp,Nat.add S2.next 12⟩) (by show S2.next+12 < room;omega) fun S3 hS3=>?_;have n3:S3.next=S2.next+12+1:=aF hS3
 have k3:∀ id,id < S2.next->S3.hs.get id=S2.hs.get id:=fun id h=>by rw [aC hS3 (by show id ≠ S2.next+12;omega)];rfl
 have x3:S3.hs.get (S2.next+12)=some (.cells (cellsOf (kW tg x.l)) 34 .rw):=aJ hS3;refine n_dopA ?_;refine vX ?_;refine cS (.inl kr) (.inr fun Q hQ=>aA (S:=⟨S2.hp,_⟩) s2 (aH kr 0 rfl rfl hQ)) (eG _ _ _ _ _ _) ?_;refine cS (.inl kr) (.inr fun Q hQ=>aA (S:=⟨S2.hp,_⟩) hm2 (aH kr 0 rfl rfl hQ)) hvo ?_;refine jA ?_;refine iQ ?_;refine yG (fun Q hQ=>by (conv=>whnf);exact hQ) ?_;refine go ?_;refine aA ((k3 m om).trans hm2) ?_;refine aH kr 1 rfl rfl ?_;refine go ?_;have kS3:∀ id,id < S.next->S3.hs.get id=S.hs.get id:=fun id g=>(k3 id om).trans (k2 id g);refine aHR (l:=kW tg x.l) (l2:=l2) om ((kS3 r hrS).trans hr) om ((kS3 mm hmmS).trans hmm) ⟨rfl,rfl⟩ (fun S' h=>?_) okX om (fun S' h a b K hK=>hAp S' _ (fun id g=>(h id om).trans (kS3 id g)) om om rfl (fun S'' h2=>?_) K hK) fun S4 v4 hA4 hR4=>?_
 ·exact .inr ⟨_,_,_,[],_,_,rfl,af _,by rw [bf,h _ (by show S2.next+12 < _;omega)];exact x3⟩
 ·exact .inr ⟨_,_,_,[],_,_,rfl,af _,by rw [bf,h2 _ (by show S2.next+12 < _;omega),h _ (by show S2.next+12 < _;omega)];exact x3⟩
 have a4:=hA4.lo;have b4:=hA4.hi;refine go ?_;refine lX (hR4.lv fun _ _=>rfl) hfew _ ?_;refine go ?_;refine hbad _ _ ?_;refine go ?_;refine aA ((hA4.keep _ om om).trans ((k3 _ om).trans z2)) ?_
 conv=>whnf
 refine aE om fun S5 hS5=>?_;have n5:=aK hS5;refine go ?_;refine aA (aR hS5) ?_;refine aX (n:=4) kr kr (af 4) rfl ?_;refine go ?_;exact hk S5 ⟨fun id g g'=>by rw [aB hS5 om,hA4.keep id om om];exact kS3 id g,om,om⟩
end
section
attribute [local irreducible] aO bK cM bD
theorem aGu {l c n:Nat}{e:TypeId}{fl:Fl}(hfl:fl ≠ .ro)(hc:c < room){T L:Nat->List UInt8}(hT:∀ j,j < n->T j=L j ++ 10 :: T (j+1) ∨ (T j=L j∧L j ≠ []∧T (j+1)=[]))(hL:∀ j,j < n->∀ x ∈ L j,x ≠ 10)(hlen:∀ j,(T j).length < 9223372036854775807)(Inv:Nat->St->Prop)(Fin:St->Prop)
  (hcell:∀ j S,Inv j S->S.hs.get c=some (.cells [.str (T j)] e fl)) (hend:∀ S,Inv n S->T n=[]∧Fin S)
  (hround:∀ j S,j < n->Inv j S->∀ k:V->St->Prop,(∀ S',S'.hs.get c=some (.cells [.str (T j)] e fl)->(∀ S'':St,S''.hs=S'.hs.put c (some (.cells [.str (T (j+1))] e fl))->Inv (j+1) S'')->k (.bool true) S')->(∀ S',Fin S'->k (.bool false) S')->RD prog l [.str (L j)] S k)
  {S:St} (h0:Inv 0 S) {k:V->St->Prop} (hk:∀ S',Fin S'->k (.tup []) S'):RC prog 79 [.yield l,.ptr c 0] S k:=by
 refine RC.run mixed aS (aG aNU ?_);refine enter ?_;refine go ?_;refine LP.induct n (fun j E S'=>j <= n∧Kn E 19 [(0,.yield l),(1,.ptr c 0)]∧Inv j S') ⟨ai _,kq,h0⟩ ?_;rintro j E S1 ⟨hj,hf,hI⟩ ih;refine LP.kn mixed hf ?_;refine go ?_;refine aA (hcell j S1 hI) ?_;refine go ?_
 rcases Nat.lt_or_ge j n with hjn|hjn
 ·have hTj:=hT j hjn
  have hTne:T j ≠ []:=by
   rcases hTj with h|⟨h1,h2,_⟩
   ·rw [h];simp
   ·rw [h1];exact h2
  refine eU (fun h=>absurd h hTne) (fun _=>?_);refine go ?_;refine aA (hcell j S1 hI) ?_;refine go ?_
  obtain ⟨bb,hcut⟩:∃ bb:Bool,(∃ a b,T j=a ++ 10 :: b∧(∀ x ∈ a,x ≠ 10)∧V.tup [.str (L j),.str (T (j+1)),.bool bb]=.tup [.str a,.str b,.bool true]) ∨ ((∀ x ∈ T j,x ≠ 10)∧V.tup [.str (L j),.str (T (j+1)),.bool bb]=.tup [.str (T j),.str [],.bool false]):=by
   rcases hTj with h|⟨h1,_,h3⟩
   ·exact ⟨true,.inl ⟨L j,T (j+1),h,hL j hjn,rfl⟩⟩
   ·exact ⟨false,.inr ⟨by rw [h1];exact hL j hjn,by rw [h1,h3]⟩⟩
  refine aEs (c:=10) (hlen j) (v:=.tup [.str (L j),.str (T (j+1)),.bool bb]) hcut ?_;refine go ?_;refine hround j S1 hjn hI _ (fun S2 hc2 hI2=>?_) (fun S2 hF=>?_)
  ·refine go ?_;refine aA hc2 ?_;refine bH (v:=.str (T (j+1))) rfl hfl kr rfl Nat.zero_lt_one ?_;refine aE hc fun S3 hS3=>?_;refine go ?_;exact ih _ S3 hjn ⟨hjn,kq,hI2 S3 hS3⟩
  ·refine go ?_;exact hk S2 hF
 ·have:j=n:=om;subst this;obtain ⟨h1,h2⟩:=hend S1 hI;rw [h1];refine go ?_;exact hk S1 h2
theorem aIS {l0:List jH}{y:jH}(hl:∀ x ∈ l0 ++ [y],fD x)(hfew:l0.length <= 12){S:St}{t:Nat}(hT:pX t S)(ht:t <= S.next)(hn:S.next+2000 < room){k:V->St->Prop}
  (hk0:∀ S' v L,Abv S.next S.next S S' 1800->L.map (·.1)=l0 ++ [y]->oJ (S.next+8) S' v L->oI (S.next+8) S' L->k (.tup [.agg [v,.nilSlice,.nilSlice],.int .i64 0,.int .i64 0]) S'):RC prog 23 [.str (dI l0 ++ cN y)] S k:=by
 have htl:=sF (l:=l0) fun x hx=>hl x (List.mem_append_left _ hx);have hyl:=rV (hl y sm)
 have hlen:(dI l0 ++ cN y).length <= 60000:=by rw [aq];omega
 refine RC.run mixed aS (aG aXd ?_);refine enter ?_;refine go ?_;refine aD om fun S1 hS1=>?_;have n1:=aF hS1;refine go ?_;refine aD om fun S2 hS2=>?_;have n2:=aF hS2;refine go ?_;refine aD om fun S3 hS3=>?_;have n3:=aF hS3;refine go ?_;refine bE (fun (h:65536 < _)=>absurd h (by rw [aM];omega)) (fun _=>?_);refine go ?_;refine aD om fun S4 hS4=>?_;have n4:=aF hS4;refine go ?_;refine aD om fun S5 hS5=>?_;have n5:=aF hS5;refine go ?_;refine aA (aJ hS5) ?_;refine bH (v:=.int .i64 0) rfl sm kr rfl Nat.zero_lt_one ?_;refine aE om fun S6 hS6=>?_;have n6:=aK hS6;refine go ?_;refine aLM om fun S7 hS7=>?_;have n7:=aF hS7;refine go ?_;refine aEF (ar:=[]) (fun Q hQ=>by (conv=>whnf);exact hQ) kr om fun S8 S9 o ho h8 h9=>?_;have n8:=aF h8;have n9:=aF h9;have e0:S1.next=S.next+1:=n1;have e2:S2.next=S.next+2:=om;have e3:S3.next=S.next+3:=om;have e4:S4.next=S.next+4:=om;have e6:S6.next=S.next+5:=om;have e7:S7.next=S.next+6:=om;have e8:S8.next=S.next+7:=om;have e9:S9.next=S.next+8:=om;rw [e7] at ho;rw [e3,e4,e6,e2,e0] at ho;rw [e7,e8,e6,e3,e4,e2,e0]
 obtain ⟨T,hT0,hTin,hTend,hTlen⟩:∃ T:Nat->List UInt8,T 0=dI l0 ++ cN y∧(∀ j (h:j < (l0 ++ [y]).length),T j=cN (l0 ++ [y])[j] ++ 10 :: T (j+1) ∨ (T j=cN (l0 ++ [y])[j]∧cN (l0 ++ [y])[j] ≠ []∧T (j+1)=[]))∧T (l0 ++ [y]).length=[]∧∀ j,(T j).length < 9223372036854775807:=by
  refine ⟨fun j=>if j <= l0.length then dI (l0.drop j) ++ cN y else [],sm,fun j h=>?_,?_,fun j=>?_⟩
  ·rw [aq] at h;have h':j < l0.length+1:=h;by_cases hj:j < l0.length
   ·left
    show (if j <= l0.length then dI (l0.drop j) ++ cN y else [])=cN (l0 ++ [y])[j] ++ 10 :: (if j+1 <= l0.length then dI (l0.drop (j+1)) ++ cN y else []);rw [if_pos om,if_pos om,aJk hj,List.getElem_append_left hj];simp
   ·right
    have hje:j=l0.length:=om;subst hje
    have hy:(l0 ++ [y])[l0.length]=y:=by simp
    rw [hy];refine ⟨?_,fun h0=>?_,?_⟩
    ·show (if l0.length <= l0.length then dI (l0.drop l0.length) ++ cN y else [])=cN y;rw [if_pos (af _),List.drop_length];rfl
    ·have:=congrArg List.length h0;unfold cN at this;simp at this
    ·show (if l0.length+1 <= l0.length then dI (l0.drop (l0.length+1)) ++ cN y else [])=[]
     rw [if_neg om]
  ·show (if (l0 ++ [y]).length <= l0.length then dI (l0.drop (l0 ++ [y]).length) ++ cN y else [])=[]
   rw [if_neg (by rw [aq];simp)]
  ·show (if j <= l0.length then dI (l0.drop j) ++ cN y else []).length < _
   split
   ·have:=sF (l:=l0.drop j) fun x hx=>hl x (List.mem_append_left _ (List.mem_of_mem_drop hx));rw [List.length_drop] at this;rw [aq];omega
   ·simp
 rw [<- hT0] at hS7
 have hfew1:(l0 ++ [y]).length <= 13:=by rw [aq];simpa using hfew
 generalize l0 ++ [y]=l at *
 have hP0:Pz S o T 0 S9:=by
  have hk8:∀ id,id < S7.next->S9.hs.get id=S7.hs.get id:=fun id h=>by rw [aC h9 om,aC h8 om]
  have hk6:∀ id,id < S6.next->S9.hs.get id=S6.hs.get id:=fun id h=>by rw [hk8 id om,aC hS7 om]
  have hk4:∀ id,id < S4.next->S9.hs.get id=S4.hs.get id:=fun id h=>by rw [hk6 id om,aB hS6 om,aC hS5 om]
  refine ⟨?_,?_,?_,?_,?_,?_,?_,fun id h=>?_,om,om⟩
  ·rw [<- e8];exact aJ h9
  ·rw [<- e7,aC h9 om];exact aJ h8
  ·rw [hk4 _ om,aC hS4 om,aC hS3 om,aC hS2 om];exact aJ hS1
  ·rw [hk4 _ om,aC hS4 om,aC hS3 om,<- e0];exact aJ hS2
  ·rw [hk4 _ om,aC hS4 om,<- e2];exact aJ hS3
  ·rw [hk6 _ om,<- e4];exact aR hS6
  ·rw [hk8 _ om,<- e6];exact aJ hS7
  ·rw [hk4 id om,aC hS4 om,aC hS3 om,aC hS2 om,aC hS1 om]
 have hY0:Py S l 0 S9:=⟨.nilSlice,[],sm,by
  rw [aC h9 om,aC h8 om,aC hS7 om,aB hS6 om,aC hS5 om,<- e3];exact aJ hS4,.inl ⟨rfl,rfl⟩,fun q hq=>by cases hq⟩
 clear hS1 hS2 hS3 hS4 hS5 hS6 hS7 h8 h9 n1 n2 n3 n4 n5 n6 n7 n8 n9 e0 e2 e3 e4 e6 e7 e8 e9;show RC prog 79 [.yield (S.next+7),.ptr (S.next+5) 0] S9 _
 refine aGu (n:=l.length) (T:=T) (L:=fun j=>if h:j < l.length then cN l[j] else []) sm om ?_ ?_ hTlen (fun j S'=>Pz S o T j S'∧Py S l j S'∧j <= l.length)
  (fun S'=>Pz S o T l.length S'∧Py S l l.length S') (fun j S' h=>h.1.tx) ?_ ?_ ⟨hP0,hY0,ai _⟩ ?_
 ·intro j hj;show T j=(if h:j < l.length then cN l[j] else []) ++ _ ∨ (T j=(if h:j < l.length then cN l[j] else [])∧(if h:j < l.length then cN l[j] else []) ≠ []∧_);rw [dif_pos hj];exact hTin j hj
 ·intro j hj x hx e;have hx:x ∈ (if h:j < l.length then cN l[j] else []):=hx;rw [dif_pos hj] at hx;exact aQY (hl l[j] (az hj)) x hx (by rw [e];rfl)
 ·rintro S' ⟨h1,h2,_⟩;exact ⟨hTend,h1,h2⟩
 ·intro j S1 hjn ⟨hP,hY,hjl⟩ k1 hk1t hk1f;have hlp:=hP.lp;rw [ho] at hlp;have hlo:=hP.lo;have hhi:=hP.hi;refine aEG mixed _ hlp (fun Q hQ=>by (conv=>whnf);exact hQ) ?_;refine go ?_;refine aOA hlp ?_;refine aE om fun S2 hS2=>?_;have n2:=aK hS2;have hk2:∀ id,id ≠ S.next+7->S2.hs.get id=S1.hs.get id:=fun id h=>aB hS2 h;refine go ?_;refine aA ((hk2 _ om).trans hP.ct) ?_;refine go ?_;refine bI (j+1) ?_;refine go ?_;refine aA ((hk2 _ om).trans hP.ct) ?_;refine bH (v:=.int .i64 (.ofNat (j+1))) rfl sm kr rfl Nat.zero_lt_one ?_;refine aE om fun S3 hS3=>?_;have n3:=aK hS3
  have hk3:∀ id,id ≠ S.next+7->id ≠ S.next+4->S3.hs.get id=S1.hs.get id:=fun id h h'=>by rw [aB hS3 h'];exact hk2 id h
  have hlp3:S3.hs.get (S.next+7)=_:=(aB hS3 om).trans (aR hS2);have hct3:S3.hs.get (S.next+4)=some (.cells [.int .i64 (.ofNat (j+1))] 3 .ex):=aR hS3;refine go ?_;obtain ⟨v,L,y1,y2,y3,y4⟩:=hY
  have hLl:L.length=j:=by rw [<- List.length_map (f:=(·.1)),y1,bh];omega
  have y2':=(hk3 _ om om).trans y2;have y3':=y3.keep (S':=S3) (fun id h1 h2=>hk3 id om om) om;have y4':=y4.keep (S':=S3) (fun id h1 h2=>hk3 id om om) om
  have hT3:pX t S3:=hT.keep fun id h1=>by rw [hk3 id om om];exact hP.keep id om
  have hjl2:=hjn
  ·rw [dif_pos hjl2];refine aKR (hl l[j] (az hjl2)) hT3 y2' om om om y3' y4' om om fun S4 v4 m hA4 z1 z2 z3=>?_;have a4:=hA4.lo;have b4:=hA4.hi;have hk4:∀ id,id < S.next+8->id ≠ S.next+3->S4.hs.get id=S3.hs.get id:=fun id h1 h2=>hA4.keep id h1 h2;refine go ?_;refine aOB ((hk4 _ om om).trans hlp3) ?_;refine aE om fun S5 hS5=>?_;have n5:=aK hS5;refine hk1t S5 ?_ fun S6 hS6=>?_
   ·rw [aB hS5 om,hk4 _ om om,hk3 _ om om];exact hP.tx
   have n6:=aK hS6
   have hk6:∀ id,id < S.next+8->id ≠ S.next+3->id ≠ S.next+4->id ≠ S.next+5->id ≠ S.next+7->S6.hs.get id=S1.hs.get id:=fun id g1 g2 g3 g4 g5=>by
    rw [aB hS6 g4,aB hS5 g5,hk4 id g1 g2,hk3 id g5 g3]
   refine ⟨⟨?_,?_,?_,?_,?_,?_,?_,fun id g=>?_,om,om⟩,⟨v4,L ++ [(l[j],m)],?_,?_,?_,?_⟩,om⟩
   ·rw [aB hS6 om,aR hS5,ho]
   ·rw [hk6 _ om om om om om];exact hP.mk'
   ·rw [hk6 _ om om om om om];exact hP.r0
   ·rw [hk6 _ om om om om om];exact hP.r1
   ·rw [hk6 _ om om om om om];exact hP.r2
   ·rw [aB hS6 om,aB hS5 om,hk4 _ om om];exact hct3
   ·exact aR hS6
   ·rw [hk6 _ om om om om om];exact hP.keep id g
   ·rw [List.map_append,y1,an hjl2];rfl
   ·rw [aB hS6 om,aB hS5 om];exact z1
   ·exact z2.keep (fun id g1 g2=>by rw [aB hS6 om,aB hS5 om]) om
   ·exact z3.keep (fun id g1 g2=>by rw [aB hS6 om,aB hS5 om]) om
 ·intro S1 hF;obtain ⟨hP,v,L,y1,y2,y3,y4⟩:=hF
  ·have hlp:=hP.lp;rw [ho] at hlp;have hlo:=hP.lo;have hhi:=hP.hi;refine aOC hlp ?_;refine aE om fun S2 hS2=>?_;have n2:=aK hS2;have hk2:∀ id,id ≠ S.next+7->S2.hs.get id=S1.hs.get id:=fun id h=>aB hS2 h;refine go ?_;refine aA ((hk2 _ om).trans y2) ?_;refine aX (n:=3) kr kr (af 3) rfl ?_;refine go ?_;refine aA ((hk2 _ om).trans hP.r0) ?_
   have hto:∀ {Q:St->Prop},bD S.next (some (.cells [v,.nilSlice,.nilSlice] 75 .ex)) S2 Q->wrK .ex (uW prog 75 fun n=>dD ((dH (V.agg (List.take 3 (List.drop 0 [v,V.nilSlice,V.nilSlice]))).cells).beq n) (dD (Nat.blt 0 n) (dD (cQ (V.agg (List.take 3 (List.drop 0 [v,V.nilSlice,V.nilSlice]))).cells) (eJ (V.agg (List.take 3 (List.drop 0 [v,V.nilSlice,V.nilSlice]))).cells 0 [.nilSlice,.nilSlice,.nilSlice] fun cs=>bD S.next (some (.cells cs 75 .ex)) S2 Q)))):=fun {Q} h=>by
    have y3':=y3
    rcases y3' with ⟨_,rfl⟩|⟨m,rfl,_⟩
    ·conv=>whnf
     exact h
    ·conv=>whnf
     exact h
   refine hto ?_;refine aE om fun S3 hS3=>?_;have n3:=aK hS3;refine go ?_;refine aA ((aB hS3 om).trans ((hk2 _ om).trans hP.r1)) ?_;refine bH (v:=.int .i64 0) rfl sm kr rfl Nat.zero_lt_one ?_;refine aE om fun S4 hS4=>?_;have n4:=aK hS4;refine go ?_;refine aA ((aB hS4 om).trans ((aB hS3 om).trans ((hk2 _ om).trans hP.r2))) ?_;refine bH (v:=.int .i64 0) rfl sm kr rfl Nat.zero_lt_one ?_;refine aE om fun S5 hS5=>?_;have n5:=aK hS5
   have hk5:∀ id,S.next+2 < id->id ≠ S.next+7->S5.hs.get id=S1.hs.get id:=fun id h h'=>by rw [aB hS5 om,aB hS4 om,aB hS3 om];exact hk2 id h'
   refine go ?_;refine bU .deferred ((hk5 _ om om).trans hP.mk') ?_
   conv=>whnf
   refine aE om fun S6 hS6=>?_;have n6:=aK hS6
   conv=>whnf
   have hk6:∀ id,S.next+8 <= id->S6.hs.get id=S1.hs.get id:=fun id h=>by rw [aB hS6 om];exact hk5 id om om
   refine aA ((aB hS6 om).trans ((aB hS5 om).trans ((aB hS4 om).trans (aR hS3)))) ?_;refine aX (n:=3) kr kr (af 3) rfl ?_
   conv=>whnf
   refine aA ((aB hS6 om).trans ((aB hS5 om).trans (aR hS4))) ?_;refine aH kr _ rfl rfl ?_
   conv=>whnf
   refine aA ((aB hS6 om).trans (aR hS5)) ?_;refine aH kr _ rfl rfl ?_
   conv=>whnf
   refine hk0 S6 v L ⟨fun id g _=>?_,om,om⟩ (by rw [y1,List.take_length]) (y3.keep (fun id g1 g2=>hk6 id g1) om) (y4.keep (fun id g1 g2=>hk6 id g1) om);rw [aB hS6 om,aB hS5 om,aB hS4 om,aB hS3 om,hk2 id om];exact hP.keep id g
end
section
attribute [local irreducible] aO bK cM bD
theorem aIh {l cs cm m mk n c i:Nat}{ex:Bool}{x:jH}{rest:List V}{e1 e2 e3:TypeId}{fl1 fl2 fl3:Fl}{S:St}(hcs:S.hs.get cs=some (.cells [.slice m 0 n c 4 ex] e1 fl1))(hn1:1 <= n)(hm:S.hs.get m=some (.cells (SC (x,i) ++ rest) e2 fl2))(hcmS:cm < S.next)(hcm:S.hs.get cm=some (.cells [.ptr mk 0] e3 fl3))(hn:S.next+500 < room)
  (hMk:∀ S':St,(∀ id,id < S.next->S'.hs.get id=S.hs.get id)->S.next <= S'.next->S'.next <= S.next+5->∀ K:V->St->Prop,(∀ S'',Abv S'.next S'.next S' S'' 400->K (.tup [.agg zS,.bool false,.int .i64 242]) S'')->RC prog 26 [.ptr mk 0,.agg (SC (x,i))] S' K) {Fin:St->Prop}
  (hround:∀ S1,Abv S.next S.next S S1 420->∀ K:V->St->Prop,(∀ S2,Fin S2->K (.bool false) S2)->RD prog l [.agg zS,.int .i64 242] S1 K) {k:V->St->Prop} (hk:∀ S',Fin S'->k (.tup []) S'):RC prog 54 [.yield l,.ptr cs 0,.ptr cm 0] S k:=by
 refine RC.run mixed aS (aG aQr ?_);refine enter ?_;refine go ?_;refine aA hcs ?_;refine go ?_;refine LP.one mixed ?_;refine go ?_;refine bE (fun _=>?_) (fun (h:n <= 0)=>by omega);refine go ?_;refine ifK_intro (ag hn1) ?_;refine go ?_;refine aA hm ?_;refine aX (n:=4) (xs:=SC (x,i)) kr kr (by show 0+4 <= (SC (x,i) ++ rest).length;rw [aq];show 0+4 <= 4+rest.length;omega) rfl ?_;refine go ?_;refine aD om fun S1 hS1=>?_;have n1:=aF hS1;refine go ?_;refine aA (aJ hS1) ?_;refine wrA (xs:=SC (x,i)) sm kr (by show 0 < 4;omega) rfl rfl ?_;refine aE om fun S2 hS2=>?_;have n2:=aK hS2
 have k2:∀ id,id < S.next->S2.hs.get id=S.hs.get id:=fun id g=>by rw [aB hS2 om,aC hS1 om]
 refine go ?_;refine aA ((k2 cm hcmS).trans hcm) ?_;refine go ?_;refine aA (aR hS2) ?_;refine aX (n:=4) kr kr (af 4) rfl ?_;refine go ?_;refine hMk S2 k2 om om _ fun S3 hA3=>?_;have a3:=hA3.lo;have b3:=hA3.hi;refine go ?_;refine aD om fun S4 hS4=>?_;have n4:=aF hS4;refine go ?_;refine aA (aJ hS4) ?_
 conv=>whnf
 refine aE om fun S5 hS5=>?_;have n5:=aK hS5;refine go ?_;refine aA (aR hS5) ?_;refine aX (n:=4) kr kr (af 4) rfl ?_;refine go ?_;refine hround S5 ⟨fun id g _=>by rw [aB hS5 om,aC hS4 om,hA3.keep id om om];exact k2 id g,om,om⟩ _ fun S6 hF=>?_;refine go ?_;exact hk S6 hF
end
section
attribute [local irreducible] aO bK cM bD
theorem aBS {tg:List aY}(okT:kF tg)(hT:∀ q ∈ tg,eP q.1=false){vo w:V}{S:St}(ho:LV S vo tg){A:St->Nat->Prop}(hA:∀ S r,A S r->S.next < room)(hN:∀ k:V->St->Prop,(∀ S' r,A S' r->k (.tup [.ptr r 0,.int .i64 (.negSucc 0),.int .i64 0]) S')->RC prog 51 [w] S k){k:V->St->Prop}
  (hk:∀ S1 r S2,A S1 r->S2.hs=S1.hs.new (.cells [vo,.ptr r 0] 120 .ex)->k (.tup [.ptr S1.next 0,.int .i64 0]) S2):RC prog 22 [vo,w] S k:=by
 refine RC.run mixed aS (aG aJQ ?_);refine enter ?_;refine go ?_;refine cL ho okT ?_;refine go ?_;refine sU ho okT hT ?_;refine go ?_;refine hN _ fun S1 r h=>?_;refine go ?_;have hrS:=hA S1 r h
 rcases ho with ⟨rfl,_⟩|⟨i,c,ex,rest,e,fl,rfl,_⟩
 all_goals
  refine go ?_;refine aD hrS fun S2 hS2=>?_;refine go ?_;exact hk S1 r S2 h hS2
theorem aNx {tg:List aY}(okT:kF tg)(hT:∀ q ∈ tg,eP q.1=false){vo w:V}{S:St}(ho:LV S vo tg){A:St->Nat->Prop}(hA:∀ S r,A S r->S.next < room)(hN:∀ k:V->St->Prop,(∀ S' r,A S' r->k (.tup [.ptr r 0,.int .i64 (.negSucc 0),.int .i64 0]) S')->RC prog 51 [w] S k){k:V->St->Prop}
  (hk:∀ S1 r S2,A S1 r->S2.hs=S1.hs.new (.cells [vo,.ptr r 0] 120 .ex)->k (.int .i64 0) S2):RC prog 10 [vo,w,.int .i64 1000] S k:=by
 refine RC.run mixed aS (aG aNQ ?_);refine enter ?_;refine go ?_;refine aBS okT hT ho hA hN fun S1 r S2 h1 h2=>?_;refine go ?_;exact hk S1 r S2 h1 h2
end
section
attribute [local irreducible] aO bK cM bD
structure aUz (nw:Nat->List O):Prop where
 a0:∀ n,(nw n)[0]?=some (.cells [.slice (n+1) 0 1 1 1 false,.bool true] 154 .ex)
 a1:∀ n,(nw n)[1]?=some (.cells [.ptr (n+2) 0] 155 .rw)
 len:∀ n,(nw n).length <= 13
def aUy (nw:Nat->List O)(l l2:List aY):Prop:=∀ (b:Nat) (S:St) (v:V),aI <= b->Std S b (nw b)->b+(nw b).length <= S.next->S.next+450 < room->tQ S->V.one v=true->(∀ S':St,(∀ id,id < S.next->S'.hs.get id=S.hs.get id)->LV S' v l)->∀ K:V->St->Prop,(∀ S' v',Abv S.next S.next S S' 220->mR S.next S' v' l2->K (.tup [v',.bool true,.int .i64 0]) S')->RC prog 177 [.ptr (b+2) 0,v] S K
theorem aMj {tg:List aY}(okT:kF tg)(hT:∀ q ∈ tg,eP q.1=false){l0:List jH}{y:jH}(hl:∀ x ∈ l0 ++ [y],fD x)(hfew:l0.length <= 12){nw:Nat->List O}(hnw:aUz nw){S:St}{t:Nat}{vo w:V}(hTb:pX t S)(ht:t <= S.next)(hng:aI <= S.next)(hG:tQ S)(hvo:∀ S':St,(∀ id,id < S.next->S'.hs.get id=S.hs.get id)->LV S' vo tg)(heq:vA 8 vo vo=true)(hn:S.next+3030 <= room)
  (hN:∀ S':St,(∀ id,id < S.next->S'.hs.get id=S.hs.get id)->S'.next+20 < room->∀ k:V->St->Prop,(∀ S'',S''.hs=eC (nw S'.next) S'.hs->k (.tup [.ptr S'.next 0,.int .i64 (.negSucc 0),.int .i64 0]) S'')->RC prog 51 [w] S' k)
  {l2:jH->List aY} (hfew2:∀ x ∈ l0 ++ [y],(l2 x).length < 9223372036854775807) (hbad:∀ x ∈ l0 ++ [y],∀ (S:St) (k:V->St->Prop),k (.bool false) S->RC prog 55 [.str (getL aW (l2 x))] S k) (hAp:∀ x ∈ l0 ++ [y],aUy nw (kW tg x.l) (l2 x)) {k:V->St->Prop}
  (hk:∀ S',(∀ id,id < S.next->S'.hs.get id=S.hs.get id)->k (.tup [.nilSlice,.int .i64 0,.int .i64 0,.int .i64 242]) S'):RC prog 11 [.str (dI l0 ++ cN y),vo,w,.int .i64 1000] S k:=by
 have hngl:aI=1000:=rfl;refine RC.run mixed aS (aG aXe ?_);refine enter ?_;refine go ?_;refine aD om fun S1 hS1=>?_;have n1:=aF hS1;refine go ?_;refine aD om fun S2 hS2=>?_;have n2:=aF hS2;refine go ?_;refine aD om fun S3 hS3=>?_;have n3:=aF hS3;refine go ?_;refine aD om fun S4 hS4=>?_;have n4:=aF hS4
 have k4:∀ id,id < S.next->S4.hs.get id=S.hs.get id:=fun id g=>by rw [aC hS4 om,aC hS3 om,aC hS2 om,aC hS1 om]
 have r0:S4.hs.get S.next=some (.cells [.nilSlice] 25 .ex):=by rw [aC hS4 om,aC hS3 om,aC hS2 om];exact aJ hS1
 have r1:S4.hs.get S1.next=some (.cells [.int .i64 0] 3 .ex):=by rw [aC hS4 om,aC hS3 om];exact aJ hS2
 have r2:S4.hs.get S2.next=some (.cells [.int .i64 0] 3 .ex):=by rw [aC hS4 om];exact aJ hS3
 have r3:S4.hs.get S3.next=some (.cells [.int .i64 0] 43 .ex):=aJ hS4;have e1:S1.next=S.next+1:=n1;have e2:S2.next=S.next+2:=om;have e3:S3.next=S.next+3:=om;rw [e1] at r1;rw [e2] at r2;rw [e3] at r3;rw [e1,e2,e3];refine go ?_
 have nwn:∀ {S1 S2:St} {n:Nat},S2.hs=eC (nw n) S1.hs->S2.next=S1.next+(nw n).length:=fun {S1 S2 n} h=>by
  have:=congrArg Hs.next h;rw [iS] at this;exact this
 have nwk:∀ {S1 S2:St} {n:Nat},S2.hs=eC (nw n) S1.hs->∀ id,id < S1.next->S2.hs.get id=S1.hs.get id:=fun {S1 S2 n} h id g=>by rw [h];exact qJ g
 refine aNx (A:=fun S' r=>S'.hs=eC (nw S4.next) S4.hs∧r=S4.next) okT hT (hvo S4 k4) (fun S' r h=>by have:=nwn h.1;have:=hnw.len S4.next;omega) (fun k h=>hN S4 k4 om k fun S'' h2=>h S'' S4.next ⟨h2,rfl⟩) fun S5 _ S6 h5 hS6=>?_;obtain ⟨hS5,rfl⟩:=h5;have n5:=nwn hS5;have q5:=hnw.len S4.next;have n6:=aF hS6
 have k6:∀ id,id < S4.next->S6.hs.get id=S4.hs.get id:=fun id g=>by rw [aC hS6 om];exact nwk hS5 id g
 have kk6:∀ id,id < S.next->S6.hs.get id=S.hs.get id:=fun id g=>(k6 id om).trans (k4 id g);refine go ?_;refine aBS (A:=fun S' r=>S'.hs=eC (nw S6.next) S6.hs∧r=S6.next) okT hT (hvo S6 kk6) (fun S' r h=>by have:=nwn h.1;have:=hnw.len S6.next;omega) (fun k h=>hN S6 kk6 om k fun S'' h2=>h S'' S6.next ⟨h2,rfl⟩) fun S7 _ S8 h7 hS8=>?_;obtain ⟨hS7,rfl⟩:=h7;have n7:=nwn hS7;have q7:=hnw.len S6.next;have n8:=aF hS8
 have k8:∀ id,id < S6.next->S8.hs.get id=S6.hs.get id:=fun id g=>by rw [aC hS8 om];exact nwk hS7 id g
 have kk8:∀ id,id < S.next->S8.hs.get id=S.hs.get id:=fun id g=>(k8 id om).trans (kk6 id g)
 have hSt8:Std S8 S6.next (nw S6.next):=fun a o ha=>by
  have hal:=(ao.1 ha).1;rw [aC hS8 om,hS7];exact aEQ ha
 have hm8:S8.hs.get S7.next=some (.cells [vo,.ptr S6.next 0] 120 .ex):=aJ hS8;have r08:=(k8 _ om).trans ((k6 _ om).trans r0);have r18:=(k8 _ om).trans ((k6 _ om).trans r1);have r28:=(k8 _ om).trans ((k6 _ om).trans r2);have r38:=(k8 _ om).trans ((k6 _ om).trans r3);refine go ?_;have hn8:S8.next <= S.next+32:=om;refine aIS hl hfew (hTb.keep fun id g=>kk8 id om) om om fun S9 v L hA9 hLm hR9 hL9=>?_;have a9:=hA9.lo;have b9:=hA9.hi
 have hLn:L.length=l0.length+1:=by rw [<- List.length_map (f:=(·.1)),hLm,aq];rfl
 refine go ?_;refine aD om fun S10 hS10=>?_;have n10:=aF hS10;refine go ?_;refine aA (aJ hS10) ?_
 have hto:∀ {Q:St->Prop},bD S9.next (some (.cells [v,.nilSlice,.nilSlice] 75 .ex)) S10 Q->wrK .ex (uW prog 75 fun n=>dD ((dH (V.agg [v,V.nilSlice,V.nilSlice]).cells).beq n) (dD (Nat.blt 0 n) (dD (cQ (V.agg [v,V.nilSlice,V.nilSlice]).cells) (eJ (V.agg [v,V.nilSlice,V.nilSlice]).cells 0 [.nilSlice,.nilSlice,.nilSlice] fun cs=>bD S9.next (some (.cells cs 75 .ex)) S10 Q)))):=fun {Q} h=>by
  have y3':=hR9
  rcases y3' with ⟨_,rfl⟩|⟨m,rfl,_⟩
  ·conv=>whnf
   exact h
  ·conv=>whnf
   exact h
 refine hto ?_;refine aE om fun S11 hS11=>?_;have n11:=aK hS11
 have k11:∀ id,id < S9.next->S11.hs.get id=S9.hs.get id:=fun id g=>by rw [aB hS11 om,aC hS10 om]
 have K0:∀ id,id < S8.next->∀ {o},S8.hs.get id=some o->S11.hs.get id=some o:=fun id g o h=>(k11 id om).trans ((hA9.keep id g om).trans h);have kk11:∀ id,id < S.next->S11.hs.get id=S.hs.get id:=fun id g=>(k11 id om).trans ((hA9.keep id om om).trans (kk8 id g));have hb11:S11.hs.get S9.next=some (.cells [v,.nilSlice,.nilSlice] 75 .ex):=aR hS11;have hR11:=hR9.keep (S':=S11) (fun id _ g=>k11 id g) om;have hL11:=hL9.keep (S':=S11) (fun id _ g=>k11 id g) om;have r0x:=K0 _ om r08;have r1x:=K0 _ om r18;have r2x:=K0 _ om r28;have r3x:=K0 _ om r38;have hSt11:Std S11 S6.next (nw S6.next):=fun a o ha=>K0 _ (by have:=(ao.1 ha).1;omega) (hSt8 a o ha);have hm11:=K0 _ om hm8;refine go ?_;refine aA hb11 ?_;have hone:=hR11.one;have hcel:=hR11.cells
 rcases hR11 with ⟨hL0,rfl⟩|⟨m9,rfl,y1,y2,y3,y4⟩
 ·rw [hL0] at hLn;simp at hLn
 refine go ?_;refine bE (fun (hgt:1000 < L.length)=>by omega) (fun _=>?_);refine go ?_;refine aD om fun S12 hS12=>?_;have n12:=aF hS12;refine go ?_;refine aA ((aC hS12 om).trans hb11) ?_;refine go ?_;refine aNL ⟨hone,hcel⟩ om fun S13 S14 h13 h14=>?_;have n13:=aF h13;have n14:=aF h14;refine go ?_;refine aEF (ar:=[]) (fun Q hQ=>by (conv=>whnf);exact hQ) (by kernel_rfl) om fun S15 S16 o ho h15 h16=>?_;have n15:=aF h15;have n16:=aF h16
 have hk16:∀ id,id < S11.next->S16.hs.get id=S11.hs.get id:=fun id g=>by rw [aC h16 om,aC h15 om,aC h14 om,aC h13 om,aC hS12 om]
 have hcm16:S16.hs.get S12.next=some (.cells [.ptr S7.next 0] 69 .ex):=by rw [aC h16 om,aC h15 om,aC h14 om];exact aJ h13
 have hcs16:=(aC h16 (show S13.next ≠ S15.next by omega)).trans ((aC h15 (show S13.next ≠ S14.next by omega)).trans (aJ h14))
 have hdf16:S16.hs.get S14.next=some .deferred:=by rw [aC h16 om];exact aJ h15
 have hlp16:S16.hs.get S15.next=some o:=aJ h16
 obtain ⟨q,L',hLq⟩:∃ q L',L=q :: L':=by
  cases L with
  | nil=>simp at hLn
  | cons q L'=>exact ⟨q,L',rfl⟩
 have hq1:q.1 ∈ l0 ++ [y]:=by rw [<- hLm,hLq];exact List.mem_cons_self
 obtain ⟨z1,z2,z3⟩:=hL11 q (by rw [hLq];exact List.mem_cons_self)
 have hrow:S16.hs.get m9=some (.cells (SC (q.1,q.2) ++ xI L') 49 .rw):=by
  rw [hk16 m9 om,y4,hLq];rfl
 have q7:=hnw.a0 S6.next;have q8:=hnw.a1 S6.next;have w0:=(hk16 _ om).trans (hSt11 0 _ (hnw.a0 S6.next));have w1:=(hk16 _ om).trans (hSt11 1 _ (hnw.a1 S6.next));have l7:=(ao.1 q8).1;show RC prog 54 [.yield S15.next,.ptr S13.next 0,.ptr S12.next 0] S16 _;refine aIh (x:=q.1) (i:=q.2) hcs16 om hrow om hcm16 om (fun S' hk' g1 g2 K hK=>?_) (Fin:=fun S'=>(∃ E' ps' a' b' d',S'.hs.get S15.next=some (.loop .done (some .ret) E' ps' a' b' d'))∧S'.hs.get S14.next=some .deferred∧S'.hs.get S.next=some (.cells [.nilSlice] 25 .ex)∧S'.hs.get (S.next+1)=some (.cells [.int .i64 0] 3 .ex)∧S'.hs.get (S.next+2)=some (.cells [.int .i64 0] 3 .ex)∧S'.hs.get (S.next+3)=some (.cells [.int .i64 242] 43 .ex)∧(∀ id,id < S.next->S'.hs.get id=S.hs.get id)∧S'.next < room∧S15.next < S'.next) (fun T0 hA0 K hK=>?_) fun S' hF=>?_
 ·refine aRa okT hT (hl q.1 hq1) (show q.2 < S'.next by omega) ((hk' q.2 om).trans ((hk16 q.2 z2).trans z3)) (fun S'' h''=>hvo S'' fun id g=>by rw [h'' id om,hk' id om,hk16 id om];exact kk11 id g) heq (show S7.next < S'.next by omega) ((hk' _ om).trans ((hk16 _ om).trans hm11)) (show S6.next < S'.next by omega) ((hk' _ om).trans w0) (show S6.next+1 < S'.next by omega) ((hk' _ om).trans w1) om (hfew2 q.1 hq1) (hbad q.1 hq1) (fun T v' hT1 hT2 hT3 hv1 hv2 K2 hK2=>?_) hK;refine hAp q.1 hq1 S6.next T v' om (fun a o ha=>?_) om om ?_ hv1 hv2 K2 hK2
  ·have hal:=(ao.1 ha).1;rw [hT1 _ om,hk' _ om,hk16 _ om];exact hSt11 a o ha
  ·obtain ⟨e,he⟩:=hG;exact ⟨e,by rw [hT1 _ om,hk' _ om,hk16 _ om,kk11 _ om];exact he⟩
 ·have a0:=hA0.lo;have b0:=hA0.hi;rw [ho] at hlp16;have hlT:=(hA0.keep S15.next om om).trans hlp16;refine aEG mixed _ hlT (fun Q hQ=>by (conv=>whnf);exact hQ) ?_;refine go ?_;refine aD om fun T1 hT1=>?_;have m1:=aF hT1;refine go ?_;refine aA (aJ hT1) ?_;refine wrA (xs:=zS) sm (by kernel_rfl) (by show 0 < 4;omega) rfl rfl ?_;refine aE om fun T2 hT2=>?_;have m2:=aK hT2
  have k2:∀ id,id < T0.next->T2.hs.get id=T0.hs.get id:=fun id g=>by rw [aB hT2 om,aC hT1 om]
  refine go ?_;refine aOA ((k2 S15.next om).trans hlT) ?_;refine aE om fun T3 hT3=>?_;have m3:=aK hT3
  have k3:∀ id,id < S16.next->id ≠ S15.next->T3.hs.get id=S16.hs.get id:=fun id g g'=>by rw [aB hT3 g',k2 id om,hA0.keep id om om]
  have kr:∀ id,id < S11.next->T3.hs.get id=S11.hs.get id:=fun id g=>(k3 id om om).trans (hk16 id g);refine go ?_;refine aA ((kr _ om).trans r0x) ?_;refine bH (v:=.nilSlice) rfl sm (by kernel_rfl) rfl Nat.zero_lt_one ?_;refine aE om fun T4 hT4=>?_;have m4:=aK hT4;refine go ?_;refine aA ((aB hT4 om).trans ((kr _ om).trans r1x)) ?_;refine bH (v:=.int .i64 0) rfl sm (by kernel_rfl) rfl Nat.zero_lt_one ?_;refine aE om fun T5 hT5=>?_;have m5:=aK hT5;refine go ?_;refine aA ((aB hT5 om).trans ((aB hT4 om).trans ((kr _ om).trans r2x))) ?_;refine bH (v:=.int .i64 0) rfl sm (by kernel_rfl) rfl Nat.zero_lt_one ?_;refine aE om fun T6 hT6=>?_;have m6:=aK hT6;refine go ?_;refine aA ((aB hT6 om).trans ((aB hT5 om).trans ((aB hT4 om).trans ((kr _ om).trans r3x)))) ?_;refine bH (v:=.int .i64 242) rfl sm (by kernel_rfl) rfl Nat.zero_lt_one ?_;refine aE om fun T7 hT7=>?_;have m7:=aK hT7;refine go ?_;have hl7:=(aB hT7 (show S15.next ≠ S.next+3 by omega)).trans ((aB hT6 (show S15.next ≠ S.next+2 by omega)).trans ((aB hT5 (show S15.next ≠ S.next+1 by omega)).trans ((aB hT4 (show S15.next ≠ S.next by omega)).trans (aR hT3))));refine aTY hl7 ?_;refine aE om fun T8 hT8=>?_;have m8:=aK hT8;refine hK T8 ⟨⟨_,_,_,_,_,aR hT8⟩,?_,?_,?_,?_,?_,fun id g=>?_,om,om⟩
  ·rw [aB hT8 om,aB hT7 om,aB hT6 om,aB hT5 om,aB hT4 om,k3 _ om om];exact hdf16
  ·rw [aB hT8 om,aB hT7 om,aB hT6 om,aB hT5 om];exact aR hT4
  ·rw [aB hT8 om,aB hT7 om,aB hT6 om];exact aR hT5
  ·rw [aB hT8 om,aB hT7 om];exact aR hT6
  ·rw [aB hT8 om];exact aR hT7
  ·rw [aB hT8 om,aB hT7 om,aB hT6 om,aB hT5 om,aB hT4 om,kr id om];exact kk11 id g
 ·obtain ⟨⟨E',ps',a',b',d',hlp⟩,f1,f2,f3,f4,f5,f6,f7,f8⟩:=hF;refine aTS hlp ?_;refine aE om fun T1 hT1=>?_;have m1:=aK hT1;refine go ?_;refine bU .deferred ((aB hT1 om).trans f1) ?_
  conv=>whnf
  refine aE om fun T2 hT2=>?_;have m2:=aK hT2
  have k2:∀ id,id ≠ S15.next->id ≠ S14.next->T2.hs.get id=S'.hs.get id:=fun id g g'=>by rw [aB hT2 g',aB hT1 g]
  conv=>whnf
  refine aA ((k2 _ om om).trans f2) ?_;refine aH (by kernel_rfl) _ rfl rfl ?_
  conv=>whnf
  refine aA ((k2 _ om om).trans f3) ?_;refine aH (by kernel_rfl) _ rfl rfl ?_
  conv=>whnf
  refine aA ((k2 _ om om).trans f4) ?_;refine aH (by kernel_rfl) _ rfl rfl ?_
  conv=>whnf
  refine aA ((k2 _ om om).trans f5) ?_;refine aH (by kernel_rfl) _ rfl rfl ?_
  conv=>whnf
  exact hk T2 fun id g=>(k2 id om om).trans (f6 id g)
end
section
attribute [local irreducible] aO bK cM bD
theorem aEN {S:St}{k:V->St->Prop}(hk:k (.bool false) S):RC prog 55 [.str []] S k:=RC.closed 60 (fun K=>by kernel_rfl) hk
theorem aGO {l:List aY}{v:V}{S:St}(hl:∀ S':St,(∀ id,id < S.next->S'.hs.get id=S.hs.get id)->LV S' v l)(hv:V.one v=true)(ok:kF l)(hnm:getL aW l=[]){b t:Int}{st:Bool}(hn:S.next+1 < room){k:V->St->Prop}(hk:∀ S',Abv S.next S.next S S' 1->k (.bool false) S'):RC prog 25 [.agg [v,.int .u64 b,.bool st,.int .i64 t]] S k:=by
 refine RC.run mixed aS (aG aSi ?_);refine enter ?_;refine go ?_;refine aD om fun S1 hS1=>?_;have n1:=aF hS1;have hb:S1.hs.get S.next=some (.cells [v,.int .u64 b,.bool st,.int .i64 t] 49 .ex):=aJ hS1;have hl1:=hl S1 fun id g=>aC hS1 om;have hA:Abv S.next S.next S S1 1:=(Abv.refl _ _ S 0).new hS1 (af _) om;refine go ?_;refine aA hb ?_;refine aH kr _ rfl rfl ?_;refine go ?_;refine cL hl1 ok ?_;refine go ?_;refine aA hb ?_;refine aH kr _ rfl rfl ?_;refine go ?_;refine lX hl1 (by have:=ok.few;omega) _ ?_;rw [show getL [95,95,110,97,109,101,95,95] l=[] from hnm];refine go ?_;refine aEN ?_;refine go ?_;exact hk S1 hA
theorem aBZ {L:List (jH × Nat)}(hl:∀ q ∈ L,aKO q.1)(hfew:L.length <= 12){S:St}{b:Nat}(hLb:oI b S L){m c:Nat}{ex:Bool}{y:List V}{e0:TypeId}{fl0:Fl}(hy:y.length=4)(hone:cQ y=true)(hm:m < S.next)(hS:S.hs.get m=some (.cells (xI L ++ y) e0 fl0))(hn:S.next+100 < room)
  (hbad:∀ S':St,(∀ id,id < S.next->S'.hs.get id=S.hs.get id)->S'.next <= S.next+60->S.next <= S'.next->∀ k:V->St->Prop,(∀ S'',Abv S'.next S'.next S' S'' 1->k (.bool false) S'')->RC prog 25 [.agg y] S' k) {k:V->St->Prop}
  (hk:∀ S',Abv S.next S.next S S' 60->k (.tup [.nilSlice,.int .i64 243]) S'):RC prog 15 [.slice m 0 (L.length+1) c 4 ex] S k:=by
 refine RC.run mixed aS (aG aVx ?_);refine enter ?_;refine go ?_
 refine LP.induct (L.length+1) (fun j E S'=>∃ v,j <= L.length∧Kn E 30 [(0,.slice m 0 (L.length+1) c 4 ex),(4,v),(9,.slice m 0 (L.length+1) c 4 ex),(10,.int .i64 (.ofNat (L.length+1))),(11,.int .i64 (.ofNat j))]∧aAc S.next S' v ((L.take j).map fun q=>aGn q.1.l)∧Abv S.next S.next S S' (4 * j))
  ⟨.nilSlice,ai _,kq,.inl ⟨rfl,rfl⟩,Abv.refl _ _ _ _⟩ ?_
 rintro j E S2 ⟨v,hj,hf,hT,hA⟩ ih;have a2:=hA.lo;have b2:=hA.hi;refine LP.kn mixed hf ?_;refine go ?_;refine bE (fun hlt1=>?_) (fun hge=>by omega)
 rcases Nat.lt_or_ge j L.length with hlt|hge
 ·refine go ?_;refine ifK_intro (ag hlt1) ?_;refine go ?_;refine aA ((hA.keep m om om).trans hS) ?_;have hlat:=aEY (rest:=y) hlt;rw [show Nat.add 0 (j.mul 4)=4 * j from (Nat.zero_add _).trans (Nat.mul_comm j 4)];refine aX (n:=4) kr kr (by rw [aq,fK];omega) hlat ?_;have hok:=hl L[j] (az hlt);obtain ⟨z1,z2,z3⟩:=hLb L[j] (az hlt);have htk:L.take (j+1)=L.take j ++ [L[j]]:=an hlt;rw [htk,List.map_append] at ih;generalize L[j]=q at *;refine go ?_;refine aD om fun S3 hS3=>?_;have n3:=aF hS3;refine go ?_;refine aA (aJ hS3) ?_
  conv=>whnf
  refine aE om fun S4 hS4=>?_;have n4:=aK hS4
  have hk4:∀ id,id < S2.next->S4.hs.get id=S2.hs.get id:=fun id g=>by rw [aB hS4 om,aC hS3 om]
  have hq4:S4.hs.get S2.next=some (.cells (SC q) 49 .ex):=aR hS4;have hz4:S4.hs.get q.2=_:=(hk4 q.2 om).trans ((hA.keep q.2 om om).trans z3);refine go ?_;refine aA hq4 ?_;refine aX (n:=4) kr kr (af 4) rfl ?_;refine go ?_;refine aBT (x:=q.1) (i:=q.2) hok om hz4 om fun S5 hA5=>?_;have a5:=hA5.lo;have b5:=hA5.hi;refine go ?_;refine aA ((hA5.keep _ om om).trans hq4) ?_;refine go ?_;refine aLg hok.ok hok.ne ((hA5.keep _ om om).trans hz4) om om fun S6 hS6=>?_;have n6:S6.next=S5.next:=congrArg Hs.next hS6;refine go ?_;refine aD (o:=.cells [.str (aGn q.1.l)] 9 .ex) om fun S7 hS7=>?_;have n7:=aF hS7
  have hk7:∀ id,id < S2.next->S7.hs.get id=S2.hs.get id:=fun id g=>by rw [aC hS7 om,hS6,hA5.keep id om om];exact hk4 id g
  refine go ?_;refine aJC (hT.keep (S':=S7) (fun id _ g=>hk7 id g) om) om (aJ hS7) (by rw [List.length_map,bh];omega) om fun S8 v8 hA8 hT8=>?_;have a8:=hA8.lo;have b8:=hA8.hi;refine go ?_;refine bI (j+1) ?_;refine go ?_;exact ih _ S8 hlt1 ⟨v8,hlt,kq,hT8,⟨fun id g1 g2=>by rw [hA8.keep id om om,hk7 id om];exact hA.keep id g1 g2,om,om⟩⟩
 ·have hje:j=L.length:=om;subst hje;refine go ?_;refine ifK_intro (ag (show L.length+1 <= L.length+1 from af _)) ?_;refine go ?_;refine aA ((hA.keep m om om).trans hS) ?_;rw [show Nat.add 0 (L.length.mul 4)=4 * L.length from (Nat.zero_add _).trans (Nat.mul_comm _ 4)];refine aX (n:=4) (xs:=y) kr kr (by rw [aq,fK,hy];omega) (by rw [<- fK,List.drop_left,bd om]) ?_;have a2:=hA.lo;have b2:=hA.hi;refine go ?_;refine aD om fun S3 hS3=>?_;have n3:=aF hS3;refine go ?_;refine aA (aJ hS3) ?_;refine wrA (xs:=y) sm (by rw [hy];kernel_rfl) om hone (by rw [hy];rfl) ?_;refine aE om fun S4 hS4=>?_;have n4:=aK hS4;refine go ?_;refine aA (aR hS4) ?_;refine aX (n:=4) (xs:=y) kr kr om (by rw [List.drop_zero,bd om]) ?_;refine go ?_;refine hbad S4 (fun id g=>by rw [aB hS4 om,aC hS3 om];exact hA.keep id om om) om om _ fun S5 hA5=>?_;have a5:=hA5.lo;have b5:=hA5.hi;refine go ?_;exact hk S5 ⟨fun id g _=>by rw [hA5.keep id om om,aB hS4 om,aC hS3 om];exact hA.keep id om om,om,om⟩
end
section
attribute [local irreducible] aO bK cM bD
theorem yM:∀ (es:List aY) (x:eY × Nat),(es.foldl putE x).1.length <= x.1.length+es.length
 | [],_=>af _
 | q :: es,x=>by
   have h1:=yM es (putE x q);have h2:=aPd (x:=x) (q:=q);simp only [List.foldl_cons,au];omega
theorem wW {l:List aY}(ok:kF l)(q:aY):(setL l [q]).length <= 33:=by
 unfold setL;rw [iP];have h1:=yM [q] (l.foldl putE ([],0));have h2:=yM l ([],0);have h3:=ok.few;simp only [au,List.length_nil] at h1 h2;omega
theorem aVY {S:St}{k:V->St->Prop}(hk:k (.bool false) S):RC prog 55 [.str [57]] S k:=RC.closed 60 (fun K=>by kernel_rfl) hk
structure aCR (nw:Nat->List O)(f:List aY->List aY):Prop where
 nok:aUz nw
 len:∀ {l},kF l->(f l).length < 9223372036854775807
 bad:∀ {l},kF l->∀ (S:St) (k:V->St->Prop),k (.bool false) S->RC prog 55 [.str (getL aW (f l))] S k
 ap:∀ {l},kF l->l ≠ []->aUy nw l (f l)
theorem aPj:aCR rX fun l=>l.filter fun q=>!kG q.1 aW where
 nok:=⟨fun _=>rfl,fun _=>rfl,fun _=>af 13⟩
 len:=fun {l} ok=>by
  have h1:=ok.few;have h2:=List.length_filter_le (fun q:aY=>!kG q.1 aW) l;omega
 bad:=fun {l} ok S k hk=>by rw [aDq];exact aEN hk
 ap:=fun {l} ok hne b S v hb hS hbS hn hG hv hl K hK=>by
  have hbS':b+13 <= S.next:=hbS;refine aHQ (.inl ⟨rfl,rfl⟩) om (hS 2 _ rfl) hl ok om (fun S' hk g1 g2 k hk2=>?_) hK;exact aLL (fun S'' h=>hl S'' fun id g=>(h id om).trans (hk id g)) hne ok hb om (hS.keep fun id _ (g':id < b+13)=>hk id om) om hk2
theorem aPk:aCR rA fun l=>setL l [(aW,[57])] where
 nok:=⟨fun _=>rfl,fun _=>rfl,fun _=>by show 7 <= 13;omega⟩
 len:=fun {l} ok=>by
  have h1:=wW ok (aW,[57]);omega
 bad:=fun {l} ok S k hk=>by
  have h:getL aW (setL l [(aW,[57])])=[57]:=iF (q:=(aW,[57])) (gL (aCa l _)) ((aPq ok sm _).2 (.inl rfl));rw [h];exact aVY hk
 ap:=fun {l} ok hne b S v hb hS hbS hn hG hv hl K hK=>by
  have hbS':b+7 <= S.next:=hbS;have hngl:aI=1000:=rfl;refine aHQ (.inr ⟨rfl,rfl⟩) om (hS 2 _ rfl) hl ok om (fun S' hk g1 g2 k hk2=>?_) hK;have hS':Std S' b (rA b):=hS.keep fun id _ (g':id < b+7)=>hk id om;have hG':tQ S':=hG.keep fun id g=>hk id om;exact zW (x:=[57]) dc rfl rfl rfl (sQ _ _) (eG _ _ _ _ _ _) (eG _ _ _ _ _ _) om om (hS' 2 _ rfl) hv (fun S'' h=>hl S'' fun id g=>(h id om).trans (hk id g)) ok om (fun S'' h K h2=>aRw hb (hG'.keep fun id g=>h id om) (hS'.keep fun id _ (g':id < b+7)=>h id om) h2) (fun S'' h K h2=>aRx hb (hG'.keep fun id g=>h id om) (hS'.keep fun id _ (g':id < b+7)=>h id om) h2) (by have:=wW ok (aW,[57]);omega) hk2
theorem aPl:aCR rB fun l=>setL l [(aW,[])] where
 nok:=⟨fun _=>rfl,fun _=>rfl,fun _=>by show 6 <= 13;omega⟩
 len:=fun {l} ok=>by
  have h1:=wW ok (aW,[]);omega
 bad:=fun {l} ok S k hk=>by
  rw [aPp ok,aDq];exact aEN hk
 ap:=fun {l} ok hne b S v hb hS hbS hn hG hv hl K hK=>by
  have hbS':b+6 <= S.next:=hbS;have hngl:aI=1000:=rfl;refine aHQ (.inr ⟨rfl,rfl⟩) om (hS 2 _ rfl) hl ok om (fun S' hk g1 g2 k hk2=>?_) hK;have hS':Std S' b (rB b):=hS.keep fun id _ (g':id < b+6)=>hk id om;have hG':tQ S':=hG.keep fun id g=>hk id om;exact zW (x:=[]) dc rfl rfl rfl (sQ _ _) (eG _ _ _ _ _ _) rfl om om (hS' 2 _ rfl) hv (fun S'' h=>hl S'' fun id g=>(h id om).trans (hk id g)) ok om (fun S'' h K h2=>aRy hb (hG'.keep fun id g=>h id om) (hS'.keep fun id _ (g':id < b+6)=>h id om) h2) (fun S'' h K h2=>aRz hb (hG'.keep fun id g=>h id om) (hS'.keep fun id _ (g':id < b+6)=>h id om) h2) (by have:=wW ok (aW,[]);omega) hk2
end
def upS:jH:=⟨[(aW,[117,112])],4607182418800017408,false,0⟩
theorem aUi:kI 4607182418800017408=[49]:=kr
theorem aRR:cN upS=[117,112,32,49]:=by
 show [117,112] ++ ([] ++ 32 :: (kI 4607182418800017408 ++ []))=_;rw [aUi];rfl
theorem aWq:fD upS where
 ok:=⟨fun q hq=>by rw [ay.1 hq];decide,fun q hq=>by rw [ay.1 hq];decide,fun q hq=>by rw [ay.1 hq];simp,List.pairwise_singleton _ _⟩
 names:=fun q hq=>by rw [ay.1 hq];decide
 vals:=fun q hq h=>by rw [ay.1 hq] at h;exact absurd rfl h
 met:=by show ([117,112]:List UInt8) ∈ jD;decide
 b:=by show 4607182418800017408 < 2 ^ 64;omega
 num:=by show iW 4607182418800017408 ≠ 4;decide
 t1:=by show (-9223372036854775808:Int) <= 0;omega
 t2:=by show (0:Int) <= 9223372036854775807;omega
 st:=fun _=>rfl
section
attribute [local irreducible] aO bK cM bD tC aBL aAl
def LWo (S:St)(B:Nat)(v:V)(l:List aY):Prop:=(v=.nilSlice∧l=[]) ∨ ∃ i c ex,v=.slice i 0 l.length c 2 ex∧l.length <= c∧S.hs.get i=some (.cells (cellsOf l) 34 .rw)∧aI <= i∧i < S.next∧i < room∧i ≠ B
end
section
attribute [local irreducible] aO bK cM bD tC aBL aAl
def aKN (rul:List V)(nw:Nat->List O):Prop:=∀ (S:St) (r:Nat) (e:TypeId) (fl:Fl),aI <= r->S.hs.get r=some (.cells rul e fl)->S.next+13 < room->∀ k:V->St->Prop,(∀ S',S'.hs=eC (nw S.next) S.hs->k (.tup [.ptr S.next 0,.int .i64 (.negSucc 0),.int .i64 0]) S')->RC prog 51 [.slice r 0 1 1 7 true] S k
theorem aWi:aKN aMr rX:=fun S r e fl h1 h2 h3 k hk=>aOE h1 (af _) h2 h3 hk
theorem aWj:aKN aMs rA:=fun S r e fl h1 h2 h3 k hk=>aOF h1 (af _) h2 om hk
theorem aWk:aKN aMt rB:=fun S r e fl h1 h2 h3 k hk=>aOG h1 (af _) h2 om hk
theorem aMk {nw:Nat->List O}{f:List aY->List aY}{rul:List V}(hr:aCR nw f)(hN:aKN rul nw)(hflat:V.flat.V.flatL rul=true){tg:List aY}(okT:kF tg)(hT:∀ q ∈ tg,eP q.1=false){l:List jH}(hl:∀ x ∈ l,fD x)(hfew:l.length <= 12){B:Nat}{S:St}{vo:V}(hTb:aAD B S)(hS:1000 <= S.next)(hvo:LWo S B vo tg)
  {r:Nat} (hrr:S.hs.get r=some (.cells rul 39 .ex)) (hr1:aI <= r) (hr2:r < S.next) (hrB:r ≠ B) (hn:S.next+20 <= room) {k:V->St->Prop}
  (hk:∀ S',(∀ id,id < S.next->S'.hs.get id=S.hs.get id)->S'.next=S.next->k (.tup [.nilSlice,.int .i64 0,.int .i64 0,.int .i64 242]) S'):RC prog 11 [.str (dI l ++ cN upS),vo,.slice r 0 1 1 7 true,.int .i64 1000] S k:=by
 have hroom:room=4096:=rfl;have hngl:aI=1000:=rfl
 have hlu:∀ x ∈ l ++ [upS],fD x:=fun x hx=>by
  rcases List.mem_append.1 hx with hx|hx
  ·exact hl x hx
  ·rw [ay.1 hx];exact aWq
 have hX:∀ x ∈ l ++ [upS],kF (kW tg x.l)∧kW tg x.l ≠ []:=fun x hx=>by
  have h:=hlu x hx;exact ⟨expL_ok okT h.ok h.names,List.ne_nil_of_mem (nameX_in okT hT h.ok h.nm)⟩
 have hrun:∀ (nb:Nat) (vs:V) (io:List Nat) (S0:St),nb <= 1->pX (aI+1) S0->S0.next=aI+2+nb->tQ S0->vA 8 vs vs=true->(∀ S',(∀ id,id < S0.next->S'.hs.get id=S0.hs.get id)->LV S' vs tg)->S0.hs.get (aI+1+nb)=some (.cells rul 39 .ex)->RC prog 11 [.str (dI l ++ cN upS),vs,.slice (aI+1+nb) 0 1 1 7 true,.int .i64 1000] S0 fun v S'=>∃ (gs:List Nat) (news:List O) (v2:V),(∀ id,id < S0.next->S'.hs.get id=S0.hs.get id)∧gs.Nodup∧(∀ g ∈ gs,S0.next <= g)∧(∀ o ∈ news,o.wr=true)∧S.next+news.length < room∧gs.length=news.length ∧
   (∀ R:Nat->Nat->Prop,(∀ a g,gs[a]?=some g->R g (S.next+a))->(∀ b i,io[b]?=some i->R (aI+1+b) i)->VI R v v2∧tP R S' gs news)∧∀ S2:St,(∀ id,id < S.next->S2.hs.get id=S.hs.get id)->S2.next=S.next+news.length->(∀ (a:Nat) (o:O),news[a]?=some o->S2.hs.get (S.next+a)=some o)->k v2 S2:=by
  intro nb vs io S0 hnb hTb0 hn0 hG heq yA hrow;refine aMj okT hT hlu hfew hr.nok hTb0 om om hG yA heq om (fun S' hk' hn' K hK=>hN S' _ _ _ om ((hk' _ om).trans hrow) om K hK) (l2:=fun x=>f (kW tg x.l)) (fun x hx=>hr.len (hX x hx).1) (fun x hx=>hr.bad (hX x hx).1) (fun x hx=>hr.ap (hX x hx).1 (hX x hx).2) fun S' hk'=>?_;exact ⟨[],[],_,hk',.nil,sm,sm,by simp;omega,rfl,fun R _ _=>⟨qE rfl,trivial⟩,fun S2 g1 g2 _=>hk S2 g1 (by simpa using g2)⟩
 rcases hvo with ⟨rfl,h0⟩|⟨i,c,ex,rfl,hc,hi,h3,h4,h5,h6⟩
 ·subst h0;refine RC.tab hTb hS [r] [.cells rul 39 .ex] [.cells rul 39 .ex] (l:=[.str (dI l ++ cN upS),.nilSlice,.slice (aI+1) 0 1 1 7 true,.int .i64 1000]) rfl rfl sm (by simp;omega) sm ?_ (by simp;rfl) ?_ ?_ fun S0 t1 t2 t3 t4=>?_
  ·intro a j o g1 g2
   cases a with
   | zero=>simp at g1 g2;subst g1;subst g2;exact hrr
   | succ a=>simp at g1
  ·intro R hR;refine ⟨?_,.cons (.str _) (.cons .nilSlice (.cons (.slice _ _ _ _ _ _ _ (hR 0 r rfl) (.inl rfl) (af _) (fun h=>⟨h,rfl⟩)) (cB rfl)))⟩;intro a o' o g1 g2
   cases a with
   | zero=>simp at g1 g2;subst g1;subst g2;exact .cells (cB hflat) (.inl rfl)
   | succ a=>simp at g1
  ·intro R hR a o' o g1 g2
   cases a with
   | zero=>simp at g1 g2;subst g1;subst g2;exact .cells (cB hflat) (.inl rfl)
   | succ a=>simp at g1
  ·exact hrun 0 .nilSlice [r] S0 om t1 t2 t4 rfl (fun _ _=>.inl ⟨rfl,rfl⟩) (t3 0 _ rfl)
 ·have hir:i ≠ r:=fun e=>by
   rw [e,hrr] at hi;cases hi
  refine RC.tab hTb hS [i,r] [.cells (cellsOf tg) 34 .rw,.cells rul 39 .ex] [.cells (cellsOf tg) 34 .rw,.cells rul 39 .ex] (l:=[.str (dI l ++ cN upS),.slice (aI+1) 0 tg.length c 2 ex,.slice (aI+2) 0 1 1 7 true,.int .i64 1000]) rfl rfl sm (by simp;omega) (by simp [hir]) ?_ (by simp;exact ⟨rfl,rfl⟩) ?_ ?_ fun S0 t1 t2 t3 t4=>?_
  ·intro a j o g1 g2
   match a with
   | 0=>simp at g1 g2;subst g1;subst g2;exact hi
   | 1=>simp at g1 g2;subst g1;subst g2;exact hrr
   | a+2=>simp at g1
  ·intro R hR;refine ⟨?_,.cons (.str _) (.cons (.slice _ _ _ _ _ _ _ (hR 0 i rfl) (.inl rfl) (af _) (fun h=>⟨h,rfl⟩)) (.cons (.slice _ _ _ _ _ _ _ (hR 1 r rfl) (.inl rfl) (af _) (fun h=>⟨h,rfl⟩)) (cB rfl)))⟩;intro a o' o g1 g2
   match a with
   | 0=>simp at g1 g2;subst g1;subst g2;exact .cells (aN _) (.inl rfl)
   | 1=>simp at g1 g2;subst g1;subst g2;exact .cells (cB hflat) (.inl rfl)
   | a+2=>simp at g1
  ·intro R hR a o' o g1 g2
   match a with
   | 0=>simp at g1 g2;subst g1;subst g2;exact .cells (aN _) (.inl rfl)
   | 1=>simp at g1 g2;subst g1;subst g2;exact .cells (cB hflat) (.inl rfl)
   | a+2=>simp at g1
  ·have hg:=t3 0 _ rfl;have hg1:=t3 1 _ rfl;refine hrun 1 (.slice (aI+1) 0 tg.length c 2 ex) [i,r] S0 om t1 t2 t4 (eG _ _ _ _ _ _) (fun S' hs=>LV.mk ((hs _ (by rw [t2];simp)).trans hg) hc) hg1
end
section
theorem aUS:bB prog 14 25 [.tmp 2] (aL Tryz.f14):=fq Tryz.f14
attribute [local irreducible] bK cM bD
theorem aTa {S:St}{i2:Nat}{v0:V}{b t:Int}{st:Bool}{e2:TypeId}{fl2:Fl}(h0:V.one v0=true)(hx:S.hs.get i2=some (.cells [v0,.int .u64 b,.bool st,.int .i64 t] e2 fl2)){k:V->St->Prop}
  (hk:bK (.cells [v0,.int .u64 b,.bool st,.int .i64 t] 49 .rw) S fun id S=>k (.slice id 0 1 1 4 false) S):aO prog #[25,25] .nilSlice (.slice i2 0 1 1 4 true) S k:=by
 unfold aO
 conv=>whnf
 refine aA hx ?_
 conv=>whnf
 exact hk
theorem aTb {S:St}{id i2:Nat}{L:List (jH × Nat)}{v0:V}{b t:Int}{st:Bool}{e2:TypeId}{fl2:Fl}(h0:V.one v0=true)(ho:S.hs.get id=some (.cells (xI L) 49 .rw))(hx:S.hs.get i2=some (.cells [v0,.int .u64 b,.bool st,.int .i64 t] e2 fl2))(hlen:L.length < 4096){k:V->St->Prop}
  (hk:bD id none S fun S=>bK (.cells (xI L ++ [v0,.int .u64 b,.bool st,.int .i64 t]) 49 .rw) S fun id S=>k (.slice id 0 (L.length+1) (L.length+1) 4 false) S):aO prog #[25,25] (.slice id 0 L.length L.length 4 false) (.slice i2 0 1 1 4 true) S k:=by
 unfold aO
 conv=>whnf
 refine aA hx ?_
 conv=>whnf
 refine aP ?_
 conv=>whnf
 refine bX (fun h=>?_) (fun _=>?_)
 ·have:L.length+1 <= L.length:=ae h;omega
 refine ifK_intro (ag ?_) ?_
 ·show (L.length+1) * 49 <= 70368744177664;omega
 refine aA ho ?_;refine bY (ai _) ?_;refine bJ (by show L.length * 4 <= _;rw [List.drop_zero,fK];omega) ?_;refine bZ ?_
 have e:((xI L).drop 0).take (L.length * 4)=xI L:=by rw [List.drop_zero,bd (by rw [fK];omega)]
 show dD (cQ [v0,.int .u64 b,.bool st,.int .i64 t]) (bD id none S fun S=>bK (.cells (((xI L).drop 0).take (L.length * 4) ++ [v0,.int .u64 b,.bool st,.int .i64 t]) 49 .rw) S fun id S=>k (.slice id 0 (L.length+1) (L.length+1) 4 false) S);rw [e];refine ifK_intro (by unfold cQ;show Bool.rec (motive:=fun _=>Bool) false true (V.one v0)=true;rw [h0]) ?_;exact hk
theorem aUE {p:Nat}{S:St}{v:V}{L:List (jH × Nat)}{i2:Nat}{v0:V}{b t:Int}{st:Bool}{e2:TypeId}{fl2:Fl}(h0:V.one v0=true)(h:oJ p S v L)(hLb:oI p S L)(hb:p <= S.next)(hx:S.hs.get i2=some (.cells [v0,.int .u64 b,.bool st,.int .i64 t] e2 fl2))(hlen:L.length < 4096)(hn:S.next+1 < room){k:V->St->Prop}
  (hk:∀ S' m,Abv p p S S' 1->oI p S' L->m < S'.next->S'.hs.get m=some (.cells (xI L ++ [v0,.int .u64 b,.bool st,.int .i64 t]) 49 .rw)->k (.slice m 0 (L.length+1) (L.length+1) 4 false) S'):aO prog #[25,25] v (.slice i2 0 1 1 4 true) S k:=by
 rcases h with ⟨rfl,rfl⟩|⟨m,rfl,h2,h3,h4,h5⟩
 ·refine aTa h0 hx ?_;refine aD om fun S2 hS2=>?_;have n2:=aF hS2;exact hk S2 _ ((Abv.refl p p S 0).new hS2 hb om) (fun q hq=>by cases hq) om (aJ hS2)
 ·refine aTb h0 h5 hx hlen ?_;refine aE h4 fun S2 hS2=>?_;have n2:=aK hS2;refine aD om fun S3 hS3=>?_;have n3:=aF hS3;refine hk S3 _ (((Abv.refl p p S 0).put hS2 (.inr h2)).new hS3 hb (m:=1) om) (fun q hq=>?_) om (aJ hS3);obtain ⟨g1,g2,g3⟩:=hLb q hq
  have hne:q.2 ≠ m:=fun e=>by
   rw [e,h5] at g3
   have h2:(49:TypeId)=34:=by injection g3 with g3;injection g3
   exact absurd h2 dc
  exact ⟨g1,om,by rw [aC hS3 om,aB hS2 hne];exact g3⟩
attribute [local irreducible] aO
theorem aQj {L:List (jH × Nat)}(hfew:L.length <= 12){v:V}{b:Nat}{S:St}(hR:oJ b S v L)(hL:oI b S L)(hne:∀ q ∈ L,q.1.l ≠ []∧q.1.l.length < 4096)(hn:S.next+100 < room){k:V->St->Prop}
  (hk:∀ S' v' L',Abv S.next S.next S S' 75->oJ S.next S' v' L'->oI S.next S' L'->L'.map (·.1)=L.map (·.1)->k v' S'):RC prog 14 [v] S k:=by
 refine RC.run mixed aS (aG aUS ?_);refine enter ?_
 rcases hR with ⟨rfl,rfl⟩|⟨m,rfl,y1,y2,y3,y4⟩
 ·refine go ?_;refine LP.one mixed ?_;refine go ?_;exact hk S .nilSlice [] ⟨fun _ _ _=>rfl,om,om⟩ (.inl ⟨rfl,rfl⟩) (fun q hq=>by cases hq) rfl
 refine go ?_;refine LP.induct L.length (fun j E S'=>j <= L.length∧∃ v' L',Kn E 25 [(0,.slice m 0 L.length L.length 4 false),(3,v'),(4,.int .i64 (.ofNat j))]∧(∀ id,id < S.next->S'.hs.get id=S.hs.get id)∧S.next <= S'.next∧S'.next <= S.next+5 * j∧oJ S.next S' v' L'∧oI S.next S' L'∧L'.map (·.1)=(L.take j).map (·.1)) ⟨ai _,.nilSlice,[],kq,fun _ _=>rfl,af _,af _,.inl ⟨rfl,rfl⟩,(fun q hq=>by cases hq),rfl⟩ ?_;rintro j E T0 ⟨hj,v',L',hf,kT,a0,b0,hR',hL',hm'⟩ ih;refine LP.kn mixed hf ?_;refine go ?_;refine bE (fun hlt=>?_) (fun hge=>?_)
 ·refine go ?_;refine ifK_intro (ag hlt) ?_;refine go ?_;refine aA ((kT m y2).trans y4) ?_;have hlat:=aEY (rest:=[]) hlt;rw [bf] at hlat;rw [show Nat.add 0 (j.mul 4)=4 * j from (Nat.zero_add _).trans (Nat.mul_comm j 4)];refine aX (n:=4) kr kr (show 4 * j+4 <= (xI L).length by rw [fK];omega) hlat ?_;obtain ⟨z1,z2,z3⟩:=hL L[j] (az hlt);obtain ⟨w1,w2⟩:=hne L[j] (az hlt)
  have htk:(L.take (j+1)).map (·.1)=(L.take j).map (·.1) ++ [L[j].1]:=by rw [an hlt,List.map_append];rfl
  generalize L[j]=q at *;refine go ?_;refine aD om fun T1 hT1=>?_;have m1:=aF hT1;refine go ?_;refine aA (aJ hT1) ?_;refine wrA (xs:=SC q) sm kr (by show 0 < 4;omega) rfl rfl ?_;refine aE om fun T2 hT2=>?_;have m2:=aK hT2
  have k2:∀ id,id < T0.next->T2.hs.get id=T0.hs.get id:=fun id g=>by rw [aB hT2 om,aC hT1 om]
  have hq2:T2.hs.get T0.next=some (.cells (SC q) 49 .ex):=aR hT2;refine go ?_;refine aA hq2 ?_;refine aH kr 0 rfl rfl ?_;refine go ?_;refine aFL (l:=q.1.l) (.inr ⟨q.2,_,_,_,_,rfl,(k2 _ om).trans ((kT _ z2).trans z3)⟩) w2 om fun T3 v3 hA3 hv3=>?_;have m3:=hA3.lo;have m3':=hA3.hi
  obtain ⟨mc,rfl,c1,c2,c3,c4⟩:∃ mc,v3=.slice mc 0 q.1.l.length q.1.l.length 2 false∧T2.next <= mc∧mc < T3.next∧mc < room∧T3.hs.get mc=some (.cells (cellsOf q.1.l) 34 .rw):=by
   rcases hv3 with ⟨h,_⟩|⟨mc,_,h⟩
   ·exact absurd h w1
   ·exact ⟨mc,h⟩
  have hq3:T3.hs.get T0.next=_:=(hA3.keep _ om om).trans hq2;refine go ?_;refine aA hq3 ?_
  conv=>whnf
  refine aE om fun T4 hT4=>?_;have m4:=aK hT4;refine go ?_;refine aA (aR hT4) ?_;refine aX (n:=4) (xs:=SC (q.1,mc)) kr kr (af 4) rfl ?_;refine go ?_;refine aD (o:=.cells (SC (q.1,mc)) 49 .ex) om fun T5 hT5=>?_;have m5:=aF hT5
  have k5:∀ id,id < T0.next->T5.hs.get id=T0.hs.get id:=fun id g=>by rw [aC hT5 om,aB hT4 om,hA3.keep id om om];exact k2 id g
  refine go ?_;have hR5:=hR'.keep (S':=T5) (fun id _ g=>k5 id g) om
  have hL5:oI S.next T5 (L' ++ [(q.1,mc)]):=fun x hx=>by
   rcases List.mem_append.1 hx with hx|hx
   ·obtain ⟨g1,g2,g3⟩:=hL' x hx;exact ⟨g1,om,(k5 _ g2).trans g3⟩
   ·rw [ay] at hx;subst hx;refine ⟨by show S.next <= mc;omega,by show mc < _;omega,?_⟩;show T5.hs.get mc=_;rw [aC hT5 om,aB hT4 om];exact c4
  have hL'n:L'.length=j:=by rw [<- List.length_map (f:=(·.1)),hm',List.length_map,bh];omega
  refine aEl hR5 hL5 om (aJ hT5) om om fun T6 v6 hA6 hR6 hL6=>?_;have m6:=hA6.lo;have m6':=hA6.hi;refine go ?_;refine bI (j+1) ?_;refine go ?_;refine ih _ T6 hlt ⟨hlt,v6,L' ++ [(q.1,mc)],kq,fun id g=>?_,om,om,hR6,hL6,?_⟩
  ·rw [hA6.keep id om om,k5 id om];exact kT id g
  ·rw [List.map_append,hm',htk];rfl
 ·have hje:j=L.length:=om;subst hje;refine go ?_;rw [List.take_length] at hm';exact hk T0 v' L' ⟨fun id g _=>kT id g,a0,om⟩ hR' hL' hm'
end
section
attribute [local irreducible] aO bK cM bD mC
theorem aJp {v:V}{S:St}{n:Nat}(hn:S.next+n+2 < room)(hs:∀ k:V->St->Prop,(∀ S',Abv S.next S.next S S' n->k (.tup [.nilSlice,.int .i64 243]) S')->RC prog 15 [v] S k){k:V->St->Prop}(hk:∀ S',Abv S.next S.next S S' (n+1)->k (.tup [.nilSlice,.int .i64 0,.int .i64 243]) S'):RC prog 13 [v] S k:=by
 refine RC.run mixed aS (aG aVJ ?_);refine enter ?_;refine go ?_;refine hs _ fun S1 hA1=>?_;have a1:=hA1.lo;have b1:=hA1.hi;refine go ?_;refine aD om fun S2 hS2=>?_;have n2:=aF hS2;refine go ?_;refine aA (aJ hS2) ?_;refine bH (v:=.nilSlice) rfl sm kr rfl Nat.zero_lt_one ?_;refine aE om fun S3 hS3=>?_;have n3:=aK hS3;refine go ?_;exact hk S3 ⟨fun id g g'=>by rw [aB hS3 om,aC hS2 om];exact hA1.keep id g g',om,om⟩
end
section
attribute [local irreducible] aO bK cM bD
theorem aNO {v:Nat}(hv:v < 18446744073709551616):aIo (Int.ofNat v)=Int.ofNat (dO v):=by
 unfold aIo;have e1:(Int.ofNat v).fdiv (2 ^ min 52 IntKind.u64.bits)=Int.ofNat (v / 2 ^ 52):=pL v (2 ^ 52);rw [e1,show (2047:Int)=Int.ofNat 2047 from rfl];have h1:v / 2 ^ 52 < 4096:=om;rw [qW (b:=2047) om om,show (v / 2 ^ 52) &&& 2047=dO v from Nat.and_two_pow_sub_one_eq_mod (v / 2 ^ 52) 11];exact qU .i64 _ (by simp [IntKind.min,IntKind.signed,IntKind.bits] <;> omega) (by have:dO v < 2048:=Nat.mod_lt _ dc;simp [IntKind.max,IntKind.signed,IntKind.bits] <;> omega)
theorem aLu {v:Nat}(hv:v < 18446744073709551616):aBo (Int.ofNat v)=Int.ofNat (jW v):=by
 unfold aBo;rw [show (4503599627370495:Int)=Int.ofNat 4503599627370495 from rfl,qW (b:=4503599627370495) hv om];exact congrArg Int.ofNat (Nat.and_two_pow_sub_one_eq_mod v 52)
theorem aLG {v:Nat}(hv:v < 18446744073709551616):aBz (Int.ofNat v)=Int.ofNat (iW v):=by
 unfold aBz iW;rw [aNO hv,aLu hv];simp only [iZ,bF,beq_iff_eq,decide_eq_true_eq]
 have h0:∀ n:Nat,(0:Int) < Int.ofNat n ↔ 0 < n:=fun n=>by show (0:Int) < (n:Int) ↔ _;omega
 have h2:Int.ofNat (dO v)=2047 ↔ dO v=2047:=by show ((dO v:Nat):Int)=2047 ↔ _;omega
 have h3:Int.ofNat (jW v)=0 ↔ jW v=0:=by show ((jW v:Nat):Int)=0 ↔ _;omega
 simp only [h0,h2,h3]
 split <;> (try split) <;> (try split) <;> rfl
def bM (v:Nat):Nat:=if iW v=4 then 4609434218613702656 else v
theorem aTf {v:Nat}(hv:v < 18446744073709551616):bN (Int.ofNat v)=Int.ofNat (bM v):=by
 unfold bN bM;rw [aLG hv,iZ];by_cases h:iW v=4
 ·rw [h,if_pos rfl];rfl
 ·rw [if_neg h]
  have:(Int.ofNat (iW v) == (4:Int))=false:=by
   rw [beq_eq_false_iff_ne];intro e;have:(iW v:Int)=4:=e;omega
  rw [this]
theorem aUF {v:Nat}(hv:v < 18446744073709551616):bM v < 18446744073709551616:=by
 unfold bM;split <;> omega
theorem aPZ (v:Nat):iW (bM v) ≠ 4:=by
 unfold bM
 split
 ·decide
 ·assumption
structure XS where
 nm:Nat
 v:V
 s:List (Nat × Nat)
 b:Nat
 t:Int
 st:Bool
def XS.cs (x:XS):List V:=[.int .u8 (.ofNat x.nm),x.v,.int .u64 (.ofNat x.b),.int .i64 x.t,.bool x.st]
structure XS.Ok (x:XS):Prop where
 b:x.b < 18446744073709551616
 t1:-9223372036854775808 <= x.t
 t2:x.t <= 9223372036854775807
noncomputable def XS.smp (x:XS):jH:=⟨fW (smpT (jD.getD (x.nm % 8) []) x.s),bM x.b,x.st,tmN x.st x.t⟩
theorem XS.met (x:XS):jD.getD (x.nm % 8) [] ∈ jD:=getD_in (Nat.mod_lt _ dc)
theorem XS.smp_ok {x:XS}(h:x.Ok):fD x.smp:=by
 have hok:kF x.smp.l:=Go.Am.smp_ok x.met x.s;refine ⟨hok,smp_names x.s,fun q hq hn=>?_,?_,aUF h.b,aPZ _,?_,?_,fun e=>?_⟩
 ·rcases (smp_mem q).1 hq with h1|⟨_,h2⟩
  ·exact absurd (by rw [h1]) hn
  ·exact (made_names x.s q (ofS_mem h2).1).2
 ·have:getL aW x.smp.l=jD.getD (x.nm % 8) []:=iF (q:=(aW,jD.getD (x.nm % 8) [])) (gL hok.asc) ((smp_mem _).2 (.inl rfl));rw [this];exact x.met
 ·show _ <= tmN x.st x.t
  cases x.st with
  | false=>show _ <= (0:Int);omega
  | true=>exact h.t1
 ·show tmN x.st x.t <= _
  cases x.st with
  | false=>show (0:Int) <= _;omega
  | true=>exact h.t2
 ·have e':x.st=false:=e;show tmN x.st x.t=0;rw [e'];rfl
def LX (S:St)(v:V)(xs:List XS):Prop:=(xs=[]∧(v=.nilSlice ∨ ∃ i ex,v=.slice i 0 0 0 5 ex)) ∨ ∃ i n c ex cs e fl,v=.slice i 0 n c 5 ex∧xs.length=min n 12∧n <= c∧i < S.next∧S.hs.get i=some (.cells cs e fl)∧(∀ j (h:j < xs.length),(cs.drop (5 * j)).take 5=xs[j].cs)∧∀ x ∈ xs,∀ S':St,(∀ id,id < S.next->S'.hs.get id=S.hs.get id)->SV S' x.v x.s
theorem LX.few {S:St}{v:V}{xs:List XS}(h:LX S v xs):xs.length <= 12:=by
 rcases h with ⟨rfl,_⟩|⟨i,n,c,ex,cs,e,fl,_,h,_⟩
 ·simp
 ·omega
theorem SV.one {S:St}{v:V}{s:List (Nat × Nat)}(h:SV S v s):V.one v=true:=by
 rcases h with ⟨_,rfl|⟨_,_,rfl⟩⟩|⟨_,_,_,_,_,_,rfl,_⟩ <;> rfl
theorem aWV:bB prog 5 45 [.tmp 2,.tmp 3,.tmp 4] (aL Tryz.f5):=fq Tryz.f5
theorem aLN {xs:List XS}{v:V}{S:St}(h:LX S v xs)(hok:∀ x ∈ xs,x.Ok){t:Nat}(hT:pX t S)(ht:t <= S.next)(hn:S.next+700 <= room){k:V->St->Prop}
  (hk:∀ S' v' L',(∀ id,id < S.next->S'.hs.get id=S.hs.get id)->S.next <= S'.next->S'.next <= S.next+360->oJ S.next S' v' L'->oI S.next S' L'->L'.map (·.1)=xs.map XS.smp->k (.tup [.str (dI (xs.map XS.smp)),v',.bool true]) S'):RC prog 5 [v] S k:=by
 have hfew:=h.few;refine RC.run mixed aS (aG aWV ?_);refine enter ?_
 rcases h with ⟨rfl,rfl|⟨i,ex,rfl⟩⟩|⟨i,n,c,ex,cs,e,fl,rfl,hlx,hnc,hi,hS,hat,hsv⟩
 ·refine go ?_;refine LP.one mixed ?_;refine go ?_;refine zC (L:=[]) (l:=[]) rfl sm sm hT ht (.inl ⟨rfl,rfl⟩) (b:=S.next) (fun q hq=>by cases hq) om fun S2 hA2=>?_;have a2:=hA2.lo;have b2:=hA2.hi;refine go ?_;exact hk S2 .nilSlice [] (fun id g=>hA2.keep id g om) a2 om (.inl ⟨rfl,rfl⟩) (fun q hq=>by cases hq) rfl
 ·refine go ?_;refine LP.one mixed ?_;refine go ?_;refine zC (L:=[]) (l:=[]) rfl sm sm hT ht (.inl ⟨rfl,rfl⟩) (b:=S.next) (fun q hq=>by cases hq) om fun S2 hA2=>?_;have a2:=hA2.lo;have b2:=hA2.hi;refine go ?_;exact hk S2 .nilSlice [] (fun id g=>hA2.keep id g om) a2 om (.inl ⟨rfl,rfl⟩) (fun q hq=>by cases hq) rfl
 ·refine go ?_;refine rec_ltI _ _ (fun hgt=>?_) (fun hle=>?_)
  have hgt':12 < n:=by have:(12:Int) < (n:Int):=hgt;omega
  have hxl:xs.length=12:=om;rw [show (12:Int)=Int.ofNat xs.length by rw [hxl];rfl];refine go ?_;refine ifK_intro (ag om) ?_;refine aP (aP (aP ?_));refine go ?_
  rotate_left
  have hle':n <= 12:=by have:(n:Int) <= 12:=hle;omega
  have hxl:n=xs.length:=om;subst hxl;refine go ?_;refine ifK_intro (ag om) ?_;refine aP (aP (aP ?_));refine go ?_
  all_goals
   refine LP.induct xs.length (fun j E S'=>∃ v' L',j <= xs.length∧Kn E 45 [(5,v'),(17,.slice i 0 xs.length c 5 ex),(18,.int .i64 (.ofNat xs.length)),(19,.int .i64 (.ofNat j))]∧(∀ id,id < S.next->S'.hs.get id=S.hs.get id)∧S.next <= S'.next∧S'.next <= S.next+22 * j∧oJ S.next S' v' L'∧oI S.next S' L'∧L'.map (·.1)=(xs.take j).map XS.smp) ⟨.nilSlice,[],ai _,kq,fun _ _=>rfl,af _,af _,.inl ⟨rfl,rfl⟩,(fun q hq=>by cases hq),rfl⟩ ?_;rintro j E S1 ⟨v',L',hj,hf,kp,a1,b1,hR,hLb,hLm⟩ ih;refine LP.kn mixed hf ?_;refine go ?_;refine bE (fun hlt=>?_) (fun hge=>?_)
   ·have htk:(xs.take (j+1)).map XS.smp=(xs.take j).map XS.smp ++ [xs[j].smp]:=by rw [an hlt,List.map_append];rfl
    have hx:=hat j hlt;have hxs:=hsv xs[j] (az hlt);have hxo:=hok xs[j] (az hlt);generalize xs[j]=x at *;refine go ?_;refine ifK_intro (ag hlt) ?_;refine go ?_;rw [show Nat.add 0 (j.mul 5)=5 * j from (Nat.zero_add _).trans (Nat.mul_comm j 5)];refine aA ((kp i hi).trans hS) ?_
    refine aX (n:=5) kr kr (by
     have:=congrArg List.length hx;rw [bh,List.length_drop] at this;have h5:x.cs.length=5:=rfl
     omega) hx ?_
    refine go ?_;refine aD om fun S2 hS2=>?_;have n2:=aF hS2;refine go ?_;refine aA (aJ hS2) ?_;have hone:=(hxs S fun _ _=>rfl).one
    refine wrA (xs:=x.cs) sm kr (by show 0 < 5;omega) (by
     show Bool.rec (motive:=fun _=>Bool) false true x.v.one=true
     rw [hone]) rfl ?_
    refine aE om fun S3 hS3=>?_;have n3:=aK hS3
    have k3:∀ id,id < S1.next->S3.hs.get id=S1.hs.get id:=fun id g=>by rw [aB hS3 om,aC hS2 om]
    refine go ?_;refine aA (aR hS3) ?_;refine aX (n:=5) kr kr (af 5) rfl ?_;refine go ?_;refine aIG sV (S:=S3) (fun S' hk'=>hxs S' fun id g=>(hk' id om).trans ((k3 id om).trans (kp id g))) om fun S4 m4 k4 g1 g2 n4 g4=>?_;rw [aTf hxo.b];refine go ?_;refine aD om fun S5 hS5=>?_;have n5:=aF hS5;refine go ?_;refine aA (aJ hS5) ?_;refine wrA (xs:=SC (x.smp,m4)) sm kr (by show 0 < 4;omega) rfl rfl ?_;refine aE om fun S6 hS6=>?_;have n6:=aK hS6;refine go ?_;refine aA (aR hS6) ?_;refine aX (n:=4) kr kr (af 4) rfl ?_;refine go ?_;refine aD (o:=.cells (SC (x.smp,m4)) 49 .ex) om fun S7 hS7=>?_;have n7:=aF hS7;refine go ?_
    have k7:∀ id,id < S1.next->S7.hs.get id=S1.hs.get id:=fun id g=>by rw [aC hS7 om,aB hS6 om,aC hS5 om,k4 id om];exact k3 id g
    have hR7:=hR.keep (S':=S7) (fun id _ g=>k7 id g) om
    have hL7:oI S.next S7 (L' ++ [(x.smp,m4)]):=fun y hy=>by
     rcases List.mem_append.1 hy with hy|hy
     ·obtain ⟨g1,g2,g3⟩:=hLb y hy;exact ⟨g1,om,(k7 y.2 g2).trans g3⟩
     ·rw [ay] at hy;subst hy;refine ⟨by show S.next <= m4;omega,by show m4 < _;omega,?_⟩;show S7.hs.get m4=_;rw [aC hS7 om,aB hS6 om,aC hS5 om];exact g4
    have hL'n:L'.length=j:=by
     have:=congrArg List.length hLm;rw [List.length_map,List.length_map,bh] at this;omega
    refine aEl hR7 hL7 om (aJ hS7) om om fun S8 v8 hA8 hR8 hL8=>?_;have a8:=hA8.lo;have b8:=hA8.hi;refine go ?_;refine bI (j+1) ?_;refine go ?_;exact ih _ S8 hlt ⟨v8,L' ++ [(x.smp,m4)],hlt,kq,fun id g=>(hA8.keep id om om).trans ((k7 id om).trans (kp id g)),om,om,hR8,hL8,by rw [List.map_append,hLm,htk];rfl⟩
   ·have hje:j=xs.length:=om;subst hje;rw [List.take_length] at hLm;refine go ?_;refine zC (S:=S1) hLm (fun y hy=>by obtain ⟨x,hx,rfl⟩:=List.mem_map.1 hy;exact XS.smp_ok (hok x hx)) (by rw [List.length_map];exact hfew) (hT.keep fun id g=>kp id om) om hR hLb om fun S2 hA2=>?_;have a2:=hA2.lo;have b2:=hA2.hi;refine go ?_;exact hk S2 v' L' (fun id g=>(hA2.keep id om om).trans (kp id g)) om om (hR.keep (fun id _ g=>hA2.keep id g om) a2) (hLb.keep (fun id _ g=>hA2.keep id g om) a2) hLm
end
end Go.Am
