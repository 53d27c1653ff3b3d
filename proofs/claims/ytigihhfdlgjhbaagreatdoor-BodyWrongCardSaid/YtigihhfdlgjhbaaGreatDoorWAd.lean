/- Part 4 of the proof that BodyWrong returns true, and leaves its arguments as they were, for every input, over a start where the listed variables hold what the program lays: the statement Rows.BodyWrongCardSaid. -/
import Derived.Test.YtigihhfdlgjhbaaGreatDoorWAc
import Derived.KernelRfl
import Derived.Laws.RangeString
set_option linter.unusedVariables false
set_option linter.unusedSimpArgs false
set_option maxRecDepth 100000
set_option maxHeartbeats 400000000
open Go.Proofs.Tryz (prog)
namespace Go.Am
section
variable {P:Program}
def fO:List (Nat × Option O)->Hs->Hs
 | [],H=>H
 | q :: l,H=>(fO l H).put q.1 q.2
theorem fC:∀ (l:List (Nat × Option O)) (H:Hs),(fO l H).next=H.next
 | [],_=>rfl
 | _ :: l,H=>fC l H
theorem aCo {j:Nat}{o:O}:∀ {l:List (Nat × Option O)} {H:Hs},(fO l H).get j=some o->(∃ a:Nat,l[a]?=some (j,some o)) ∨ (H.get j=some o∧∀ q ∈ l,q.1 ≠ j)
 | [],H,h=>.inr ⟨h,sm⟩
 | q :: l,H,h=>by
   by_cases e:j=q.1
   ·subst e
    have:q.2=some o:=by simpa [fO,Hs.put] using h
    exact .inl ⟨0,by rw [<- this];rfl⟩
   ·have h':(fO l H).get j=some o:=by simpa [fO,Hs.put,e] using h
    rcases aCo h' with ⟨a,ha⟩|⟨h1,h2⟩
    ·exact .inl ⟨a+1,by simpa using ha⟩
    ·exact .inr ⟨h1,fun x hx=>by
      rcases av.1 hx with rfl|hx
      ·exact fun e'=>e e'.symm
      ·exact h2 x hx⟩
def zD (R:Nat->Nat->Prop)(S:St):Nat->List (Option O)->Prop
 | _,[]=>True
 | n,none :: l=>zD R S (n+1) l
 | n,some o :: l=>(∃ o1,T.get fA n S.hp=some o1∧OI R o1 o)∧zD R S (n+1) l
theorem zD.get {R:Nat->Nat->Prop}{S:St}:∀ {l:List (Option O)} {n a:Nat} {o:O},zD R S n l->l[a]?=some (some o)->∃ o1,S.hs.get (n+a)=some o1∧OI R o1 o
 | [],_,_,_,_,h=>by simp at h
 | none :: l,n,0,o,hh,h=>by simp at h
 | some x :: l,n,0,o,hh,h=>by
   simp at h;subst h;exact hh.1
 | none :: l,n,a+1,o,hh,h=>by
   have:=zD.get (n:=n+1) (l:=l) hh (a:=a) (o:=o) (by simpa using h);rw [show n+(a+1)=n+1+a by omega];exact this
 | some x :: l,n,a+1,o,hh,h=>by
   have:=zD.get (n:=n+1) (l:=l) hh.2 (a:=a) (o:=o) (by simpa using h);rw [show n+(a+1)=n+1+a by omega];exact this
def aJt (gb:List (Nat × O))(q:Nat)(ids:List Nat)(n m:Nat)(ks2:List (Option O))(news:List O)(v2:V)(v:V)(S':St):Prop :=
 ∃ gs:List Nat,gs.Nodup∧(∀ g ∈ gs,n <= g)∧VI (mS gb q ids gs n m (m+news.length)) v v2∧zD (mS gb q ids gs n m (m+news.length)) S' (aI+q) ks2∧tP (mS gb q ids gs n m (m+news.length)) S' gs news
theorem fP.smallD (gb:List (Nat × O)){c:FuncId}{l l2:List V}(q:Nat){ids:List Nat}{ks os news:List O}{ks2:List (Option O)}{S0 S':St}{K:Hs}{v v2:V}(h:fP P c l S0.hs v S'.hs)(h0:S0.hs=dU (gb ++ kJ aI os) (St.hs ⟨.nil,aI+os.length⟩))(hgb:∀ p ∈ gb,p.1 < aI∧p.2.wr=false∧∃ o',K.get p.1=some o'∧OI (iC ids (aI+os.length)) o' p.2)
  (hfar:∀ a i:Nat,q <= a->ids[a]?=some i->aI <= i) (hids:∀ a b i:Nat,q <= a->ids[a]?=some i->ids[b]?=some i->a=b) (hro:∀ (a:Nat) (o:O),a < q->os[a]?=some o->o.wr=false) (hlen:ids.length=os.length) (hlen1:ks.length=os.length) (hlen2:ks2.length+q=os.length)
  (hat:∀ (a i:Nat) (o:O),ids[a]?=some i->ks[a]?=some o->K.get i=some o)
  (hin:∀ (a:Nat) (o' o:O),ks[a]?=some o'->os[a]?=some o->OI (iC ids (aI+os.length)) o' o) (hl:mJ (iC ids (aI+os.length)) l2 l)
  (hw:∀ (a:Nat) (o:O),ks2[a]?=some (some o)->o.wr=true) (hwn:∀ (a:Nat) (o:O),news[a]?=some o->o.wr=true) (hp:aJt gb q ids (aI+os.length) K.next ks2 news v2 v S') :
  fP P c l2 K v2 (eC news (fO ((ids.drop q).zip ks2) K)):=by
 obtain ⟨gs,hnd,hge,hv,hheld,hnews⟩:=hp
 have hn0:S0.hs.next=aI+os.length:=by rw [h0,iJ];rfl
 have hroF:∀ i,i < aI->roF q i=false:=fun i hi=>aGP hi
 have hroA:∀ a,roG gb q (aI+a)=roF q (aI+a):=fun a=>by
  unfold roG
  have:(gb.any fun p=>Nat.beq p.1 (aI+a))=false:=by
   rw [List.any_eq_false];intro p hp he;have:=aj he;have:=(hgb p hp).1;omega
  rw [this,Bool.or_false]
 have hgl:=hnews.length
 have hn':(eC news (fO ((ids.drop q).zip ks2) K)).next=K.next+news.length:=by rw [iS,fC]
 have hg0:∀ i,S0.hs.get i=if aI <= i∧i < aI+os.length then os[i - aI]? else (dU gb (St.hs ⟨.nil,aI+os.length⟩)).get i:=fun i=>by rw [h0,jE,pR]
 have hgm:∀ i o,(dU gb (St.hs ⟨.nil,aI+os.length⟩)).get i=some o->(i,o) ∈ gb:=fun i o h=>by
  rcases uQ h with h|h
  ·exact h
  ·rw [aER] at h;cases h
 have hroM:∀ i o,(i,o) ∈ gb->roG gb q i=true:=fun i o h=>by
  unfold roG;rw [Bool.or_eq_true];exact .inr (List.any_eq_true.2 ⟨_,h,sm⟩)
 have hg1:∀ i,(S0.hs.get i).isSome->(∃ a,i=aI+a∧a < os.length) ∨ ∃ o,(i,o) ∈ gb:=fun i hi=>by
  rw [hg0] at hi;by_cases hc:aI <= i∧i < aI+os.length
  ·exact .inl ⟨i - aI,om,om⟩
  ·rw [if_neg hc] at hi;obtain ⟨o,ho⟩:=bc.1 hi;exact .inr ⟨o,hgm i o ho⟩
 have eP:∀ a (ha:a < os.length),ids[a]?=some (ids[a]'(by omega)):=fun a ha=>ak _
 have hwr:∀ {R:Nat->Nat->Prop} {o1 o:O},OI R o1 o->o.wr=true->o1.wr=true:=fun h hw=>by
  cases h with
  | cells hc hf =>
    rename_i cs cs' e fl fl'
    cases fl' with
    | ro=>cases hw
    | ex=>cases fl <;> first|rfl|(exfalso;simp at hf)
    | rw=>cases fl <;> first|rfl|(exfalso;simp at hf)
  | part _=>cases hw
  | map _=>rfl
  | strIter _ _=>rfl
  | mapIter0=>rfl
  | mapIter _=>rfl
  | deferred=>rfl
 refine h.frame (roG gb q) (idF ids) (fun j=>gs.getD (j - K.next) 0) (by rw [hn0];omega) (fun i hi=>if_pos hi) (fun i i' hi hi' hr e=>?_) (fun i o ho=>?_) (by rw [hn0];exact hl) (by rw [hn0,hn'];exact hv) (by rw [hn'];omega)
  (fun j j' h1 h2 h3 h4 e=>?_) (fun j o ho=>?_)
 ·rcases hg1 i hi with ⟨a,rfl,ha⟩|⟨o,ho⟩
  case inr=>rw [hroM i o ho] at hr;cases hr
  rw [hroA] at hr
  rcases hg1 i' hi' with ⟨a',rfl,ha'⟩|⟨o,ho⟩
  case inr =>
   have hlt:=(hgb _ ho).1;have e2:idF ids i'=i':=if_pos hlt;rw [iG (eP a ha),e2] at e
   have hq:q <= a:=by
    rcases Nat.lt_or_ge a q with h'|h'
    ·rw [oW h'] at hr;cases hr
    ·exact h'
   have:=hfar a _ hq (eP a ha);have hlt':i' < aI:=hlt;omega
  rw [iG (eP a ha),iG (eP a' ha')] at e
  have hq:q <= a:=by
   rcases Nat.lt_or_ge a q with h'|h'
   ·rw [oW h'] at hr;cases hr
   ·exact h'
  have:=hids a a' _ hq (eP a ha) (by rw [eP a' ha',e]);rw [this]
 ·rcases hg1 i (by rw [ho];rfl) with ⟨a,rfl,ha⟩|⟨o1,ho1⟩
  case inr =>
   have hlt:=(hgb _ ho1).1;rw [hg0,if_neg om] at ho;have hm:=hgm i o ho;obtain ⟨_,hw0,o',hk0,hk1⟩:=hgb _ hm;refine ⟨by rw [hn0];omega,fun _=>hw0,o',?_,by rw [hn0];exact hk1⟩;have e2:idF ids i=i:=if_pos hlt;rw [e2];exact hk0
  rw [hg0,if_pos ⟨om,om⟩,show aI+a - aI=a by omega] at ho;rw [hroA];have hk:ks[a]?=some (ks[a]'(by omega)):=ak _;refine ⟨by rw [hn0];omega,fun hr=>hro a o ?_ ho,ks[a]'(by omega),?_,?_⟩
  ·rcases Nat.lt_or_ge a q with h'|h'
   ·exact h'
   ·rw [uT h'] at hr;cases hr
  ·rw [iG (eP a ha)];exact hat a _ _ (eP a ha) hk
  ·rw [hn0];exact hin a _ _ hk ho
 ·have e':gs.getD (j - K.next) 0=gs.getD (j' - K.next) 0:=e;rw [hn'] at h2 h4;have l1:j - K.next < gs.length:=om;have l2:j' - K.next < gs.length:=om;simp only [List.getD,ak l1,ak l2,Option.getD_some] at e';have:=nA hnd l1 l2 e';omega
 ·rw [hn0,hn']
  rcases wL ho with ⟨a,h1,h2⟩|h1
  ·rw [fC] at h2;obtain ⟨g,o1,p,q',r⟩:=hnews.get h1;subst h2;refine .inl ⟨g,o1,mS.new (gb:=gb) (q:=q) (ids:=ids) (gs:=gs) p (hge g (List.mem_of_getElem? p)) ?_,q',r,hwr r (hwn a o h1)⟩;have:=(ao.1 h1).1;omega
  ·rcases aCo h1 with ⟨a,h2⟩|⟨h2,h3⟩
   ·rw [List.getElem?_zip_eq_some] at h2;obtain ⟨o1,p,q'⟩:=hheld.get h2.2
    have hd:ids[q+a]?=some j:=by rw [<- List.getElem?_drop];exact h2.1
    have ha:q+a < os.length:=by have:=(ao.1 hd).1;omega
    exact .inl ⟨aI+q+a,o1,by rw [Nat.add_assoc];exact mS.at (gb:=gb) (q:=q) (ids:=ids) (gs:=gs) hd om (by rw [hroA];exact uT om),p,q',hwr q' (hw a o h2.2)⟩
   ·refine .inr ⟨h2,fun i hi hj hr=>?_⟩
    cases hgi:S0.hs.get i with
    | none=>rfl
    | some o1 =>
      exfalso
      rcases hg1 i (by rw [hgi];rfl) with ⟨a,rfl,ha⟩|⟨o2,ho2⟩
      case inr=>rw [hroM i o2 ho2] at hr;cases hr
      rw [hroA] at hr;rw [iG (eP a ha)] at hj
      have hq:q <= a:=by
       rcases Nat.lt_or_ge a q with h'|h'
       ·rw [oW h'] at hr;cases hr
       ·exact h'
      have hz:((ids.drop q).zip ks2)[a - q]?=some (j,ks2[a - q]'(by omega)):=by
       rw [List.getElem?_zip_eq_some];refine ⟨?_,ak _⟩;rw [List.getElem?_drop,show q+(a - q)=a by omega,eP a ha,hj]
      exact h3 _ (List.mem_of_getElem? hz) rfl
theorem RC.small2 (hm:P.follows .mixedOrders=true){c:FuncId}{n:Nat}{rs:List ResultVar}{code:Code}(hf:bB P c n rs code)(gb:List (Nat × O)){l l2:List V}(q:Nat)(ids:List Nat)(ks os:List O)(ks2:List (Option O))(news:List O){S:St}{v2:V}{k:V->St->Prop}
  (hgb:∀ p ∈ gb,p.1 < aI∧p.2.wr=false∧∃ o',S.hs.get p.1=some o'∧OI (iC ids (aI+os.length)) o' p.2) (hfar:∀ a i:Nat,q <= a->ids[a]?=some i->aI <= i)
  (hids:∀ a b i:Nat,q <= a->ids[a]?=some i->ids[b]?=some i->a=b) (hro:∀ (a:Nat) (o:O),a < q->os[a]?=some o->o.wr=false) (hlen:ids.length=os.length) (hlen1:ks.length=os.length) (hlen2:ks2.length+q=os.length)
  (hat:∀ (a i:Nat) (o:O),ids[a]?=some i->ks[a]?=some o->S.hs.get i=some o)
  (hin:∀ (a:Nat) (o' o:O),ks[a]?=some o'->os[a]?=some o->OI (iC ids (aI+os.length)) o' o) (hl:mJ (iC ids (aI+os.length)) l2 l)
  (hw:∀ (a:Nat) (o:O),ks2[a]?=some (some o)->o.wr=true) (hwn:∀ (a:Nat) (o:O),news[a]?=some o->o.wr=true)
  (hrun:dJ (gb ++ kJ aI os) ⟨.nil,aI+os.length⟩ (uV P n rs code l (aJt gb q ids (aI+os.length) S.next ks2 news v2)))
  (hr:S.next+news.length < room) (hir:∀ i ∈ ids,i < room) (hk:∀ S':St,S'.hs=eC news (fO ((ids.drop q).zip ks2) S.hs)->k v2 S'):RC P c l2 S k:=by
 obtain ⟨S0,h1,h0⟩:=fF hrun
 have hX:oY P []:=fun q h=>by cases h
 obtain ⟨v,S',h2,h3⟩:=iE hX fL fM oM (evDraw_ok hm fL fM) c l S0 _ (aG hf h1);have:=h3.smallD gb q h0 hgb hfar hids hro hlen hlen1 hlen2 hat hin hl hw hwn h2
 have hex:∃ S':St,S'.hs=eC news (fO ((ids.drop q).zip ks2) S.hs):=by
  have hnews:∀ (l:List O) (S:St),S.next+l.length < room->∃ S':St,S'.hs=eC l S.hs:=by
   intro l
   induction l with
   | nil=>exact fun S _=>⟨S,rfl⟩
   | cons o l ih =>
     intro S hn
     have:∃ S1:St,S1.hs=S.hs.new o:=by
      have hq:bK o S fun _ S'=>∃ S1:St,S1.hs=S.hs.new o:=aD (by simp at hn;omega) fun S1 h=>⟨S1,h⟩
      obtain ⟨_,h,_⟩:=eI hq;exact h
     obtain ⟨S1,e1⟩:=this;obtain ⟨S2,e2⟩:=ih S1 (by have:=aF e1;simp at hn;omega);exact ⟨S2,by rw [e2,e1];rfl⟩
  have hupd:∀ (l:List (Nat × Option O)) (S:St),(∀ x ∈ l,x.1 < room)->∃ S':St,S'.hs=fO l S.hs:=by
   intro l
   induction l with
   | nil=>exact fun S _=>⟨S,rfl⟩
   | cons x l ih =>
     intro S hn;obtain ⟨S1,e1⟩:=ih S fun y hy=>hn y (by simp [hy]);have hq:bD x.1 x.2 S1 fun _=>∃ S2:St,S2.hs=S1.hs.put x.1 x.2:=aE (hn x sm) fun S2 h=>⟨S2,h⟩
     obtain ⟨_,⟨S2,h2⟩,_⟩:=bS hq;exact ⟨S2,by rw [h2,e1];rfl⟩
  obtain ⟨S1,e1⟩:=hupd ((ids.drop q).zip ks2) S fun x hx=>hir x.1 (List.mem_of_mem_drop (List.of_mem_zip (show (x.1,x.2) ∈ _ from hx)).1)
  obtain ⟨S2,e2⟩:=hnews news S1 (by
   have:S1.next=S.next:=by
    have:=congrArg Hs.next e1;rw [fC] at this;exact this
   omega)
  exact ⟨S2,by rw [e2,e1]⟩
 obtain ⟨S2,e2⟩:=hex;exact .mk v2 S2 (by rw [e2];exact this) (hk S2 e2)
end
section
variable {P:Program}
def Gb (gb:List (Nat × O))(S:St):Prop:=∀ p ∈ gb,p.1 < aI∧p.2.wr=false∧S.hs.get p.1=some p.2∧∀ ids n,aI <= n->OI (iC ids n) p.2 p.2
theorem Gb.nil (S:St):Gb [] S:=fun _ h=>by cases h
theorem Gb.cons {p:Nat × O}{gb:List (Nat × O)}{S:St}(h1:p.1 < aI)(h2:p.2.wr=false)(h3:S.hs.get p.1=some p.2)(h4:∀ ids n,aI <= n->OI (iC ids n) p.2 p.2)(h:Gb gb S):Gb (p :: gb) S:=fun q hq=>by
 rcases av.1 hq with rfl|hq
 ·exact ⟨h1,h2,h3,h4⟩
 ·exact h q hq
theorem Gb.to {gb:List (Nat × O)}{S S':St}(h:Gb gb S)(hs:∀ p ∈ gb,S'.hs.get p.1=some p.2):Gb gb S':=fun p hp=>⟨(h p hp).1,(h p hp).2.1,hs p hp,(h p hp).2.2.2⟩
theorem aED {R:Nat->Nat->Prop}{cs:List V}{e:TypeId}(h:V.flat.V.flatL cs=true):OI R (.cells cs e .ro) (.cells cs e .ro):=.cells (cB h) (.inl rfl)
theorem Gb.small {gb:List (Nat × O)}{S:St}(h:Gb gb S)(ids:List Nat)(m:Nat):∀ p ∈ gb,p.1 < aI∧p.2.wr=false∧∃ o',S.hs.get p.1=some o'∧OI (iC ids (aI+m)) o' p.2:=fun p hp =>
 ⟨(h p hp).1,(h p hp).2.1,p.2,(h p hp).2.2.1,(h p hp).2.2.2 ids _ (Nat.le_add_right _ _)⟩
theorem RC.pureG (hm:P.follows .mixedOrders=true){c:FuncId}{n:Nat}{rs:List ResultVar}{code:Code}(hf:bB P c n rs code)(gb:List (Nat × O)){l:List V}{S:St}{v:V}{k:V->St->Prop}(hgb:Gb gb S)(hk:k v S)
  (hrun:dJ gb ⟨.nil,aI⟩ (uV P n rs code l (fun u _=>u=v))) (hv:v.flat=true:=by rfl) (hl:V.flat.V.flatL l=true:=by rfl):RC P c l S k:=by
 have hX:oY P []:=fun q h=>by cases h
 obtain ⟨S0,h1,h0⟩:=fF hrun;obtain ⟨u,S',h2,h3⟩:=iE hX fL fM oM (evDraw_ok hm fL fM) c l S0 _ (aG hf h1);subst h2
 have:=h3.smallD gb (K:=S.hs) (l2:=l) (v2:=u) 0 (ids:=[]) (ks:=[]) (os:=[]) (ks2:=[]) (news:=[]) (by rw [h0];simp [kJ]) (hgb.small [] 0) sm sm sm rfl rfl rfl sm sm (cB hl) sm sm
  ⟨[],bj,sm,qE hv,trivial,trivial⟩
 exact .mk u S this hk
end
section
variable {P:Program} {E E1:Env} {S S1:St} {base i wr seen anc dw own wr' seen' sd:Nat} {ops:List Oper} {l:List Oper} {o:Oper} {ancs:List (Nat × Nat × Nat × Nat)} {pe pe':List (Nat × Nat × O)} {chs:List Ch} {rds:List Rd} {als:List (Nat × Nat)} {K:Dr->Prop} {v:V}
noncomputable def aIB (P:Program)(base:Nat)(ops l:List Oper)(o:Oper)(i:Nat)(ancs:List (Nat × Nat × Nat × Nat))(wr seen:Nat)(E:Env)(pe:List (Nat × Nat × O))(chs:List Ch)(rds:List Rd)(als:List (Nat × Nat))(K:Dr->Prop):V->St->Prop :=
 rD fun v S'=>cW E o.dst v fun E1=>drOps P (RC P) (RD P) base ops l i ancs wr seen ⟨E1,S',pe,chs,rds,als⟩ K
theorem dK {f:cG->bQ->OpT}{A:(V->St->Prop)->Prop}(hc:rM P o.op=.chain f)(hm:∀ Q:List (Nat × Nat × O)->St->Prop,Q pe' S1->nY anc pe S Q)(hA:∀ Q:V->St->Prop,A Q->f (RC P) (RD P) E S1 Q)
  (h:A (aIB P base ops l o (Nat.succ i) ((anc,dw,sd,own) :: ancs) wr' seen' E pe' (⟨i,anc,S⟩ :: chs) rds als K))
  (hs:kD ops i ancs wr seen o=.ok anc dw own wr' seen':=by exact rfl) (hd:dV o.dst=sd:=by exact rfl) (hg:∀ Y N:Prop,Y->dL E ops o.guard Y N:=by intro _ _ hy;(conv=>whnf);exact hy)
  (ha:List.rec (motive:=fun _=>Bool) true (fun c _ _=>aU anc c.idx) chs=true:=by kernel_rfl):evD P base ops (o :: l) i ancs wr seen ⟨E,S,pe,chs,rds,als⟩ K :=
 aNK hs hd hg hc ha hm fun Q hQ=>by
  have e:Q=aIB P base ops l o (Nat.succ i) ((anc,dw,sd,own) :: ancs) wr' seen' E pe' (⟨i,anc,S⟩ :: chs) rds als K:=by
   funext v S'
   rw [hQ];unfold aIB;rw [bL]
  rw [e];exact hA _ h
theorem eV (hp:∀ Q:Env->Prop,Q E1->cW E o.dst v Q)(h:evD P base ops l i ancs wr seen ⟨E1,S,pe,chs,rds,als⟩ K):aIB P base ops l o i ancs wr seen E pe chs rds als K v S:=by unfold aIB;rw [bL];exact hp _ h
end
section
variable {P:Program} {E:Env} {S:St}
theorem aOd {ops l:List Oper}{o:Oper}{K:Env->St->Prop}{t u:TypeId}{x y:Operand}{a b:IntKind}{n m r:Nat}(ho:o.op=.binOp .shl t x y u)(hg:∀ A B:Prop,A->dL E ops o.guard A B)
  (hx:∀ Q:V->Prop,Q (.int a (.ofNat n))->eZ E x Q) (hy:∀ Q:V->Prop,Q (.int b (.ofNat m))->eZ E y Q)
  (hr:a.wrap (Int.ofNat n * 2 ^ min m a.bits)=Int.ofNat r) (h:kOp P ops l o E K (.int a (.ofNat r)) S):evL P ops (o :: l) E S K:=by
 refine aQH (A:=fun Q=>Q (.int a (.ofNat r)) S) (fun Q hQ=>hg _ _ ?_) h;rw [ho];show eZ E x fun v=>eZ E y fun u=>aEq P (isC x || isC y) t .shl v u fun v=>Q v S;refine hx _ (hy _ ?_);show fI (a.wrap (Int.ofNat n * 2 ^ min m a.bits)) fun n=>Q (.int a n) S;rw [hr];exact bR hQ
end
structure Grew (S S':St)(p n:Nat):Prop where
 keep:∀ id,id < S.next->id ≠ p->S'.hs.get id=S.hs.get id
 lo:S.next <= S'.next
 hi:S'.next <= S.next+n
theorem Grew.refl (S:St)(p n:Nat):Grew S S p n:=⟨fun _ _ _=>rfl,af _,Nat.le_add_right _ _⟩
theorem Grew.put {S S1 S2:St}{p n id0:Nat}{o:Option O}(h:Grew S S1 p n)(h2:S2.hs=S1.hs.put id0 o)(hi:id0=p ∨ S.next <= id0):Grew S S2 p n :=
 ⟨fun id h1 hp=>by rw [aB h2 om];exact h.keep id h1 hp,by rw [aK h2];exact h.lo,by rw [aK h2];exact h.hi⟩
theorem Grew.new {S S1 S2:St}{p n m:Nat}{o:O}(h:Grew S S1 p n)(h2:S2.hs=S1.hs.new o)(hm:n+1 <= m):Grew S S2 p m :=
 ⟨fun id h1 hp=>by have:=h.lo;rw [aC h2 om];exact h.keep id h1 hp,by have:=h.lo;rw [aF h2];omega,by have:=h.hi;rw [aF h2];omega⟩
theorem Grew.trans {S S1 S2:St}{p q n m t:Nat}(h:Grew S S1 p n)(h2:Grew S1 S2 q m)(hq:q=p ∨ S.next <= q)(hm:n+m <= t):Grew S S2 p t :=
 ⟨fun id h1 hp=>by have:=h.lo;rw [h2.keep id om om];exact h.keep id h1 hp,bg h.lo h2.lo,by have:=h.hi;have:=h2.hi;omega⟩
theorem Grew.le {S S1:St}{p n m:Nat}(h:Grew S S1 p n)(hm:n <= m):Grew S S1 p m:=⟨h.keep,h.lo,by have:=h.hi;omega⟩
theorem Grew.at {S S1:St}{p n id:Nat}{o:O}(h:Grew S S1 p n)(ho:S.hs.get id=some o)(hl:id < S.next)(hp:id ≠ p):S1.hs.get id=some o:=by rw [h.keep id hl hp];exact ho
theorem aX {P:Program}{t:TypeId}(ha:pY P t=some true){n:Nat}(hn:(P.info? t).map (fun i=>i.size)=some n){cs xs:List V}{off:Nat}{k:V->Prop}(hl:off+n <= cs.length)(hx:(cs.drop off).take n=xs)(h:k (.agg xs)):cR P t off cs k:=by
 unfold cR;rw [ha];show uW P t fun n=>kM off cs fun r=>fX n r fun r=>k (.agg r);unfold uW
 cases hi:P.info? t with
 | none=>rw [hi] at hn;cases hn
 | some i =>
   rw [hi] at hn;have hs:i.size=n:=Option.some.inj hn;show kM off cs fun r=>fX i.size r fun r=>k (.agg r);rw [hs];refine bY om (bJ (by rw [List.length_drop];omega) ?_);rw [hx];exact h
theorem rT:∀ {l:List aY} {rest:List V} {j:Nat} (h:j < l.length),((cellsOf l ++ rest).drop (2 * j)).take 2=[.str l[j].1,.str l[j].2]
 | q :: l,rest,0,_=>rfl
 | q :: l,rest,j+1,h=>rT (l:=l) (rest:=rest) (j:=j) (by simpa using h)
section
variable {P:Program}
def Wf (S:St):Prop:=∀ id,S.next <= id->id < room->S.hs.get id=none
theorem Wf.put {S S2:St}{id0:Nat}{o:Option O}(h:Wf S)(h2:S2.hs=S.hs.put id0 o)(hi:id0 < S.next):Wf S2:=fun id h1 h3=>by
 rw [aK h2] at h1;rw [aB h2 om];exact h id h1 h3
theorem Wf.new {S S2:St}{o:O}(h:Wf S)(h2:S2.hs=S.hs.new o):Wf S2:=fun id h1 h3=>by
 rw [aF h2] at h1;rw [aC h2 om];exact h id om h3
theorem aUj:∀ (l:List (Nat × Option O)) (S:St),(∀ x ∈ l,x.1 < room)->∃ S':St,S'.hs=fO l S.hs:=by
 intro l
 induction l with
 | nil=>exact fun S _=>⟨S,rfl⟩
 | cons x l ih =>
   intro S hn;obtain ⟨S1,e1⟩:=ih S fun y hy=>hn y (by simp [hy]);have hq:bD x.1 x.2 S1 fun _=>∃ S2:St,S2.hs=S1.hs.put x.1 x.2:=aE (hn x sm) fun S2 h=>⟨S2,h⟩
   obtain ⟨_,⟨S2,h2⟩,_⟩:=bS hq;exact ⟨S2,by rw [h2,e1];rfl⟩
theorem aKD {j:Nat}:∀ {l:List (Nat × Option O)} {H:Hs},(∀ q ∈ l,q.1 ≠ j)->(fO l H).get j=H.get j
 | [],H,_=>rfl
 | q :: l,H,h=>by
   have h1:=h q sm
   have:(fO (q :: l) H).get j=(fO l H).get j:=by simp [fO,Hs.put,Ne.symm h1]
   rw [this];exact aKD fun x hx=>h x (by simp [hx])
theorem aDS {j:Nat}:∀ {l:List (Nat × Option O)} {H:Hs},(∀ q ∈ l,q.2=none)->(∃ q ∈ l,q.1=j)->(fO l H).get j=none
 | [],H,_,⟨_,h,_⟩=>by cases h
 | q :: l,H,hn,⟨x,hx,e⟩=>by
   by_cases hq:j=q.1
   ·have:(fO (q :: l) H).get j=q.2:=by simp [fO,Hs.put,hq]
    rw [this];exact hn q sm
   ·have:(fO (q :: l) H).get j=(fO l H).get j:=by simp [fO,Hs.put,hq]
    rw [this];refine aDS (fun y hy=>hn y (by simp [hy])) ⟨x,?_,e⟩
    rcases av.1 hx with rfl|hx
    ·exact absurd e.symm hq
    ·exact hx
theorem aWt (S:St):∃ S':St,Wf S'∧S'.next=S.next∧(∀ id,id < S.next->S'.hs.get id=S.hs.get id)∧Sub S'.hs S.hs:=by
 let l:List (Nat × Option O):=(List.range' S.next (room - S.next)).map fun i=>(i,none)
 have hl:∀ x ∈ l,S.next <= x.1∧x.1 < room∧x.2=none:=fun x hx=>by
  obtain ⟨i,hi,rfl⟩:=List.mem_map.1 hx;rw [List.mem_range'_1] at hi;exact ⟨hi.1,by show i < room;omega,rfl⟩
 obtain ⟨S',hS'⟩:=aUj l S fun x hx=>(hl x hx).2.1
 have hn:S'.next=S.next:=by have:=congrArg Hs.next hS';rw [fC] at this;exact this
 refine ⟨S',fun id h1 h2=>?_,hn,fun id h1=>?_,fun id o ho=>?_,?_⟩
 ·rw [hS'];exact aDS (fun q hq=>(hl q hq).2.2) ⟨(id,none),List.mem_map.2 ⟨id,by rw [List.mem_range'_1];omega,rfl⟩,rfl⟩
 ·rw [hS'];exact aKD fun q hq=>by have:=(hl q hq).1;omega
 ·rw [hS'] at ho
  rcases aCo ho with ⟨a,ha⟩|⟨h1,_⟩
  ·have:=(hl _ (List.mem_of_getElem? ha)).2.2;cases this
  ·exact h1
 ·show S.next <= S'.next;omega
theorem RC.wf {g:FuncId}{l:List V}{S:St}{k:V->St->Prop}(h:RC P g l S fun v S'=>∀ S'',Wf S''->S''.next=S'.next->(∀ id,id < S'.next->S''.hs.get id=S'.hs.get id)->k v S''):RC P g l S k :=
 h.gc fun v S' hk=>by
  obtain ⟨S'',h1,h2,h3,h4⟩:=aWt S';exact ⟨S'',h4,hk S'' h1 h2 h3⟩
theorem aIW {id:Nat}{o:Option O}{S:St}(hn:id < room):∃ S':St,S'.hs=S.hs.put id o∧∀ k:St->Prop,k S'->bD id o S k:=by
 cases S
 rename_i hp nx
 obtain ⟨t',ht⟩:=T.set_ex (x:=o) (d:=fA) (n:=id) (t:=hp) (sO hn);have hk:bD id o ⟨hp,nx⟩ fun S'=>S'=⟨t',nx⟩:=ht _ rfl;obtain ⟨S',h2,h3⟩:=bS hk;exact ⟨⟨t',nx⟩,by rw [<- h2];exact h3,fun k hk=>ht _ hk⟩
theorem RD.run (hm:P.follows .mixedOrders=true){id:Nat}{l:List V}{S:St}{k:V->St->Prop}(h:aAp P (RC P) (RD P) (LQ P) (cZ P (RC P) (RD P)) id l S k):RD P id l S k:=by
 obtain ⟨v,S',h1,h2⟩:=vT fL fM oM (evDraw_ok hm fL fM) id l S k h;exact .mk v S' h2 h1
theorem jZ {S:St}{id:Nat}{k:LoopState->Option Code->Env->List Tmp->Code->Code->Nat->Prop}{st:LoopState}{pe:Option Code}{E:Env}{ps:List Tmp}{a b:Code}{d:Nat}(h:S.hs.get id=some (.loop st pe E ps a b d))(hk:k st pe E ps a b d):qZ S id k:=by
 have h':T.get fA id S.hp=some (.loop st pe E ps a b d):=h;unfold qZ;rw [h'];exact hk
noncomputable def aBy (l:Nat)(k:V->St->Prop):KT:=rD fun x _ _ S=>qZ S l fun _ _ E' ps a b' d=>X.casesOn x (bD l (some (.loop .ready none E' ps a b' d)) S fun S=>k (.bool true) S)
 (fun id=>bD l (some (.loop .done (some (.exit id)) E' ps a b' d)) S fun S=>k (.bool false) S)
 (bD l (some (.loop .done (some .ret) E' ps a b' d)) S fun S=>k (.bool false) S) (fun _=>False)
noncomputable def aQS (P:Program)(l:Nat)(b:Code)(k:V->St->Prop):KT:=rD fun x E D S=>X.casesOn x
 (qZ S l fun st pe E' ps a b' d=>match st with
  | .ready=>bD l (some (.loop .busy pe E' ps a b' d)) S fun S=>zJ P (some l) b E D S (aBy l k)
  | _=>False) (fun _=>False) False (fun _=>False)
theorem aEG (hm:P.follows .mixedOrders=true){l:Nat}{args:List V}{S:St}{k:V->St->Prop}{st:LoopState}{pe:Option Code}{E0:Env}{ps:List Tmp}{a b:Code}{d:Nat}(E1:Env)(hl:S.hs.get l=some (.loop st pe E0 ps a b d))(hp:∀ Q:Env->Prop,Q E1->sY ps args E0 Q)
  (h:zJ P (some l) a E1 [] S (aQS P l b k)):RD P l args S k:=by
 refine .run hm ?_;unfold aAp;refine jZ hl (hp _ ?_);unfold aQS aBy at h;simp only [bL] at h;exact h
theorem aOA {l:Nat}{b b' a:Code}{k:V->St->Prop}{E E':Env}{D:List Df}{S:St}{pe:Option Code}{ps:List Tmp}{d:Nat}(hl:S.hs.get l=some (.loop .ready pe E' ps a b' d))(h:bD l (some (.loop .busy pe E' ps a b' d)) S fun S=>zJ P (some l) b E D S (aBy l k)):aQS P l b k .normal E D S:=by
 unfold aQS;rw [bL];exact jZ hl h
theorem aOB {l:Nat}{k:V->St->Prop}{E E':Env}{D:List Df}{S:St}{st:LoopState}{pe:Option Code}{ps:List Tmp}{a b':Code}{d:Nat}(hl:S.hs.get l=some (.loop st pe E' ps a b' d))(h:bD l (some (.loop .ready none E' ps a b' d)) S fun S=>k (.bool true) S):aBy l k .normal E D S:=by
 unfold aBy;rw [bL];exact jZ hl h
theorem aTY {l:Nat}{k:V->St->Prop}{E E':Env}{D:List Df}{S:St}{st:LoopState}{pe:Option Code}{ps:List Tmp}{a b':Code}{d:Nat}(hl:S.hs.get l=some (.loop st pe E' ps a b' d))(h:bD l (some (.loop .done (some .ret) E' ps a b' d)) S fun S=>k (.bool false) S):aBy l k .ret E D S:=by
 unfold aBy;rw [bL];exact jZ hl h
noncomputable def aLF (l:Nat)(E:Env)(D:List Df)(k:KT):V->St->Prop:=rD fun _ S=>qZ S l fun st pe E' ps a b d=>match st with
 | .busy=>False
 | _=>bD l (some (.loop .exhausted pe E' ps a b d)) S fun S=>match pe with
   | none=>k .normal E D S
   | some .ret=>k .ret E D S
   | some (.exit id)=>k (.exit id) E D S
   | _=>False
theorem aEF {f:Operand}{ps:Array Tmp}{a b:Code}{E:Env}{D:List Df}{S:St}{k:KT}{g:FuncId}{ar caps:List V}(hf:∀ Q:V->Prop,Q (.func (.func g) ar caps)->eZ E f Q)(hb:aJI P (.func (.func g) ar caps)=true)(hn:S.next+1 < room)
  (h:∀ (S1 S2:St) (o:O),o=.loop .ready none E ps.toList a b S.next->S1.hs=S.hs.new .deferred->S2.hs=S1.hs.new o->RC P g ((ar ++ [.yield S1.next]) ++ caps) S2 (aLF S1.next E (.mark S.next :: D) k)):zJ P none (.rangeFunc f ps a b) E D S k:=by
 show bK .deferred S fun d S=>xZ P (RC P) (RD P) f ps.toList a b d E (.mark d :: D) S k;refine aD om fun S1 h1=>?_;have n1:=aF h1;refine aD (S:=S1) om fun S2 h2=>?_;refine hf _ (ifK_intro hb ?_);show nH ar [.yield S1.next] fun l=>nH l caps fun l=>RC P g l S2 _;refine bZ (bZ ?_);have h:=h S1 S2 _ rfl h1 h2;unfold aLF at h;rw [bL] at h;exact h
theorem aOC {l:Nat}{E E':Env}{D:List Df}{k:KT}{v:V}{S:St}{ps:List Tmp}{a b:Code}{d:Nat}(hl:S.hs.get l=some (.loop .ready none E' ps a b d))(h:bD l (some (.loop .exhausted none E' ps a b d)) S fun S=>k .normal E D S):aLF l E D k v S:=by
 unfold aLF;rw [bL];exact jZ hl h
theorem aTS {l:Nat}{E E':Env}{D:List Df}{k:KT}{v:V}{S:St}{ps:List Tmp}{a b:Code}{d:Nat}(hl:S.hs.get l=some (.loop .done (some .ret) E' ps a b d))(h:bD l (some (.loop .exhausted (some .ret) E' ps a b d)) S fun S=>k .ret E D S):aLF l E D k v S:=by
 unfold aLF;rw [bL];exact jZ hl h
end
section
variable {P:Program}
theorem pZ:∀ {l:List (Nat × O)} {S:St} {k:St->Prop},(∀ q ∈ l,q.1 < room)->(∀ S':St,S'.hs=dU l S.hs->k S')->dJ l S k
 | [],S,k,_,h=>h S rfl
 | q :: l,S,k,hl,h=>by
   show bD q.1 (some q.2) S fun S1=>dJ l S1 k;exact aE (hl q sm) fun S1 h1=>pZ (fun x hx=>hl x (be _ hx)) fun S' h2=>h S' (by rw [h2,h1];rfl)
theorem aDH {j:Nat}:∀ {l:List (Nat × O)} {H:Hs},(∀ q ∈ l,q.1 ≠ j)->(dU l H).get j=H.get j
 | [],_,_=>rfl
 | q :: l,H,h=>by
   show (dU l (H.put q.1 (some q.2))).get j=_;rw [aDH fun x hx=>h x (by simp [hx])];exact if_neg (Ne.symm (h q sm))
theorem tI {q:Nat × O}:∀ {l:List (Nat × O)} {H:Hs},(l.map (·.1)).Nodup->q ∈ l->(dU l H).get q.1=some q.2
 | x :: l,H,hn,hq=>by
   rw [List.map_cons,List.nodup_cons] at hn;show (dU l (H.put x.1 (some x.2))).get q.1=_
   rcases av.1 hq with rfl|hq
   ·rw [aDH fun y hy e=>hn.1 (List.mem_map.2 ⟨y,hy,e⟩)];exact if_pos rfl
   ·exact tI hn.2 hq
theorem RC.ro (hm:P.follows .mixedOrders=true){c:FuncId}{n:Nat}{rs:List ResultVar}{code:Code}(hf:bB P c n rs code){gb:List (Nat × O)}{S:St}(hgb:Gb gb S)(hnd:(gb.map (·.1)).Nodup){i:Nat}{o o':O}(ho:S.hs.get i=some o)(hoi:OI (iC [i] (aI+1)) o o')(hro:o'.wr=false)(hir:i < room)(hr:S.next < room)
  {l l2:List V} (hl:mJ (iC [i] (aI+1)) l2 l) {v:V} (hv:v.flat=true) (hrun:∀ (S0:St) (K:V->St->Prop),S0.next=aI+1->S0.hs.get aI=some o'->Gb gb S0->(∀ S',K v S')->uV P n rs code l K S0) {k:V->St->Prop} (hk:∀ S':St,S'.hs=S.hs->k v S'):RC P c l2 S k:=by
 have hngl:aI=1000:=rfl;have hroom:room=4096:=rfl;refine RC.small2 hm hf gb 1 [i] [o] [o'] [] [] (hgb.small [i] 1) ?_ ?_ ?_ rfl rfl rfl ?_ ?_ hl sm sm ?_ (by simpa using hr) (by simpa using hir) hk
 ·intro a j h1 h2
  rcases a with _|a
  ·omega
  ·simp at h2
 ·intro a b j h1 h2
  rcases a with _|a
  ·omega
  ·simp at h2
 ·rintro (_|a) x h1 h2
  ·simp at h2;subst h2;exact hro
  ·simp at h2
 ·rintro (_|a) j x h1 h2
  ·simp at h1 h2;subst h1;subst h2;exact ho
  ·simp at h1
 ·rintro (_|a) x y h1 h2
  ·simp at h1 h2;subst h1;subst h2;exact hoi
  ·simp at h1
 ·have hlt:∀ p ∈ gb,p.1 < aI:=fun p hp=>(hgb p hp).1
  have hnd2:((gb ++ [(aI,o')]).map (·.1)).Nodup:=by
   rw [List.map_append,List.nodup_append];refine ⟨hnd,sm,fun a ha b hb e=>?_⟩;obtain ⟨p,hp,rfl⟩:=List.mem_map.1 ha;simp at hb;have:=hlt p hp;omega
  have hnum:kJ aI [o']=[(aI,o')]:=rfl;refine pZ (fun q hq=>?_) fun S0 h0=>?_
  ·rcases List.mem_append.1 hq with hq|hq
   ·have:=hlt q hq;omega
   ·rw [hnum,ay] at hq;subst hq;show aI < room;omega
  ·rw [hnum] at h0
   have hn0:S0.next=aI+1:=by have:=congrArg Hs.next h0;rw [iJ] at this;exact this
   exact hrun S0 _ hn0 (by rw [h0];exact tI (q:=(aI,o')) hnd2 sm) (fun p hp=>⟨(hgb p hp).1,(hgb p hp).2.1,by rw [h0];exact tI hnd2 (by simp [hp]),(hgb p hp).2.2.2⟩) fun S'=>⟨[],bj,sm,qE hv,trivial,trivial⟩
theorem wM {o:O}{S:St}{k:St->Prop}(hn:S.next < room)(h:∀ S',S'.hs=S.hs.new o->k S'):iX [o] S k:=by
 show bK o S fun _ S=>k S;exact aD hn h
end
section
variable {P:Program}
theorem qJ {j:Nat}:∀ {l:List O} {H:Hs},j < H.next->(eC l H).get j=H.get j
 | [],_,_=>rfl
 | o :: l,H,h=>by
   have h1:(H.new o).next=H.next+1:=rfl;show (eC l (H.new o)).get j=_;rw [qJ om];show (if j=H.next then some o else H.get j)=_;rw [if_neg om]
theorem aEQ {o:O}:∀ {l:List O} {H:Hs} {a:Nat},l[a]?=some o->(eC l H).get (H.next+a)=some o
 | x :: l,H,0,h=>by
   have h1:(H.new x).next=H.next+1:=rfl;show (eC l (H.new x)).get (H.next+0)=_;rw [qJ om];show (if H.next+0=H.next then some x else _)=_;rw [if_pos (show H.next+0=H.next from rfl)];simpa using h
 | x :: l,H,a+1,h=>by
   have h1:(H.new x).next=H.next+1:=rfl;show (eC l (H.new x)).get (H.next+(a+1))=_;rw [show H.next+(a+1)=(H.new x).next+a by omega];exact aEQ (by simpa using h)
theorem aDT {j:Nat}:∀ {l:List (Nat × Option O)} {H:Hs},(∀ q ∈ l,H.get q.1=q.2)->(fO l H).get j=H.get j
 | [],_,_=>rfl
 | q :: l,H,h=>by
   show (if j=q.1 then q.2 else (fO l H).get j)=_;by_cases e:j=q.1
   ·rw [if_pos e,e];exact (h q sm).symm
   ·rw [if_neg e];exact aDT fun x hx=>h x (by simp [hx])
theorem aKg:∀ (l:List O) (S:St),S.next+l.length < room->∃ S':St,S'.hs=eC l S.hs
 | [],S,_=>⟨S,rfl⟩
 | o :: l,S,hn=>by
   have:∃ S1:St,S1.hs=S.hs.new o:=by
    have hq:bK o S fun _ S'=>∃ S1:St,S1.hs=S.hs.new o:=aD (by simp at hn;omega) fun S1 h=>⟨S1,h⟩
    obtain ⟨_,h,_⟩:=eI hq;exact h
   obtain ⟨S1,e1⟩:=this;obtain ⟨S2,e2⟩:=aKg l S1 (by have:=aF e1;simp at hn;omega);exact ⟨S2,by rw [e2,e1];rfl⟩
theorem aFd:∀ (l:List (Nat × Option O)) (S:St),(∀ x ∈ l,x.1 < room)->∃ S':St,S'.hs=fO l S.hs
 | [],S,_=>⟨S,rfl⟩
 | x :: l,S,hn=>by
   obtain ⟨S1,e1⟩:=aFd l S fun y hy=>hn y (by simp [hy]);have hq:bD x.1 x.2 S1 fun _=>∃ S2:St,S2.hs=S1.hs.put x.1 x.2:=aE (hn x sm) fun S2 h=>⟨S2,h⟩
   obtain ⟨_,⟨S2,h2⟩,_⟩:=bS hq;exact ⟨S2,by rw [h2,e1];rfl⟩
theorem RC.small3 {c:FuncId}(gb:List (Nat × O)){l l2:List V}(q:Nat)(ids:List Nat)(ks os:List O){S:St}{k:V->St->Prop}
  (hgb:∀ p ∈ gb,p.1 < aI∧p.2.wr=false∧∃ o',S.hs.get p.1=some o'∧OI (iC ids (aI+os.length)) o' p.2) (hfar:∀ a i:Nat,q <= a->ids[a]?=some i->aI <= i)
  (hids:∀ a b i:Nat,q <= a->ids[a]?=some i->ids[b]?=some i->a=b) (hro:∀ (a:Nat) (o:O),a < q->os[a]?=some o->o.wr=false) (hlen:ids.length=os.length) (hlen1:ks.length=os.length)
  (hat:∀ (a i:Nat) (o:O),ids[a]?=some i->ks[a]?=some o->S.hs.get i=some o)
  (hin:∀ (a:Nat) (o' o:O),ks[a]?=some o'->os[a]?=some o->OI (iC ids (aI+os.length)) o' o) (hl:mJ (iC ids (aI+os.length)) l2 l)
  (hos:aI+os.length < room) (hir:∀ i ∈ ids,i < room)
  (hrun:∀ S0:St,S0.hs=dU (gb ++ kJ aI os) (St.hs ⟨.nil,aI+os.length⟩)->RC P c l S0 fun v S'=>∃ (ks2:List (Option O)) (news:List O) (v2:V),ks2.length+q=os.length∧(∀ (a:Nat) (o:O),ks2[a]?=some (some o)->o.wr=true)∧(∀ (a:Nat) (o:O),news[a]?=some o->o.wr=true)∧S.next+news.length < room∧aJt gb q ids (aI+os.length) S.next ks2 news v2 v S'∧∀ S2:St,S2.hs=eC news (fO ((ids.drop q).zip ks2) S.hs)->k v2 S2):RC P c l2 S k:=by
 have hroom:room=4096:=rfl;have hngl:aI=1000:=rfl
 have hb:dJ (gb ++ kJ aI os) ⟨.nil,aI+os.length⟩ fun S0=>S0.hs=dU (gb ++ kJ aI os) (St.hs ⟨.nil,aI+os.length⟩):=by
  refine pZ (fun x hx=>?_) fun S' h=>h
  rcases List.mem_append.1 hx with hx|hx
  ·have:=(hgb x hx).1;omega
  ·have:∀ (l:List O) (n:Nat),∀ x ∈ kJ n l,x.1 < n+l.length:=by
    intro l
    induction l with
    | nil=>intro n x hx;cases hx
    | cons o l ih =>
      intro n x hx
      rcases av.1 hx with rfl|hx
      ·simp
      ·have:=ih (n+1) x hx;simp;omega
   have:=this os aI x hx;omega
 obtain ⟨S0,h1,h0⟩:=fF hb
 cases hrun S0 h0 with
 | mk v S' h hp =>
   obtain ⟨ks2,news,v2,hlen2,hw,hwn,hr,hpost,hk⟩:=hp;have:=h.smallD gb q h0 hgb hfar hids hro hlen hlen1 hlen2 hat hin hl hw hwn hpost;obtain ⟨S1,e1⟩:=aFd ((ids.drop q).zip ks2) S fun x hx=>hir x.1 (List.mem_of_mem_drop (List.of_mem_zip (show (x.1,x.2) ∈ _ from hx)).1)
   obtain ⟨S2,e2⟩:=aKg news S1 (by
    have:S1.next=S.next:=by
     have:=congrArg Hs.next e1;rw [fC] at this;exact this
    omega)
   have e3:S2.hs=eC news (fO ((ids.drop q).zip ks2) S.hs):=by rw [e2,e1]
   exact .mk v2 S2 (by rw [e3];exact this) (hk S2 e3)
end
end Go.Am
namespace Go.Am
set_option maxRecDepth 100000
structure Abv (p b:Nat)(S S':St)(n:Nat):Prop where
 keep:∀ id,id < b->id ≠ p->S'.hs.get id=S.hs.get id
 lo:S.next <= S'.next
 hi:S'.next <= S.next+n
theorem Abv.refl (p b:Nat)(S:St)(n:Nat):Abv p b S S n:=⟨fun _ _ _=>rfl,Nat.le_refl _,Nat.le_add_right _ _⟩
theorem Abv.put {p b:Nat}{S S1 S2:St}{n id0:Nat}{o:Option O}(h:Abv p b S S1 n)(h2:S2.hs=S1.hs.put id0 o)(hi:id0=p ∨ b <= id0):Abv p b S S2 n :=
 ⟨fun id h1 hp=>by rw [aB h2 (by omega)];exact h.keep id h1 hp,by rw [aK h2];exact h.lo,by rw [aK h2];exact h.hi⟩
theorem Abv.new {p b:Nat}{S S1 S2:St}{n m:Nat}{o:O}(h:Abv p b S S1 n)(h2:S2.hs=S1.hs.new o)(hb:b <= S.next)(hm:n+1 <= m):Abv p b S S2 m :=
 ⟨fun id h1 hp=>by have:=h.lo;rw [aC h2 (by omega)];exact h.keep id h1 hp,by have:=h.lo;rw [aF h2];omega,by have:=h.hi;rw [aF h2];omega⟩
theorem Abv.trans {p b:Nat}{S S1 S2:St}{n m t:Nat}(h:Abv p b S S1 n)(h2:Abv p b S1 S2 m)(hm:n+m <= t):Abv p b S S2 t :=
 ⟨fun id h1 hp=>by rw [h2.keep id h1 hp];exact h.keep id h1 hp,Nat.le_trans h.lo h2.lo,by have:=h.hi;have:=h2.hi;omega⟩
theorem Abv.le {p b:Nat}{S S1:St}{n m:Nat}(h:Abv p b S S1 n)(hm:n <= m):Abv p b S S1 m:=⟨h.keep,h.lo,by have:=h.hi;omega⟩
theorem Grew.abv {S S1:St}{p n:Nat}(h:Grew S S1 p n){b:Nat}(hb:b <= S.next):Abv p b S S1 n:=⟨fun id h1 hp=>h.keep id (by omega) hp,h.lo,h.hi⟩
theorem Abv.at {p b:Nat}{S S1:St}{n id:Nat}{o:O}(h:Abv p b S S1 n)(ho:S.hs.get id=some o)(hl:id < b)(hp:id ≠ p):S1.hs.get id=some o:=by rw [h.keep id hl hp];exact ho
theorem LP.one {P:Program}(hm:P.follows .mixedOrders=true){ro:Option Nat}{c:Code}{E:Env}{D:List Df}{S:St}{k:KT}(h:zJ P ro c E D S (wG P ro c k)):LP P ro c E D S k :=
 .step' hm fun _ hK=>by subst hK;unfold wG at h;rw [bL] at h;exact h
theorem rec_ltI (y x:Int){A B:Prop}(h1:y < x->B)(h0:x <= y->A):Bool.rec (motive:=fun _=>Prop) A B (qG y x):=by
 rw [bF];by_cases h:y < x
 ·rw [decide_eq_true h];exact h1 h
 ·rw [decide_eq_false h];exact h0 (by omega)
theorem overA0 {post:List V}:∀ {xs mid:List V} {k:List V->Prop},mid.length=xs.length->k (xs ++ post)->eJ xs 0 (mid ++ post) k
 | [],[],k,_,h=>by cases post <;> exact h
 | [],_ :: _,k,hm,h=>by simp at hm
 | y :: xs,[],k,hm,h=>by simp at hm
 | y :: xs,m :: mid,k,hm,h=>by
   show eJ xs 0 (mid ++ post) fun r=>k (y :: r);exact overA0 (by simpa using hm) h
theorem wrA {P:Program}{t:TypeId}{xs:List V}{fl:Fl}{cs:List V}{K:List V->Prop}(hfl:fl ≠ .ro)(h1:(P.info? t).map (fun i=>i.size)=some xs.length)(h0:0 < xs.length)(hv:cQ xs=true)(hl:cs.length=xs.length)(hk:K xs) :
  wrK fl (uW P t fun n=>dD (Nat.beq (dH xs) n) (dD (Nat.blt 0 n) (dD (cQ xs) (eJ xs 0 cs K)))):=by
 have hw:∀ {k:Prop},k->wrK fl k:=fun {k} hk=>by cases fl <;> first|exact absurd rfl hfl|exact hk
 refine hw ?_;unfold uW
 cases hi:P.info? t with
 | none=>rw [hi] at h1;cases h1
 | some i =>
   rw [hi] at h1;have hs:i.size=xs.length:=Option.some.inj h1;show dD (Nat.beq (dH xs) i.size) (dD (Nat.blt 0 i.size) (dD (cQ xs) (eJ xs 0 cs K)));rw [hs];refine ifK_intro (by rw [aM];exact Nat.beq_refl _) (ifK_intro (Nat.ble_eq_true_of_le h0) (ifK_intro hv ?_));have:=overA0 (post:=[]) (xs:=xs) (mid:=cs) (k:=K) hl (by rw [List.append_nil];exact hk);rw [List.append_nil] at this;exact this
theorem d_readA {P:Program}{E E1:Env}{S:St}{base i wr seen anc dw own wr' seen' sd:Nat}{ops l:List Oper}{o:Oper}{ancs:List (Nat × Nat × Nat × Nat)}{pe:List (Nat × Nat × O)}{chs:List Ch}{rds:List Rd}{als:List (Nat × Nat)}{K:Dr->Prop}{v:V}(l1:List (Nat × Nat × O))
  (hc:rM P o.op=.read (gJ P o.op)) (hf:∀ Q:V->Prop,Q v->gZ 0 l1 S fun S=>gJ P o.op E S Q) (h:evD P base ops l (Nat.succ i) ((anc,dw,sd,own) :: ancs) wr' seen' ⟨E1,S,pe,chs,⟨o.op,i,anc,E,v,l1⟩ :: rds,als⟩ K)
  (hs:kD ops i ancs wr seen o=.ok anc dw own wr' seen':=by exact rfl) (ha:iY anc pe=l1:=by kernel_rfl) (hd:dV o.dst=sd:=by exact rfl) (hg:∀ Y N:Prop,Y->dL E ops o.guard Y N:=by intro _ _ hy;(conv=>whnf);exact hy)
  (hp:∀ Q:Env->Prop,Q E1->cW E o.dst v Q:=by intro Q hQ;(conv=>whnf);exact hQ):evD P base ops (o :: l) i ancs wr seen ⟨E,S,pe,chs,rds,als⟩ K:=by
 subst ha;exact dE hc hf h hs hd hg hp
theorem d_readH {P:Program}{E E1:Env}{S:St}{base i wr seen anc dw own wr' seen' sd:Nat}{ops l:List Oper}{o:Oper}{ancs:List (Nat × Nat × Nat × Nat)}{pe:List (Nat × Nat × O)}{chs:List Ch}{rds:List Rd}{als:List (Nat × Nat)}{K:Dr->Prop}{v:V}
  (hc:rM P o.op=.read (gJ P o.op)) (hf:∀ Q:V->Prop,Q v->gZ 0 (iY anc pe) S fun S=>gJ P o.op E S Q) (h:(∀ Q:V->Prop,Q v->gZ 0 (iY anc pe) S fun S=>gJ P o.op E S Q)->evD P base ops l (Nat.succ i) ((anc,dw,sd,own) :: ancs) wr' seen' ⟨E1,S,pe,chs,⟨o.op,i,anc,E,v,iY anc pe⟩ :: rds,als⟩ K)
  (hs:kD ops i ancs wr seen o=.ok anc dw own wr' seen':=by exact rfl) (hd:dV o.dst=sd:=by exact rfl) (hg:∀ Y N:Prop,Y->dL E ops o.guard Y N:=by intro _ _ hy;(conv=>whnf);exact hy)
  (hp:∀ Q:Env->Prop,Q E1->cW E o.dst v Q:=by intro Q hQ;(conv=>whnf);exact hQ):evD P base ops (o :: l) i ancs wr seen ⟨E,S,pe,chs,rds,als⟩ K:=aJM hs hd hg hc hf hp h
theorem putsK1 {q:Nat × Nat × O}{p:Nat}{S:St}{k:St->Prop}(h:bD q.2.1 (some q.2.2) S k)(hb:aU p q.1=false:=by kernel_rfl):gZ p [q] S k:=by
 show Bool.rec (motive:=fun _=>Prop) _ _ (aU p q.1);rw [hb];exact h
theorem rdx {A:(V->Prop)->Prop}{v:V}(h:∀ Q:V->Prop,Q v->A Q:=by
 first
 | assumption
 | (intro Q hQ
    conv=>whnf
    repeat (first
     | exact hQ
     | (refine aP ?_;conv=>whnf)
     | (refine bR ?_;conv=>whnf)
     | (unfold cR;conv=>whnf)))):∀ Q:V->Prop,Q v->A Q:=h
theorem mergeK_put {q:Nat × Nat × O}{p:Nat}{l:List (Nat × Nat × O)}{S:St}{k:List (Nat × Nat × O)->St->Prop}(h:bD q.2.1 (some q.2.2) S fun S=>nY p l S k)(hb:aU p q.1=true:=by kernel_rfl):nY p (q :: l) S k:=by
 show Bool.rec (motive:=fun _=>Prop) _ _ (aU p q.1);rw [hb];exact h
section
variable {P:Program} {E E1:Env} {S S1:St} {base i wr seen anc dw own wr' seen' sd:Nat} {ops:List Oper} {l:List Oper} {o:Oper} {ancs:List (Nat × Nat × Nat × Nat)} {pe pe':List (Nat × Nat × O)} {chs:List Ch} {rds:List Rd} {als:List (Nat × Nat)} {K:Dr->Prop} {v:V}
theorem n_dopA (h:evD P base ops l i ancs wr seen ⟨E1,S,pe,chs,rds,als⟩ K)(hp:∀ Q:Env->Prop,Q E1->cW E o.dst v Q:=by intro Q hQ;(conv=>whnf);exact hQ):aIB P base ops l o i ancs wr seen E pe chs rds als K v S:=eV hp h
theorem d_callA {f:cG->bQ->OpT}{A:(V->St->Prop)->Prop}(hc:rM P o.op=.chain f)(h:A (aIB P base ops l o (Nat.succ i) ((anc,dw,sd,own) :: ancs) wr' seen' E pe' (⟨i,anc,S⟩ :: chs) rds als K))
  (hs:kD ops i ancs wr seen o=.ok anc dw own wr' seen':=by exact rfl) (hd:dV o.dst=sd:=by exact rfl) (hg:∀ Y N:Prop,Y->dL E ops o.guard Y N:=by intro _ _ hy;(conv=>whnf);exact hy)
  (hm:∀ Q:List (Nat × Nat × O)->St->Prop,Q pe' S1->nY anc pe S Q:=by intro Q hQ;(conv=>whnf);exact hQ) (hA:∀ Q:V->St->Prop,A Q->f (RC P) (RD P) E S1 Q:=by intro Q hQ;(conv=>whnf);exact hQ)
  (ha:List.rec (motive:=fun _=>Bool) true (fun c _ _=>aU anc c.idx) chs=true:=by kernel_rfl):evD P base ops (o :: l) i ancs wr seen ⟨E,S,pe,chs,rds,als⟩ K:=dK hc hm hA h hs hd hg ha
end
theorem kq {E:Env}{n:Nat}{l:List (Nat × V)}(h:Kn E n l:=by refine ⟨rfl,?_⟩;repeat (first|exact trivial|refine ⟨rfl,?_⟩)):Kn E n l:=h
noncomputable def kGb (P:Program)(b:Nat)(c:Code)(k:KT):KT:=rD fun x E1 D1 S1=>X.casesOn x (∃ gs S2,aFo b gs S1 S2∧D1=[]∧LPB b P c (reE b gs E1) S2 k) (fun id=>k (.exit id) E1 D1 S1) (k .ret E1 D1 S1) (fun l=>k (.goto l) E1 D1 S1)
theorem LPB.kn {P:Program}(hm:P.follows .mixedOrders=true){b:Nat}{c:Code}{E:Env}{S:St}{k:KT}{n:Nat}{l:List (Nat × V)}(hb:b <= S.next)(hgl:aI <= b)(hf:Kn E n l)(h:zJ P none c (aCD E n l) [] S (kGb P b c k)):LPB b P c E S k:=by
 have:LPB b P c (aCD E n l) S k:=.gc hm hb hgl fun _ hK=>by subst hK;unfold kGb at h;rw [bL] at h;exact h
 cases this with
 | mk x E' D' S' h hk=>exact .mk x E' D' S' (fun ρ a w Q hE hD hg hs hQ=>h ρ a w Q (fun t v ht=>hE t v (hf.le t v ht)) hD hg hs hQ) hk
theorem n_gb {P:Program}{b:Nat}{c:Code}{k:KT}{E:Env}{D:List Df}{S1:St}(h:∃ gs S2,aFo b gs S1 S2∧D=[]∧LPB b P c (reE b gs E) S2 k):kGb P b c k .normal E D S1:=by unfold kGb;rw [bL];exact h
theorem x_gb {P:Program}{b:Nat}{c:Code}{k:KT}{E:Env}{D:List Df}{S1:St}{id:Nat}(h:k (.exit id) E D S1):kGb P b c k (.exit id) E D S1:=by unfold kGb;rw [bL];exact h
theorem r_gb {P:Program}{b:Nat}{c:Code}{k:KT}{E:Env}{D:List Df}{S1:St}(h:k .ret E D S1):kGb P b c k .ret E D S1:=by unfold kGb;rw [bL];exact h
theorem goB {A B:Prop}(a:A)(h:Hid A->B:=by
 intro hA
 repeat (first
  | refine aII (fun Q hQ=>by (conv=>whnf);exact hQ) ?_
  | refine aQH (fun Q hQ=>by (conv=>whnf);exact hQ) ?_
  | refine aSm ?_
  | refine aSA ?_
  | refine aSD ?_
  | refine aSq ?_
  | refine aSn ?_
  | refine aSl ?_
  | refine aOf (fun Q hQ=>by (conv=>whnf);exact hQ) ?_
  | refine aJT (fun Q hQ=>by (conv=>whnf);exact hQ) ?_
  | refine aOc ?_
  | refine aOe ?_
  | refine aOa ?_
  | refine aSo ?_
  | refine aSO ?_
  | refine aSH ?_
  | refine aSy ?_
  | refine aPK ?_
  | refine aPJ rfl ?_
  | refine aSE ?_
  | refine aSB ?_
  | refine aSM ?_
  | refine aSF ?_
  | refine aWa ?_
  | refine aWu ?_
  | refine n_gb ?_
  | refine x_gb ?_
  | refine r_gb ?_
  | refine aWf ?_
  | refine aSz (fun Q hQ=>by (conv=>whnf);exact hQ) ?_
  | refine aSp ?_
  | refine aSC ?_
  | refine aSN ?_
  | refine aSG ?_
  | refine aOb ?_
  | refine aJU ?_
  | refine aSt ?_
  | refine aSr ?_
  | refine aSs ?_
  | refine aVU ?_
  | refine aOq rfl ?_
  | refine aOp rfl ?_
  | (refine kN (by first|rfl|assumption) ?_;conv=>whnf)
  | (refine lG (by first|rfl|assumption) ?_;conv=>whnf)
  | (refine aP ?_;conv=>whnf)
  | (refine bR ?_;conv=>whnf)
  | (unfold cR;(conv=>whnf);refine aII (fun Q hQ=>by (conv=>whnf);exact hQ) ?_))
 exact hA.out):B:=h ⟨a⟩
theorem godB {A B:Prop}(a:A)(h:Hid A->B:=by
 intro hA
 repeat (first
  | refine jO ?_
  | (refine aV rfl (by
    intro Q hQ
    conv=>whnf
    repeat (first
     | exact hQ
     | (refine kN (by first|rfl|assumption) ?_;conv=>whnf)
     | (refine lG (by first|rfl|assumption) ?_;conv=>whnf)
     | (refine aP ?_;conv=>whnf)
     | (refine bR ?_;conv=>whnf))) ?_)
  | (refine dE rfl (by
    intro Q hQ
    conv=>whnf
    repeat (first
     | exact hQ
     | (refine aP ?_;conv=>whnf)
     | (refine bR ?_;conv=>whnf)
     | (unfold cR;conv=>whnf))) ?_)
  | (refine dE (hs:=rfl) rfl (by
    intro Q hQ
    conv=>whnf
    repeat (first
     | exact hQ
     | (refine aP ?_;conv=>whnf)
     | (refine bR ?_;conv=>whnf)
     | (unfold cR;conv=>whnf))) ?_)
  | refine aNE ?_
  | (refine aEt rfl (by intro Q hQ;(conv=>whnf);exact hQ) ?_)
  | refine zG ?_
  | refine aGz ?_
  | refine lY (by first|(simp;done)|(intro c hc;simp at hc;first|(rcases hc with rfl|rfl|rfl <;> exact ⟨rfl,rfl⟩)|(rcases hc with rfl|rfl <;> exact ⟨rfl,rfl⟩)|(rcases hc with rfl;exact ⟨rfl,rfl⟩))) (by assumption) (by first|exact oP _|exact vR _ _|exact gN _ _|rfl) (by first|exact .inl rfl|exact .inr rfl) ?_
  | (refine lY (by first|(simp;done)|(intro c hc;simp at hc;first|(rcases hc with rfl|rfl|rfl <;> exact ⟨rfl,rfl⟩)|(rcases hc with rfl|rfl <;> exact ⟨rfl,rfl⟩)|(rcases hc with rfl;exact ⟨rfl,rfl⟩))) (by
    intro Q hQ
    conv=>whnf
    repeat (first
     | exact hQ
     | (refine aP ?_;conv=>whnf)
     | (refine bR ?_;conv=>whnf)
     | (unfold cR;conv=>whnf))) (by first|exact oP _|exact vR _ _|exact eG _ _ _ _ _ _|exact gN _ _|exact vQ _|exact sQ _ _|rfl) (by first|exact .inl rfl|exact .inr rfl) ?_)
  | refine cS (.inl (by first|rfl|kernel_rfl)) (.inr (by first|assumption|exact (by
    intro Q hQ
    conv=>whnf
    repeat (first
     | exact hQ
     | (refine aP ?_;conv=>whnf)
     | (refine bR ?_;conv=>whnf)
     | (unfold cR;conv=>whnf))))) (by first|exact oP _|exact vR _ _|exact eG _ _ _ _ _ _|exact gN _ _|exact vQ _|rfl) ?_
  | refine jA ?_
  | refine iQ ?_
  | refine aCU rfl ?_
  | refine yG (fun Q hQ=>by (conv=>whnf);exact hQ) ?_)
 exact hA.out):B:=h ⟨a⟩
end Go.Am
namespace Go.Am
open Go.Proofs
attribute [local irreducible] fN fI fB cR eQ evCode evOps rD kOp aAj wF wH wG kGc aLE aLD kDr kMg drOps fU kK sl
structure aHx (l:List aY):Prop where
 few:l.length <= 64
 one:∀ q ∈ l,∀ (S:St) (k:V->St->Prop),k (.int .i64 0) S->RC prog 37 [gE q] S k
 full:∀ q ∈ l,q.2 ≠ []
 asc:∀ (j:Nat) (h:j+1 < l.length),jJ (l[j]'(by omega)).1 l[j+1].1=true
theorem f76:bB prog 76 46 [.tmp 2,.tmp 3] (aL Tryz.f76):=fq Tryz.f76
theorem aDe (i c:Nat)(ex:Bool)(l:List aY)(rest:List V)(hl:aHx l){S:St}(fl:Fl)(e:TypeId)(hrow:S.hs.get i=some (.cells (cellsOf l ++ rest) e fl))(hc:l.length <= c){k:V->St->Prop}(hk:k (.tup [.int .i64 (.negSucc 0),.int .i64 0]) S) :
  RC prog 76 [.slice i 0 l.length c 2 ex] S k:=by
 obtain ⟨i40,hi40,hs40⟩:=lK;refine RC.read mixed f76 (l:=[.slice aI 0 l.length l.length 2 false]) [i] [.cells (cellsOf l ++ rest) e fl] [.cells (cellsOf l) e .ro] [] (v2:=.tup [.int .i64 (.negSucc 0),.int .i64 0]) ?_ rfl rfl ?_ ?_ ?_ sm ?_ hk
 ·rintro (_|a) o h
  ·simp at h;subst h;rfl
  ·simp at h
 ·rintro (_|a) j o h1 h2
  ·simp at h1 h2;subst h1;subst h2;exact hrow
  ·simp at h1
 ·rintro (_|a) o1 o2 h1 h2
  ·simp at h1 h2;subst h1;subst h2;exact .part (aN l)
  ·simp at h1
 ·exact .cons (.slice _ _ _ _ _ _ _ (iC.at (a:=0) rfl sm) (.inr (af _)) hc sm) .nil
 ·refine build ?_;refine enter ?_;refine goB ?_;refine lG (by have:=hl.few;rw [bF];simp;omega) ?_;refine goB ?_;refine LP.induct0 l.length (fun j E=>j <= l.length∧Kn E 46 [(0,.slice aI 0 l.length l.length 2 false),(10,.slice aI 0 l.length l.length 2 false),(11,.int .i64 (.ofNat l.length)),(12,.int .i64 (.ofNat j))]) ⟨ai _,kq⟩ ?_;intro j E ⟨hjl,hf⟩ ih;refine LP.kng mixed hf ?_;refine goB ?_;refine dG (fun hb=>?_) (fun hb=>?_)
  ·have hlt:j < l.length:=by rw [bF] at hb;simpa using hb
   refine goB ?_;refine bX (fun _=>?_) (fun h=>absurd (h.symm.trans hb) sm);refine goB ?_;refine dT agg40 hi40 hs40 (j:=j) (ak hlt) (show 0+j * 2=2 * j by omega) ?_;refine goB ?_;refine hl.one l[j] (az hlt) _ _ ?_;refine goB ?_
   have hv:kG l[j].2 []=false:=by
    have:=hl.full l[j] (az hlt);rw [cY];simpa using this
   cases hj0:qG 0 (Int.ofNat j)
   ·
    refine godB ?_;refine godB ?_;refine godB ?_;refine goB ?_;refine bA (j+1) rfl (by have:=hl.few;show j+1 <= 9223372036854775807;omega) ?_;refine goB ?_;refine ⟨_,⟨af _,?_⟩,rfl,ih _ hlt ⟨om,kq⟩⟩
    repeat' (first
     | exact trivial
     | exact ae rfl
     | exact ⟨_,rfl,.cells (aN _) (.inl rfl)⟩
     | apply And.intro)
   ·obtain ⟨m,rfl⟩:∃ m,j=m+1:=by
     rw [bF] at hj0;simp at hj0;exact ⟨j - 1,om⟩
    have hm:Nat.blt m l.length=true:=ag om;refine godB ?_
    refine aV rfl (by
     intro Q hQ
     conv=>whnf
     refine bA m (by show Int.subNatNat (m+1) 1=_;rw [Int.subNatNat_of_le om];rfl) (by have:=hl.few;show m <= 9223372036854775807;omega) ?_
     exact hQ) ?_
    refine godB ?_
    refine aV rfl (by
     intro Q hQ
     conv=>whnf
     refine bX (fun _=>?_) (fun h=>absurd (h.symm.trans hm) sm)
     conv=>whnf
     (repeat (first|exact hQ|(refine kN (by first|rfl|assumption) ?_;conv=>whnf)|(refine lG (by first|rfl|assumption) ?_;conv=>whnf)|(refine aP ?_;conv=>whnf)|(refine bR ?_;conv=>whnf)|(unfold cR;conv=>whnf)))) ?_
    refine godB ?_
    refine d_readH rfl (by
     intro Q hQ
     conv=>whnf
     refine aH xN (2 * m) (show 0+m * 2+0=2 * m by omega) (jN om).1 ?_
     exact hQ) ?_
    intro _;have hlt1:=hl.asc m hlt;have hlt2:=aDx hlt1;have hlt3:kG l[m+1].1 l[m].1=false:=xV (Ne.symm (rW hlt1));refine godB ?_;refine godB ?_;refine godB ?_;refine goB ?_;refine bA (m+1+1) rfl (by have:=hl.few;show m+1+1 <= 9223372036854775807;omega) ?_;refine goB ?_;refine ⟨_,⟨af _,?_⟩,rfl,ih _ hlt ⟨om,kq⟩⟩
    repeat' (first
     | exact trivial
     | exact ae rfl
     | exact ⟨_,rfl,.cells (aN _) (.inl rfl)⟩
     | apply And.intro)
  ·have hge:l.length <= j:=by rw [bF] at hb;simpa using hb
   refine goB ?_;exact ⟨[],bj,sm,.tup (.cons (.int _ _) (.cons (.int _ _) .nil)),trivial,trivial⟩
end Go.Am
namespace Go.Am
open Go.Proofs
def LV (S:St)(v:V)(l:List aY):Prop :=
 (v=.nilSlice∧l=[]) ∨ ∃ i c ex rest e fl,v=.slice i 0 l.length c 2 ex∧l.length <= c∧S.hs.get i=some (.cells (cellsOf l ++ rest) e fl)
theorem RC.lab {P:Program}(hm:P.follows .mixedOrders=true){c:FuncId}{n:Nat}{rs:List ResultVar}{code:Code}(hf:bB P c n rs code){l:List aY}{v:V}{S:St}(h:LV S v l){more:List V}(hmore:∀ R,mJ R more more)(news:List O)
  (hwn:∀ (a:Nat) (o:O),news[a]?=some o->o.wr=true) {v2:V} {k:V->St->Prop}
  (h0:l=[]->dJ (kJ aI []) ⟨.nil,aI+0⟩ (uV P n rs code (.nilSlice :: more) (aAC 0 [] (aI+0) S.next [] news v2)))
  (h1:∀ e i,dJ (kJ aI [.cells (cellsOf l) e .ro]) ⟨.nil,aI+1⟩ (uV P n rs code (.slice aI 0 l.length l.length 2 false :: more) (aAC 1 [i] (aI+1) S.next [] news v2)))
  (hk:iX news S (k v2)):RC P c (v :: more) S k:=by
 rcases h with ⟨rfl,rfl⟩|⟨i,cap,ex,rest,e,fl,rfl,hc,hrow⟩
 ·exact RC.read hm hf [] [] [] news sm rfl rfl sm sm (.cons .nilSlice (hmore _)) hwn (h0 rfl) hk
 ·refine RC.read hm hf [i] [.cells (cellsOf l ++ rest) e fl] [.cells (cellsOf l) e .ro] news ?_ rfl rfl ?_ ?_ (.cons ?_ (hmore _)) hwn (h1 e i) hk
  ·rintro (_|a) o h
   ·simp at h;subst h;rfl
   ·simp at h
  ·rintro (_|a) j o h1 h2
   ·simp at h1 h2;subst h1;subst h2;exact hrow
   ·simp at h1
  ·rintro (_|a) o1 o2 h1 h2
   ·simp at h1 h2;subst h1;subst h2;exact .part (aN l)
   ·simp at h1
  ·exact .slice _ _ _ _ _ _ _ (iC.at (a:=0) rfl sm) (.inr (af _)) hc sm
end Go.Am
namespace Go.Am
open Go.Proofs
attribute [local irreducible] fN fI fB cR eQ evCode evOps rD kOp aAj wF wH wG kGc aLE aLD kDr kMg drOps fU kK sl
theorem f56:bB prog 56 20 [.tmp 4] (aL Tryz.f56):=fq Tryz.f56
theorem lX {l:List aY}{v:V}{S:St}(h:LV S v l)(hlen:l.length < 9223372036854775807)(s:List UInt8){k:V->St->Prop}(hk:k (.str (getL s l)) S):RC prog 56 [v,.str s] S k:=by
 obtain ⟨i40,hi40,hs40⟩:=lK;refine RC.lab mixed f56 h (fun _=>.cons (.str _) .nil) [] sm (v2:=.str (getL s l)) ?_ ?_ hk
 ·rintro rfl;refine build ?_;refine enter ?_;refine goB ?_;refine LP.one mixed ?_;refine goB ?_;exact ⟨[],bj,sm,.str _,trivial,trivial⟩
 ·intro e i;refine build ?_;refine enter ?_;refine goB ?_;refine LP.induct0 l.length (fun j E=>j <= l.length∧(∀ q ∈ l.take j,q.1 ≠ s)∧Kn E 20 [(0,.slice aI 0 l.length l.length 2 false),(1,.str s),(7,.slice aI 0 l.length l.length 2 false),(8,.int .i64 (.ofNat l.length)),(9,.int .i64 (.ofNat j))]) ⟨ai _,sm,kq⟩ ?_;intro j E ⟨hjl,hno,hf⟩ ih;refine LP.kng mixed hf ?_;refine goB ?_;refine dG (fun hb=>?_) (fun hb=>?_)
  ·have hlt:j < l.length:=by rw [bF] at hb;simpa using hb
   refine goB ?_;refine bX (fun _=>?_) (fun h=>absurd (h.symm.trans hb) sm);refine goB ?_;refine dT agg40 hi40 hs40 (j:=j) (ak hlt) (show 0+j * 2=2 * j by omega) ?_;refine goB ?_;refine dG (fun hb=>?_) (fun hb=>?_)
   ·rw [cY] at hb;have hname:l[j].1=s:=eq_of_beq hb;refine goB ?_;rw [aJV hlt hno hname];exact ⟨[],bj,sm,.str _,trivial,trivial⟩
   ·rw [cY] at hb
    have hname:l[j].1 ≠ s:=fun h=>by rw [h] at hb;simp at hb
    refine goB ?_;refine bA (j+1) rfl (by show j+1 <= 9223372036854775807;omega) ?_;refine goB ?_;refine ⟨_,⟨af _,?_⟩,rfl,ih _ hlt ⟨om,fun q hq=>?_,kq⟩⟩
    ·
     repeat' (first
      | exact trivial
      | exact ae rfl
      | exact ⟨_,rfl,.cells (aN _) (.inl rfl)⟩
      | apply And.intro)
    ·rw [an hlt] at hq
     rcases List.mem_append.1 hq with hq|hq
     ·exact hno q hq
     ·simp at hq;rw [hq];exact hname
  ·have hge:l.length <= j:=by rw [bF] at hb;simpa using hb
   refine goB ?_;rw [sT (fun q hq=>hno q (by rw [bd hge];exact hq))];exact ⟨[],bj,sm,.str _,trivial,trivial⟩
def bW:List (List UInt8):=[[97],[98],[99],[106,111,98],[105,110,115,116,97,110,99,101],[95,95,110,97,109,101,95,95],[95,95,97,100,100,114,101,115,115,95,95],[95,95,109,101,116,97,95,120],[101,120,112,111,114,116,101,100,95,97],[101,120,112,111,114,116,101,100,95,98],[101,120,112,111,114,116,101,100,95,106,111,98],[101,120,112,111,114,116,101,100,95,101,120,112,111,114,116,101,100,95,97],[108,101],[65],[95],[120,57]]
def aIJ:List (List UInt8):=[[101,120,112,111,114,116,101,100,95,97],[101,120,112,111,114,116,101,100,95,98],[101,120,112,111,114,116,101,100,95,99],[101,120,112,111,114,116,101,100,95,106,111,98],[101,120,112,111,114,116,101,100,95,105,110,115,116,97,110,99,101],[101,120,112,111,114,116,101,100,95,95,95,110,97,109,101,95,95],[101,120,112,111,114,116,101,100,95,95,95,97,100,100,114,101,115,115,95,95],[101,120,112,111,114,116,101,100,95,95,95,109,101,116,97,95,120],[101,120,112,111,114,116,101,100,95,101,120,112,111,114,116,101,100,95,97],[101,120,112,111,114,116,101,100,95,101,120,112,111,114,116,101,100,95,98],[101,120,112,111,114,116,101,100,95,101,120,112,111,114,116,101,100,95,106,111,98],[101,120,112,111,114,116,101,100,95,101,120,112,111,114,116,101,100,95,101,120,112,111,114,116,101,100,95,97],[101,120,112,111,114,116,101,100,95,108,101],[101,120,112,111,114,116,101,100,95,65],[101,120,112,111,114,116,101,100,95,95],[101,120,112,111,114,116,101,100,95,120,57]]
def dF:List (List UInt8):=bW ++ aIJ
def gQ:List (List UInt8):=[[],[49],[50],[195,169],[117,112],[97,32,98],[10],[57]]
def jD:List (List UInt8):=[[117,112],[97],[104,116,116,112,95,116,111,116,97,108],[97,58,98],[120],[108,101],[95],[122,57]]
def iB:List (List UInt8):=gQ ++ jD
noncomputable def aGW (n:Nat):aMS:=nM prog xts (fun _=>none) (cZ prog) n
theorem eF (n:Nat):dN prog (aGW n).call:=(sR aS (fun _ _ h=>by cases h) (fun _ _ hc hd=>evDraw_ok mixed hc hd) n).1
theorem RC.closed (n:Nat){g:FuncId}{l:List V}{S:St}{v:V}{k:V->St->Prop}(h:∀ K:V->St->Prop,(aGW n).call g l S K=K v S)(hk:k v S):RC prog g l S k:=by
 have h1:(aGW n).call g l S (fun r S'=>r=v∧S'=S):=by rw [h];exact ⟨rfl,rfl⟩
 obtain ⟨r,S',⟨rfl,rfl⟩,h2⟩:=eF n _ _ _ _ h1;exact .mk _ _ h2 hk
theorem aGA {s:List UInt8}(h:s ∈ dF){S:St}{k:V->St->Prop}(hk:k (.bool true) S):RC prog 69 [.str s] S k:=by
 refine RC.closed 90 (fun K=>?_) hk;simp only [dF,bW,aIJ,List.cons_append,List.nil_append,av,List.mem_nil_iff,or_false] at h
 rcases h with rfl|rfl|rfl|rfl|rfl|rfl|rfl|rfl|rfl|rfl|rfl|rfl|rfl|rfl|rfl|rfl|rfl|rfl|rfl|rfl|rfl|rfl|rfl|rfl|rfl|rfl|rfl|rfl|rfl|rfl|rfl|rfl <;> kernel_rfl
theorem aPD {s:List UInt8}(h:s ∈ iB){S:St}{k:V->St->Prop}(hk:k (.bool true) S):RC prog 70 [.str s] S k:=by
 refine RC.closed 60 (fun K=>?_) hk;simp only [iB,gQ,jD,List.cons_append,List.nil_append,av,List.mem_nil_iff,or_false] at h
 rcases h with rfl|rfl|rfl|rfl|rfl|rfl|rfl|rfl|rfl|rfl|rfl|rfl|rfl|rfl|rfl|rfl <;> kernel_rfl
theorem aVX {s:List UInt8}(h:s ∈ jD){S:St}{k:V->St->Prop}(hk:k (.bool true) S):RC prog 55 [.str s] S k:=by
 refine RC.closed 60 (fun K=>?_) hk;simp only [jD,av,List.mem_nil_iff,or_false] at h
 rcases h with rfl|rfl|rfl|rfl|rfl|rfl|rfl|rfl <;> kernel_rfl
noncomputable def eP (s:List UInt8):Bool:=match s with|a :: b :: _=>Nat.beq a.toNat 95 && Nat.beq b.toNat 95|_=>false
theorem aVS {s:List UInt8}(h:s ∈ dF){S:St}{k:V->St->Prop}(hk:k (.bool (eP s)) S):RC prog 47 [.str s,.str [95,95]] S k:=by
 refine RC.closed 60 (fun K=>?_) hk;simp only [dF,bW,aIJ,List.cons_append,List.nil_append,av,List.mem_nil_iff,or_false] at h
 rcases h with rfl|rfl|rfl|rfl|rfl|rfl|rfl|rfl|rfl|rfl|rfl|rfl|rfl|rfl|rfl|rfl|rfl|rfl|rfl|rfl|rfl|rfl|rfl|rfl|rfl|rfl|rfl|rfl|rfl|rfl|rfl|rfl <;> kernel_rfl
theorem f37:bB prog 37 13 [.tmp 2] (aL Tryz.f37):=fq Tryz.f37
theorem wQ {q:aY}(hn:q.1 ∈ dF)(hv:q.2 ∈ iB){S:St}{k:V->St->Prop}(hk:k (.int .i64 0) S):RC prog 37 [gE q] S k:=by
 refine RC.read mixed f37 (l:=[gE q]) [] [] [] [] (v2:=.int .i64 0) sm rfl rfl sm sm (.cons (.agg (.cons (.str _) (.cons (.str _) .nil))) .nil) sm ?_ hk;unfold gE;refine build ?_;refine enter ?_;refine goB ?_;refine aGA hn ?_;refine goB ?_;refine aPD hv ?_;refine goB ?_;exact ⟨[],bj,sm,.int _ _,trivial,trivial⟩
structure kF (l:List aY):Prop where
 name:∀ q ∈ l,q.1 ∈ dF
 val:∀ q ∈ l,q.2 ∈ iB
 full:∀ q ∈ l,q.2 ≠ []
 asc:l.Pairwise fun p q=>jJ p.1 q.1=true
theorem qS:∀ {a b:List (List UInt8)},a.Nodup->(∀ x ∈ a,x ∈ b)->a.length <= b.length
 | [],_,_,_=>ai _
 | x :: a,b,hn,hs=>by
   have hx:x ∈ b:=hs x sm;have hn':=List.nodup_cons.1 hn;have:=qS (a:=a) (b:=b.erase x) hn'.2 fun y hy=>(List.mem_erase_of_ne (fun e=>hn'.1 (by rw [<- e];exact hy))).2 (hs y (by simp [hy]));rw [List.length_erase_of_mem hx] at this;have:0 < b.length:=List.length_pos_of_mem hx;simp;omega
theorem kF.nodup {l:List aY}(h:kF l):(l.map (·.1)).Nodup:=by
 rw [List.Nodup,List.pairwise_map];exact h.asc.imp fun h=>rW h
theorem kF.few {l:List aY}(h:kF l):l.length <= 32:=by
 have:=qS h.nodup (b:=dF) fun x hx=>by
  obtain ⟨q,hq,rfl⟩:=List.mem_map.1 hx;exact h.name q hq
 have h2:dF.length=32:=rfl;rw [h2] at this;simpa using this
theorem kF.right {l:List aY}(h:kF l):aHx l where
 few:=bg h.few om
 one:=fun q hq S k hk=>wQ (h.name q hq) (h.val q hq) hk
 full:=h.full
 asc:=fun j hj=>List.pairwise_iff_getElem.1 h.asc j (j+1) om hj om
theorem kF.lt {l:List aY}(h:kF l):l.length < 9223372036854775807:=by have:=h.few;omega
theorem LV.mk {S:St}{i c:Nat}{ex:Bool}{l:List aY}{e:TypeId}{fl:Fl}(h:S.hs.get i=some (.cells (cellsOf l) e fl))(hc:l.length <= c):LV S (.slice i 0 l.length c 2 ex) l :=
 .inr ⟨i,c,ex,[],e,fl,rfl,hc,by rw [bf];exact h⟩
theorem LV.nil (S:St):LV S .nilSlice []:=.inl ⟨rfl,rfl⟩
theorem aDd {S:St}{k:V->St->Prop}(hk:k (.tup [.int .i64 (.negSucc 0),.int .i64 0]) S):RC prog 76 [.nilSlice] S k:=by
 refine RC.read mixed f76 (l:=[.nilSlice]) [] [] [] [] (v2:=.tup [.int .i64 (.negSucc 0),.int .i64 0]) sm rfl rfl sm sm (.cons .nilSlice .nil) sm ?_ hk;refine build ?_;refine enter ?_;refine goB ?_;refine LP.one mixed ?_;refine goB ?_;exact ⟨[],bj,sm,.tup (.cons (.int _ _) (.cons (.int _ _) .nil)),trivial,trivial⟩
theorem aNw {l:List aY}{v:V}{S:St}(h:LV S v l)(ok:kF l){k:V->St->Prop}(hk:k (.tup [.int .i64 (.negSucc 0),.int .i64 0]) S):RC prog 76 [v] S k:=by
 rcases h with ⟨rfl,rfl⟩|⟨i,cap,ex,rest,e,fl,rfl,hc,hrow⟩
 ·exact aDd hk
 ·exact aDe i cap ex l rest ok.right fl e hrow hc hk
theorem f48:bB prog 48 12 [.tmp 2] (aL Tryz.f48):=fq Tryz.f48
theorem cL {l:List aY}{v:V}{S:St}(h:LV S v l)(ok:kF l){k:V->St->Prop}(hk:k (.bool true) S):RC prog 48 [v] S k:=by
 refine RC.lab mixed f48 h (fun _=>.nil) [] sm (v2:=.bool true) ?_ ?_ hk
 ·rintro rfl;refine build ?_;refine enter ?_;refine goB ?_;refine aDd ?_;refine goB ?_;exact ⟨[],bj,sm,.bool _,trivial,trivial⟩
 ·intro e i;refine build ?_;refine enter ?_;refine goB ?_;refine aNw (LV.mk (e:=e) (fl:=.ro) rfl (af _)) ok ?_;refine goB ?_;exact ⟨[],bj,sm,.bool _,trivial,trivial⟩
theorem f61:bB prog 61 23 [] (aL Tryz.f61):=fq Tryz.f61
theorem tJ {l:List aY}{v:V}{S:St}(h:LV S v l)(hlen:l.length < 9223372036854775807)(hfull:∀ q ∈ l,q.2 ≠ []){m:Nat}{t:eY}{c:Nat}(hm:S.hs.get m=some (.map (cA t) c)){k:V->St->Prop}
  (hk:bD m (some (.map (cA (l.foldl cK (t,c)).1) (l.foldl cK (t,c)).2)) S fun S=>k (.tup []) S):RC prog 61 [.map m,v] S k:=by
 obtain ⟨i40,hi40,hs40⟩:=lK
 rcases h with ⟨rfl,rfl⟩|⟨i,cap,ex,rest,e,fl,rfl,hc,hrow⟩
 ·refine RC.small mixed f61 (l:=[.map aI,.nilSlice]) 0 [m] [.map (cA t) c] [.map (cA t) c] [.map (cA t) c] [] (v2:=.tup []) ?_ sm rfl rfl rfl ?_ ?_ (.cons (.map (iC.at (a:=0) rfl sm)) (.cons .nilSlice .nil)) ?_ sm ?_ hk
  ·rintro (_|a) (_|b) x _ h1 h2 <;> simp at h1 h2 ⊢
  ·rintro (_|a) j o h1 h2
   ·simp at h1 h2;subst h1;subst h2;exact hm
   ·simp at h1
  ·rintro (_|a) o1 o2 h1 h2
   ·simp at h1 h2;subst h1;subst h2;exact .map (gK t)
   ·simp at h1
  ·rintro (_|a) o h
   ·simp at h;subst h;rfl
   ·simp at h
  ·refine build ?_;refine enter ?_;refine goB ?_;refine LP.one mixed ?_;refine goB ?_;exact ⟨[],bj,sm,.tup .nil,⟨⟨_,rfl,.map (gK t)⟩,trivial⟩,trivial⟩
 ·refine RC.small mixed f61 (l:=[.map (aI+1),.slice aI 0 l.length l.length 2 false]) 1 [i,m] [.cells (cellsOf l ++ rest) e fl,.map (cA t) c] [.cells (cellsOf l) e .ro,.map (cA t) c] [.map (cA (l.foldl cK (t,c)).1) (l.foldl cK (t,c)).2] [] (v2:=.tup []) ?_ ?_ rfl rfl rfl ?_ ?_
   (.cons (.map (iC.at (a:=1) rfl sm)) (.cons (.slice _ _ _ _ _ _ _ (iC.at (a:=0) rfl sm) (.inr (af _)) hc sm) .nil)) ?_ sm ?_ hk
  ·have hne:i ≠ m:=fun e=>by rw [e,hm] at hrow;cases hrow
   rintro (_|_|a) (_|_|b) x h0 h1 h2 <;> simp at h0 h1 h2 ⊢;exact hne (h2.trans h1.symm)
  ·rintro (_|a) o h1 h2
   ·simp at h2;subst h2;rfl
   ·omega
  ·rintro (_|_|a) j o h1 h2
   ·simp at h1 h2;subst h1;subst h2;exact hrow
   ·simp at h1 h2;subst h1;subst h2;exact hm
   ·simp at h1
  ·rintro (_|_|a) o1 o2 h1 h2
   ·simp at h1 h2;subst h1;subst h2;exact .part (aN l)
   ·simp at h1 h2;subst h1;subst h2;exact .map (gK t)
   ·simp at h1
  ·rintro (_|a) o h
   ·simp at h;subst h;rfl
   ·simp at h
  ·refine build ?_;refine enter ?_;refine goB ?_;refine LP.induct l.length (fun j E S'=>j <= l.length∧S'=rE [(aI,.cells (cellsOf l) e .ro),(aI+1,.map (cA ((l.take j).foldl cK (t,c)).1) ((l.take j).foldl cK (t,c)).2)] (aI+2)∧Kn E 23 [(0,.map (aI+1)),(1,.slice aI 0 l.length l.length 2 false),(6,.slice aI 0 l.length l.length 2 false),(7,.int .i64 (.ofNat l.length)),(8,.int .i64 (.ofNat j))]) ⟨ai _,kr,kq⟩ ?_;intro j E S' ⟨hjl,hS',hf⟩ ih;subst hS';refine LP.kng mixed hf ?_;refine goB ?_;refine dG (fun hb=>?_) (fun hb=>?_)
   ·have hlt:j < l.length:=by rw [bF] at hb;simpa using hb
    have hv:kG l[j].2 []=false:=xV (hfull l[j] (az hlt));refine goB ?_;refine bX (fun _=>?_) (fun h=>absurd (h.symm.trans hb) sm);refine goB ?_;refine dT agg40 hi40 hs40 (j:=j) (ak hlt) (show 0+j * 2=2 * j by omega) ?_;refine goB ?_;refine aGw (q:=l[j]) ?_;refine goB ?_;refine bA (j+1) rfl (by show j+1 <= 9223372036854775807;omega) ?_;refine goB ?_
    have htk:(l.take (j+1)).foldl cK (t,c)=cK ((l.take j).foldl cK (t,c)) l[j]:=by
     rw [an hlt,List.foldl_append];rfl
    refine ⟨rE [(aI,.cells (cellsOf l) e .ro),(aI+1,.map (cA ((l.take (j+1)).foldl cK (t,c)).1) ((l.take (j+1)).foldl cK (t,c)).2)] (aI+2),⟨af _,?_⟩,rfl,ih _ _ hlt ⟨om,rfl,kq⟩⟩
    repeat' (first
     | exact trivial
     | exact ae rfl
     | exact ⟨_,rfl,.cells (aN _) (.inl rfl)⟩
     | exact ⟨_,rfl,by rw [htk];exact .map (gK _)⟩
     | apply And.intro)
   ·have hge:l.length <= j:=by rw [bF] at hb;simpa using hb
    refine goB ?_;refine ⟨[],bj,sm,.tup .nil,⟨⟨_,rfl,?_⟩,trivial⟩,trivial⟩;rw [bd hge];exact .map (gK _)
theorem f41:bB prog 41 8 [.tmp 2,.tmp 3] (aL Tryz.f41):=fq Tryz.f41
theorem mY (i o n c es:Nat)(ex:Bool){S:St}{k:V->St->Prop}(h:n <= 64)(hk:k (.tup [.slice i o n c es ex,.int .i64 0]) S):RC prog 41 [.slice i o n c es ex] S k:=by
 refine RC.run mixed aS (aG f41 ?_);generalize hK:k=K;refine enter ?_;refine goB ?_;refine lG (by rw [bF];simp;omega) ?_;refine goB ?_;rw [<- hK];exact hk
def LS (S:St)(v:V)(l:List aY):Prop:=∃ i c ex rest e fl,v=.slice i 0 l.length c 2 ex∧l.length <= c∧S.hs.get i=some (.cells (cellsOf l ++ rest) e fl)
theorem LS.mk {S:St}{i c:Nat}{ex:Bool}{l:List aY}{e:TypeId}{fl:Fl}(h:S.hs.get i=some (.cells (cellsOf l) e fl))(hc:l.length <= c):LS S (.slice i 0 l.length c 2 ex) l :=
 ⟨i,c,ex,[],e,fl,rfl,hc,by rw [bf];exact h⟩
theorem RC.lab2 {P:Program}(hm:P.follows .mixedOrders=true){c:FuncId}{n:Nat}{rs:List ResultVar}{code:Code}(hf:bB P c n rs code){l l':List aY}{v v':V}{S:St}(h:LV S v l)(h':LS S v' l')(news:List O)
  (hwn:∀ (a:Nat) (o:O),news[a]?=some o->o.wr=true) {v2:V} {k:V->St->Prop}
  (h0:l=[]->∀ e i,dJ (kJ aI [.cells (cellsOf l') e .ro]) ⟨.nil,aI+1⟩ (uV P n rs code [.nilSlice,.slice aI 0 l'.length l'.length 2 false] (aAC 1 [i] (aI+1) S.next [] news v2)))
  (h1:∀ e e' i i',dJ (kJ aI [.cells (cellsOf l') e' .ro,.cells (cellsOf l) e .ro]) ⟨.nil,aI+2⟩ (uV P n rs code [.slice (aI+1) 0 l.length l.length 2 false,.slice aI 0 l'.length l'.length 2 false] (aAC 2 [i',i] (aI+2) S.next [] news v2)))
  (hk:iX news S (k v2)):RC P c [v,v'] S k:=by
 obtain ⟨i',cap',ex',rest',e',fl',rfl,hc',hrow'⟩:=h'
 rcases h with ⟨rfl,rfl⟩|⟨i,cap,ex,rest,e,fl,rfl,hc,hrow⟩
 ·refine RC.read hm hf [i'] [.cells (cellsOf l' ++ rest') e' fl'] [.cells (cellsOf l') e' .ro] news ?_ rfl rfl ?_ ?_ (.cons .nilSlice (.cons ?_ .nil)) hwn (h0 rfl e' i') hk
  ·rintro (_|a) o h
   ·simp at h;subst h;rfl
   ·simp at h
  ·rintro (_|a) j o h1 h2
   ·simp at h1 h2;subst h1;subst h2;exact hrow'
   ·simp at h1
  ·rintro (_|a) o1 o2 h1 h2
   ·simp at h1 h2;subst h1;subst h2;exact .part (aN l')
   ·simp at h1
  ·exact .slice _ _ _ _ _ _ _ (iC.at (a:=0) rfl sm) (.inr (af _)) hc' sm
 ·refine RC.read hm hf [i',i] [.cells (cellsOf l' ++ rest') e' fl',.cells (cellsOf l ++ rest) e fl] [.cells (cellsOf l') e' .ro,.cells (cellsOf l) e .ro] news ?_ rfl rfl ?_ ?_ (.cons ?_ (.cons ?_ .nil)) hwn (h1 e e' i i') hk
  ·rintro (_|_|a) o h
   ·simp at h;subst h;rfl
   ·simp at h;subst h;rfl
   ·simp at h
  ·rintro (_|_|a) j o h1 h2
   ·simp at h1 h2;subst h1;subst h2;exact hrow'
   ·simp at h1 h2;subst h1;subst h2;exact hrow
   ·simp at h1
  ·rintro (_|_|a) o1 o2 h1 h2
   ·simp at h1 h2;subst h1;subst h2;exact .part (aN l')
   ·simp at h1 h2;subst h1;subst h2;exact .part (aN l)
   ·simp at h1
  ·exact .slice _ _ _ _ _ _ _ (iC.at (a:=1) rfl sm) (.inr (af _)) hc sm
  ·exact .slice _ _ _ _ _ _ _ (iC.at (a:=0) rfl sm) (.inr (af _)) hc' sm
theorem nW (hL:nG prog 62 34){m:Nat}{S:St}{x:eY × Nat}{k:V->St->Prop}(hm:S.hs.get m=some (.map (cA x.1) x.2))(ok:fE x)(hn:x.1 ≠ [])(hl:x.1.length <= 4096)
  (hk:bK (.cells (cellsOf (fW x)) 34 .rw) S fun id S=>k (.slice id 0 (fW x).length (fW x).length 2 false) S):RC prog 62 [.map m] S k :=
 hL.rc (aCH hm ok.stamps ok.dist hn hl (by rw [<- iP];exact hk))
theorem f31:bB prog 31 37 [.tmp 4,.tmp 5] (aL Tryz.f31):=fq Tryz.f31
theorem mZ {o:O}{S:St}{K:Nat->St->Prop}(h:bK o S K):iX [o] S (K S.next):=by cases S;exact h
theorem aRD (hL:nG prog 62 34){l l':List aY}{v v':V}{S:St}(h:LV S v l)(ok:kF l)(h':LS S v' l')(hlen':l'.length < 9223372036854775807)(hn':∀ q ∈ l',q.1 ∈ dF)(hv':∀ q ∈ l',q.2 ∈ iB)(hf':∀ q ∈ l',q.2 ≠ [])
  (hne:(l'.foldl cK (l.foldl cK ([],0))).1 ≠ []) (hR:(fW (l'.foldl cK (l.foldl cK ([],0)))).length <= 64) {k:V->St->Prop}
  (hk:bK (.cells (cellsOf (fW (l'.foldl cK (l.foldl cK ([],0))))) 34 .rw) S fun id S'=>k (.tup [.slice id 0 (fW (l'.foldl cK (l.foldl cK ([],0)))).length (fW (l'.foldl cK (l.foldl cK ([],0)))).length 2 false,.int .i64 0]) S'):RC prog 31 [v,v'] S k:=by
 obtain ⟨i40,hi40,hs40⟩:=lK;refine RC.lab2 mixed f31 h h' [.cells (cellsOf (fW (l'.foldl cK (l.foldl cK ([],0))))) 34 .rw] ?_ ?_ ?_ (mZ hk)
 ·rintro (_|a) o h
  ·simp at h;subst h;rfl
  ·simp at h
 ·rintro rfl e i;refine build ?_;refine enter ?_;refine goB ?_;refine cL (LV.nil _) ok ?_;refine goB ?_;refine LP.induct0 l'.length (fun j E=>j <= l'.length∧Kn E 37 [(0,.nilSlice),(1,.slice aI 0 l'.length l'.length 2 false),(13,.slice aI 0 l'.length l'.length 2 false),(14,.int .i64 (.ofNat l'.length)),(15,.int .i64 (.ofNat j))]) ⟨ai _,kq⟩ ?_;intro j E ⟨hjl,hf⟩ ih;refine LP.kng mixed hf ?_;refine goB ?_;refine dG (fun hb=>?_) (fun hb=>?_)
  ·have hlt:j < l'.length:=by rw [bF] at hb;simpa using hb
   refine goB ?_;refine bX (fun _=>?_) (fun h=>absurd (h.symm.trans hb) sm);refine goB ?_;refine dT agg40 hi40 hs40 (j:=j) (ak hlt) (show 0+j * 2=2 * j by omega) ?_;refine goB ?_;refine wQ (hn' _ (az hlt)) (hv' _ (az hlt)) ?_;refine goB ?_;refine bA (j+1) rfl (by show j+1 <= 9223372036854775807;omega) ?_;refine goB ?_;refine ⟨_,⟨af _,?_⟩,rfl,ih _ hlt ⟨om,kq⟩⟩
   repeat' (first
    | exact trivial
    | exact ae rfl
    | exact ⟨_,rfl,.cells (aN _) (.inl rfl)⟩
    | apply And.intro)
  ·conv=>whnf
   refine goB ?_;refine tJ (LV.nil _) sm ok.full (t:=[]) (c:=0) rfl ?_;refine goB ?_;refine tJ (LV.mk (e:=e) (fl:=.ro) rfl (af _)) hlen' hf' (t:=([].foldl cK ([],0)).1) (c:=([].foldl cK ([],0)).2) rfl ?_;refine goB ?_;refine nW hL (x:=l'.foldl cK ([].foldl cK ([],0))) rfl (.puts _ (.puts _ .nil)) (by simpa using hne) (by have:=iP (l'.foldl cK ([].foldl cK ([],0)));omega) ?_;refine goB ?_;refine mY _ _ _ _ _ _ hR ?_;refine goB ?_;refine ⟨[_],eE _,?_,.tup (.cons (.slice _ _ _ _ _ _ _ (uF.new (a:=0) rfl (ae rfl) sm) (.inr (af _)) (af _) sm) (.cons (.int _ _) .nil)),trivial,⟨⟨_,rfl,.cells (aN _) (.inl rfl)⟩,trivial⟩⟩;intro g hg;rw [ay] at hg;subst hg;exact ae rfl
 ·intro e e' i i';refine build ?_;refine enter ?_;refine goB ?_;refine cL (LV.mk (e:=e) (fl:=.ro) rfl (af _)) ok ?_;refine goB ?_;refine LP.induct0 l'.length (fun j E=>j <= l'.length∧Kn E 37 [(0,.slice (aI+1) 0 l.length l.length 2 false),(1,.slice aI 0 l'.length l'.length 2 false),(13,.slice aI 0 l'.length l'.length 2 false),(14,.int .i64 (.ofNat l'.length)),(15,.int .i64 (.ofNat j))]) ⟨ai _,kq⟩ ?_;intro j E ⟨hjl,hf⟩ ih;refine LP.kng mixed hf ?_;refine goB ?_;refine dG (fun hb=>?_) (fun hb=>?_)
  ·have hlt:j < l'.length:=by rw [bF] at hb;simpa using hb
   refine goB ?_;refine bX (fun _=>?_) (fun h=>absurd (h.symm.trans hb) sm);refine goB ?_;refine dT agg40 hi40 hs40 (j:=j) (ak hlt) (show 0+j * 2=2 * j by omega) ?_;refine goB ?_;refine wQ (hn' _ (az hlt)) (hv' _ (az hlt)) ?_;refine goB ?_;refine bA (j+1) rfl (by show j+1 <= 9223372036854775807;omega) ?_;refine goB ?_;refine ⟨_,⟨af _,?_⟩,rfl,ih _ hlt ⟨om,kq⟩⟩
   repeat' (first
    | exact trivial
    | exact ae rfl
    | exact ⟨_,rfl,.cells (aN _) (.inl rfl)⟩
    | apply And.intro)
  ·conv=>whnf
   refine goB ?_;refine tJ (LV.mk (e:=e) (fl:=.ro) rfl (af _)) ok.lt ok.full (t:=[]) (c:=0) rfl ?_;refine goB ?_;refine tJ (LV.mk (e:=e') (fl:=.ro) rfl (af _)) hlen' hf' (t:=(l.foldl cK ([],0)).1) (c:=(l.foldl cK ([],0)).2) rfl ?_;refine goB ?_;refine nW hL (x:=l'.foldl cK (l.foldl cK ([],0))) rfl (.puts _ (.puts _ .nil)) (by simpa using hne) (by have:=iP (l'.foldl cK (l.foldl cK ([],0)));omega) ?_;refine goB ?_;refine mY _ _ _ _ _ _ hR ?_;refine goB ?_;refine ⟨[_],eE _,?_,.tup (.cons (.slice _ _ _ _ _ _ _ (uF.new (a:=0) rfl (ae rfl) sm) (.inr (af _)) (af _) sm) (.cons (.int _ _) .nil)),trivial,⟨⟨_,rfl,.cells (aN _) (.inl rfl)⟩,trivial⟩⟩;intro g hg;rw [ay] at hg;subst hg;exact ae rfl
end Go.Am
namespace Go.Am
open Go.Proofs
section
theorem eS:∀ (a b:List aY),cellsOf (a ++ b)=cellsOf a ++ cellsOf b
 | [],_=>rfl
 | q :: a,b=>by simp [cellsOf,eS a b]
attribute [local irreducible] fN fX nH cM bK bD
theorem aEk {S:St}{id2:Nat}{q:aY}{e2:TypeId}{fl2:Fl}(hx:S.hs.get id2=some (.cells (cellsOf [q]) e2 fl2)){k:V->St->Prop}
  (hk:bK (.cells (cellsOf [q]) 34 .rw) S fun id S=>k (.slice id 0 1 1 2 false) S):aO prog #[29,29] .nilSlice (.slice id2 0 1 1 2 true) S k:=by
 conv=>whnf
 refine aA hx ?_
 conv=>whnf
 refine bJ (n:=2) (by simp [cellsOf]) ?_
 conv=>whnf
 exact hk
theorem aEj {S:St}{id id2:Nat}{o:List aY}{q:aY}{e2:TypeId}{fl2:Fl}(ho:S.hs.get id=some (.cells (cellsOf o) 34 .rw))(hx:S.hs.get id2=some (.cells (cellsOf [q]) e2 fl2))(hlen:o.length < 4096){k:V->St->Prop}
  (hk:bD id none S fun S=>bK (.cells (cellsOf (o ++ [q])) 34 .rw) S fun id S=>k (.slice id 0 (o.length+1) (o.length+1) 2 false) S):aO prog #[29,29] (.slice id 0 o.length o.length 2 false) (.slice id2 0 1 1 2 true) S k:=by
 rw [eS] at hk
 conv=>whnf
 refine aA hx ?_
 conv=>whnf
 refine bJ (n:=2) (by simp [cellsOf]) ?_
 conv=>whnf
 refine aP ?_
 conv=>whnf
 refine bX (fun h=>?_) (fun _=>?_)
 ·have:o.length+1 <= o.length:=ae h;omega
 conv=>whnf
 refine bX (fun _=>?_) (fun h=>?_)
 ·refine aA ho ?_
  conv=>whnf
  refine bJ (by rw [aZ];show o.length * 2 <= 2 * o.length;omega) ?_
  conv=>whnf
  refine bZ ?_
  conv=>whnf
  rw [bd (by rw [aZ];show 2 * o.length <= o.length * 2;omega)];exact hk
 ·have h1:Nat.ble ((o.length+1) * 33) 70368744177664=true:=ag om;exact absurd (h.symm.trans h1) sm
end
end Go.Am
namespace Go.Am
open Go.Proofs
attribute [local irreducible] fN fI fB cR eQ aO evCode evOps rD kOp aAj wF wH wG kGc aLE aLD kDr kMg drOps fU kK sl
theorem f46:bB prog 46 8 [.tmp 3] (aL Tryz.f46):=fq Tryz.f46
theorem aFh {s:List UInt8}(hs:s ∈ dF){S:St}{p:Nat}{e:TypeId}{fl:Fl}(hp:S.hs.get p=some (.cells [.str [95,95]] e fl)){k:V->St->Prop}(hk:k (.bool (!eP s)) S):RC prog 46 [.str s,.ptr p 0] S k:=by
 refine RC.read mixed f46 (l:=[.str s,.ptr aI 0]) [p] [.cells [.str [95,95]] e fl] [.cells [.str [95,95]] e .ro] [] (v2:=.bool (!eP s)) ?_ rfl rfl ?_ ?_ (.cons (.str _) (.cons (.ptr _ (iC.at (a:=0) rfl sm)) .nil)) sm ?_ hk
 ·rintro (_|a) o h
  ·simp at h;subst h;rfl
  ·simp at h
 ·rintro (_|a) j o h1 h2
  ·simp at h1 h2;subst h1;subst h2;exact hp
  ·simp at h1
 ·rintro (_|a) o1 o2 h1 h2
  ·simp at h1 h2;subst h1;subst h2;exact .cells (.cons (.str _) .nil) (.inr (.inr rfl))
  ·simp at h1
 ·refine build ?_;refine enter ?_;refine goB ?_;refine aVS hs ?_;refine goB ?_;refine dG (fun hb=>?_) (fun hb=>?_)
  ·conv=>whnf
   refine goB ?_;rw [hb];exact ⟨[],bj,sm,.bool _,trivial,trivial⟩
  ·conv=>whnf
   refine goB ?_;rw [hb];exact ⟨[],bj,sm,.bool _,trivial,trivial⟩
def mD (o:List aY)(m:Nat):V:=match o with|[]=>.nilSlice|q :: o=>.slice m 0 (q :: o).length (q :: o).length 2 false
def mL (o:List aY):List O:=match o with|[]=>[]|q :: o=>[.cells (cellsOf (q :: o)) 34 .rw]
noncomputable def aOU (o l:List aY)(e e2:TypeId):St:=match o with
 | []=>rE [(aI,.cells (cellsOf l) e .ro),(aI+1,.cells [.str [95,95]] e2 .ro)] (aI+2)
 | q :: o=>rE [(aI,.cells (cellsOf l) e .ro),(aI+1,.cells [.str [95,95]] e2 .ro),(aI+2,.cells (cellsOf (q :: o)) 34 .rw)] (aI+3)
theorem tG {o:List aY}:∀ (a:Nat) (x:O),(mL o)[a]?=some x->x.wr=true:=by
 cases o with
 | nil=>simp [mL]
 | cons q o =>
   rintro (_|a) x h
   ·simp [mL] at h;subst h;rfl
   ·simp [mL] at h
theorem LPB.lp' {P:Program}(b:Nat){c:Code}{E:Env}{S:St}{k:KT}(hb:S.next=b)(h:LPB b P c E S k):LP P none c E [] S k:=by subst hb;exact h.lp
theorem f45:bB prog 45 28 [.tmp 4,.tmp 5] (aL Tryz.f45):=fq Tryz.f45
theorem uN {l:List aY}{v:V}{S:St}(h:LV S v l)(ok:kF l){p:Nat}{e2:TypeId}{fl2:Fl}(hp:S.hs.get p=some (.cells [.str [95,95]] e2 fl2)){k:V->St->Prop}
  (hk:iX (mL (l.filter (fun q=>!eP q.1))) S (k (.tup [mD (l.filter (fun q=>!eP q.1)) S.next,.int .i64 0]))):RC prog 45 [v,.func (.func 46) [] [.ptr p 0]] S k:=by
 obtain ⟨i40,hi40,hs40⟩:=lK
 rcases h with ⟨rfl,rfl⟩|⟨i,cap,ex,rest,e,fl,rfl,hc,hrow⟩
 ·refine RC.read mixed f45 (l:=[.nilSlice,.func (.func 46) [] [.ptr aI 0]]) [p] [.cells [.str [95,95]] e2 fl2] [.cells [.str [95,95]] e2 .ro] [] (v2:=.tup [.nilSlice,.int .i64 0]) ?_ rfl rfl ?_ ?_ (.cons .nilSlice (.cons (.func _ .nil (.cons (.ptr _ (iC.at (a:=0) rfl sm)) .nil)) .nil)) sm ?_ hk
  ·rintro (_|a) o h
   ·simp at h;subst h;rfl
   ·simp at h
  ·rintro (_|a) j o h1 h2
   ·simp at h1 h2;subst h1;subst h2;exact hp
   ·simp at h1
  ·rintro (_|a) o1 o2 h1 h2
   ·simp at h1 h2;subst h1;subst h2;exact .cells (.cons (.str _) .nil) (.inr (.inr rfl))
   ·simp at h1
  ·refine build ?_;refine enter ?_;refine goB ?_;refine cL (LV.nil _) ok ?_;refine goB ?_;refine LP.one mixed ?_;refine goB ?_;exact ⟨[],bj,sm,.tup (.cons .nilSlice (.cons (.int _ _) .nil)),trivial,trivial⟩
 ·refine RC.read mixed f45 (l:=[.slice aI 0 l.length l.length 2 false,.func (.func 46) [] [.ptr (aI+1) 0]]) [i,p] [.cells (cellsOf l ++ rest) e fl,.cells [.str [95,95]] e2 fl2] [.cells (cellsOf l) e .ro,.cells [.str [95,95]] e2 .ro] (mL (l.filter (fun q=>!eP q.1))) (v2:=.tup [mD (l.filter (fun q=>!eP q.1)) S.next,.int .i64 0]) ?_ rfl rfl ?_ ?_
   (.cons (.slice _ _ _ _ _ _ _ (iC.at (a:=0) rfl sm) (.inr (af _)) hc sm) (.cons (.func _ .nil (.cons (.ptr _ (iC.at (a:=1) rfl sm)) .nil)) .nil)) tG ?_ hk
  ·rintro (_|_|a) o h
   ·simp at h;subst h;rfl
   ·simp at h;subst h;rfl
   ·simp at h
  ·rintro (_|_|a) j o h1 h2
   ·simp at h1 h2;subst h1;subst h2;exact hrow
   ·simp at h1 h2;subst h1;subst h2;exact hp
   ·simp at h1
  ·rintro (_|_|a) o1 o2 h1 h2
   ·simp at h1 h2;subst h1;subst h2;exact .part (aN l)
   ·simp at h1 h2;subst h1;subst h2;exact .cells (.cons (.str _) .nil) (.inr (.inr rfl))
   ·simp at h1
  ·refine build ?_;refine enter ?_;refine goB ?_;refine cL (LV.mk (e:=e) (fl:=.ro) rfl (af _)) ok ?_;refine goB ?_;refine LPB.lp' (aI+2) rfl (LPB.induct l.length (fun j E S'=>j <= l.length∧S'=aOU ((l.take j).filter (fun q=>!eP q.1)) l e e2∧Kn E 28 [(0,.slice aI 0 l.length l.length 2 false),(1,.func (.func 46) [] [.ptr (aI+1) 0]),(6,mD ((l.take j).filter (fun q=>!eP q.1)) (aI+2)),(12,.slice aI 0 l.length l.length 2 false),(13,.int .i64 (.ofNat l.length)),(14,.int .i64 (.ofNat j))]) ⟨ai _,kr,kq⟩ ?_);intro j E S' ⟨hjl,hS',hf⟩ ih;subst hS';generalize hout:(l.take j).filter (fun q=>!eP q.1)=out at *
   cases out with
   | nil =>
     refine LPB.kn mixed (ae rfl) (ae rfl) hf ?_;refine goB ?_;refine dG (fun hb=>?_) (fun hb=>?_)
     ·have hlt:j < l.length:=by rw [bF] at hb;simpa using hb
      have hnext:∀ b,eP l[j].1=b->(l.take (j+1)).filter (fun q=>!eP q.1)=[] ++ (if b=true then [] else [l[j]]):=fun b hb=>by
       rw [an hlt,List.filter_append,hout];cases b <;> simp [hb]
      refine goB ?_;refine bX (fun _=>?_) (fun h=>absurd (h.symm.trans hb) sm);refine goB ?_;refine dT agg40 hi40 hs40 (j:=j) (ak hlt) (show 0+j * 2=2 * j by omega) ?_;refine goB ?_;cases hh:eP l[j].1
      ·have hn:=hnext false hh;rw [if_neg sm] at hn;rw [List.nil_append] at hn;simp only [hn] at ih;refine aFh (ok.name _ (az hlt)) (e:=e2) (fl:=.ro) rfl ?_;rw [hh];refine goB ?_;refine aEk rfl ?_;refine goB ?_;refine bA (j+1) rfl (by have:=ok.few;show j+1 <= 9223372036854775807;omega) ?_;refine goB ?_;refine ⟨[aI+4],aOU [l[j]] l e e2,⟨rfl,eE _,fun g hg=>by rw [ay] at hg;subst hg;exact ae rfl,?_⟩,rfl,ih _ _ hlt ⟨om,rfl,kq⟩⟩
       repeat' (first
        | exact trivial
        | exact ⟨_,_,.inl ⟨ae rfl,rfl⟩,rfl,.cells (aN _) (.inl rfl)⟩
        | exact ⟨_,_,.inl ⟨ae rfl,rfl⟩,rfl,.cells (.cons (.str _) .nil) (.inl rfl)⟩
        | exact ⟨_,_,.inr ⟨ae rfl,ae rfl,rfl⟩,rfl,.cells (aN _) (.inl rfl)⟩
        | apply And.intro)
      ·have hn:=hnext true hh;rw [if_pos rfl,bf] at hn;simp only [hn] at ih;refine aFh (ok.name _ (az hlt)) (e:=e2) (fl:=.ro) rfl ?_;rw [hh];refine goB ?_;refine bA (j+1) rfl (by have:=ok.few;show j+1 <= 9223372036854775807;omega) ?_;refine goB ?_;refine ⟨[],aOU [] l e e2,⟨rfl,bj,sm,?_⟩,rfl,ih _ _ hlt ⟨om,rfl,kq⟩⟩
       repeat' (first
        | exact trivial
        | exact ⟨_,_,.inl ⟨ae rfl,rfl⟩,rfl,.cells (aN _) (.inl rfl)⟩
        | exact ⟨_,_,.inl ⟨ae rfl,rfl⟩,rfl,.cells (.cons (.str _) .nil) (.inl rfl)⟩
        | exact ⟨_,_,.inr ⟨ae rfl,ae rfl,rfl⟩,rfl,.cells (aN _) (.inl rfl)⟩
        | apply And.intro)
     ·have hge:l.length <= j:=by rw [bF] at hb;simpa using hb
      rw [bd hge] at hout;refine goB ?_;rw [hout];exact ⟨[],bj,sm,.tup (.cons .nilSlice (.cons (.int _ _) .nil)),trivial,trivial⟩
   | cons q0 o0 =>
     have hol:(q0 :: o0).length <= l.length:=by
      have:=List.length_filter_le (fun q:aY=>!eP q.1) (l.take j);rw [hout,bh] at this;omega
     refine LPB.kn mixed (ae rfl) (ae rfl) hf ?_;refine goB ?_;refine dG (fun hb=>?_) (fun hb=>?_)
     ·have hlt:j < l.length:=by rw [bF] at hb;simpa using hb
      have hnext:∀ b,eP l[j].1=b->(l.take (j+1)).filter (fun q=>!eP q.1)=(q0 :: o0) ++ (if b=true then [] else [l[j]]):=fun b hb=>by
       rw [an hlt,List.filter_append,hout];cases b <;> simp [hb]
      refine goB ?_;refine bX (fun _=>?_) (fun h=>absurd (h.symm.trans hb) sm);refine goB ?_;refine dT agg40 hi40 hs40 (j:=j) (ak hlt) (show 0+j * 2=2 * j by omega) ?_;refine goB ?_;cases hh:eP l[j].1
      ·have hn:=hnext false hh;rw [if_neg sm] at hn
       skip
       simp only [hn] at ih;refine aFh (ok.name _ (az hlt)) (e:=e2) (fl:=.ro) rfl ?_;rw [hh];refine goB ?_;refine aEj rfl rfl (by have:=ok.few;omega) ?_;refine goB ?_;refine bA (j+1) rfl (by have:=ok.few;show j+1 <= 9223372036854775807;omega) ?_;refine goB ?_
       have hov:mD (q0 :: o0 ++ [l[j]]) (aI+2)=.slice (aI+2) 0 ((q0 :: o0).length+1) ((q0 :: o0).length+1) 2 false:=by
         show V.slice _ 0 (q0 :: o0 ++ [l[j]]).length (q0 :: o0 ++ [l[j]]).length 2 false=_;rw [aq];rfl
       refine ⟨[aI+5],aOU ((q0 :: o0) ++ [l[j]]) l e e2,⟨rfl,eE _,fun g hg=>by rw [ay] at hg;subst hg;exact ae rfl,?_⟩,rfl,ih _ _ hlt ⟨om,rfl,⟨rfl,rfl,rfl,by rw [hov];rfl,rfl,rfl,rfl,trivial⟩⟩⟩
       repeat' (first
        | exact trivial
        | exact ⟨_,_,.inl ⟨ae rfl,rfl⟩,rfl,.cells (aN _) (.inl rfl)⟩
        | exact ⟨_,_,.inl ⟨ae rfl,rfl⟩,rfl,.cells (.cons (.str _) .nil) (.inl rfl)⟩
        | exact ⟨_,_,.inr ⟨ae rfl,ae rfl,rfl⟩,rfl,.cells (aN _) (.inl rfl)⟩
        | apply And.intro)
      ·have hn:=hnext true hh;rw [if_pos rfl,bf] at hn;simp only [hn] at ih;refine aFh (ok.name _ (az hlt)) (e:=e2) (fl:=.ro) rfl ?_;rw [hh];refine goB ?_;refine bA (j+1) rfl (by have:=ok.few;show j+1 <= 9223372036854775807;omega) ?_;refine goB ?_;refine ⟨[aI+2],aOU (q0 :: o0) l e e2,⟨rfl,eE _,fun g hg=>by rw [ay] at hg;subst hg;exact ae rfl,?_⟩,rfl,ih _ _ hlt ⟨om,rfl,kq⟩⟩
       repeat' (first
        | exact trivial
        | exact ⟨_,_,.inl ⟨ae rfl,rfl⟩,rfl,.cells (aN _) (.inl rfl)⟩
        | exact ⟨_,_,.inl ⟨ae rfl,rfl⟩,rfl,.cells (.cons (.str _) .nil) (.inl rfl)⟩
        | exact ⟨_,_,.inr ⟨ae rfl,ae rfl,rfl⟩,rfl,.cells (aN _) (.inl rfl)⟩
        | apply And.intro)
     ·have hge:l.length <= j:=by rw [bF] at hb;simpa using hb
      rw [bd hge] at hout;refine goB ?_;rw [hout];exact ⟨[aI+2],eE _,fun g hg=>by rw [ay] at hg;subst hg;exact ae rfl,.tup (.cons (.slice _ _ _ _ _ _ _ (uF.new (a:=0) rfl (ae rfl) (by simp [mL])) (.inl rfl) (af _) (fun h=>⟨h,rfl⟩)) (.cons (.int _ _) .nil)),trivial,⟨⟨_,rfl,.cells (aN _) (.inl rfl)⟩,trivial⟩⟩
end Go.Am
namespace Go.Am
open Go.Proofs
attribute [local irreducible] fN fI fB cR eQ evCode evOps rD kOp aAj wF wH wG kGc aLE aLD kDr kMg drOps fU kK sl
theorem f21:bB prog 21 11 [.tmp 4,.tmp 5] (aL Tryz.f21):=fq Tryz.f21
theorem aHs {l:List aY}{v:V}{S:St}(h:LV S v l)(ok:kF l){k:V->St->Prop}(hk:iX (mL (l.filter (fun q=>!eP q.1))) S (k (.tup [mD (l.filter (fun q=>!eP q.1)) S.next,.int .i64 0]))):RC prog 21 [v,.str [95,95]] S k:=by
 refine RC.lab mixed f21 h (fun _=>.cons (.str _) .nil) (mL (l.filter (fun q=>!eP q.1))) tG (v2:=.tup [mD (l.filter (fun q=>!eP q.1)) S.next,.int .i64 0]) ?_ ?_ hk
 ·rintro rfl;refine build ?_;refine enter ?_;refine goB ?_;refine uN (LV.nil _) ok (e2:=9) (fl2:=.ex) rfl ?_;refine goB ?_;exact ⟨[],bj,sm,.tup (.cons .nilSlice (.cons (.int _ _) .nil)),trivial,trivial⟩
 ·intro e i
  cases hout:l.filter (fun q=>!eP q.1) with
  | nil =>
    refine build ?_;refine enter ?_;refine goB ?_;refine uN (LV.mk (e:=e) (fl:=.ro) rfl (af _)) ok (e2:=9) (fl2:=.ex) rfl ?_;rw [hout];refine goB ?_;exact ⟨[],bj,sm,.tup (.cons .nilSlice (.cons (.int _ _) .nil)),trivial,trivial⟩
  | cons q0 o0 =>
    refine build ?_;refine enter ?_;refine goB ?_;refine uN (LV.mk (e:=e) (fl:=.ro) rfl (af _)) ok (e2:=9) (fl2:=.ex) rfl ?_;rw [hout];refine goB ?_;exact ⟨[_],eE _,fun g hg=>by rw [ay] at hg;subst hg;exact ae rfl,.tup (.cons (.slice _ _ _ _ _ _ _ (uF.new (a:=0) rfl (ae rfl) (by simp [mL])) (.inl rfl) (af _) (fun h=>⟨h,rfl⟩)) (.cons (.int _ _) .nil)),trivial,⟨⟨_,rfl,.cells (aN _) (.inl rfl)⟩,trivial⟩⟩
end Go.Am
namespace Go.Am
open Go.Proofs
attribute [local irreducible] fN fI fB cR eQ aO evCode evOps rD kOp aAj wF wH wG kGc aLE aLD kDr kMg drOps fU kK sl
theorem f57:bB prog 57 62 [.tmp 4,.tmp 5] (aL Tryz.f57):=fq Tryz.f57
theorem aTm {s:List UInt8}(h:s ∈ bW):kH s ∈ dF:=by
 simp only [bW,av,List.mem_nil_iff,or_false] at h
 rcases h with rfl|rfl|rfl|rfl|rfl|rfl|rfl|rfl|rfl|rfl|rfl|rfl|rfl|rfl|rfl|rfl <;> decide
theorem aBH {s:List UInt8}(h:s ∈ bW):s.length <= 30:=by
 simp only [bW,av,List.mem_nil_iff,or_false] at h
 rcases h with rfl|rfl|rfl|rfl|rfl|rfl|rfl|rfl|rfl|rfl|rfl|rfl|rfl|rfl|rfl|rfl <;> decide
theorem aMH {s:List UInt8}(h:s ∈ iB):s.length <= 30:=by
 simp only [iB,gQ,jD,List.cons_append,List.nil_append,av,List.mem_nil_iff,or_false] at h
 rcases h with rfl|rfl|rfl|rfl|rfl|rfl|rfl|rfl|rfl|rfl|rfl|rfl|rfl|rfl|rfl|rfl <;> decide
theorem nR {n:List UInt8}:∀ {l:List aY},(∀ q ∈ l,q.2 ∈ iB)->(getL n l).length <= 30
 | [],_=>ai _
 | q :: l,h=>by
   show (if q.1=n then q.2 else getL n l).length <= 30
   split
   ·exact aMH (h q (by simp))
   ·exact nR fun x hx=>h x (by simp [hx])
noncomputable def kW (tg sm:List aY):List aY:=fW (tg.foldl cK (sm.foldl (eL tg sm) ([],0)))
theorem aIp (hL:nG prog 62 34){l l':List aY}{v v':V}{S:St}(h:LV S v l)(ok:kF l)(h':LS S v' l')(ok':kF l')(hs':∀ q ∈ l',q.1 ∈ bW)(hne:(l.foldl cK (l'.foldl (eL l l') ([],0))).1 ≠ [])(hR:(kW l l').length <= 64){k:V->St->Prop}
  (hk:bK (.cells (cellsOf (kW l l')) 34 .rw) S fun id S'=>k (.tup [.slice id 0 (kW l l').length (kW l l').length 2 false,.int .i64 0]) S'):RC prog 57 [v,v'] S k:=by
 obtain ⟨i40,hi40,hs40⟩:=lK;refine RC.lab2 mixed f57 h h' [.cells (cellsOf (kW l l')) 34 .rw] ?_ ?_ ?_ (mZ hk)
 ·rintro (_|a) o h
  ·simp at h;subst h;rfl
  ·simp at h
 ·rintro rfl e i;refine build ?_;refine enter ?_;refine goB ?_;refine cL (LV.nil _) ok ?_;refine goB ?_;refine cL (LV.mk (e:=e) (fl:=.ro) rfl (af _)) ok' ?_;refine goB ?_;refine LP.induct l'.length (fun j E S'=>j <= l'.length∧S'=rE [(aI,.cells (cellsOf l') e .ro),(aI+1,.map (cA ((l'.take j).foldl (eL [] l') ([],0)).1) ((l'.take j).foldl (eL [] l') ([],0)).2)] (aI+2)∧Kn E 62 [(0,.nilSlice),(1,.slice aI 0 l'.length l'.length 2 false),(6,.map (aI+1)),(18,.slice aI 0 l'.length l'.length 2 false),(19,.int .i64 (.ofNat l'.length)),(20,.int .i64 (.ofNat j))]) ⟨ai _,kr,kq⟩ ?_;intro j E S' ⟨hjl,hS',hf⟩ ih;subst hS';refine LP.kng mixed hf ?_;cases hb:qG (.ofNat j) (.ofNat l'.length)
  ·have hge:l'.length <= j:=by rw [bF] at hb;simpa using hb
   refine goB ?_;refine tJ (LV.nil _) (by simp) ok.full (t:=((l'.take j).foldl (eL [] l') ([],0)).1) (c:=((l'.take j).foldl (eL [] l') ([],0)).2) rfl ?_;refine goB ?_;rw [bd hge];refine goB ?_;refine nW hL (x:=[].foldl cK (l'.foldl (eL [] l') ([],0))) rfl (.puts _ (rQ _ .nil)) hne (by have:=iP ([].foldl cK (l'.foldl (eL [] l') ([],0)));unfold kW at hR;omega) ?_;refine goB ?_;refine mY _ _ _ _ _ _ hR ?_;refine goB ?_;refine ⟨[_],eE _,?_,.tup (.cons (.slice _ _ _ _ _ _ _ (uF.new (a:=0) rfl (ae rfl) (by simp)) (.inr (af _)) (af _) (by simp)) (.cons (.int _ _) .nil)),trivial,⟨⟨_,rfl,.cells (aN _) (.inl rfl)⟩,trivial⟩⟩;intro g hg;rw [ay] at hg;subst hg;exact ae rfl
  ·have hlt:j < l'.length:=by rw [bF] at hb;simpa using hb
   have hnm:kH l'[j].1 ∈ dF:=aTm (hs' _ (az hlt));have hle1:Nat.ble (Nat.add (dH [101,120,112,111,114,116,101,100,95]) (dH l'[j].1)) 9223372036854775807=true:=ag (by rw [aM,aM];have:=aBH (hs' _ (az hlt));show 9+l'[j].1.length <= _;omega);have hle2:Nat.ble (Nat.add (dH (getL (kH l'[j].1) [])) (dH (getL (kH l'[j].1) l'))) 9223372036854775807=true:=ag (by rw [aM,aM];have:=nR (n:=kH l'[j].1) ok.val;have:=nR (n:=kH l'[j].1) ok'.val;show (getL (kH l'[j].1) []).length+_ <= _;omega);have hblt:Nat.blt j l'.length=true:=hb;refine goB ?_;refine bX (fun _=>?_) (fun h=>absurd (h.symm.trans hblt) (by simp));refine goB ?_;refine dT agg40 hi40 hs40 (j:=j) (ak hlt) (show 0+j * 2=2 * j by omega) ?_;refine goB ?_;refine lX (LV.nil _) (by simp) _ ?_;refine goB ?_;by_cases hg:getL l'[j].1 []=[]
   ·
    refine aGw (q:=l'[j]) ?_;refine goB ?_;refine bA (j+1) rfl (by have:=ok'.few;show j+1 <= 9223372036854775807;omega) ?_;refine goB ?_
    have htk:((l'.take (j+1)).foldl (eL [] l') ([],0))=cK ((l'.take j).foldl (eL [] l') ([],0)) l'[j]:=by
     rw [an hlt,List.foldl_append];show eL [] l' _ l'[j]=_;unfold eL;rw [if_pos hg]
    refine ⟨rE [(aI,.cells (cellsOf l') e .ro),(aI+1,.map (cA ((l'.take (j+1)).foldl (eL [] l') ([],0)).1) ((l'.take (j+1)).foldl (eL [] l') ([],0)).2)] (aI+2),⟨af _,?_⟩,rfl,ih _ _ hlt ⟨om,rfl,kq⟩⟩
    repeat' (first
     | exact trivial
     | exact ae rfl
     | exact ⟨_,rfl,.cells (aN _) (.inl rfl)⟩
     | exact ⟨_,rfl,by rw [htk];exact .map (gK _)⟩
     | apply And.intro)
   ·
    exact absurd rfl hg
 ·intro e e' i i';refine build ?_;refine enter ?_;refine goB ?_;refine cL (LV.mk (e:=e) (fl:=.ro) rfl (af _)) ok ?_;refine goB ?_;refine cL (LV.mk (e:=e') (fl:=.ro) rfl (af _)) ok' ?_;refine goB ?_;refine LP.induct l'.length (fun j E S'=>j <= l'.length∧S'=rE [(aI,.cells (cellsOf l') e' .ro),(aI+1,.cells (cellsOf l) e .ro),(aI+2,.map (cA ((l'.take j).foldl (eL l l') ([],0)).1) ((l'.take j).foldl (eL l l') ([],0)).2)] (aI+3)∧Kn E 62 [(0,.slice (aI+1) 0 l.length l.length 2 false),(1,.slice aI 0 l'.length l'.length 2 false),(6,.map (aI+2)),(18,.slice aI 0 l'.length l'.length 2 false),(19,.int .i64 (.ofNat l'.length)),(20,.int .i64 (.ofNat j))]) ⟨ai _,kr,kq⟩ ?_;intro j E S' ⟨hjl,hS',hf⟩ ih;subst hS';refine LP.kng mixed hf ?_;cases hb:qG (.ofNat j) (.ofNat l'.length)
  ·have hge:l'.length <= j:=by rw [bF] at hb;simpa using hb
   refine goB ?_;refine tJ (LV.mk (e:=e) (fl:=.ro) rfl (af _)) ok.lt ok.full (t:=((l'.take j).foldl (eL l l') ([],0)).1) (c:=((l'.take j).foldl (eL l l') ([],0)).2) rfl ?_;refine goB ?_;rw [bd hge];refine goB ?_;refine nW hL (x:=l.foldl cK (l'.foldl (eL l l') ([],0))) rfl (.puts _ (rQ _ .nil)) hne (by have:=iP (l.foldl cK (l'.foldl (eL l l') ([],0)));unfold kW at hR;omega) ?_;refine goB ?_;refine mY _ _ _ _ _ _ hR ?_;refine goB ?_;refine ⟨[_],eE _,?_,.tup (.cons (.slice _ _ _ _ _ _ _ (uF.new (a:=0) rfl (ae rfl) (by simp)) (.inr (af _)) (af _) (by simp)) (.cons (.int _ _) .nil)),trivial,⟨⟨_,rfl,.cells (aN _) (.inl rfl)⟩,trivial⟩⟩;intro g hg;rw [ay] at hg;subst hg;exact ae rfl
  ·have hlt:j < l'.length:=by rw [bF] at hb;simpa using hb
   have hnm:kH l'[j].1 ∈ dF:=aTm (hs' _ (az hlt));have hle1:Nat.ble (Nat.add (dH [101,120,112,111,114,116,101,100,95]) (dH l'[j].1)) 9223372036854775807=true:=ag (by rw [aM,aM];have:=aBH (hs' _ (az hlt));show 9+l'[j].1.length <= _;omega);have hle2:Nat.ble (Nat.add (dH (getL (kH l'[j].1) l)) (dH (getL (kH l'[j].1) l'))) 9223372036854775807=true:=ag (by rw [aM,aM];have:=nR (n:=kH l'[j].1) ok.val;have:=nR (n:=kH l'[j].1) ok'.val;show (getL (kH l'[j].1) l).length+_ <= _;omega);have hblt:Nat.blt j l'.length=true:=hb;refine goB ?_;refine bX (fun _=>?_) (fun h=>absurd (h.symm.trans hblt) (by simp));refine goB ?_;refine dT agg40 hi40 hs40 (j:=j) (ak hlt) (show 0+j * 2=2 * j by omega) ?_;refine goB ?_;refine lX (LV.mk (e:=e) (fl:=.ro) rfl (af _)) ok.lt _ ?_;refine goB ?_;by_cases hg:getL l'[j].1 l=[]
   ·
    refine kN (by rw [cY,hg];rfl) ?_;refine goB ?_;refine aGw (q:=l'[j]) ?_;refine goB ?_;refine bA (j+1) rfl (by have:=ok'.few;show j+1 <= 9223372036854775807;omega) ?_;refine goB ?_
    have htk:((l'.take (j+1)).foldl (eL l l') ([],0))=cK ((l'.take j).foldl (eL l l') ([],0)) l'[j]:=by
     rw [an hlt,List.foldl_append];show eL l l' _ l'[j]=_;unfold eL;simp [hg]
    refine ⟨rE [(aI,.cells (cellsOf l') e' .ro),(aI+1,.cells (cellsOf l) e .ro),(aI+2,.map (cA ((l'.take (j+1)).foldl (eL l l') ([],0)).1) ((l'.take (j+1)).foldl (eL l l') ([],0)).2)] (aI+3),⟨af _,?_⟩,rfl,ih _ _ hlt ⟨om,rfl,kq⟩⟩
    repeat' (first
     | exact trivial
     | exact ae rfl
     | exact ⟨_,rfl,.cells (aN _) (.inl rfl)⟩
     | exact ⟨_,rfl,by rw [htk];exact .map (gK _)⟩
     | apply And.intro)
   ·
    have hg2:kG (getL l'[j].1 l) []=false:=by rw [cY];simpa using hg
    refine lG hg2 ?_;refine goB ?_;refine bX (fun _=>?_) (fun h=>absurd (h.symm.trans hle1) (by simp));refine goB ?_;by_cases hcat:getL (kH l'[j].1) l ++ getL (kH l'[j].1) l'=[]
    ·have hce:kG (getL (kH l'[j].1) l ++ getL (kH l'[j].1) l') []=true:=by rw [cY,hcat];rfl
     refine godB ?_;refine d_callA rfl ?_;refine aGA hnm ?_;refine n_dopA ?_;refine godB ?_;refine d_callA rfl ?_;refine lX (LV.mk (e:=e) (fl:=.ro) rfl (af _)) ok.lt _ ?_;refine n_dopA ?_;refine godB ?_;refine d_callA rfl ?_;refine lX (LV.mk (e:=e') (fl:=.ro) rfl (af _)) ok'.lt _ ?_;refine n_dopA ?_;refine godB ?_
     refine aV rfl (by
      intro Q hQ
      conv=>whnf
      refine bX (fun _=>?_) (fun h=>absurd (h.symm.trans hle2) (by simp));refine bZ ?_
      exact hQ) ?_
     refine godB ?_;refine godB ?_;refine godB ?_;refine goB ?_;refine aGw (q:=(kH l'[j].1,l'[j].2)) ?_;refine goB ?_;refine bA (j+1) rfl (by have:=ok'.few;show j+1 <= 9223372036854775807;omega) ?_;refine goB ?_
     have htk:((l'.take (j+1)).foldl (eL l l') ([],0))=cK ((l'.take j).foldl (eL l l') ([],0)) (kH l'[j].1,l'[j].2):=by
      rw [an hlt,List.foldl_append];show eL l l' _ l'[j]=_;unfold eL;rw [if_neg hg,if_pos hcat]
     refine ⟨rE [(aI,.cells (cellsOf l') e' .ro),(aI+1,.cells (cellsOf l) e .ro),(aI+2,.map (cA ((l'.take (j+1)).foldl (eL l l') ([],0)).1) ((l'.take (j+1)).foldl (eL l l') ([],0)).2)] (aI+3),⟨af _,?_⟩,rfl,ih _ _ hlt ⟨om,rfl,kq⟩⟩
     repeat' (first
      | exact trivial
      | exact ae rfl
      | exact ⟨_,rfl,.cells (aN _) (.inl rfl)⟩
      | exact ⟨_,rfl,by rw [htk];exact .map (gK _)⟩
      | apply And.intro)
    ·have hce:kG (getL (kH l'[j].1) l ++ getL (kH l'[j].1) l') []=false:=by rw [cY];simpa using hcat
     refine godB ?_;refine d_callA rfl ?_;refine aGA hnm ?_;refine n_dopA ?_;refine godB ?_;refine d_callA rfl ?_;refine lX (LV.mk (e:=e) (fl:=.ro) rfl (af _)) ok.lt _ ?_;refine n_dopA ?_;refine godB ?_;refine d_callA rfl ?_;refine lX (LV.mk (e:=e') (fl:=.ro) rfl (af _)) ok'.lt _ ?_;refine n_dopA ?_;refine godB ?_
     refine aV rfl (by
      intro Q hQ
      conv=>whnf
      refine bX (fun _=>?_) (fun h=>absurd (h.symm.trans hle2) (by simp));refine bZ ?_
      exact hQ) ?_
     refine godB ?_;refine godB ?_;refine godB ?_;refine goB ?_;refine bA (j+1) rfl (by have:=ok'.few;show j+1 <= 9223372036854775807;omega) ?_;refine goB ?_
     have htk:((l'.take (j+1)).foldl (eL l l') ([],0))=((l'.take j).foldl (eL l l') ([],0)):=by
      rw [an hlt,List.foldl_append];show eL l l' _ l'[j]=_;unfold eL;rw [if_neg hg,if_neg hcat]
     refine ⟨rE [(aI,.cells (cellsOf l') e' .ro),(aI+1,.cells (cellsOf l) e .ro),(aI+2,.map (cA ((l'.take (j+1)).foldl (eL l l') ([],0)).1) ((l'.take (j+1)).foldl (eL l l') ([],0)).2)] (aI+3),⟨af _,?_⟩,rfl,ih _ _ hlt ⟨om,rfl,kq⟩⟩
     repeat' (first
      | exact trivial
      | exact ae rfl
      | exact ⟨_,rfl,.cells (aN _) (.inl rfl)⟩
      | exact ⟨_,rfl,by rw [htk];exact .map (gK _)⟩
      | apply And.intro)
theorem f50:bB prog 50 6 [.tmp 2] (aL Tryz.f50):=fq Tryz.f50
theorem f77:bB prog 77 19 [.tmp 4] (aL Tryz.f77):=fq Tryz.f77
theorem f49:bB prog 49 9 [.tmp 4] (aL Tryz.f49):=fq Tryz.f49
theorem f51:bB prog 51 43 [.tmp 2,.tmp 3,.tmp 4] (aL Tryz.f51):=fq Tryz.f51
theorem aTX {q:aY}(hn:q.1 ∈ dF)(hh:eP q.1=false){S:St}{k:V->St->Prop}(hk:k (.bool false) S):RC prog 50 [gE q] S k:=by
 refine RC.read mixed f50 (l:=[gE q]) [] [] [] [] (v2:=.bool false) sm rfl rfl sm sm (.cons (.agg (.cons (.str _) (.cons (.str _) .nil))) .nil) sm ?_ hk;unfold gE;refine build ?_;refine enter ?_;refine goB ?_;refine aVS hn ?_;refine goB ?_;rw [hh];refine goB ?_;exact ⟨[],bj,sm,.bool _,trivial,trivial⟩
theorem aDs {l:List aY}{v:V}{S:St}(h:LV S v l)(ok:kF l)(hh:∀ q ∈ l,eP q.1=false){k:V->St->Prop}(hk:k (.int .i64 (.negSucc 0)) S):RC prog 77 [v,.func (.func 50) [] []] S k:=by
 obtain ⟨i40,hi40,hs40⟩:=lK;refine RC.lab mixed f77 h (fun _=>.cons (.func _ .nil .nil) .nil) [] sm (v2:=.int .i64 (.negSucc 0)) ?_ ?_ hk
 ·rintro rfl;refine build ?_;refine enter ?_;refine goB ?_;refine LP.one mixed ?_;refine goB ?_;exact ⟨[],bj,sm,.int _ _,trivial,trivial⟩
 ·intro e i;refine build ?_;refine enter ?_;refine goB ?_;refine LP.induct0 l.length (fun j E=>j <= l.length∧Kn E 19 [(0,.slice aI 0 l.length l.length 2 false),(1,.func (.func 50) [] []),(6,.slice aI 0 l.length l.length 2 false),(7,.int .i64 (.ofNat l.length)),(8,.int .i64 (.ofNat j))]) ⟨ai _,kq⟩ ?_;intro j E ⟨hjl,hf⟩ ih;refine LP.kng mixed hf ?_;cases hb:qG (.ofNat j) (.ofNat l.length)
  ·have hge:l.length <= j:=by rw [bF] at hb;simpa using hb
   refine goB ?_;exact ⟨[],bj,sm,.int _ _,trivial,trivial⟩
  ·have hlt:j < l.length:=by rw [bF] at hb;simpa using hb
   have hblt:Nat.blt j l.length=true:=hb;refine goB ?_;refine bX (fun _=>?_) (fun h=>absurd (h.symm.trans hblt) sm);refine goB ?_;refine dT agg40 hi40 hs40 (j:=j) (ak hlt) (show 0+j * 2=2 * j by omega) ?_;refine goB ?_;refine aTX (ok.name _ (az hlt)) (hh _ (az hlt)) ?_;refine goB ?_;refine bA (j+1) rfl (by have:=ok.few;show j+1 <= 9223372036854775807;omega) ?_;refine goB ?_;refine ⟨_,⟨af _,?_⟩,rfl,ih _ hlt ⟨om,kq⟩⟩
   repeat' (first
    | exact trivial
    | exact ae rfl
    | exact ⟨_,rfl,.cells (aN _) (.inl rfl)⟩
    | apply And.intro)
theorem sU {l:List aY}{v:V}{S:St}(h:LV S v l)(ok:kF l)(hh:∀ q ∈ l,eP q.1=false){k:V->St->Prop}(hk:k (.bool false) S):RC prog 49 [v,.func (.func 50) [] []] S k:=by
 refine RC.lab mixed f49 h (fun _=>.cons (.func _ .nil .nil) .nil) [] sm (v2:=.bool false) ?_ ?_ hk
 ·rintro rfl;refine build ?_;refine enter ?_;refine goB ?_;refine aDs (LV.nil _) ok hh ?_;refine goB ?_;exact ⟨[],bj,sm,.bool _,trivial,trivial⟩
 ·intro e i;refine build ?_;refine enter ?_;refine goB ?_;refine aDs (LV.mk (e:=e) (fl:=.ro) rfl (af _)) ok hh ?_;refine goB ?_;exact ⟨[],bj,sm,.bool _,trivial,trivial⟩
theorem aDB {S:St}{k:V->St->Prop}(hk:bK (.cells [.nilSlice,.bool true] 154 .ex) S fun id S=>k (.tup [.ptr id 0,.int .i64 (.negSucc 0),.int .i64 0]) S):RC prog 51 [.nilSlice] S k:=by
 refine RC.read mixed f51 (l:=[.nilSlice]) [] [] [] [.cells [.nilSlice,.bool true] 154 .ex] (v2:=.tup [.ptr S.next 0,.int .i64 (.negSucc 0),.int .i64 0]) sm rfl rfl sm sm (.cons .nilSlice .nil) ?_ ?_ (mZ hk)
 ·rintro (_|a) o h
  ·simp at h;subst h;rfl
  ·simp at h
 ·refine build ?_;refine enter ?_;refine goB ?_;refine LP.one mixed ?_;refine goB ?_;exact ⟨[_],eE _,fun g hg=>by rw [ay] at hg;subst hg;exact ae rfl,.tup (.cons (.ptr _ (uF.new (a:=0) rfl (ae rfl) sm)) (.cons (.int _ _) (.cons (.int _ _) .nil))),trivial,⟨⟨_,rfl,.cells (.cons .nilSlice (.cons (.bool _) .nil)) (.inl rfl)⟩,trivial⟩⟩
section
theorem f22:bB prog 22 29 [.tmp 4,.tmp 5] (aL Tryz.f22):=fq Tryz.f22
theorem f38:bB prog 38 8 [.tmp 2] (aL Tryz.f38):=fq Tryz.f38
theorem f28:bB prog 28 8 [.tmp 2] (aL Tryz.f28):=fq Tryz.f28
theorem RC.keep {P:Program}(hm:P.follows .mixedOrders=true){c:FuncId}{n:Nat}{rs:List ResultVar}{code:Code}(hf:bB P c n rs code){l l2:List V}(ids:List Nat)(ks os news:List O){S:St}{v2:V}{k:V->St->Prop}
  (hids:∀ a b i:Nat,0 <= a->ids[a]?=some i->ids[b]?=some i->a=b) (hlen:ids.length=os.length) (hlen1:ks.length=os.length) (hat:∀ (a i:Nat) (o:O),ids[a]?=some i->ks[a]?=some o->S.hs.get i=some o)
  (hin:∀ (a:Nat) (o' o:O),ks[a]?=some o'->os[a]?=some o->OI (iC ids (aI+os.length)) o' o) (hl:mJ (iC ids (aI+os.length)) l2 l) (hw:∀ (a:Nat) (o:O),ks[a]?=some o->o.wr=true) (hwn:∀ (a:Nat) (o:O),news[a]?=some o->o.wr=true)
  (hrun:dJ (kJ aI os) ⟨.nil,aI+os.length⟩ (uV P n rs code l (aAC 0 ids (aI+os.length) S.next ks news v2)))
  (hk:iX news S (k v2)):RC P c l2 S k:=by
 obtain ⟨S0,h1,h0⟩:=fF hrun
 have hX:oY P []:=fun q h=>by cases h
 obtain ⟨v,S',h2,h3⟩:=iE hX fL fM oM (evDraw_ok hm fL fM) c l S0 _ (aG hf h1);obtain ⟨S2,h6,h7⟩:=nZ hk;have:=h3.small 0 h0 hids sm hlen hlen1 (by simpa using hlen1) hat hin hl hw hwn h2
 rw [aCp (fun q hq=>by
  obtain ⟨a,ha⟩:=List.getElem?_of_mem hq;rw [List.getElem?_zip_eq_some] at ha
  exact hat a _ _ (by simpa using ha.1) ha.2),<- h7] at this
 exact .mk v2 S2 this h6
def LW (S:St)(v:V)(l:List aY):Prop:=(v=.nilSlice∧l=[]) ∨ ∃ i c ex,v=.slice i 0 l.length c 2 ex∧l.length <= c∧S.hs.get i=some (.cells (cellsOf l) 34 .rw)
theorem LW.lv {S:St}{v:V}{l:List aY}(h:LW S v l):LV S v l:=by
 rcases h with h|⟨i,c,ex,rfl,hc,h⟩
 ·exact .inl h
 ·exact LV.mk h hc
theorem aLR {o:O}{S:St}{o2:Nat->O}{K:Nat->Nat->St->Prop}(h:bK o S fun r S1=>bK (o2 r) S1 fun p S2=>K r p S2):iX [o,o2 S.next] S (K S.next (S.next+1)):=by cases S;exact h
theorem aMo {l:List aY}{v:V}{S:St}(h:LW S v l)(ok:kF l)(hh:∀ q ∈ l,eP q.1=false){k:V->St->Prop}
  (hk:bK (.cells [.nilSlice,.bool true] 154 .ex) S fun r S1=>bK (.cells [v,.ptr r 0] 120 .ex) S1 fun p S2=>k (.tup [.ptr p 0,.int .i64 0]) S2):RC prog 22 [v,.nilSlice] S k:=by
 have hk2:=aLR (o2:=fun r=>.cells [v,.ptr r 0] 120 .ex) (K:=fun _ p S2=>k (.tup [.ptr p 0,.int .i64 0]) S2) hk
 have hwn:∀ (a:Nat) (o:O),[O.cells [.nilSlice,.bool true] 154 .ex,.cells [v,.ptr S.next 0] 120 .ex][a]?=some o->o.wr=true:=by
  rintro (_|_|a) o h
  ·simp at h;subst h;rfl
  ·simp at h;subst h;rfl
  ·simp at h
 rcases h with ⟨rfl,rfl⟩|⟨i,c,ex,rfl,hc,hrow⟩
 ·refine RC.keep mixed f22 (l:=[.nilSlice,.nilSlice]) [] [] [] _ sm rfl rfl sm sm (.cons .nilSlice (.cons .nilSlice .nil)) sm hwn ?_ hk2;refine build ?_;refine enter ?_;refine goB ?_;refine cL (LV.nil _) ok ?_;refine goB ?_;refine sU (LV.nil _) ok hh ?_;refine goB ?_;refine aDB ?_;refine goB ?_
  refine ⟨[aI,aI+1],dc,?_,.tup (.cons (.ptr _ (uF.new (a:=1) rfl (ae rfl) sm)) (.cons (.int _ _) .nil)),trivial,
   ⟨⟨_,rfl,.cells (.cons .nilSlice (.cons (.bool _) .nil)) (.inl rfl)⟩,⟨_,rfl,.cells (.cons (.nilSlice) (.cons (.ptr _ (uF.new (a:=0) rfl (ae rfl) sm)) .nil)) (.inl rfl)⟩,trivial⟩⟩
  intro g hg;simp only [av,List.mem_nil_iff,or_false] at hg
  rcases hg with rfl|rfl <;> exact ae rfl
 ·refine RC.keep mixed f22 (l:=[.slice aI 0 l.length c 2 ex,.nilSlice]) [i] [.cells (cellsOf l) 34 .rw] [.cells (cellsOf l) 34 .rw] _ ?_ rfl rfl ?_ ?_ (.cons (.slice _ _ _ _ _ _ _ (iC.at (a:=0) rfl sm) (.inl rfl) (af _) (fun h=>⟨h,rfl⟩)) (.cons .nilSlice .nil)) ?_ hwn ?_ hk2
  ·rintro (_|a) (_|b) x _ h1 h2 <;> simp at h1 h2 ⊢
  ·rintro (_|a) j o h1 h2
   ·simp at h1 h2;subst h1;subst h2;exact hrow
   ·simp at h1
  ·rintro (_|a) o1 o2 h1 h2
   ·simp at h1 h2;subst h1;subst h2;exact .cells (aN l) (.inl rfl)
   ·simp at h1
  ·rintro (_|a) o h
   ·simp at h;subst h;rfl
   ·simp at h
  ·show dJ _ ⟨T.nil,aI+1⟩ _;refine build ?_;refine enter ?_;refine goB ?_;refine cL (LV.mk (e:=34) (fl:=.rw) rfl hc) ok ?_;refine goB ?_;refine sU (LV.mk (e:=34) (fl:=.rw) rfl hc) ok hh ?_;refine goB ?_;refine aDB ?_;refine goB ?_
   refine ⟨[aI+1,aI+2],dc,?_,.tup (.cons (.ptr _ (uF.new (a:=1) rfl (ae rfl) sm)) (.cons (.int _ _) .nil)),⟨⟨_,rfl,.cells (aN _) (.inl rfl)⟩,trivial⟩,
    ⟨⟨_,rfl,.cells (.cons .nilSlice (.cons (.bool _) .nil)) (.inl rfl)⟩,⟨_,rfl,.cells (.cons (.slice _ _ _ _ _ _ _ (uF.at (a:=0) rfl sm (af _)) (.inl rfl) (af _) (fun h=>⟨h,rfl⟩)) (.cons (.ptr _ (uF.new (a:=0) rfl (ae rfl) sm)) .nil)) (.inl rfl)⟩,trivial⟩⟩
   intro g hg;simp only [av,List.mem_nil_iff,or_false] at hg
   rcases hg with rfl|rfl <;> exact ae rfl
attribute [local irreducible] fX nH cM bK bD
theorem aKU {S:St}{id id2:Nat}{l:List aY}{e' e2:TypeId}{fl2:Fl}(ho:S.hs.get id=some (.cells [] e' .ex))(hx:S.hs.get id2=some (.cells (cellsOf l) e2 fl2))(hne:l ≠ [])(hlen:l.length < 4096){k:V->St->Prop}
  (hk:bK (.cells (cellsOf l) 34 .rw) S fun id S=>k (.slice id 0 l.length l.length 2 false) S):aO prog #[28,28] (.slice id 0 0 0 2 true) (.slice id2 0 l.length l.length 2 false) S k:=by
 unfold aO;refine aA hx ?_;refine bJ (by rw [aZ];show l.length * 2 <= 2 * l.length;omega) ?_;refine aP ?_;refine bX (fun h=>?_) (fun _=>?_)
 ·have h1:0+l.length <= 0:=ae h;exact absurd (List.length_eq_zero_iff.1 om) hne
 refine bX (fun _=>?_) (fun h=>?_)
 ·refine aA ho ?_;rw [bd (by rw [aZ];show 2 * l.length <= l.length * 2;omega)];refine bJ (n:=0) (ai _) ?_;refine bZ ?_;have e0:Nat.add 0 l.length=l.length:=Nat.zero_add _;rw [e0];exact hk
 ·have h1:Nat.ble ((0+l.length) * 33) 70368744177664=true:=ag om;exact absurd (h.symm.trans h1) sm
theorem aKV {S:St}{id id2:Nat}{l:List aY}{e' e2:TypeId}{fl2:Fl}(ho:S.hs.get id=some (.cells [] e' .ex))(hx:S.hs.get id2=some (.cells (cellsOf l) e2 fl2))(hne:l ≠ [])(hlen:l.length < 4096){k:V->St->Prop}
  (hk:bK (.cells (cellsOf l) 34 .rw) S fun id S=>k (.slice id 0 l.length l.length 2 false) S):aO prog #[29,29] (.slice id 0 0 0 2 true) (.slice id2 0 l.length l.length 2 false) S k:=by
 unfold aO;refine aA hx ?_;refine bJ (by rw [aZ];show l.length * 2 <= 2 * l.length;omega) ?_;refine aP ?_;refine bX (fun h=>?_) (fun _=>?_)
 ·have h1:0+l.length <= 0:=ae h;exact absurd (List.length_eq_zero_iff.1 om) hne
 refine bX (fun _=>?_) (fun h=>?_)
 ·refine aA ho ?_;rw [bd (by rw [aZ];show 2 * l.length <= l.length * 2;omega)];refine bJ (n:=0) (ai _) ?_;refine bZ ?_;have e0:Nat.add 0 l.length=l.length:=Nat.zero_add _;rw [e0];exact hk
 ·have h1:Nat.ble ((0+l.length) * 33) 70368744177664=true:=ag om;exact absurd (h.symm.trans h1) sm
end
theorem zF {l:List aY}{v:V}{S:St}(h:LV S v l)(hne:v ≠ .nilSlice->l ≠ [])(hl:l.length < 4096){k:V->St->Prop}(hk:iX (mL l) S (k (mD l S.next))):RC prog 38 [v] S k:=by
 by_cases hv:v=.nilSlice
 ·subst hv
  rcases h with ⟨_,rfl⟩|⟨i,c,ex,rest,e,fl,h,_⟩
  ·refine RC.read mixed f38 (l:=[.nilSlice]) [] [] [] [] (v2:=.nilSlice) sm rfl rfl sm sm (.cons .nilSlice .nil) sm ?_ hk;refine build ?_;refine enter ?_;refine goB ?_;exact ⟨[],bj,sm,.nilSlice,trivial,trivial⟩
  ·cases h
 ·have hl0:=hne hv
  cases l with
  | nil=>exact absurd rfl hl0
  | cons q0 o0 =>
    refine RC.lab mixed f38 h (fun _=>.nil) (mL (q0 :: o0)) tG (v2:=mD (q0 :: o0) S.next) (fun h=>by cases h) ?_ hk;intro e i;refine build ?_;refine enter ?_;refine goB ?_;refine aKU (l:=q0 :: o0) rfl rfl sm hl ?_;refine goB ?_;exact ⟨[_],eE _,fun g hg=>by rw [ay] at hg;subst hg;exact ae rfl,.slice _ _ _ _ _ _ _ (uF.new (a:=0) rfl (ae rfl) (by simp [mL])) (.inl rfl) (af _) (fun h=>⟨h,rfl⟩),trivial,⟨⟨_,rfl,.cells (aN _) (.inl rfl)⟩,trivial⟩⟩
theorem aFJ {l:List aY}{v:V}{S:St}(h:LV S v l)(hne:v ≠ .nilSlice->l ≠ [])(hl:l.length < 4096){k:V->St->Prop}(hk:iX (mL l) S (k (mD l S.next))):RC prog 28 [v] S k:=by
 by_cases hv:v=.nilSlice
 ·subst hv
  rcases h with ⟨_,rfl⟩|⟨i,c,ex,rest,e,fl,h,_⟩
  ·refine RC.read mixed f28 (l:=[.nilSlice]) [] [] [] [] (v2:=.nilSlice) sm rfl rfl sm sm (.cons .nilSlice .nil) sm ?_ hk;refine build ?_;refine enter ?_;refine goB ?_;exact ⟨[],bj,sm,.nilSlice,trivial,trivial⟩
  ·cases h
 ·have hl0:=hne hv
  cases l with
  | nil=>exact absurd rfl hl0
  | cons q0 o0 =>
    refine RC.lab mixed f28 h (fun _=>.nil) (mL (q0 :: o0)) tG (v2:=mD (q0 :: o0) S.next) (fun h=>by cases h) ?_ hk;intro e i;refine build ?_;refine enter ?_;refine goB ?_;refine aKV (l:=q0 :: o0) rfl rfl sm hl ?_;refine goB ?_;exact ⟨[_],eE _,fun g hg=>by rw [ay] at hg;subst hg;exact ae rfl,.slice _ _ _ _ _ _ _ (uF.new (a:=0) rfl (ae rfl) (by simp [mL])) (.inl rfl) (af _) (fun h=>⟨h,rfl⟩),trivial,⟨⟨_,rfl,.cells (aN _) (.inl rfl)⟩,trivial⟩⟩
theorem f63:bB prog 63 10 [.tmp 2,.tmp 3] (aL Tryz.f63):=fq Tryz.f63
theorem f32:bB prog 32 26 [.tmp 2] (aL Tryz.f32):=fq Tryz.f32
def aIo (b:Int):Int:=(IntKind.i64.wrap (IntKind.u64.wrap ↑(BitVec.ofInt IntKind.u64.bits (b.fdiv (2 ^ min 52 IntKind.u64.bits)) &&& BitVec.ofInt IntKind.u64.bits 2047).toNat))
def aBo (b:Int):Int:=(IntKind.u64.wrap ↑(BitVec.ofInt IntKind.u64.bits b &&& BitVec.ofInt IntKind.u64.bits 4503599627370495).toNat)
noncomputable def aBz (b:Int):Int:=if xU (aIo b) 2047=true then (if xU (aBo b) 0=true then 3 else 4) else if qG 0 (aIo b)=true then 2 else if qG 0 (aBo b)=true then 1 else 0
theorem aIT (b:Int){S:St}{k:V->St->Prop}(hk:k (.tup [.int .i64 (aIo b),.int .u64 (aBo b)]) S):RC prog 63 [.int .u64 b] S k:=by
 refine RC.read mixed f63 (l:=[.int .u64 b]) [] [] [] [] (v2:=.tup [.int .i64 (aIo b),.int .u64 (aBo b)]) sm rfl rfl sm sm (.cons (.int _ _) .nil) sm ?_ hk;refine build ?_;refine enter ?_;refine goB ?_;refine tO ?_;refine goB ?_;exact ⟨[],bj,sm,.tup (.cons (.int _ _) (.cons (.int _ _) .nil)),trivial,trivial⟩
theorem aLH (b:Int){S:St}{k:V->St->Prop}(hk:k (.int .u8 (aBz b)) S):RC prog 32 [.int .u64 b] S k:=by
 refine RC.read mixed f32 (l:=[.int .u64 b]) [] [] [] [] (v2:=.int .u8 (aBz b)) sm rfl rfl sm sm (.cons (.int _ _) .nil) sm ?_ hk;refine build ?_;refine enter ?_;refine goB ?_;refine aIT b ?_;refine goB ?_;generalize he:aIo b=e;generalize hf:aBo b=f
 have hk:aBz b=if xU e 2047=true then (if xU f 0=true then 3 else 4) else if qG 0 e=true then 2 else if qG 0 f=true then 1 else 0:=by unfold aBz;rw [he,hf]
 cases h1:xU e 2047 with
 | true =>
   cases h2:xU f 0 with
   | true =>
     refine goB ?_;rw [hk,h1,h2];exact ⟨[],bj,sm,.int _ _,trivial,trivial⟩
   | false =>
     refine goB ?_;rw [hk,h1,h2];exact ⟨[],bj,sm,.int _ _,trivial,trivial⟩
 | false =>
   cases h2:qG 0 e with
   | true =>
     refine goB ?_;rw [hk,h1,h2];exact ⟨[],bj,sm,.int _ _,trivial,trivial⟩
   | false =>
     cases h3:qG 0 f with
     | true =>
       refine goB ?_;rw [hk,h1,h2,h3];exact ⟨[],bj,sm,.int _ _,trivial,trivial⟩
     | false =>
       refine goB ?_;rw [hk,h1,h2,h3];exact ⟨[],bj,sm,.int _ _,trivial,trivial⟩
theorem f25:bB prog 25 32 [.tmp 2] (aL Tryz.f25):=fq Tryz.f25
def aW:List UInt8:=[95,95,110,97,109,101,95,95]
end Go.Am
namespace Go.Am
section
variable {P:Program}
mutual
def V.mo (f:Nat->Option Nat):V->V
 | .ptr id off=>match f id with|some j=>.ptr j off|none=>.any
 | .slice id off len cap es ex=>match f id with|some j=>.slice j off len cap es ex|none=>.any
 | .map id=>match f id with|some j=>.map j|none=>.any
 | .yield id=>match f id with|some j=>.yield j|none=>.any
 | .func fn a c=>.func fn (V.moL f a) (V.moL f c)
 | .iface t v=>.iface t (V.mo f v)
 | .agg a=>.agg (V.moL f a)
 | .tup a=>.tup (V.moL f a)
 | .bool x=>.bool x
 | .int k m=>.int k m
 | .float k m=>.float k m
 | .str s=>.str s
 | .nilPtr=>.nilPtr
 | .nilSlice=>.nilSlice
 | .nilMap=>.nilMap
 | .nilFunc=>.nilFunc
 | .nilIface=>.nilIface
 | .any=>.any
def V.moL (f:Nat->Option Nat):List V->List V
 | []=>[]
 | v :: l=>V.mo f v :: V.moL f l
end
mutual
theorem V.mo_vi {f:Nat->Option Nat}{R:Nat->Nat->Prop}(h:∀ i j,f i=some j->R i j):∀ v:V,VI R v (V.mo f v)
 | .ptr id off=>by
   unfold V.mo
   cases hf:f id with
   | none=>exact .toAny rfl
   | some j=>exact .ptr off (h _ _ hf)
 | .slice id off len cap es ex=>by
   unfold V.mo
   cases hf:f id with
   | none=>exact .toAny rfl
   | some j=>exact .slice off len cap es ex cap ex (h _ _ hf) (.inl rfl) (af _) fun h=>⟨h,rfl⟩
 | .map id=>by
   unfold V.mo
   cases hf:f id with
   | none=>exact .toAny rfl
   | some j=>exact .map (h _ _ hf)
 | .yield id=>by
   unfold V.mo
   cases hf:f id with
   | none=>exact .toAny rfl
   | some j=>exact .yield (h _ _ hf)
 | .func fn a c=>.func fn (V.mo_vis h a) (V.mo_vis h c)
 | .iface t v=>.iface t (V.mo_vi h v)
 | .agg a=>.agg (V.mo_vis h a)
 | .tup a=>.tup (V.mo_vis h a)
 | .bool x=>.bool x
 | .int k m=>.int k m
 | .float k m=>.float k m
 | .str s=>.str s
 | .nilPtr=>.nilPtr
 | .nilSlice=>.nilSlice
 | .nilMap=>.nilMap
 | .nilFunc=>.nilFunc
 | .nilIface=>.nilIface
 | .any=>.any
theorem V.mo_vis {f:Nat->Option Nat}{R:Nat->Nat->Prop}(h:∀ i j,f i=some j->R i j):∀ l:List V,mJ R l (V.moL f l)
 | []=>.nil
 | v :: l=>.cons (V.mo_vi h v) (V.mo_vis h l)
end
mutual
theorem V.mo_mo (f g:Nat->Option Nat):∀ v:V,V.mo g (V.mo f v)=V.mo (fun i=>(f i).bind g) v
 | .ptr id off=>by simp only [V.mo];cases f id <;> simp [V.mo]
 | .slice id off len cap es ex=>by simp only [V.mo];cases f id <;> simp [V.mo]
 | .map id=>by simp only [V.mo];cases f id <;> simp [V.mo]
 | .yield id=>by simp only [V.mo];cases f id <;> simp [V.mo]
 | .func fn a c=>by simp only [V.mo];rw [V.moL_mo f g a,V.moL_mo f g c]
 | .iface t v=>by simp only [V.mo];rw [V.mo_mo f g v]
 | .agg a=>by simp only [V.mo];rw [V.moL_mo f g a]
 | .tup a=>by simp only [V.mo];rw [V.moL_mo f g a]
 | .bool x=>rfl
 | .int k m=>rfl
 | .float k m=>rfl
 | .str s=>rfl
 | .nilPtr=>rfl
 | .nilSlice=>rfl
 | .nilMap=>rfl
 | .nilFunc=>rfl
 | .nilIface=>rfl
 | .any=>rfl
theorem V.moL_mo (f g:Nat->Option Nat):∀ l:List V,V.moL g (V.moL f l)=V.moL (fun i=>(f i).bind g) l
 | []=>rfl
 | v :: l=>by simp only [V.moL];rw [V.mo_mo f g v,V.moL_mo f g l]
end
def moE (f:Nat->Option Nat):List (V × V × Nat)->List (V × V × Nat)
 | []=>[]
 | e :: es=>(V.mo f e.1,V.mo f e.2.1,e.2.2) :: moE f es
def O.mo (f:Nat->Option Nat):O->Option O
 | .cells cs e fl=>some (.cells (V.moL f cs) e fl)
 | .map es c=>some (.map (moE f es) c)
 | _=>none
theorem aOy {f:Nat->Option Nat}{R:Nat->Nat->Prop}(h:∀ i j,f i=some j->R i j):∀ l,EI R l (moE f l)
 | []=>.nil
 | (_,_,_) :: es=>.cons (V.mo_vi h _) (V.mo_vi h _) (aOy h es)
theorem aOz (f g:Nat->Option Nat):∀ l,moE g (moE f l)=moE (fun i=>(f i).bind g) l
 | []=>rfl
 | e :: es=>by simp only [moE];rw [V.mo_mo,V.mo_mo,aOz f g es]
theorem O.mo_oi {f:Nat->Option Nat}{R:Nat->Nat->Prop}(h:∀ i j,f i=some j->R i j){o o':O}(ho:O.mo f o=some o'):OI R o o':=by
 cases o <;> simp only [O.mo,Option.some.injEq,reduceCtorEq] at ho <;> subst ho
 ·exact .cells (V.mo_vis h _) (.inl rfl)
 ·exact .map (aOy h _)
theorem O.mo_mo {f g:Nat->Option Nat}{o o1 o2:O}(h1:O.mo f o=some o1)(h2:O.mo g o1=some o2):O.mo (fun i=>(f i).bind g) o=some o2:=by
 cases o <;> simp only [O.mo,Option.some.injEq,reduceCtorEq] at h1 <;> subst h1 <;> simp only [O.mo,Option.some.injEq] at h2 <;> subst h2
 ·simp only [O.mo];rw [V.moL_mo]
 ·simp only [O.mo];rw [aOz]
theorem O.mo_wr {f:Nat->Option Nat}{o o':O}(h:O.mo f o=some o'):o'.wr=o.wr:=by
 cases o <;> simp only [O.mo,Option.some.injEq,reduceCtorEq] at h <;> subst h
 ·rename_i fl;cases fl <;> rfl
 ·rfl
def reQ (gb:List (Nat × O))(q n:Nat)(gs:List Nat)(i:Nat):Option Nat:=bif roG gb q i then none else bif Nat.blt i n then some i else aIy i gs n
def uB (ids:List Nat)(n m:Nat)(i:Nat):Option Nat:=bif Nat.blt i aI then some i else bif Nat.blt i n then some (ids.getD (i - aI) 0) else some (m+(i - n))
noncomputable def aLY (f:Nat->Option Nat)(S:St)(i:Nat):Option O:=(T.get fA i S.hp).bind (O.mo f)
noncomputable def zU (gb:List (Nat × O))(q n:Nat)(gs:List Nat)(ks2 news:List O)(v2:V)(v:V)(S:St):Prop :=
 V.mo (reQ gb q n gs) v=v2∧(List.range' (aI+q) ks2.length).map (aLY (reQ gb q n gs) S)=ks2.map some∧gs.map (aLY (reQ gb q n gs) S)=news.map some
def aHX:List Bool->Prop->Prop
 | [],p=>p
 | b :: l,p=>dD b (aHX l p)
theorem vK:∀ {l:List Bool} {p:Prop},(∀ b ∈ l,b=true)->p->aHX l p
 | [],_,_,h=>h
 | b :: l,p,hb,h=>ifK_intro (hb b sm) (vK (fun x hx=>hb x (by simp [hx])) h)
theorem aRr {gb:List (Nat × O)}{q n m:Nat}{gs ids:List Nat}{k:Nat}(hk:gs.length=k)(hge:∀ g ∈ gs,n <= g)(hn:n=aI+ids.length){i j:Nat}(h:(reQ gb q n gs i).bind (uB ids n m)=some j):mS gb q ids gs n m (m+k) i j:=by
 unfold reQ at h
 cases hr:roG gb q i with
 | true=>rw [hr] at h;cases h
 | false =>
   rw [hr] at h;simp only [cond_false] at h
   cases hb:Nat.blt i n with
   | true =>
     rw [hb] at h;simp only [cond_true,Option.bind_some] at h;have hlt:=mK hb;refine .inl ⟨hlt,?_,hr⟩;unfold uB at h
     cases hg:Nat.blt i aI with
     | true =>
       rw [hg] at h;simp only [cond_true,Option.some.injEq] at h;unfold idF;rw [if_pos (mK hg)];exact h.symm
     | false =>
       rw [hg,hb] at h;simp only [cond_false,cond_true,Option.some.injEq] at h;unfold idF
       have:¬ i < aI:=fun hh=>by
        have:Nat.blt i aI=true:=by simpa using hh
        rw [hg] at this;cases this
       rw [if_neg this];exact h.symm
   | false =>
     rw [hb] at h;simp only [cond_false] at h
     cases hi:aIy i gs n with
     | none=>rw [hi] at h;cases h
     | some j0 =>
       rw [hi] at h;obtain ⟨h1,h2,h3⟩:=yC hi;simp only [Option.bind_some] at h
       have hj0:Nat.blt j0 n=false:=by
        cases hx:Nat.blt j0 n with
        | false=>rfl
        | true=>have:=mK hx;omega
       have hj1:Nat.blt j0 aI=false:=by
        cases hx:Nat.blt j0 aI with
        | false=>rfl
        | true=>have:=mK hx;omega
       unfold uB at h;rw [hj1,hj0] at h;simp only [cond_false,Option.some.injEq] at h;subst h;have hmem:i ∈ gs:=List.mem_of_getElem? h3;refine .inr ⟨hge i hmem,om,om,?_⟩;show i=gs.getD (m+(j0 - n) - m) 0;rw [show m+(j0 - n) - m=j0 - n by omega,List.getD_eq_getElem?_getD,h3];rfl
theorem aCu.of_range {R:Nat->Nat->Prop}{f:Nat->Option Nat}{g:Nat->Option Nat}{S:St}(hR:∀ i j,(f i).bind g=some j->R i j):∀ {ks2 ks3:List O} {n:Nat},(List.range' n ks2.length).map (aLY f S)=ks2.map some->ks2.mapM (O.mo g)=some ks3->aCu R S n ks3
 | [],ks3,n,_,h=>by
   simp at h;subst h;trivial
 | o :: ks2,ks3,n,h1,h2=>by
   rw [au,List.range'_succ,List.map_cons,List.map_cons] at h1
   injection h1 with h3 h4
   simp only [List.mapM_cons,Option.bind_eq_bind,Option.bind_eq_some_iff,Option.pure_def,Option.some.injEq] at h2;obtain ⟨o2,h5,l2,h6,rfl⟩:=h2;unfold aLY at h3;obtain ⟨o0,h7,h8⟩:=Option.bind_eq_some_iff.1 h3;exact ⟨⟨o0,h7,O.mo_oi hR (O.mo_mo h8 h5)⟩,aCu.of_range hR h4 h6⟩
theorem tP.of_map {R:Nat->Nat->Prop}{f:Nat->Option Nat}{g:Nat->Option Nat}{S:St}(hR:∀ i j,(f i).bind g=some j->R i j):∀ {gs:List Nat} {news ns2:List O},gs.map (aLY f S)=news.map some->news.mapM (O.mo g)=some ns2->tP R S gs ns2
 | [],[],ns2,_,h=>by
   simp at h;subst h;trivial
 | i :: gs,o :: news,ns2,h1,h2=>by
   rw [List.map_cons,List.map_cons] at h1
   injection h1 with h3 h4
   simp only [List.mapM_cons,Option.bind_eq_bind,Option.bind_eq_some_iff,Option.pure_def,Option.some.injEq] at h2;obtain ⟨o2,h5,l2,h6,rfl⟩:=h2;unfold aLY at h3;obtain ⟨o0,h7,h8⟩:=Option.bind_eq_some_iff.1 h3;exact ⟨⟨o0,h7,O.mo_oi hR (O.mo_mo h8 h5)⟩,tP.of_map hR h4 h6⟩
 | [],_ :: _,_,h,_=>by simp at h
 | _ :: _,[],_,h,_=>by simp at h
theorem aBG {g:Nat->Option Nat}:∀ {l l2:List O},l.mapM (O.mo g)=some l2->l2.length=l.length
 | [],l2,h=>by simp at h;subst h;rfl
 | o :: l,l2,h=>by
   simp only [List.mapM_cons,Option.bind_eq_bind,Option.bind_eq_some_iff,Option.pure_def,Option.some.injEq] at h;obtain ⟨o2,_,l3,h6,rfl⟩:=h;simp [aBG h6]
theorem aEM {g:Nat->Option Nat}:∀ {l l2:List O},l.mapM (O.mo g)=some l2->l.all O.wr=true->∀ (a:Nat) (o:O),l2[a]?=some o->o.wr=true
 | [],l2,h,_,a,o,ho=>by simp at h;subst h;simp at ho
 | x :: l,l2,h,hw,a,o,ho=>by
   simp only [List.mapM_cons,Option.bind_eq_bind,Option.bind_eq_some_iff,Option.pure_def,Option.some.injEq] at h;obtain ⟨o2,h5,l3,h6,rfl⟩:=h;simp only [List.all_cons,Bool.and_eq_true] at hw
   cases a with
   | zero=>simp at ho;subst ho;rw [O.mo_wr h5];exact hw.1
   | succ a=>exact aEM h6 hw.2 a o (by simpa using ho)
def aWB (S:St)(ids:List Nat)(n:Nat)(os:List O):Prop:=∀ (a i:Nat) (o:O),ids[a]?=some i->os[a]?=some o->∃ o',S.hs.get i=some o'∧OI (iC ids n) o' o
theorem RC.clo (gb:List (Nat × O)){rc:cG}(hrc:dN P rc){c:FuncId}{l l2:List V}(q:Nat)(ids:List Nat)(os ks2 news:List O)(gs:List Nat)(v2:V)(bs:List Bool){ks3 ns3:List O}{S:St}{k:V->St->Prop}
  (hrun:(dJ (gb ++ kJ aI os) ⟨.nil,aI+os.length⟩ fun S0=>rc c l S0 (zU gb q (aI+os.length) gs ks2 news v2))=aHX bs (v2=v2∧ks2.map some=ks2.map some∧news.map some=news.map some))
  (hbs:∀ b ∈ bs,b=true) (hro:(os.take q).all (fun o=>!o.wr)=true) (hgs:gs.Nodup∧gs.all (fun g=>Nat.ble (aI+os.length) g)=true∧gs.length=news.length) (hks:ks2.length+q=os.length∧ks2.all O.wr=true∧news.all O.wr=true)
  (hgb:∀ p ∈ gb,p.1 < aI∧p.2.wr=false∧∃ o',S.hs.get p.1=some o'∧OI (iC ids (aI+os.length)) o' p.2) (hfar:∀ i ∈ ids,aI <= i) (hids:ids.Nodup) (hlen:ids.length=os.length) (hat:aWB S ids (aI+os.length) os) (hl:mJ (iC ids (aI+os.length)) l2 l)
  (h3:ks2.mapM (O.mo (uB ids (aI+os.length) S.next))=some ks3) (h4:news.mapM (O.mo (uB ids (aI+os.length) S.next))=some ns3)
  (hk:aHl ((ids.drop q).zip ks3) S fun S1=>iX ns3 S1 (k (V.mo (uB ids (aI+os.length) S.next) v2))):RC P c l2 S k:=by
 have hrun':dJ (gb ++ kJ aI os) ⟨.nil,aI+os.length⟩ fun S0=>rc c l S0 (zU gb q (aI+os.length) gs ks2 news v2):=by
  rw [hrun];exact vK hbs ⟨rfl,rfl,rfl⟩
 obtain ⟨S0,h1,h0⟩:=fF hrun';obtain ⟨v,S',⟨p1,p2,p3⟩,h2⟩:=hrc c l S0 _ h1;have hge:∀ g ∈ gs,aI+os.length <= g:=fun g hg=>ae (List.all_eq_true.1 hgs.2.1 g hg)
 have hR:∀ i j,(reQ gb q (aI+os.length) gs i).bind (uB ids (aI+os.length) S.next)=some j->mS gb q ids gs (aI+os.length) S.next (S.next+ns3.length) i j:=fun i j h =>
  aRr (by rw [hgs.2.2,aBG h4]) hge (by rw [hlen]) h
 have hn3:=aBG h3;obtain ⟨S1,h5,h6⟩:=yZ hk;obtain ⟨S2,h7,h8⟩:=nZ h5
 have hat':∀ a:Nat,a < os.length->∃ i o o',ids[a]?=some i∧os[a]?=some o∧S.hs.get i=some o'∧OI (iC ids (aI+os.length)) o' o:=fun a ha=>by
  have hi:a < ids.length:=om;obtain ⟨o',x,y⟩:=hat a ids[a] os[a] (by simp [hi]) (by simp [ha]);exact ⟨ids[a],os[a],o',by simp [hi],by simp [ha],x,y⟩
 have hks:∃ ks:List O,ks.length=os.length∧(∀ (a i:Nat) (o:O),ids[a]?=some i->ks[a]?=some o->S.hs.get i=some o)∧∀ (a:Nat) (o' o:O),ks[a]?=some o'->os[a]?=some o->OI (iC ids (aI+os.length)) o' o:=by
  refine ⟨(List.range os.length).map fun a=>((ids[a]?).bind S.hs.get).getD .deferred,sm,fun a i o hi ho=>?_,fun a o' o ho' ho=>?_⟩
  ·have ha:a < ids.length:=(ao.1 hi).1;have ha':a < os.length:=om;obtain ⟨i',o1,o',e1,_,e3,_⟩:=hat' a ha';rw [hi] at e1;cases e1;simp [List.getElem?_map,List.getElem?_range ha',hi,e3] at ho;rw [e3,ho]
  ·have ha':a < os.length:=(ao.1 ho).1;obtain ⟨i',o1,o2,e1,e2,e3,e4⟩:=hat' a ha';rw [ho] at e2;cases e2;simp [List.getElem?_map,List.getElem?_range ha',e1,e3] at ho';rw [<- ho'];exact e4
 obtain ⟨ks,k1,k2,k4⟩:=hks
 have:=h2.smallG gb (l2:=l2) (K:=S.hs) (v2:=V.mo (uB ids (aI+os.length) S.next) v2) q (ids:=ids) (ks:=ks) (os:=os) (ks2:=ks3) (news:=ns3) h0 hgb (fun a i _ h=>hfar i (List.mem_of_getElem? h))
  (fun a b i _ ha hb=>(List.getElem?_inj (ao.1 ha).1 hids).1 (ha.trans hb.symm))
  (fun a o ha ho=>by
   have hm:o ∈ os.take q:=List.mem_of_getElem? (i:=a) (by rw [List.getElem?_take];simp [ha,ho]);have:=List.all_eq_true.1 hro o hm
   simpa using this)
  hlen k1 om k2 k4 hl
  (aEM h3 ‹_∧_∧_›.2.1) (aEM h4 ‹_∧_∧_›.2.2)
  ⟨gs,hgs.1,hge,by rw [<- p1,V.mo_mo];exact V.mo_vi hR v,aCu.of_range hR p2 h3,tP.of_map hR p3 h4⟩
 refine .mk _ S2 ?_ h7;rw [h8,h6];exact this
end
end Go.Am
namespace Go.Am
open Go.Proofs
attribute [local irreducible] fN fI fB cR eQ evCode evOps rD kOp aAj wF wH wG kGc aLE aLD kDr kMg drOps fU kK sl
def oH (c:UInt8):Bool:=decide (48 <= c.toNat∧c.toNat <= 57)
def aNH (s:List UInt8):Nat:=(s.takeWhile oH).length
theorem sH {p:UInt8->Bool}:∀ {s:List UInt8} {j:Nat},(s.take j).all p=true->(∀ h:j < s.length,p s[j]=false)->j <= s.length->(s.takeWhile p).length=j
 | [],j,_,_,hj=>by simp at hj;subst hj;rfl
 | c :: s,0,_,h,_=>by
   have:p c=false:=h sm;simp [List.takeWhile,this]
 | c :: s,j+1,ha,h,hj=>by
   simp only [List.take_succ_cons,List.all_cons,Bool.and_eq_true] at ha;simp only [List.takeWhile,ha.1,au,Nat.add_right_cancel_iff];exact sH ha.2 (fun h'=>h (by simpa using h')) (by simpa using hj)
theorem pH {p:UInt8->Bool}{s:List UInt8}{j:Nat}(ha:(s.take j).all p=true)(hj:j < s.length)(h:p s[j]=true):(s.take (j+1)).all p=true:=by
 rw [an hj,List.all_append,ha];simp [h]
theorem aFR {a b:List UInt8}(ha:a.all oH=true)(hb:∀ c,b.head?=some c->oH c=false):aNH (a ++ b)=a.length:=by
 unfold aNH;refine sH (by simpa using ha) (fun h=>?_) sm;rw [List.getElem_append_right (af _)];refine hb _ ?_;rw [List.head?_eq_getElem?];simp
theorem aUV:bB prog 216 23 [.tmp 2] (aL Tryz.f216):=fq Tryz.f216
theorem aAZ {s:List UInt8}{S:St}{k:V->St->Prop}(hs:s.length < 9223372036854775807)(hk:k (.int .i64 (.ofNat (aNH s))) S):RC prog 216 [.str s] S k:=by
 refine RC.run mixed aS (aG aUV ?_);refine enter ?_;refine go ?_;refine LP.induct0 s.length (fun j E=>j <= s.length∧(s.take j).all oH=true∧Kn E 23 [(0,.str s),(3,.int .i64 (.ofNat j))]) ⟨ai _,sm,rfl,rfl,rfl,trivial⟩ ?_;intro j E ⟨hj,ha,hf⟩ ih
 have hend:(∀ h:j < s.length,oH s[j]=false)->k (.int .i64 (.ofNat j)) S:=fun h=>by rw [<- sH ha h hj];exact hk
 refine LP.kn mixed hf ?_;refine go ?_;refine bE (fun hlt=>?_) (fun hge=>?_)
 ·rw [aM] at hlt;refine go ?_;refine bU _ (qL hlt) ?_;refine go ?_;refine bE (fun (h48:_ < 48)=>?_) (fun (h48:48 <= _)=>?_)
  ·refine go ?_;exact hend fun _=>decide_eq_false om
  ·refine go ?_;refine bU _ (qL hlt) ?_;refine go ?_;refine bE (fun (h57:57 < _)=>?_) (fun (h57:_ <= 57)=>?_)
   ·refine go ?_;exact hend fun _=>decide_eq_false om
   ·refine go ?_;refine aSL ?_;refine go ?_;exact ih _ hlt ⟨om,pH ha hlt (decide_eq_true om),rfl,rfl,rfl,trivial⟩
 ·rw [aM] at hge;refine go ?_
  exact hend fun h=>by omega
def aHe (s:List UInt8):List UInt8:=match s with|c :: r=>if c=43 ∨ c=45 then r else c :: r|[]=>[]
theorem aWp {a b:UInt8}:a.toNat ≠ b.toNat ↔ a ≠ b:=by rw [Ne,Ne,UInt8.toNat_inj]
theorem aVy:bB prog 215 19 [.tmp 2] (aL Tryz.f215):=fq Tryz.f215
theorem aJg {s:List UInt8}{S:St}{k:V->St->Prop}(hk:k (.str (aHe s)) S):RC prog 215 [.str s] S k:=by
 refine RC.run mixed aS (aG aVy ?_);refine enter ?_;refine go ?_;refine bE (fun h0=>?_) (fun h0=>?_)
 ·rw [aM] at h0
  have e:∃ c r,s=c :: r∧s[0]=c∧s.drop 1=r:=by
   obtain ⟨c,r,rfl⟩:=List.exists_cons_of_length_pos h0;exact ⟨c,r,rfl,rfl,rfl⟩
  obtain ⟨c,r,e1,e2,e3⟩:=e;refine go ?_;refine bU _ (qL h0) ?_;refine go ?_;refine bO (fun (h43:_=43)=>?_) (fun (h43:_ ≠ 43)=>?_)
  ·refine go ?_;refine cT h0 ?_;refine go ?_;have:c=43:=UInt8.toNat_inj.1 (by rw [<- e2];exact h43);rw [e1] at hk;simp only [aHe,this,true_or,if_true] at hk;rw [e3];exact hk
  ·refine go ?_;refine bU _ (qL h0) ?_;refine go ?_;refine bO (fun (h45:_=45)=>?_) (fun (h45:_ ≠ 45)=>?_)
   ·refine go ?_;refine cT h0 ?_;refine go ?_;have:c=45:=UInt8.toNat_inj.1 (by rw [<- e2];exact h45);rw [e1] at hk;simp only [aHe,this,or_true,if_true] at hk;rw [e3];exact hk
   ·refine go ?_
    have h1:¬ (c=43 ∨ c=45):=by
     rintro (h|h)
     ·exact h43 (by rw [e2,h];rfl)
     ·exact h45 (by rw [e2,h];rfl)
    have h2:aHe s=s:=by rw [e1];simp only [aHe,h1,if_false]
    rw [h2] at hk;exact hk
 ·rw [aM] at h0;refine go ?_
  have:s=[]:=by cases s with|nil=>rfl|cons _ _=>simp at h0
  subst this;exact hk
def aIu (s p:List UInt8):Bool:=decide (s.take p.length=p)
theorem aVa:bB prog 75 18 [.tmp 4] (aL Tryz.f75):=fq Tryz.f75
theorem aWN:bB prog 47 8 [.tmp 4] (aL Tryz.f47):=fq Tryz.f47
theorem aCF {s p:List UInt8}{S:St}{k:V->St->Prop}(hk:k (.bool (aIu s p)) S):RC prog 47 [.str s,.str p] S k:=by
 refine RC.run mixed aS (aG aWN ?_);refine enter ?_;refine go ?_;refine RC.run mixed aS (aG aVa ?_);refine enter ?_;refine go ?_;refine bE (fun h=>?_) (fun h=>?_)
 ·rw [aM,aM] at h;refine go ?_
  have:aIu s p=false:=decide_eq_false fun e=>by
   have:=congrArg List.length e;rw [bh] at this;omega
  rw [this] at hk;exact hk
 ·rw [aM,aM] at h;refine go ?_;refine mG (by rw [aM];exact h) ?_;rw [aM];refine go ?_;refine eU (fun h=>?_) (fun h=>?_)
  ·refine go ?_;have:aIu s p=true:=decide_eq_true h;rw [this] at hk;exact hk
  ·refine go ?_;have:aIu s p=false:=decide_eq_false h;rw [this] at hk;exact hk
structure Dec (T sg D tl F:List UInt8):Prop where
 eq:T=sg ++ (D ++ tl)
 sg':sg=[] ∨ sg=[45]
 d0:D ≠ []
 d:D.all oH=true
 f:F.all oH=true
 tl':(tl=[]∧F=[]) ∨ tl=46 :: F
theorem dP {c:UInt8}:oH c=true ↔ 48 <= c.toNat∧c.toNat <= 57:=by unfold oH;rw [decide_eq_true_iff]
theorem Dec.head {T sg D tl F:List UInt8}(h:Dec T sg D tl F):∃ c r,D=c :: r∧oH c=true∧r.all oH=true:=by
 cases hD:D with
 | nil=>exact absurd hD h.d0
 | cons c r =>
   have:=h.d;rw [hD,List.all_cons,Bool.and_eq_true] at this;exact ⟨c,r,rfl,this.1,this.2⟩
theorem aTG {c:UInt8}(h:oH c=true):¬ (c=43 ∨ c=45):=by
 rw [dP] at h;rintro (rfl|rfl) <;> simp at h
theorem Dec.sgn {T sg D tl F:List UInt8}(h:Dec T sg D tl F):aHe T=D ++ tl:=by
 obtain ⟨c,r,hD,hc,_⟩:=h.head;rw [h.eq]
 rcases h.sg' with rfl|rfl
 ·rw [hD];simp only [List.nil_append,List.cons_append,aHe,aTG hc,if_false]
 ·simp [aHe]
theorem Dec.dig {T sg D tl F:List UInt8}(h:Dec T sg D tl F):aNH (D ++ tl)=D.length :=
 aFR h.d fun c hc=>by
  rcases h.tl' with ⟨rfl,_⟩|rfl
  ·simp at hc
  ·simp at hc;subst hc;decide
theorem aNI {F:List UInt8}(h:F.all oH=true):aNH F=F.length:=by
 have:=aFR (b:=[]) h sm;simpa using this
theorem aQB:bB prog 170 55 [.tmp 2] (aL Tryz.f170):=fq Tryz.f170
theorem aMq {T sg D tl F:List UInt8}(h:Dec T sg D tl F)(hT:T.length <= 1200){S:St}{k:V->St->Prop}(hk:k (.bool true) S):RC prog 170 [.str T] S k:=by
 have hlen:D.length+tl.length <= 1200:=by
  rw [h.eq] at hT;simp at hT;omega
 have hD0:0 < D.length:=List.length_pos_iff.2 h.d0;refine RC.run mixed aS (aG aQB ?_);refine enter ?_;refine go ?_;refine aJg ?_;rw [h.sgn];refine go ?_;refine aAZ (by simp;omega) ?_;rw [h.dig];refine go ?_;refine cT sm ?_;rw [List.drop_left];refine go ?_;refine aCF ?_
 rcases h.tl' with ⟨h1,h2⟩|h1
 ·have e:aIu tl [46]=false:=by rw [h1];decide
  rw [e];refine go ?_;refine bO (fun (h0:_=0)=>by omega) (fun h0=>?_);refine go ?_;refine eU (fun h0=>?_) (fun h0=>absurd h1 h0);refine go ?_;exact hk
 ·have e:aIu tl [46]=true:=by rw [h1];simp [aIu]
  rw [e]
  have hl:tl.length=F.length+1:=by rw [h1];rfl
  refine go ?_;refine cT (show 1 <= _ by omega) ?_;refine go ?_
  have e1:tl.drop 1=F:=by rw [h1];rfl
  rw [e1];refine aAZ om ?_;rw [aNI h.f];refine go ?_;refine aSL ?_;refine go ?_;refine bA (1+F.length) rfl (by simp only [rF];omega) ?_;refine go ?_;refine cT om ?_;have e2:tl.drop (1+F.length)=[]:=List.drop_of_length_le om;rw [e2];refine go ?_;refine bO (fun (h0:_=0)=>by omega) (fun h0=>?_);refine go ?_;exact hk
theorem nN {P:Program}{Xt:xJ}{f:FuncId}{args:List V}{S:St}{k:V->St->Prop}(hf:∃ fn,P.funcs[f]?=some fn∧fn.body=none)(h:aEA P Xt f args S k):rP P Xt (RC P) (RD P) (LQ P) (cZ P (RC P) (RD P)) f args S k:=by
 obtain ⟨fn,h1,h2⟩:=hf;unfold rP;rw [h1];show Option.casesOn fn.body _ _;rw [h2];exact h
theorem rR {c:UInt8}:∀ {a b:List UInt8} {i:Nat},(∀ x ∈ a,x ≠ c)->eM c.toNat (a ++ c :: b) i=some (i+a.length)
 | [],b,i,_=>by
   show Bool.rec (motive:=fun _=>Option Nat) _ _ (Nat.beq c.toNat c.toNat)=_;rw [Nat.beq_refl];rfl
 | x :: a,b,i,h=>by
   show Bool.rec (motive:=fun _=>Option Nat) (eM c.toNat (a ++ c :: b) (Nat.succ i)) _ (Nat.beq x.toNat c.toNat)=_
   have:Nat.beq x.toNat c.toNat=false:=by
    cases hb:Nat.beq x.toNat c.toNat with
    | false=>rfl
    | true=>exact absurd (UInt8.toNat_inj.1 (aj hb)) (h x sm)
   rw [this];show eM c.toNat (a ++ c :: b) (Nat.succ i)=_;rw [rR (fun y hy=>h y (by simp [hy]))];simp;omega
theorem vY {c:UInt8}:∀ {a:List UInt8} {i:Nat},(∀ x ∈ a,x ≠ c)->eM c.toNat a i=none
 | [],i,_=>rfl
 | x :: a,i,h=>by
   show Bool.rec (motive:=fun _=>Option Nat) (eM c.toNat a (Nat.succ i)) _ (Nat.beq x.toNat c.toNat)=_
   have:Nat.beq x.toNat c.toNat=false:=by
    cases hb:Nat.beq x.toNat c.toNat with
    | false=>rfl
    | true=>exact absurd (UInt8.toNat_inj.1 (aj hb)) (h x sm)
   rw [this];exact vY (fun y hy=>h y (by simp [hy]))
def ixR (o:Option Nat):V:=match o with|none=>.int .i64 (.negSucc 0)|some n=>.int .i64 (.ofNat n)
theorem wE (o:Option Nat):(ixR o).flat=true:=by cases o <;> rfl
theorem aVf:∃ fn,prog.funcs[242]?=some fn∧fn.body=none:=⟨Tryz.f242,kr,kr⟩
theorem aQR {s:List UInt8}{c:Nat}(hc:c < 256){S:St}{k:V->St->Prop}(hk:k (ixR (eM c s 0)) S):RC prog 242 [.str s,.int .u8 (.ofNat c)] S k:=by
 refine RC.run mixed aS (nN aVf ?_)
 conv=>whnf
 refine ifK_intro (ag hc) ?_
 conv=>whnf
 cases h:eM c s 0 with
 | none=>rw [h] at hk;exact hk
 | some n =>
   rw [h] at hk;exact aP hk
theorem aVz:bB prog 208 8 [.tmp 4] (aL Tryz.f208):=fq Tryz.f208
theorem aKv {s:List UInt8}{c:Nat}(hc:c < 256){S:St}{k:V->St->Prop}(hk:k (ixR (eM c s 0)) S):RC prog 208 [.str s,.int .u8 (.ofNat c)] S k:=by
 refine RC.pure mixed aVz hk ?_ (wE _);refine enter ?_;refine go ?_;refine aQR hc ?_;refine go ?_;rfl
theorem aNW:bB prog 165 143 [.tmp 4] (aL Tryz.f165):=fq Tryz.f165
theorem aJf {s:List UInt8}{c:UInt8}{S:St}{k:V->St->Prop}(hk:k (ixR (eM c.toNat s 0)) S):RC prog 165 [.str s,.str [c]] S k:=by
 refine RC.pure mixed aNW hk ?_ (wE _);refine enter ?_;refine go ?_;refine eU (fun h=>?_) (fun h=>?_)
 ·refine go ?_;rw [<- h];have:=@rR c [] [] 0 sm;simp only [List.nil_append,List.length_nil] at this;rw [this];rfl
 ·refine go ?_;refine aKv (UInt8.toNat_lt c) ?_;refine go ?_;rfl
theorem aTy:bB prog 119 23 [.tmp 4,.tmp 5,.tmp 6] (aL Tryz.f119):=fq Tryz.f119
theorem aUT:bB prog 80 13 [.tmp 4,.tmp 5,.tmp 6] (aL Tryz.f80):=fq Tryz.f80
theorem aEs {s:List UInt8}{c:UInt8}(hs:s.length < 9223372036854775807){v:V}(hv:(∃ a b,s=a ++ c :: b∧(∀ x ∈ a,x ≠ c)∧v=.tup [.str a,.str b,.bool true]) ∨ ((∀ x ∈ s,x ≠ c)∧v=.tup [.str s,.str [],.bool false]))
  {S:St} {k:V->St->Prop} (hk:k v S):RC prog 80 [.str s,.str [c]] S k:=by
 refine RC.pure mixed aUT hk ?_ (by rcases hv with ⟨a,b,_,_,rfl⟩|⟨_,rfl⟩ <;> rfl);refine enter ?_;refine go ?_;refine RC.pure mixed aTy (v:=v) ?_ ?_ (by rcases hv with ⟨a,b,_,_,rfl⟩|⟨_,rfl⟩ <;> rfl)
 ·rcases hv with ⟨a,b,_,_,rfl⟩|⟨_,rfl⟩
  ·refine go ?_;rfl
  ·refine go ?_;rfl
 ·refine enter ?_;refine go ?_;refine aJf ?_
  rcases hv with ⟨a,b,rfl,h,rfl⟩|⟨h,rfl⟩
  ·have hl:a.length+b.length+1 < 9223372036854775807:=by simp at hs;omega
   rw [rR h,Nat.zero_add];unfold ixR;refine go ?_;refine vX ?_;refine aV (v:=.str a) rfl ?_ ?_
   ·intro Q hQ
    conv=>whnf
    refine mG sm ?_;rw [List.take_left];exact hQ
   refine vX ?_;refine aV (v:=.int .i64 (.ofNat (a.length+1))) rfl ?_ ?_
   ·intro Q hQ
    conv=>whnf
    refine bI (a.length+1) ?_;exact hQ
   refine vX ?_;refine aV (v:=.str b) rfl ?_ ?_
   ·intro Q hQ
    conv=>whnf
    refine cT sm ?_
    have e:(a ++ c :: b).drop (a.length+1)=b:=by rw [List.drop_append];simp
    rw [e];exact hQ
   refine vX ?_;refine go ?_;rfl
  ·rw [vY h];unfold ixR;refine go ?_;rfl
theorem aDC {s:List UInt8}{j:Nat}(h:j < s.length):nth (s.drop j) 0=some s[j]:=by
 rw [nth_eq,List.getElem?_drop];simp [h]
def mN (p:UInt8->Bool)(s:List UInt8):Nat:=(s.takeWhile p).length
theorem aJn (p:UInt8->Bool)(s:List UInt8):mN p s <= s.length:=by
 unfold mN
 induction s with
 | nil=>simp
 | cons c s ih=>simp only [List.takeWhile];split <;> simp <;> omega
def rG (c:UInt8)(x:UInt8):Bool:=decide (x=c)
theorem aVH:bB prog 135 17 [.tmp 4] (aL Tryz.f135):=fq Tryz.f135
theorem aRN {s:List UInt8}{c:UInt8}{S:St}{k:V->St->Prop}(hk:k (.str (s.drop (mN (rG c) s))) S):RC prog 135 [.str s,.int .u8 (.ofNat c.toNat)] S k:=by
 refine RC.run mixed aS (aG aVH ?_);refine enter ?_;refine go ?_;refine LP.induct0 s.length (fun j E=>j <= s.length∧(s.take j).all (rG c)=true∧Kn E 17 [(0,.str (s.drop j)),(1,.int .u8 (.ofNat c.toNat))]) ⟨ai _,sm,rfl,rfl,rfl,trivial⟩ ?_;intro j E ⟨hj,ha,hf⟩ ih
 have hend:(∀ h:j < s.length,rG c s[j]=false)->k (.str (s.drop j)) S:=fun h=>by
  have:=sH ha h hj;unfold mN at hk;rw [this] at hk;exact hk
 refine LP.kn mixed hf ?_;refine go ?_;refine bE (fun hlt=>?_) (fun hge=>?_)
 ·rw [aM,List.length_drop] at hlt
  have hj':j < s.length:=by have:0 < s.length - j:=hlt;omega
  refine go ?_;refine bU _ (aDC hj') ?_;refine go ?_;refine bO (fun he=>?_) (fun he=>?_)
  ·refine go ?_;refine cT (by rw [List.length_drop];exact hlt) ?_;rw [List.drop_drop];refine go ?_;exact ih _ hj' ⟨hj',pH ha hj' (decide_eq_true (UInt8.toNat_inj.1 he)),rfl,rfl,rfl,trivial⟩
  ·refine go ?_;exact hend fun _=>decide_eq_false (aWp.1 he)
 ·rw [aM,List.length_drop] at hge;have hge':s.length - j <= 0:=hge;refine go ?_
  exact hend fun h=>by omega
theorem aVF:bB prog 97 37 [.tmp 4] (aL Tryz.f97):=fq Tryz.f97
theorem pF {s:List UInt8}{c:UInt8}(hc:c.toNat < 128){S:St}{k:V->St->Prop}(hk:k (.str (s.drop (mN (rG c) s))) S):RC prog 97 [.str s,.str [c]] S k:=by
 refine RC.pure mixed aVF hk ?_;refine enter ?_;refine go ?_;refine eU (fun h=>?_) (fun h=>?_)
 ·refine go ?_;subst h;rfl
 ·refine go ?_;refine bE (fun hlt=>?_) (fun hge=>absurd hc (by have:128 <= c.toNat:=hge;omega));refine go ?_;refine aRN ?_;refine go ?_;rfl
theorem aVI:bB prog 139 23 [.tmp 4] (aL Tryz.f139):=fq Tryz.f139
theorem aRP {s:List UInt8}{c:UInt8}{n:Nat}(hn:n <= s.length)(ha:(s.drop n).all (rG c)=true)(he:∀ h:0 < n,rG c (s[n - 1]'(by omega))=false)(hs:s.length < 9223372036854775807){S:St}{k:V->St->Prop}(hk:k (.str (s.take n)) S):RC prog 139 [.str s,.int .u8 (.ofNat c.toNat)] S k:=by
 refine RC.run mixed aS (aG aVI ?_);refine enter ?_;refine go ?_;refine LP.induct0 s.length (fun j E=>j <= s.length - n∧Kn E 23 [(0,.str (s.take (s.length - j))),(1,.int .u8 (.ofNat c.toNat))]) ⟨ai _,rfl,?_,rfl,trivial⟩ ?_
 ·simp only [Nat.sub_zero,List.take_length];rfl
 intro j E ⟨hj,hf⟩ ih;refine LP.kn mixed hf ?_
 have hl:(s.take (s.length - j)).length=s.length - j:=by rw [bh];omega
 refine go ?_;refine bE (fun hlt=>?_) (fun hge=>?_)
 ·rw [aM,hl] at hlt;have hj':0 < s.length - j:=hlt;refine go ?_;refine jK (s.length - j - 1) ?_ (by rw [aM,hl];show _=_+1;omega);refine go ?_;have hx:s.length - j - 1 < (s.take (s.length - j)).length:=om;refine bU _ (qL hx) ?_;rw [List.getElem_take];refine go ?_;refine bO (fun hq=>?_) (fun hq=>?_)
  ·have hlt2:j < s.length - n:=by
    rcases Nat.lt_or_ge j (s.length - n) with h|h
    ·exact h
    ·have e1:s.length - j - 1=n - 1:=om;have:=he om;simp only [<- e1,rG,decide_eq_false_iff_not] at this;exact absurd (UInt8.toNat_inj.1 hq) this
   refine go ?_;refine jK (s.length - j - 1) ?_ (by rw [aM,hl];show _=_+1;omega);refine go ?_;refine mG om ?_;rw [List.take_take,Nat.min_eq_left om];refine go ?_;exact ih _ om ⟨om,rfl,rfl,rfl,trivial⟩
  ·refine go ?_
   have e:j=s.length - n:=by
    rcases Nat.lt_or_ge j (s.length - n) with h|h
    ·exfalso
     have:=List.all_eq_true.1 ha (s[s.length - j - 1]'(by omega)) (by
      rw [List.mem_iff_getElem]
      exact ⟨s.length - j - 1 - n,by rw [List.length_drop];omega,by rw [List.getElem_drop];congr 1;omega⟩)
     exact hq (by rw [of_decide_eq_true this])
    ·omega
   subst e;have:s.length - (s.length - n)=n:=om;rw [this];exact hk
 ·rw [aM,hl] at hge;have hge':s.length - j <= 0:=hge;refine go ?_;have:s.length - j=n:=om;rw [this];exact hk
theorem aXj:bB prog 98 37 [.tmp 4] (aL Tryz.f98):=fq Tryz.f98
theorem sG {s:List UInt8}{c:UInt8}{n:Nat}(hc:c.toNat < 128)(hn:n <= s.length)(ha:(s.drop n).all (rG c)=true)(he:∀ h:0 < n,rG c (s[n - 1]'(by omega))=false)(hs:s.length < 9223372036854775807){S:St}{k:V->St->Prop}(hk:k (.str (s.take n)) S):RC prog 98 [.str s,.str [c]] S k:=by
 refine RC.pure mixed aXj hk ?_;refine enter ?_;refine go ?_;refine eU (fun h=>?_) (fun h=>?_)
 ·refine go ?_;subst h;simp
 ·refine go ?_;refine bE (fun hlt=>?_) (fun hge=>absurd hc (by have:128 <= c.toNat:=hge;omega));refine go ?_;refine aRP hn ha he hs ?_;refine go ?_;rfl
noncomputable def aPm (n:Nat):aMS:=nM prog xts (fun _=>none) (cZ prog) n
theorem aPn (n:Nat):dN prog (aPm n).call:=(sR aS (fun _ _ h=>by cases h) (fun _ _ hc hd=>evDraw_ok mixed hc hd) n).1
theorem RC.kern (n:Nat){g:FuncId}{l:List V}{S:St}{v:V}{k:V->St->Prop}(h:((aPm n).call g l ⟨.nil,aI⟩ fun u _=>u=v)=(v=v))(hk:k v S)(hv:v.flat=true:=by rfl)(hl:V.flat.V.flatL l=true:=by rfl):RC prog g l S k:=by
 have h1:(aPm n).call g l ⟨.nil,aI⟩ fun u _=>u=v:=by rw [h]
 obtain ⟨u,S',h2,h3⟩:=aPn n _ _ _ _ h1;subst h2
 have:=h3.small (K:=S.hs) (l2:=l) (v2:=u) 0 (ids:=[]) (ks:=[]) (os:=[]) (ks2:=[]) (news:=[]) rfl sm sm rfl rfl rfl sm sm (cB hl) sm sm
  ⟨[],bj,sm,qE hv,trivial,trivial⟩
 exact .mk u S this hk
def asG (f:Nat->Bool):Nat->Nat->List V
 | _,0=>[]
 | i,n+1=>.bool (f i) :: asG f (i+1) n
def asC (f:Nat->Bool):List V:=asG f 0 256
theorem aJD {f:Nat->Bool}:∀ {n i j:Nat},j < n->(asG f i n)[j]?=some (.bool (f (i+j)))
 | n+1,i,0,_=>rfl
 | n+1,i,j+1,h=>by
   have:=@aJD f n (i+1) j om;rw [show i+(j+1)=i+1+j by omega];simpa [asG] using this
def dS (n:Nat):Bool:=Nat.beq n 32 || Nat.beq n 9
def aEz (n:Nat):Bool:=Nat.beq n 101 || Nat.beq n 69
theorem aDy {S:St}{k:V->St->Prop}(hk:k (.tup [.agg (asC dS),.bool true]) S):RC prog 136 [.str [32,9]] S k:=RC.kern 20 kr hk
theorem aVW {S:St}{k:V->St->Prop}(hk:k (.tup [.agg (asC aEz),.bool true]) S):RC prog 136 [.str [101,69]] S k:=RC.kern 20 kr hk
theorem aMZ:pY prog 4=some false:=kr
theorem aUM:bB prog 186 10 [.tmp 4] (aL Tryz.f186):=fq Tryz.f186
theorem aJE {f:Nat->Bool}{p:Nat}{e:TypeId}{fl:Fl}{c:Nat}(hc:c < 256){S:St}(hp:S.hs.get p=some (.cells (asC f) e fl)){k:V->St->Prop}(hk:k (.bool (f c)) S):RC prog 186 [.ptr p 0,.int .u8 (.ofNat c)] S k:=by
 refine RC.run mixed aS (aG aUM ?_);refine enter ?_;refine go ?_;refine ifK_intro (ag hc) ?_;refine go ?_;refine aA hp ?_;refine aH aMZ c (by show 0+c * 1=c;omega) (by unfold asC;rw [aJD hc,Nat.zero_add]) ?_;refine go ?_;exact hk
theorem aVG:bB prog 137 16 [.tmp 4] (aL Tryz.f137):=fq Tryz.f137
theorem aRM {f:Nat->Bool}{s:List UInt8}{p:Nat}{e:TypeId}{fl:Fl}{S:St}(hp:S.hs.get p=some (.cells (asC f) e fl)){k:V->St->Prop}(hk:k (.str (s.drop (mN (fun c=>f c.toNat) s))) S):RC prog 137 [.str s,.ptr p 0] S k:=by
 refine RC.run mixed aS (aG aVG ?_);refine enter ?_;refine go ?_;refine LP.induct0 s.length (fun j E=>j <= s.length∧(s.take j).all (fun c=>f c.toNat)=true∧Kn E 16 [(0,.str (s.drop j)),(1,.ptr p 0)]) ⟨ai _,sm,rfl,rfl,rfl,trivial⟩ ?_;intro j E ⟨hj,ha,hf⟩ ih
 have hend:(∀ h:j < s.length,(fun c:UInt8=>f c.toNat) s[j]=false)->k (.str (s.drop j)) S:=fun h=>by
  have:=sH ha h hj;unfold mN at hk;rw [this] at hk;exact hk
 refine LP.kn mixed hf ?_;refine go ?_;refine bE (fun hlt=>?_) (fun hge=>?_)
 ·rw [aM,List.length_drop] at hlt
  have hj':j < s.length:=by have:0 < s.length - j:=hlt;omega
  refine go ?_;refine bU _ (aDC hj') ?_;refine go ?_;refine aJE (UInt8.toNat_lt _) hp ?_
  cases hb:f s[j].toNat with
  | true =>
    refine go ?_;refine cT (by rw [List.length_drop];exact hlt) ?_;rw [List.drop_drop];refine go ?_;exact ih _ hj' ⟨hj',pH ha hj' hb,rfl,rfl,rfl,trivial⟩
  | false =>
    refine go ?_;exact hend fun _=>hb
 ·rw [aM,List.length_drop] at hge;have hge':s.length - j <= 0:=hge;refine go ?_
  exact hend fun h=>by omega
theorem aCO {s:List UInt8}{S:St}{k:V->St->Prop}(hk:k (.str (s.drop (mN (fun c=>dS c.toNat) s))) S):RC prog 97 [.str s,.str [32,9]] S k:=by
 refine RC.pure mixed aVF hk ?_;refine enter ?_;refine go ?_;refine eU (fun h=>?_) (fun h=>?_)
 ·refine go ?_;subst h;rfl
 ·refine go ?_;refine aDy ?_;refine go ?_;refine aRM (p:=aI) (f:=dS) rfl ?_;refine go ?_;rfl
theorem aEp (a b:Nat):Nat.beq a b=decide (a=b):=by
 cases hb:Nat.beq a b
 ·exact (decide_eq_false (fun h=>by subst h;rw [Nat.beq_refl] at hb;cases hb)).symm
 ·exact (decide_eq_true (aj hb)).symm
theorem aWP:bB prog 203 8 [.tmp 4] (aL Tryz.f203):=fq Tryz.f203
theorem aTD {s:List UInt8}{c:Nat}(hc:c < 256){S:St}{k:V->St->Prop}(hk:k (ixR (eM c s 0)) S):RC prog 203 [.str s,.int .u8 (.ofNat c)] S k:=by
 refine RC.pure mixed aWP hk ?_ (wE _);refine enter ?_;refine go ?_;refine aKv hc ?_;refine go ?_;rfl
theorem aQv:bB prog 212 187 [.tmp 4] (aL Tryz.f212):=fq Tryz.f212
theorem aLB {s:List UInt8}{c:Nat}(hc:c < 128){S:St}{k:V->St->Prop}(hk:k (ixR (eM c s 0)) S):RC prog 212 [.str s,.int .i32 (.ofNat c)] S k:=by
 refine RC.pure mixed aQv hk ?_ (wE _);refine enter ?_;refine go ?_;refine bE (fun _=>?_) (fun h=>absurd hc (by have:128 <= c:=h;omega));refine go ?_;refine bA c rfl (by show c <= 255;omega) ?_;refine go ?_;refine aTD om ?_;refine go ?_;rfl
theorem aVE:bB prog 213 5 [.tmp 2] (aL Tryz.f213):=fq Tryz.f213
theorem aWO:bB prog 166 55 [.tmp 4] (aL Tryz.f166):=fq Tryz.f166
def aEi (f:Nat->Bool)(s:List UInt8):V:=if mN (fun c=>!f c.toNat) s < s.length then .int .i64 (.ofNat (mN (fun c=>!f c.toNat) s)) else .int .i64 (.negSucc 0)
theorem wA {f:Nat->Bool}{c0 c1:UInt8}{s:List UInt8}(hcs:∀ n,(eM n [c0,c1] 0).isSome=f n)(hmas:∀ (S:St) (k:V->St->Prop),k (.tup [.agg (asC f),.bool true]) S->RC prog 136 [.str [c0,c1]] S k)
  (hs:s.length < 9223372036854775807) (hasc:∀ c ∈ s,c.toNat < 128) {S:St} {k:V->St->Prop} (hk:k (aEi f s) S):RC prog 166 [.str s,.str [c0,c1]] S k:=by
 refine RC.pure mixed aWO hk ?_ (by unfold aEi;split <;> rfl)
 have hend:∀ {j:Nat},j <= s.length->(s.take j).all (fun c=>!f c.toNat)=true->(∀ h:j < s.length,(!f s[j].toNat)=false)->aEi f s=if j < s.length then .int .i64 (.ofNat j) else .int .i64 (.negSucc 0):=fun hj ha h=>by
  have:=sH ha h hj;unfold aEi mN;rw [this]
 refine enter ?_;refine go ?_;refine RC.pure mixed aVE (v:=.bool (decide (8 < s.length))) ?_ ?_
 ·by_cases h8:8 < s.length
  ·rw [decide_eq_true h8];refine go ?_;refine hmas _ _ ?_;refine go ?_;refine LP.induct0 s.length (fun j E=>j <= s.length∧(s.take j).all (fun c=>!f c.toNat)=true∧Kn E 55 [(0,.str s),(6,.ptr aI 0),(8,.int .i64 (.ofNat j))]) ⟨ai _,sm,rfl,rfl,rfl,rfl,trivial⟩ ?_;intro j E ⟨hj,ha,hf⟩ ih;refine LP.kn mixed hf ?_;refine go ?_;refine bE (fun hlt=>?_) (fun hge=>?_)
   ·rw [aM] at hlt;refine go ?_;refine bU _ (qL hlt) ?_;refine go ?_;refine aJE (UInt8.toNat_lt _) (f:=f) rfl ?_
    cases hb:f s[j].toNat with
    | true =>
      refine go ?_;rw [hend hj ha (fun _=>by rw [hb];rfl),if_pos hlt]
    | false =>
      refine go ?_;refine bI (j+1) ?_;refine go ?_;exact ih _ hlt ⟨hlt,pH ha hlt (by rw [hb];rfl),rfl,rfl,rfl,rfl,trivial⟩
   ·rw [aM] at hge;refine go ?_;rw [hend hj ha (fun h=>by omega),if_neg om];rfl
  ·rw [decide_eq_false h8];refine go ?_;refine LP.induct s.length (fun j E S'=>j <= s.length∧(s.take j).all (fun c=>!f c.toNat)=true∧S'=rE [(aI,.strIter s j)] (aI+1)∧Kn E 55 [(1,.str [c0,c1]),(45,.ptr aI 0)]) ⟨ai _,sm,kr,rfl,rfl,rfl,trivial⟩ ?_;intro j E S' ⟨hj,ha,hS,hf⟩ ih;subst hS;refine LP.kn mixed hf ?_;refine go ?_;refine bX (fun hb=>?_) (fun hb=>?_)
   ·have hlt:j < s.length:=by have:=ae hb;rw [aM] at this;exact this
    have hx:s[j].toNat < 128:=hasc _ (az hlt);have e:Utf8.decode ⟨⟨s⟩⟩ j=(s[j].toNat,1):=decode_ascii ⟨⟨s⟩⟩ j hlt hx;rw [e];refine go ?_;refine aLB hx ?_;have hfx:=hcs s[j].toNat
    cases hi:eM s[j].toNat [c0,c1] 0 with
    | some m =>
      unfold ixR;refine go ?_;rw [hend hj ha (fun _=>by rw [<- hfx,hi];rfl),if_pos hlt]
    | none =>
      unfold ixR;refine go ?_;refine ih _ _ hlt ⟨hlt,pH ha hlt (by rw [<- hfx,hi];rfl),?_,rfl,rfl,rfl,trivial⟩
      kernel_rfl
   ·have hge:s.length <= j:=by
     rcases Nat.lt_or_ge j s.length with h|h
     ·exact absurd (hb.symm.trans (ag (by rw [aM];exact h))) sm
     ·exact h
    refine go ?_;rw [hend hj ha (fun h=>by omega),if_neg om];rfl
 ·refine enter ?_;refine go ?_;refine bE (fun h=>?_) (fun h=>?_)
  ·rw [aM] at h;refine go ?_;rw [decide_eq_true (show 8 < s.length from h)]
  ·rw [aM] at h;refine go ?_;rw [decide_eq_false (show ¬ 8 < s.length from Nat.not_lt.2 h)]
theorem aEh {s:List UInt8}(hs:s.length < 9223372036854775807)(hasc:∀ c ∈ s,c.toNat < 128){S:St}{k:V->St->Prop}(hk:k (aEi dS s) S):RC prog 166 [.str s,.str [32,9]] S k :=
 wA (fun n=>by
  show Option.isSome (Bool.rec (motive:=fun _=>Option Nat) (Bool.rec (motive:=fun _=>Option Nat) none (some 1) (Nat.beq 9 n)) (some 0) (Nat.beq 32 n))=(Nat.beq n 32 || Nat.beq n 9)
  have e:∀ a b:Nat,Nat.beq a b=decide (a=b):=aEp;simp only [e,eq_comm (a:=n)]
  by_cases h1:32=n <;> by_cases h2:9=n <;> simp [h1,h2]) (fun _ _ h=>aDy h) hs hasc hk
theorem aFE {s:List UInt8}(hs:s.length < 9223372036854775807)(hasc:∀ c ∈ s,c.toNat < 128){S:St}{k:V->St->Prop}(hk:k (aEi aEz s) S):RC prog 166 [.str s,.str [101,69]] S k :=
 wA (fun n=>by
  show Option.isSome (Bool.rec (motive:=fun _=>Option Nat) (Bool.rec (motive:=fun _=>Option Nat) none (some 1) (Nat.beq 69 n)) (some 0) (Nat.beq 101 n))=(Nat.beq n 101 || Nat.beq n 69)
  have e:∀ a b:Nat,Nat.beq a b=decide (a=b):=aEp;simp only [e,eq_comm (a:=n)]
  by_cases h1:101=n <;> by_cases h2:69=n <;> simp [h1,h2]) (fun _ _ h=>aVW h) hs hasc hk
theorem dM {x:Int}{k:Int->Prop}(n:Nat)(hx:x=Int.ofNat n)(h:k (Int.ofNat n)):fI x k:=by subst hx;exact bR h
theorem zB {n:Nat}(h:n < 18446744073709551616):IntKind.u64.wrap (n:Int)=Int.ofNat n :=
 qU .u64 _ (by simp [IntKind.min,IntKind.signed]) (by simp [IntKind.max,IntKind.signed,IntKind.bits];omega)
theorem qW {a b:Nat}(ha:a < 18446744073709551616)(hb:b < 18446744073709551616):IntKind.u64.wrap ((BitVec.ofInt IntKind.u64.bits (Int.ofNat a) &&& BitVec.ofInt IntKind.u64.bits (Int.ofNat b)).toNat:Int)=Int.ofNat (a &&& b):=by
 have e:∀ x:Nat,x < 18446744073709551616->(BitVec.ofInt 64 (Int.ofNat x)).toNat=x:=fun x hx=>by
  rw [show BitVec.ofInt 64 (Int.ofNat x)=BitVec.ofNat 64 x from BitVec.ofInt_ofNat ..];rw [BitVec.toNat_ofNat];exact Nat.mod_eq_of_lt hx
 show IntKind.u64.wrap (((BitVec.ofInt 64 (Int.ofNat a) &&& BitVec.ofInt 64 (Int.ofNat b)).toNat:Nat):Int)=_;rw [BitVec.toNat_and,e a ha,e b hb];exact zB (Nat.lt_of_le_of_lt Nat.and_le_left ha)
theorem aCK {a b:Nat}(ha:a < 18446744073709551616)(hb:b < 18446744073709551616):IntKind.u64.wrap ((BitVec.ofInt IntKind.u64.bits (Int.ofNat a) ||| BitVec.ofInt IntKind.u64.bits (Int.ofNat b)).toNat:Int)=Int.ofNat (a ||| b):=by
 have e:∀ x:Nat,x < 18446744073709551616->(BitVec.ofInt 64 (Int.ofNat x)).toNat=x:=fun x hx=>by
  rw [show BitVec.ofInt 64 (Int.ofNat x)=BitVec.ofNat 64 x from BitVec.ofInt_ofNat ..];rw [BitVec.toNat_ofNat];exact Nat.mod_eq_of_lt hx
 show IntKind.u64.wrap (((BitVec.ofInt 64 (Int.ofNat a) ||| BitVec.ofInt 64 (Int.ofNat b)).toNat:Nat):Int)=_;rw [BitVec.toNat_or,e a ha,e b hb];refine zB ?_;exact Nat.or_lt_two_pow (n:=64) ha hb
theorem pL (a b:Nat):(Int.ofNat a).fdiv (b:Int)=Int.ofNat (a / b):=Int.ofNat_fdiv ..|>.symm
def dO (v:Nat):Nat:=v / 2 ^ 52 % 2048
def jW (v:Nat):Nat:=v % 2 ^ 52
theorem aBp (v:Nat):jW v < 2 ^ 52:=Nat.mod_lt _ dc
theorem aQA:bB prog 63 10 [.tmp 2,.tmp 3] (aL Tryz.f63):=fq Tryz.f63
theorem aDG {v:Nat}(hv:v < 18446744073709551616){S:St}{k:V->St->Prop}(hk:k (.tup [.int .i64 (.ofNat (dO v)),.int .u64 (.ofNat (jW v))]) S):RC prog 63 [.int .u64 (.ofNat v)] S k:=by
 refine RC.run mixed aS (aG aQA ?_);refine enter ?_;refine go ?_;refine dM (v / 2 ^ 52) (pL v (2 ^ 52)) ?_;refine go ?_;have h1:v / 2 ^ 52 < 4096:=om;refine dM (dO v) ((qW (b:=2047) om om).trans (congrArg Int.ofNat (Nat.and_two_pow_sub_one_eq_mod (v / 2 ^ 52) 11))) ?_;refine go ?_;refine bI (dO v) ?_ rfl (by unfold dO;omega);refine go ?_;refine dM (jW v) ((qW (b:=4503599627370495) hv om).trans (congrArg Int.ofNat (Nat.and_two_pow_sub_one_eq_mod v 52))) ?_;refine go ?_;exact hk
def iW (v:Nat):Nat:=if dO v=2047 then (if jW v=0 then 3 else 4) else if 0 < dO v then 2 else if 0 < jW v then 1 else 0
theorem aTu:bB prog 32 26 [.tmp 2] (aL Tryz.f32):=fq Tryz.f32
theorem aGo {v:Nat}(hv:v < 18446744073709551616){S:St}{k:V->St->Prop}(hk:k (.int .u8 (.ofNat (iW v))) S):RC prog 32 [.int .u64 (.ofNat v)] S k:=by
 refine RC.run mixed aS (aG aTu ?_);refine enter ?_;refine go ?_;refine aDG hv ?_;refine go ?_;unfold iW at hk;refine bO (fun (h1:_=2047)=>?_) (fun (h1:_ ≠ 2047)=>?_)
 ·rw [if_pos h1] at hk;refine go ?_;refine bO (fun (h2:_=0)=>?_) (fun (h2:_ ≠ 0)=>?_)
  ·rw [if_pos h2] at hk;refine go ?_;exact hk
  ·rw [if_neg h2] at hk;refine go ?_;refine bO (fun _=>?_) (fun h=>absurd h1 h);refine go ?_;exact hk
 ·rw [if_neg h1] at hk;refine go ?_;refine bO (fun h=>absurd h h1) (fun _=>?_);refine go ?_;refine bE (fun (h2:0 < _)=>?_) (fun (h2:_ <= 0)=>?_)
  ·rw [if_pos h2] at hk;refine go ?_;exact hk
  ·rw [if_neg (Nat.not_lt.2 h2)] at hk;refine go ?_;refine bE (fun (h3:0 < _)=>?_) (fun (h3:_ <= 0)=>?_)
   ·rw [if_pos h3] at hk;refine go ?_;exact hk
   ·rw [if_neg (Nat.not_lt.2 h3)] at hk;refine go ?_;exact hk
end Go.Am
namespace Go.Am
theorem aIP {v:V}{k:List V->Prop}:∀ {cs:List V} {off:Nat},off < cs.length->k (cs.set off v)->eJ [v] off cs k
 | [],off,h,_=>by simp at h
 | c :: cs,0,_,hk=>hk
 | c :: cs,off+1,h,hk=>by
   have:=aIP (v:=v) (k:=fun r=>k (c :: r)) (cs:=cs) (off:=off) (by simpa using h) (by simpa using hk);exact this
def dC (ds:List Nat):List V:=ds.map fun d=>.int .u8 (.ofNat (48+d))
theorem lF (ds:List Nat):(dC ds).length=ds.length:=by simp [dC]
theorem aNC {ds:List Nat}{j:Nat}(h:j < ds.length):(dC ds)[j]?=some (.int .u8 (.ofNat (48+ds[j]))):=by simp [dC,h]
theorem aND (ds:List Nat)(j d:Nat):(dC ds).set j (.int .u8 (.ofNat (48+d)))=dC (ds.set j d):=by simp [dC,List.map_set]
theorem rH {R:Nat->Nat->Prop}:∀ l:List Nat,mJ R (dC l) (dC l)
 | []=>.nil
 | _ :: l=>.cons (.int _ _) (rH l)
def fJ:List Nat->Nat
 | []=>0
 | d :: l=>d * 10 ^ l.length+fJ l
theorem aHo (a b:List Nat):fJ (a ++ b)=fJ a * 10 ^ b.length+fJ b:=by
 induction a with
 | nil=>simp [fJ]
 | cons d a ih=>simp only [List.cons_append,fJ,ih,aq,Nat.pow_add,Nat.add_mul,Nat.mul_assoc];omega
def nE (l:List Nat):Prop:=∀ d ∈ l,d < 10
def eA:List Nat->Nat × List Nat
 | []=>(0,[])
 | d :: l=>((2 * d+(eA l).1) / 10,(2 * d+(eA l).1) % 10 :: (eA l).2)
theorem gG:∀ l,(eA l).2.length=l.length
 | []=>rfl
 | d :: l=>by simp [eA,gG l]
theorem sN:∀ {l},nE l->nE (eA l).2∧(eA l).1 <= 1
 | [],_=>⟨fun d h=>by simp [eA] at h,by simp [eA]⟩
 | d :: l,h=>by
   obtain ⟨h1,h2⟩:=sN (l:=l) fun x hx=>h x (by simp [hx]);have hd:d < 10:=h d sm;refine ⟨fun x hx=>?_,by simp only [eA];omega⟩;simp only [eA,av] at hx
   rcases hx with rfl|hx
   ·omega
   ·exact h1 x hx
theorem aFN:∀ l,(eA l).1 * 10 ^ l.length+fJ (eA l).2=2 * fJ l
 | []=>rfl
 | d :: l=>by
   have ih:=aFN l;have e:=Nat.div_add_mod (2 * d+(eA l).1) 10;simp only [eA,fJ,au,gG,Nat.pow_succ];generalize (2 * d+(eA l).1) / 10=q at *;generalize (2 * d+(eA l).1) % 10=r at *;generalize 10 ^ l.length=P at *
   have e1:q * (P * 10)+r * P=(10 * q+r) * P:=by rw [Nat.add_mul,Nat.mul_comm P 10,<- Nat.mul_assoc,Nat.mul_comm q 10]
   rw [<- Nat.add_assoc,e1,e,Nat.add_mul,Nat.mul_add,<- ih,Nat.mul_assoc];omega
def dbl (l:List Nat):List Nat:=if 0 < (eA l).1 then (eA l).1 :: (eA l).2 else (eA l).2
theorem aQk (l:List Nat):fJ (dbl l)=2 * fJ l:=by
 rw [<- aFN l];unfold dbl
 split
 ·simp [fJ,gG]
 ·rename_i h
  have:(eA l).1=0:=om;rw [this];simp
theorem aNF {l:List Nat}(h:nE l):nE (dbl l):=by
 obtain ⟨h1,h2⟩:=sN h;unfold dbl
 split
 ·intro d hd
  rcases av.1 hd with rfl|hd
  ·omega
  ·exact h1 d hd
 ·exact h1
theorem aIb (l:List Nat):l.length <= (dbl l).length∧(dbl l).length <= l.length+1:=by
 unfold dbl
 split <;> simp [gG]
theorem aLk {ds:List Nat}{m:Nat}(h:m < ds.length):eA (ds.drop m)=((2 * ds[m]+(eA (ds.drop (m+1))).1) / 10,(2 * ds[m]+(eA (ds.drop (m+1))).1) % 10 :: (eA (ds.drop (m+1))).2):=by
 rw [List.drop_eq_getElem_cons h];rfl
def lJ:Nat->List Nat->List Nat
 | _,[]=>[]
 | r,d :: l=>(10 * r+d) / 2 :: lJ ((10 * r+d) % 2) l
def fZ:Nat->List Nat->Nat
 | r,[]=>r
 | r,d :: l=>fZ ((10 * r+d) % 2) l
theorem gH:∀ r l,(lJ r l).length=l.length
 | _,[]=>rfl
 | r,d :: l=>by simp [lJ,gH]
theorem aAq:∀ {r l},r <= 1->fZ r l <= 1
 | r,[],h=>h
 | r,d :: l,_=>aAq (l:=l) om
theorem aDr:∀ {r l},r <= 1->nE l->nE (lJ r l)
 | r,[],_,_=>fun d h=>by simp [lJ] at h
 | r,d :: l,hr,h=>fun x hx=>by
   have hd:d < 10:=h d sm;simp only [lJ,av] at hx
   rcases hx with rfl|hx
   ·omega
   ·exact aDr om (fun y hy=>h y (by simp [hy])) x hx
theorem aJY:∀ r l,2 * fJ (lJ r l)+fZ r l=r * 10 ^ l.length+fJ l
 | r,[]=>by simp [lJ,fZ,fJ]
 | r,d :: l=>by
   have ih:=aJY ((10 * r+d) % 2) l;have e:=Nat.div_add_mod (10 * r+d) 2;simp only [lJ,fZ,fJ,au,gH,Nat.pow_succ];generalize (10 * r+d) / 2=q at *;generalize (10 * r+d) % 2=s at *;generalize 10 ^ l.length=P at *
   have e1:r * (P * 10)+d * P=(10 * r+d) * P:=by rw [Nat.add_mul,Nat.mul_comm P 10,<- Nat.mul_assoc,Nat.mul_comm r 10]
   rw [<- Nat.add_assoc,e1,<- e,Nat.mul_add,Nat.add_mul,Nat.add_assoc,ih,Nat.mul_assoc];omega
theorem aGf:∀ (r:Nat) (a b:List Nat),lJ r (a ++ b)=lJ r a ++ lJ (fZ r a) b
 | _,[],_=>rfl
 | r,d :: a,b=>by simp only [List.cons_append,lJ,fZ,aGf _ a b]
theorem aGg:∀ (r:Nat) (a b:List Nat),fZ r (a ++ b)=fZ (fZ r a) b
 | _,[],_=>rfl
 | r,d :: a,b=>by simp only [List.cons_append,fZ,aGg _ a b]
def yA (l:List Nat):List Nat:=if 0 < fZ 0 l then lJ 0 l ++ [5] else lJ 0 l
theorem aOj (l:List Nat):2 * fJ (yA l)=(if 0 < fZ 0 l then 10 else 1) * fJ l:=by
 have h:=aJY 0 l;have h1:=aAq (r:=0) (l:=l) om;unfold yA
 split
 ·rename_i h0
  rw [aHo];simp only [List.length_singleton,Nat.pow_one,fJ,List.length_nil,Nat.pow_zero];omega
 ·rename_i h0
  have:fZ 0 l=0:=om;rw [this] at h;omega
theorem aOi {l:List Nat}(h:nE l):nE (yA l):=by
 have h1:=aDr (r:=0) om h;unfold yA
 split
 ·intro d hd
  rcases List.mem_append.1 hd with hd|hd
  ·exact h1 d hd
  ·simp at hd;omega
 ·exact h1
end Go.Am
namespace Go.Am
open Go.Proofs
attribute [local irreducible] fN fI fB cR eQ evCode evOps rD kOp aAj wF wH wG kGc aLE aLD kDr kMg drOps fU kK sl
theorem aOW {v:V}{k:List V->Prop}{cs cs':List V}{off:Nat}(off':Nat)(ho:off=off')(h:off' < cs.length)(hc:cs.set off' v=cs')(hk:k cs'):eJ [v] off cs k:=by subst ho;subst hc;exact aIP h hk
theorem aKA {α:Type}{n:Nat}{l:List α}{k:List α->Prop}(h:n=l.length)(hk:k l):fX n l k:=bJ om (by rw [h,List.take_length];exact hk)
theorem aNa:pY prog 5=some false:=kr
structure Num (S:St)(p b:Nat)(ds:List Nat)(h:Nat):Prop where
 held:∃ q ex fl,fl ≠ .ro∧p ≠ q∧b ≠ q∧aI <= q∧q < S.next∧S.hs.get p=some (.cells [.slice q 0 ds.length ds.length 1 ex] 36 .ex)∧S.hs.get q=some (.cells (dC ds) 5 fl)
 beh:S.hs.get b=some (.cells [.int .i64 (.ofNat h)] 3 .ex)
 ne:p ≠ b
 hp:aI <= p∧p < S.next
 hb:aI <= b∧b < S.next
theorem uX:∀ {l:List (Nat × O)} {S:St} {k:St->Prop},(∀ q ∈ l,q.1 < room)->(∀ S',S'.hs=pG l S.hs->k S')->aHl l S k
 | [],S,k,_,h=>h S rfl
 | q :: l,S,k,hr,h=>by
   show aHl l S fun S=>bD q.1 (some q.2) S k;refine uX (fun x hx=>hr x (by simp [hx])) fun S1 h1=>aE (hr q sm) fun S2 h2=>h S2 ?_;rw [h2,h1];rfl
theorem eD:∀ {l:List O} {S:St} {k:St->Prop},S.next+l.length < room->(∀ S',S'.hs=eC l S.hs->k S')->iX l S k
 | [],S,k,_,h=>h S rfl
 | o :: l,S,k,hr,h=>by
   show bK o S fun _ S=>iX l S k;refine aD (by simp at hr;omega) fun S1 h1=>eD (by have:=aF h1;simp at hr;omega) fun S2 h2=>h S2 ?_;rw [h2,h1];rfl
theorem aPC {q:Nat}{ids:List Nat}{ks2 news:List O}{S:St}{k:St->Prop}(hr:S.next+news.length < room)(hi:∀ i ∈ ids,i < room)(h:∀ S',S'.hs=eC news (pG ((ids.drop q).zip ks2) S.hs)->k S'):aHl ((ids.drop q).zip ks2) S fun S1=>iX news S1 k:=by
 refine uX (fun x hx=>hi x.1 ?_) fun S1 h1=>eD (by
  have:S1.next=S.next:=by
   have:=congrArg Hs.next h1;rw [jF] at this;exact this
  omega) fun S2 h2=>h S2 (by rw [h2,h1])
 have:=(List.of_mem_zip (show (x.1,x.2) ∈ _ from hx)).1;exact List.mem_of_mem_drop this
theorem aUU:bB prog 95 34 [] (aL Tryz.f95):=fq Tryz.f95
theorem aIf {ds:List Nat}(hd:nE ds)(hne:ds ≠ [])(hlen:ds.length <= 2000){S:St}{p b h:Nat}(hN:Num S p b ds h)(hroom:S.next+1 < 4096){k:V->St->Prop}(hk:∀ S',Num S' p b (dbl ds) h->S'.next <= S.next+1->k (.tup []) S'):RC prog 95 [.ptr p 0] S k:=by
 obtain ⟨⟨q,ex,fl,hfl,hpq,hbq,hq,hqn,gp,gq⟩,gb,hpb,hp,hb⟩:=hN;have hn0:0 < ds.length:=List.length_pos_iff.2 hne
 refine RC.small mixed aUU (l:=[.ptr (aI+1) 0]) 0 [q,p] [.cells (dC ds) 5 fl,.cells [.slice q 0 ds.length ds.length 1 ex] 36 .ex] [.cells (dC ds) 5 .rw,.cells [.slice aI 0 ds.length ds.length 1 false] 36 .ex]
  [.cells (dC (eA ds).2) 5 .rw,.cells [if 0 < (eA ds).1 then .slice S.next 0 (1+ds.length) (1+ds.length) 1 false else .slice q 0 ds.length ds.length 1 false] 36 .ex]
  (if 0 < (eA ds).1 then [.cells (dC (dbl ds)) 5 .rw] else []) (v2:=.tup []) ?_ sm rfl rfl rfl ?_ ?_ (.cons (.ptr _ (iC.at (a:=1) rfl sm)) .nil) ?_ ?_ ?_ ?_
 ·rintro (_|_|a) (_|_|c) i _ h1 h2 <;> simp at h1 h2 <;> first|rfl|(subst h1;exact absurd h2 hpq)|(subst h1;exact absurd h2.symm hpq)
 ·rintro (_|_|a) i o h1 h2
  ·simp at h1 h2;subst h1;subst h2;exact gq
  ·simp at h1 h2;subst h1;subst h2;exact gp
  ·simp at h1
 ·rintro (_|_|a) o1 o2 h1 h2
  ·simp at h1 h2;subst h1;subst h2;refine .cells (rH _) ?_
   cases fl with
   | ro=>exact absurd rfl hfl
   | ex=>exact .inr (.inl rfl)
   | rw=>exact .inl rfl
  ·simp at h1 h2;subst h1;subst h2;exact .cells (.cons (.slice _ _ _ _ _ _ _ (iC.at (a:=0) rfl sm) (.inl rfl) (af _) sm) .nil) (.inl rfl)
  ·simp at h1
 ·rintro (_|_|a) o h
  ·simp at h;subst h;rfl
  ·simp at h;subst h;rfl
  ·simp at h
 ·intro a o h
  split at h
  ·rcases a with _|a
   ·simp at h;subst h;rfl
   ·simp at h
  ·simp at h
 ·generalize hK:aAC _ _ _ _ _ _ _=K;refine build ?_;refine enter ?_;refine go ?_;refine aHt ?_ (by show ds.length <= _;omega);refine go ?_;refine LP.induct ds.length (fun j E S'=>∃ m,m+j=ds.length∧S'=rE [(aI,.cells (dC (ds.take m ++ (eA (ds.drop m)).2)) 5 .rw),(aI+1,.cells [.slice aI 0 ds.length ds.length 1 false] 36 .ex)] (aI+2)∧Kn E 34 [(0,.ptr (aI+1) 0),(1,.int .u8 (.ofNat (eA (ds.drop m)).1)),(2,.int .i64 (pvI m))]) ⟨ds.length,rfl,?_,?_⟩ ?_
  ·rw [List.take_length,List.drop_length];simp only [eA,bf]
   kernel_rfl
  ·rw [List.drop_length];exact ⟨rfl,rfl,rfl,rfl,trivial⟩
  rintro j E S' ⟨m,hm,hS,hf⟩ ih;subst hS;refine LP.kn mixed hf ?_
  cases m with
  | succ m =>
    have hlt:m < ds.length:=om;have hst:=aLk hlt;have hd10:ds[m] < 10:=hd _ (az hlt);have hc1:(eA (ds.drop (m+1))).1 <= 1:=(sN fun x hx=>hd x (List.mem_of_mem_drop hx)).2
    have hlc:(dC (ds.take (m+1) ++ (eA (ds.drop (m+1))).2)).length=ds.length:=by
     rw [lF,aq,gG,bh,List.length_drop];omega
    have hget:(dC (ds.take (m+1) ++ (eA (ds.drop (m+1))).2))[m]?=some (.int .u8 (.ofNat (48+ds[m]))):=by
     rw [aNC (by rw [aq,bh];omega)];rw [List.getElem_append_left (by rw [bh];omega),List.getElem_take]
    generalize hc:(eA (ds.drop (m+1))).1=c at *;generalize hx:ds[m]=x at *;refine go ?_;refine ifK_intro (ag hlt) ?_;refine go ?_;refine aH aNa m (by show 0+m * 1=m;omega) hget ?_;refine go ?_;refine mI x ?_ (by show 48+x=x+48;omega) (by show x <= 255;omega);refine go ?_;refine bA (2 * x) rfl (by show 2 * x <= 255;omega) ?_;refine go ?_;refine bA (2 * x+c) rfl (by show 2 * x+c <= 255;omega) ?_;refine go ?_;refine dM ((2 * x+c) % 10) rfl ?_;refine go ?_;refine bA (48+(2 * x+c) % 10) rfl (by show 48+(2 * x+c) % 10 <= 255;omega) ?_;refine go ?_;refine bA ((2 * x+c) / 10) rfl (by show (2 * x+c) / 10 <= 255;omega) ?_;refine go ?_;refine ifK_intro (ag hlt) ?_;refine go ?_;refine aOW (cs':=dC (ds.take m ++ (eA (ds.drop m)).2)) m (by show 0+m * 1=m;omega) (by rw [hlc];exact hlt) ?_ ?_
    ·rw [aND,hst]
     congr 1
     rw [an hlt,List.append_assoc,List.set_append_right _ _ (by rw [bh];omega),bh,Nat.min_eq_left om,Nat.sub_self];rfl
    refine go ?_;refine aHt ?_;refine go ?_;refine ih _ _ om ⟨m,om,?_,rfl,rfl,?_,rfl,trivial⟩
    ·kernel_rfl
    ·rw [hst];rfl
  | zero =>
    have e1:ds.take 0 ++ (eA (ds.drop 0)).2=(eA ds).2:=rfl;have e2:(eA (ds.drop 0)).1=(eA ds).1:=rfl;rw [e1,e2] at *;refine go ?_;refine bE (fun (hc:0 < _)=>?_) (fun (hc:_ <= 0)=>?_)
    ·simp only [if_pos hc] at hK ⊢;have hc1:=(sN hd).2;have hl2:=gG ds
     have hdb:dbl ds=(eA ds).1 :: (eA ds).2:=by unfold dbl;rw [if_pos hc]
     rw [hdb] at hK;generalize (eA ds).1=c at *;generalize (eA ds).2=l at *;refine go ?_;refine bA (48+c) rfl (by show 48+c <= 255;omega) ?_;refine go ?_;refine aKA (by rw [lF,hl2];show ds.length * 1=_;omega) ?_;refine go ?_;refine bX (fun hb=>?_) (fun _=>?_)
     ·have:=ae hb;have h3:1+ds.length <= 1:=this;omega
     refine go ?_;refine ifK_intro (ag (show (1+ds.length) * 2 <= 70368744177664 by omega)) ?_;refine go ?_;rw [<- hK];refine ⟨[aI+3],eE _,fun g hg=>by rw [ay] at hg;subst hg;exact ae rfl,.tup .nil,⟨⟨_,rfl,.cells (rH _) (.inl rfl)⟩,⟨_,rfl,.cells (.cons (.slice _ _ _ _ _ _ _ (uF.new (a:=0) rfl (ae rfl) sm) (.inl rfl) (af _) (fun h=>⟨h,rfl⟩)) .nil) (.inl rfl)⟩,trivial⟩,⟨⟨_,rfl,.cells (.cons (.int _ _) (rH _)) (.inl rfl)⟩,trivial⟩⟩
    ·simp only [if_neg (show ¬ 0 < (eA ds).1 by omega)] at hK ⊢;refine go ?_;rw [<- hK];refine ⟨[],bj,sm,.tup .nil,⟨⟨_,rfl,.cells (rH _) (.inl rfl)⟩,⟨_,rfl,.cells (.cons (.slice _ _ _ _ _ _ _ (uF.at (a:=0) rfl (ae rfl) (ai _)) (.inl rfl) (af _) (fun h=>⟨h,rfl⟩)) .nil) (.inl rfl)⟩,trivial⟩,trivial⟩
 ·have hrm:room=4096:=rfl;refine aPC (by split <;> simp only [au,List.length_nil] <;> omega) (fun i hi=>by simp only [av,List.mem_nil_iff,or_false] at hi;omega) fun S' hS'=>?_
  have hnext:S'.next=S.next+(if 0 < (eA ds).1 then 1 else 0):=by
   have:=congrArg Hs.next hS';rw [iS,jF] at this;rw [show S'.next=S'.hs.next from rfl,this]
   split <;> rfl
  have hget:∀ i,S'.hs.get i=(eC (if 0 < (eA ds).1 then [.cells (dC (dbl ds)) 5 .rw] else []) (pG ([q,p].zip [.cells (dC (eA ds).2) 5 .rw,.cells [if 0 < (eA ds).1 then .slice S.next 0 (1+ds.length) (1+ds.length) 1 false else .slice q 0 ds.length ds.length 1 false] 36 .ex]) S.hs)).get i:=fun i=>by rw [hS'];rfl
  have hnx:S.hs.next=S.next:=rfl;refine hk S' ⟨?_,?_,hpb,⟨hp.1,om⟩,⟨hb.1,om⟩⟩ (by rw [hnext];split <;> omega)
  ·by_cases hc:0 < (eA ds).1
   ·have hl:(dbl ds).length=1+ds.length:=by unfold dbl;rw [if_pos hc];simp [gG];omega
    refine ⟨S.next,false,.rw,sm,om,om,om,by rw [hnext,if_pos hc];omega,?_,?_⟩
    ·rw [hget,if_pos hc,if_pos hc,hl];simp only [eC,Hs.new,jF,hnx,if_neg (show ¬ p=S.next by omega),pG,List.zip_cons_cons,Hs.put,if_neg hpq,if_pos]
    ·rw [hget,if_pos hc];simp only [eC,Hs.new,jF,hnx,if_pos]
   ·have hl:dbl ds=(eA ds).2:=by unfold dbl;rw [if_neg hc]
    refine ⟨q,false,.rw,sm,hpq,hbq,hq,by rw [hnext];omega,?_,?_⟩
    ·rw [hget,if_neg hc,if_neg hc,hl,gG];simp only [eC,pG,List.zip_cons_cons,Hs.put,if_neg hpq,if_pos]
    ·rw [hget,if_neg hc,hl];simp only [eC,pG,List.zip_cons_cons,Hs.put,if_pos]
  ·rw [hget];by_cases hc:0 < (eA ds).1
   ·rw [if_pos hc,if_pos hc];simp only [eC,Hs.new,jF,hnx,if_neg (show ¬ b=S.next by omega),pG,List.zip_cons_cons,Hs.put,if_neg hbq,if_neg (Ne.symm hpb)];exact gb
   ·rw [if_neg hc,if_neg hc];simp only [eC,pG,List.zip_cons_cons,Hs.put,if_neg hbq,if_neg (Ne.symm hpb)];exact gb
theorem RC.clo1 {rc:cG}(hrc:dN prog rc){c:FuncId}{l l2:List V}(i:Nat)(o o':O)(news:List O)(gs:List Nat)(v2:V){ns3:List O}{S:St}{k:V->St->Prop}
  (hrun:(dJ (kJ aI [o]) ⟨.nil,aI+1⟩ fun S0=>rc c l S0 (zU [] 1 (aI+1) gs [] news v2))=(v2=v2∧([]:List (Option O))=[]∧news.map some=news.map some)) (hro:o.wr=false) (hg1:gs.Nodup) (hg2:gs.all (fun g=>Nat.ble (aI+1) g)=true) (hg3:gs.length=news.length) (hw:news.all O.wr=true)
  (hi:aI <= i) (ho:S.hs.get i=some o') (hoi:∀ R,OI R o' o) (hl:mJ (iC [i] (aI+1)) l2 l) (h4:news.mapM (O.mo (uB [i] (aI+1) S.next))=some ns3) (hk:iX ns3 S (k (V.mo (uB [i] (aI+1) S.next) v2))):RC prog c l2 S k:=by
 refine RC.clo [] hrc (l:=l) 1 [i] [o] [] news gs v2 [] (ks3:=[]) (ns3:=ns3) hrun sm ?_ ⟨hg1,hg2,hg3⟩ ⟨rfl,rfl,hw⟩ sm (by simpa using hi) (List.nodup_cons.2 ⟨sm,.nil⟩) rfl ?_ hl rfl h4 ?_
 ·show (!o.wr && true)=true;rw [hro];rfl
 ·rintro (_|a) j x h1 h2
  ·simp at h1 h2;subst h1;subst h2;exact ⟨o',ho,hoi _⟩
  ·simp at h1
 ·exact hk
theorem RC.clo0 {rc:cG}(hrc:dN prog rc){c:FuncId}{l:List V}(v2:V){S:St}{k:V->St->Prop}(hrun:dJ (kJ aI []) ⟨.nil,aI⟩ fun S0=>rc c l S0 (zU [] 0 aI [] [] [] v2))(hl:V.flat.V.flatL l=true)(hv:∀ f,V.mo f v2=v2)(hk:k v2 S):RC prog c l S k:=by
 refine RC.clo [] hrc (l:=l) 0 [] [] [] [] [] v2 [] (ks3:=[]) (ns3:=[]) ?_ sm rfl ⟨.nil,rfl,rfl⟩ ⟨rfl,rfl,rfl⟩ sm sm .nil rfl (by rintro a j x h1;simp at h1) (cB hl) rfl rfl ?_
 ·exact propext ⟨fun _=>⟨rfl,rfl,rfl⟩,fun _=>hrun⟩
 ·show k (V.mo _ v2) S;rw [hv];exact hk
def aUG (a:Nat):V:=.agg [.int .u8 (.ofNat (10+a)),.nilSlice,.str [],.str [],.str [],.str [],.int .i64 0]
noncomputable def aNt (a:Nat):Prop:=dJ (kJ aI []) ⟨.nil,aI⟩ fun S0=>(aGW 1000).call 78 [aUG a] S0 (zU [] 0 aI [] [] [] (.tup [.nilPtr,.int .i64 120]))
def aKT (f:Nat->Prop):Nat->Prop
 | 0=>True
 | n+1=>f n∧aKT f n
theorem aJz {f:Nat->Prop}:∀ {n a:Nat},aKT f n->a < n->f a
 | n+1,a,h,ha=>by
   rcases Nat.lt_or_ge a n with h1|h1
   ·exact aJz h.2 h1
   ·rw [show a=n by omega];exact h.1
theorem aJA {f:Nat->Prop}(h:∀ a,f a):∀ n,aKT f n
 | 0=>trivial
 | n+1=>⟨h n,aJA h n⟩
theorem aQd:aKT aNt 200:=(show aKT (fun _=>(V.tup [.nilPtr,.int .i64 120]=V.tup [.nilPtr,.int .i64 120]∧([]:List (Option O))=[]∧([]:List (Option O))=[])) 200=aKT aNt 200 by kernel_rfl) ▸ aJA (fun _=>⟨rfl,rfl,rfl⟩) 200
theorem aQe {a:Nat}(ha:a < 200){S:St}{k:V->St->Prop}(hk:k (.tup [.nilPtr,.int .i64 120]) S):RC prog 78 [aUG a] S k:=RC.clo0 (eF 1000) _ (aJz aQd ha) rfl (fun _=>rfl) hk
def aMr:List V:=[.int .u8 6,.nilSlice,.str [],.str [95,95,110,97,109,101,95,95],.str [],.str [],.int .i64 0]
def rX (n:Nat):List O:=[.cells [.slice (n+1) 0 1 1 1 false,.bool true] 154 .ex,
 .cells [.ptr (n+2) 0] 155 .rw,
 .cells [.int .u8 6,.nilSlice,.str [],.str [95,95,110,97,109,101,95,95],.str [],.str [],.int .i64 0,.ptr (n+3) 0,.nilSlice,.nilSlice] 200 .ex,
 .cells [.str [95,95,110,97,109,101,95,95],.slice (n+4) 0 9 9 4 false,.int .i64 0] 308 .ex,
 .cells [.int .u8 1,.slice (n+5) 0 1 1 2 false,.int .i64 0,.int .i64 0,.int .u8 1,.slice (n+6) 0 1 1 2 false,.int .i64 0,.int .i64 0,.int .u8 1,.slice (n+7) 0 1 1 2 false,.int .i64 0,.int .i64 0,.int .u8 1,.slice (n+8) 0 1 1 2 false,.int .i64 0,.int .i64 0,.int .u8 1,.slice (n+9) 0 1 1 2 false,.int .i64 0,.int .i64 0,.int .u8 1,.slice (n+10) 0 1 1 2 false,.int .i64 0,.int .i64 0,.int .u8 1,.slice (n+11) 0 1 1 2 false,.int .i64 0,.int .i64 0,.int .u8 1,.slice (n+12) 0 1 1 2 false,.int .i64 0,.int .i64 0,.int .u8 5,.nilSlice,.int .i64 0,.int .i64 0] 352 .rw,
 .cells [.int .i64 95,.int .i64 95] 374 .rw,
 .cells [.int .i64 95,.int .i64 95] 374 .rw,
 .cells [.int .i64 110,.int .i64 110] 374 .rw,
 .cells [.int .i64 97,.int .i64 97] 374 .rw,
 .cells [.int .i64 109,.int .i64 109] 374 .rw,
 .cells [.int .i64 101,.int .i64 101] 374 .rw,
 .cells [.int .i64 95,.int .i64 95] 374 .rw,
 .cells [.int .i64 95,.int .i64 95] 374 .rw]
theorem aOE {S:St}{r c:Nat}{ex:Bool}{e:TypeId}{fl:Fl}(hr:aI <= r)(hc:1 <= c)(hS:S.hs.get r=some (.cells aMr e fl)){k:V->St->Prop}(hn:S.next+13 < room)(hk:∀ S',S'.hs=eC (rX S.next) S.hs->k (.tup [.ptr S.next 0,.int .i64 (.negSucc 0),.int .i64 0]) S'):RC prog 51 [.slice r 0 1 c 7 ex] S k:=by
 refine RC.clo1 (l:=[.slice aI 0 1 1 7 false]) (eF 1000) r (.cells aMr e .ro) (.cells aMr e fl) (rX (aI+1)) [1001,3720,1004,3626,3624,3578,3584,3590,3596,3602,3608,3614,3620] (.tup [.ptr (aI+1) 0,.int .i64 (.negSucc 0),.int .i64 0]) (ns3:=rX S.next) kr rfl dc dc rfl rfl hr hS (fun R=>.cells (cB kr) (.inr (.inr rfl))) ?_ ?_ ?_
 ·exact .cons (.slice _ _ _ _ _ _ _ (iC.at (a:=0) rfl sm) (.inr (af _)) hc sm) .nil
 ·kernel_rfl
 ·exact eD hn hk
def aMs:List V:=[.int .u8 1,.nilSlice,.str [],.str [],.str [95,95,110,97,109,101,95,95],.str [57],.int .i64 0]
def rA (n:Nat):List O:=[.cells [.slice (n+1) 0 1 1 1 false,.bool true] 154 .ex,
 .cells [.ptr (n+2) 0] 155 .rw,
 .cells [.int .u8 1,.nilSlice,.str [],.str [],.str [95,95,110,97,109,101,95,95],.str [57],.int .i64 0,.ptr (n+3) 0,.slice (n+5) 0 1 1 3 false,.slice (n+6) 0 1 1 3 false] 200 .ex,
 .cells [.str [],.slice (n+4) 0 1 1 4 false,.int .i64 0] 308 .ex,
 .cells [.int .u8 5,.nilSlice,.int .i64 0,.int .i64 0] 352 .rw,
 .cells [.int .u8 1,.str [95,95,110,97,109,101,95,95],.int .i64 0] 310 .rw,
 .cells [.int .u8 1,.str [57],.int .i64 0] 310 .rw]
theorem aOF {S:St}{r c:Nat}{ex:Bool}{e:TypeId}{fl:Fl}(hr:aI <= r)(hc:1 <= c)(hS:S.hs.get r=some (.cells aMs e fl)){k:V->St->Prop}(hn:S.next+7 < room)(hk:∀ S',S'.hs=eC (rA S.next) S.hs->k (.tup [.ptr S.next 0,.int .i64 (.negSucc 0),.int .i64 0]) S'):RC prog 51 [.slice r 0 1 c 7 ex] S k:=by
 refine RC.clo1 (l:=[.slice aI 0 1 1 7 false]) (eF 1000) r (.cells aMs e .ro) (.cells aMs e fl) (rA (aI+1)) [1001,1214,1004,1114,1112,1118,1122] (.tup [.ptr (aI+1) 0,.int .i64 (.negSucc 0),.int .i64 0]) (ns3:=rA S.next) kr rfl dc dc rfl rfl hr hS (fun R=>.cells (cB kr) (.inr (.inr rfl))) ?_ ?_ ?_
 ·exact .cons (.slice _ _ _ _ _ _ _ (iC.at (a:=0) rfl sm) (.inr (af _)) hc sm) .nil
 ·kernel_rfl
 ·exact eD hn hk
def aMt:List V:=[.int .u8 1,.nilSlice,.str [],.str [],.str [95,95,110,97,109,101,95,95],.str [],.int .i64 0]
def rB (n:Nat):List O:=[.cells [.slice (n+1) 0 1 1 1 false,.bool true] 154 .ex,
 .cells [.ptr (n+2) 0] 155 .rw,
 .cells [.int .u8 1,.nilSlice,.str [],.str [],.str [95,95,110,97,109,101,95,95],.str [],.int .i64 0,.ptr (n+3) 0,.slice (n+5) 0 1 1 3 false,.nilSlice] 200 .ex,
 .cells [.str [],.slice (n+4) 0 1 1 4 false,.int .i64 0] 308 .ex,
 .cells [.int .u8 5,.nilSlice,.int .i64 0,.int .i64 0] 352 .rw,
 .cells [.int .u8 1,.str [95,95,110,97,109,101,95,95],.int .i64 0] 310 .rw]
theorem aOG {S:St}{r c:Nat}{ex:Bool}{e:TypeId}{fl:Fl}(hr:aI <= r)(hc:1 <= c)(hS:S.hs.get r=some (.cells aMt e fl)){k:V->St->Prop}(hn:S.next+6 < room)(hk:∀ S',S'.hs=eC (rB S.next) S.hs->k (.tup [.ptr S.next 0,.int .i64 (.negSucc 0),.int .i64 0]) S'):RC prog 51 [.slice r 0 1 c 7 ex] S k:=by
 refine RC.clo1 (l:=[.slice aI 0 1 1 7 false]) (eF 1000) r (.cells aMt e .ro) (.cells aMt e fl) (rB (aI+1)) [1001,1211,1004,1114,1112,1118] (.tup [.ptr (aI+1) 0,.int .i64 (.negSucc 0),.int .i64 0]) (ns3:=rB S.next) kr rfl dc dc rfl rfl hr hS (fun R=>.cells (cB kr) (.inr (.inr rfl))) ?_ ?_ ?_
 ·exact .cons (.slice _ _ _ _ _ _ _ (iC.at (a:=0) rfl sm) (.inr (af _)) hc sm) .nil
 ·kernel_rfl
 ·exact eD hn hk
def Std (S:St)(b:Nat)(l:List O):Prop:=∀ (a:Nat) (o:O),l[a]?=some o->S.hs.get (b+a)=some o
theorem Std.keep {S S':St}{b:Nat}{l:List O}(h:Std S b l)(hk:∀ id,b <= id->id < b+l.length->S'.hs.get id=S.hs.get id):Std S' b l:=fun a o ha=>by
 have:=(ao.1 ha).1;rw [hk _ om om];exact h a o ha
def roO:O->O
 | .cells cs e _=>.cells cs e .ro
 | o=>o
def lvO:List O:=.cells [.ptr 1003 0] 155 .ro :: (rX 1001).map roO
noncomputable def aSw (s:List UInt8):Prop:=∀ x:List UInt8,dJ (kJ aI lvO) ⟨.nil,aI+14⟩ fun S0=>(aGW 1000).call 198 [.agg [.str s,.str x],.ptr aI 0] S0 (zU [] 14 (aI+14) [] [] [] (.bool (kG s aW)))
def aKS (f:List UInt8->Prop):List (List UInt8)->Prop
 | []=>True
 | s :: l=>f s∧aKS f l
theorem aJx {f:List UInt8->Prop}:∀ {l:List (List UInt8)} {s:List UInt8},aKS f l->s ∈ l->f s
 | x :: l,s,h,hs=>by
   rcases av.1 hs with rfl|h1
   ·exact h.1
   ·exact aJx h.2 h1
theorem aJy {f:List UInt8->Prop}(h:∀ a,f a):∀ n,aKS f n
 | []=>trivial
 | x :: n=>⟨h x,aJy h n⟩
theorem aTN:aKS aSw dF:=(show aKS (fun s=>∀ _:List UInt8,(V.bool (kG s aW)=V.bool (kG s aW)∧([]:List (Option O))=[]∧([]:List (Option O))=[])) dF=aKS aSw dF by kernel_rfl) ▸ aJy (fun _ _=>⟨rfl,rfl,rfl⟩) dF
def OIL (R:Nat->Nat->Prop):List O->List O->Prop
 | [],[]=>True
 | o' :: l',o :: l=>OI R o' o∧OIL R l' l
 | _,_=>False
theorem OIL.at {R:Nat->Nat->Prop}:∀ {l' l:List O} {a:Nat} {o:O},OIL R l' l->l[a]?=some o->∃ o',l'[a]?=some o'∧OI R o' o
 | o' :: l',o :: l,0,x,h,ha=>by simp at ha;subst ha;exact ⟨o',rfl,h.1⟩
 | o' :: l',o :: l,a+1,x,h,ha=>by
   obtain ⟨y,h1,h2⟩:=OIL.at (a:=a) h.2 (by simpa using ha);exact ⟨y,by simpa using h1,h2⟩
 | [],[],a,x,_,ha=>by simp at ha
 | _ :: _,[],a,x,h,_=>h.elim
 | [],_ :: _,a,x,h,_=>h.elim
theorem qK:∀ (n b:Nat),(List.range' b n).Nodup
 | 0,b=>.nil
 | n+1,b=>by
   rw [List.range'_succ];refine List.nodup_cons.2 ⟨fun h=>?_,qK n (b+1)⟩;rw [List.mem_range'_1] at h;omega
theorem RC.cloL {rc:cG}(hrc:dN prog rc){c:FuncId}{l l2:List V}(gb:List (Nat × O))(ids:List Nat)(os' os:List O)(v2:V){S:St}{k:V->St->Prop}
  (hrun:dJ (gb ++ kJ aI os) ⟨.nil,aI+os.length⟩ fun S0=>rc c l S0 (zU gb os.length (aI+os.length) [] [] [] v2)) (hro:os.all (fun o=>!o.wr)=true) (hgb:∀ p ∈ gb,p.1 < aI∧p.2.wr=false∧∃ o',S.hs.get p.1=some o'∧∀ R,OI R o' p.2)
  (hb:∀ i ∈ ids,aI <= i) (hnd:ids.Nodup) (hlen:ids.length=os.length) (hS:∀ (a i:Nat) (o:O),ids[a]?=some i->os'[a]?=some o->S.hs.get i=some o) (hin:∀ R:Nat->Nat->Prop,(∀ a i,ids[a]?=some i->R i (aI+a))->OIL R os' os∧mJ R l2 l) (hv:∀ f,V.mo f v2=v2) (hk:k v2 S):RC prog c l2 S k:=by
 obtain ⟨h1,h2⟩:=hin (iC ids (aI+os.length)) fun a i h=>iC.at h (by have:=(ao.1 h).1;omega);refine RC.clo gb hrc (l:=l) os.length ids os [] [] [] v2 [] (ks3:=[]) (ns3:=[]) ?_ sm (by rw [List.take_length];exact hro) ⟨.nil,rfl,rfl⟩ ⟨Nat.zero_add _,rfl,rfl⟩ ?_ hb hnd hlen ?_ h2 rfl rfl ?_
 ·exact propext ⟨fun _=>⟨rfl,rfl,rfl⟩,fun _=>hrun⟩
 ·intro p hp;obtain ⟨g1,g2,o',g3,g4⟩:=hgb p hp;exact ⟨g1,g2,o',g3,g4 _⟩
 ·intro a i o g1 g2;obtain ⟨o',e1,e2⟩:=h1.at g2;exact ⟨o',hS a i o' g1 e1,e2⟩
 ·rw [<- hlen,List.drop_length];show k (V.mo _ v2) S;rw [hv];exact hk
theorem RC.cloN {rc:cG}(hrc:dN prog rc){c:FuncId}{l l2:List V}(gb:List (Nat × O))(b:Nat)(os' os:List O)(v2:V){S:St}{k:V->St->Prop}
  (hrun:dJ (gb ++ kJ aI os) ⟨.nil,aI+os.length⟩ fun S0=>rc c l S0 (zU gb os.length (aI+os.length) [] [] [] v2)) (hro:os.all (fun o=>!o.wr)=true) (hgb:∀ p ∈ gb,p.1 < aI∧p.2.wr=false∧∃ o',S.hs.get p.1=some o'∧∀ R,OI R o' p.2)
  (hb:aI <= b) (hS:Std S b os') (hin:∀ R:Nat->Nat->Prop,(∀ a,a < os.length->R (b+a) (aI+a))->OIL R os' os∧mJ R l2 l) (hv:∀ f,V.mo f v2=v2) (hk:k v2 S):RC prog c l2 S k:=by
 refine RC.cloL hrc gb (List.range' b os.length) os' os v2 hrun hro hgb (fun i hi=>?_) (qK _ _) List.length_range' (fun a i o g1 g2=>?_) (fun R hR=>hin R fun a ha=>hR a _ (by rw [List.getElem?_range' ha,Nat.one_mul])) hv hk
 ·rw [List.mem_range'_1] at hi;omega
 ·have ha:=(ao.1 g1).1;rw [List.length_range'] at ha;rw [List.getElem?_range' ha,Nat.one_mul,Option.some.injEq] at g1;subst g1;exact hS a o g2
theorem aQZ {q:aY}(hq:q.1 ∈ dF){b pc:Nat}(hb:aI <= b)(hpc:b+13 <= pc){S:St}(hS:Std S b (rX b))(hc:S.hs.get pc=some (.cells [.ptr (b+2) 0] 155 .ex)){k:V->St->Prop}(hk:k (.bool (kG q.1 aW)) S):RC prog 198 [gE q,.ptr pc 0] S k:=by
 refine RC.cloL (eF 1000) (l:=[.agg [.str q.1,.str q.2],.ptr aI 0]) [] (pc :: List.range' b 13) (.cells [.ptr (b+2) 0] 155 .ex :: rX b) lvO (.bool (kG q.1 aW)) (aJx aTN hq q.2) rfl sm (fun i hi=>?_) ?_ rfl (fun a i o g1 g2=>?_) (fun R hR=>?_) (fun _=>rfl) hk
 ·rcases av.1 hi with rfl|hi
  ·omega
  ·rw [List.mem_range'_1] at hi;omega
 ·refine List.nodup_cons.2 ⟨fun h=>?_,qK _ _⟩;rw [List.mem_range'_1] at h;omega
 ·rcases a with _|a
  ·simp at g1 g2;subst g1;subst g2;exact hc
  ·rw [List.getElem?_cons_succ] at g1 g2;have ha:=(ao.1 g1).1;rw [List.length_range'] at ha;rw [List.getElem?_range' ha,Nat.one_mul,Option.some.injEq] at g1;subst g1;exact hS a o g2
 ·have qc:R pc 1000:=hR 0 pc rfl;have q0:R b 1001:=hR 1 _ rfl;have q1:R (b+1) 1002:=hR 2 _ rfl;have q2:R (b+2) 1003:=hR 3 _ rfl;have q3:R (b+3) 1004:=hR 4 _ rfl;have q4:R (b+4) 1005:=hR 5 _ rfl;have q5:R (b+5) 1006:=hR 6 _ rfl;have q6:R (b+6) 1007:=hR 7 _ rfl;have q7:R (b+7) 1008:=hR 8 _ rfl;have q8:R (b+8) 1009:=hR 9 _ rfl;have q9:R (b+9) 1010:=hR 10 _ rfl;have q10:R (b+10) 1011:=hR 11 _ rfl;have q11:R (b+11) 1012:=hR 12 _ rfl;have q12:R (b+12) 1013:=hR 13 _ rfl;clear hR hS;refine ⟨⟨?_,?_,?_,?_,?_,?_,?_,?_,?_,?_,?_,?_,?_,?_,trivial⟩,?_⟩
  ·refine .cells (.cons (.ptr 0 (by assumption)) .nil) (.inr (.inr rfl))
  all_goals
   first|refine .cells ?_ (.inr (.inr rfl))|skip
   repeat (first|exact .nil|(refine .cons ?_ ?_;first|exact .int _ _|exact .str _|exact .bool _|exact .nilSlice|exact .ptr 0 (by assumption)|exact .slice _ _ _ _ _ _ _ (by assumption) (.inl rfl) (af _) (fun h=>⟨h,rfl⟩)|exact .agg (.cons (.str _) (.cons (.str _) .nil))))
def aKq (m:Nat):V:=.agg [.int .u8 1,.slice m 0 1 1 1 true,.str [],.str [40,46,42,41],.str [98],.str [120,36,49],.int .i64 0]
theorem aMu {S:St}{k:V->St->Prop}(hn:S.next+1 < room)(hk:∀ S',S'.hs=eC [.cells [.str [97]] 9 .ex] S.hs->k (aKq S.next) S'):RC prog 9 [.int .u8 0] S k:=by
 refine RC.clo [] (eF 1000) (l:=[.int .u8 0]) 0 [] [] [] [.cells [.str [97]] 9 .ex] [1001] (aKq aI) [] (ks3:=[]) (ns3:=[.cells [.str [97]] 9 .ex]) ?_ sm rfl ⟨dc,dc,rfl⟩ ⟨rfl,rfl,rfl⟩ sm sm .nil rfl (by rintro a j x h1;simp at h1) (cB rfl) rfl ?_ ?_
 ·kernel_rfl
 ·kernel_rfl
 ·exact eD hn hk
def aOI (n:Nat):List O:=[.cells [.int .u8 1,.slice (n+1) 0 1 1 1 false,.str [],.str [40,46,42,41],.str [98],.str [120,36,49],.int .i64 0,.ptr (n+2) 0,.slice (n+3) 0 1 1 3 false,.slice (n+4) 0 2 2 3 false] 200 .ex,
 .cells [.str [97]] 9 .rw,
 .cells [.str [40,46,42,41],.slice (n+5) 0 6 6 4 false,.int .i64 1] 308 .ex,
 .cells [.int .u8 1,.str [98],.int .i64 0] 310 .rw,
 .cells [.int .u8 1,.str [120],.int .i64 0,.int .u8 2,.str [],.int .i64 1] 310 .rw,
 .cells [.int .u8 4,.nilSlice,.int .i64 0,.int .i64 0,.int .u8 2,.nilSlice,.int .i64 2,.int .i64 4,.int .u8 1,.slice (n+6) 0 2 2 2 false,.int .i64 0,.int .i64 0,.int .u8 3,.nilSlice,.int .i64 1,.int .i64 0,.int .u8 4,.nilSlice,.int .i64 1,.int .i64 0,.int .u8 5,.nilSlice,.int .i64 0,.int .i64 0] 352 .rw,
 .cells [.int .i64 0,.int .i64 55295,.int .i64 57344,.int .i64 1114111] 374 .rw]
theorem aOH {S:St}{m:Nat}{e:TypeId}{fl:Fl}(hm:aI <= m)(hS:S.hs.get m=some (.cells [.str [97]] e fl)){k:V->St->Prop}(hn:S.next+7 < room)(hk:∀ S',S'.hs=eC (aOI S.next) S.hs->k (.tup [.ptr S.next 0,.int .i64 0]) S'):RC prog 78 [aKq m] S k:=by
 refine RC.clo1 (l:=[aKq aI]) (eF 1000) m (.cells [.str [97]] e .ro) (.cells [.str [97]] e fl) (aOI (aI+1)) [1004,1003,1948,1952,1961,1946,1807] (.tup [.ptr (aI+1) 0,.int .i64 0]) (ns3:=aOI S.next) kr rfl dc dc rfl rfl hm hS (fun R=>.cells (cB kr) (.inr (.inr rfl))) ?_ ?_ ?_
 ·exact .cons (.agg (.cons (.int _ _) (.cons (.slice _ _ _ _ _ _ _ (iC.at (a:=0) rfl sm) (.inl rfl) (af _) sm) (cB rfl)))) .nil
 ·kernel_rfl
 ·exact eD hn hk
theorem aRg {s:List UInt8}{i c:Nat}{ex:Bool}{e:TypeId}{fl:Fl}{S:St}(hi:aI <= i)(hc:2 <= c)(hS:S.hs.get i=some (.cells [.str s,.str [49]] e fl))(hn:S.next+1 < room){k:V->St->Prop}(hk:∀ S',S'.hs=eC [.cells [.str s,.str [49]] 34 .rw] S.hs->k (.slice S.next 0 1 1 2 false) S'):RC prog 8 [.slice i 0 2 c 1 ex] S k:=by
 refine RC.clo [] (eF 1000) (l:=[.slice aI 0 2 2 1 false]) 1 [i] [.cells [.str s,.str [49]] e .ro] [] [.cells [.str s,.str [49]] 34 .rw] [1015] (.slice (aI+1) 0 1 1 2 false) [kG s s] (ks3:=[]) (ns3:=[.cells [.str s,.str [49]] 34 .rw]) ?_ ?_ rfl ⟨List.nodup_cons.2 ⟨sm,.nil⟩,rfl,rfl⟩ ⟨rfl,rfl,rfl⟩ sm (by simpa using hi) (List.nodup_cons.2 ⟨sm,.nil⟩) rfl ?_ ?_ rfl ?_ ?_
 ·kernel_rfl
 ·intro b hb;rw [ay] at hb;subst hb;exact nL s
 ·rintro (_|a) j x h1 h2
  ·simp at h1 h2;subst h1;subst h2;exact ⟨_,hS,.cells (cB rfl) (.inr (.inr rfl))⟩
  ·simp at h1
 ·exact .cons (.slice _ _ _ _ _ _ _ (iC.at (a:=0) rfl sm) (.inr (af _)) hc sm) .nil
 ·kernel_rfl
 ·exact eD hn hk
section
theorem aVu:bB prog 51 43 [.tmp 2,.tmp 3,.tmp 4] (aL Tryz.f51):=fq Tryz.f51
attribute [local irreducible] aO bK cM bD
theorem aSZ {w:V}{S:St}{i2:Nat}{e2:TypeId}{fl2:Fl}(hx:S.hs.get i2=some (.cells [w] e2 fl2)){k:V->St->Prop}
  (hk:bK (.cells [w] 155 .rw) S fun id S=>k (.slice id 0 1 1 1 false) S):aO prog #[152,152] .nilSlice (.slice i2 0 1 1 1 true) S k:=by
 unfold aO
 conv=>whnf
 refine aA hx ?_
 conv=>whnf
 exact hk
def aJd (m:Nat):List V:=[.int .u8 1,.slice m 0 1 1 1 true,.str [],.str [40,46,42,41],.str [98],.str [120,36,49],.int .i64 0]
def aJe (a:Nat):List V:=[.int .u8 (.ofNat (10+a)),.nilSlice,.str [],.str [],.str [],.str [],.int .i64 0]
theorem aLV {a:Nat}(ha:a < 200){r m:Nat}{e e2:TypeId}{fl fl2:Fl}{S:St}(hr:r < S.next)(hS:S.hs.get r=some (.cells (aJd m ++ aJe a) e fl))(hm:aI <= m)(hmS:m < S.next)(hS2:S.hs.get m=some (.cells [.str [97]] e2 fl2))(hn:S.next+20 < room){k:V->St->Prop}(hk:∀ S',Abv S.next S.next S S' 20->k (.tup [.nilPtr,.int .i64 1,.int .i64 120]) S'):RC prog 51 [.slice r 0 2 2 7 true] S k:=by
 refine RC.run mixed aS (aG aVu ?_);refine enter ?_;refine go ?_;refine aD om fun S1 hS1=>?_;have n1:=aF hS1
 have k1:∀ id,id < S.next->S1.hs.get id=S.hs.get id:=fun id g=>by rw [aC hS1 om]
 have hR1:S1.hs.get S.next=some (.cells [.nilSlice,.bool true] 154 .ex):=aJ hS1;refine go ?_;have hngl:aI=1000:=rfl;refine LP.induct 2 (fun j E S'=>j <= 1∧Kn E 43 [(5,.ptr S.next 0),(15,.slice r 0 2 2 7 true),(16,.int .i64 2),(17,.int .i64 (.ofNat j))]∧(∀ id,id < S.next->S'.hs.get id=S.hs.get id)∧(j=0->S'.hs.get S.next=some (.cells [.nilSlice,.bool true] 154 .ex))∧S.next < S'.next∧S'.next <= S.next+1+12 * j) ⟨ai _,kq,k1,fun _=>hR1,om,om⟩ ?_;rintro j E T0 ⟨hj,hf,kT0,hR0,a0,b0⟩ ih;refine LP.kn mixed hf ?_;refine go ?_;refine bE (fun _=>?_) (fun (h:2 <= j)=>by omega);refine go ?_;obtain rfl|rfl:j=0 ∨ j=1:=om
 ·refine go ?_;refine aA ((kT0 r hr).trans hS) ?_;refine aX (n:=7) (xs:=aJd m) kr kr (by show 0+7 <= 14;omega) rfl ?_;refine go ?_;refine aD om fun T1 hT1=>?_;have m1:=aF hT1;refine go ?_;refine aA (aJ hT1) ?_;refine wrA (xs:=aJd m) sm kr (by show 0 < 7;omega) rfl rfl ?_;refine aE om fun T2 hT2=>?_;have m2:=aK hT2
  have k2:∀ id,id < T0.next->T2.hs.get id=T0.hs.get id:=fun id g=>by rw [aB hT2 om,aC hT1 om]
  refine go ?_;refine aA (aR hT2) ?_;refine aX (n:=7) (xs:=aJd m) kr kr (af 7) rfl ?_;refine go ?_;refine aOH hm ((k2 m om).trans ((kT0 m hmS).trans hS2)) om fun T3 hT3=>?_
  have m3:T3.next=T2.next+7:=by
   have h:=congrArg Hs.next hT3;rw [iS] at h;exact h
  have k3:∀ id,id < T2.next->T3.hs.get id=T2.hs.get id:=fun id g=>by rw [hT3];exact qJ g
  have hR3:=(k3 _ om).trans ((k2 _ om).trans (hR0 rfl));refine go ?_;refine aA hR3 ?_;refine aH kr _ rfl rfl ?_;refine go ?_;refine aD (o:=.cells [.ptr T2.next 0] 155 .ex) om fun T4 hT4=>?_;have m4:=aF hT4;refine go ?_;refine aSZ (aJ hT4) ?_;refine aD om fun T5 hT5=>?_;have m5:=aF hT5;refine go ?_;have hR5:=(aC hT5 (show S.next ≠ T4.next by omega)).trans ((aC hT4 (show S.next ≠ T3.next by omega)).trans hR3);refine aA hR5 ?_
  conv=>whnf
  refine aE om fun T6 hT6=>?_;have m6:=aK hT6;refine go ?_;refine bI 1 ?_;refine go ?_;refine ih _ T6 (show 0 < 2 by omega) ⟨af _,kq,fun id g=>?_,fun h=>by omega,om,om⟩;rw [aB hT6 om,aC hT5 om,aC hT4 om,k3 id om,k2 id om];exact kT0 id g
 ·refine go ?_;refine aA ((kT0 r hr).trans hS) ?_;refine aX (n:=7) (xs:=aJe a) kr kr (by show 7+7 <= 14;omega) rfl ?_;refine go ?_;refine aD om fun T1 hT1=>?_;have m1:=aF hT1;refine go ?_;refine aA (aJ hT1) ?_;refine wrA (xs:=aJe a) sm kr (by show 0 < 7;omega) rfl rfl ?_;refine aE om fun T2 hT2=>?_;have m2:=aK hT2
  have k2:∀ id,id < T0.next->T2.hs.get id=T0.hs.get id:=fun id g=>by rw [aB hT2 om,aC hT1 om]
  refine go ?_;refine aA (aR hT2) ?_;refine aX (n:=7) (xs:=aJe a) kr kr (af 7) rfl ?_;refine go ?_;refine aQe ha ?_;refine go ?_;exact hk T2 ⟨fun id g _=>(k2 id om).trans (kT0 id g),om,om⟩
end
theorem aLi (i c:Nat)(ex:Bool)(l:List aY)(rest:List V)(hfew:l.length <= 64)(n:Nat)(hn:n < l.length)(hone:∀ j (h:j < n) (S:St) (k:V->St->Prop),k (.int .i64 0) S->RC prog 37 [gE l[j]] S k)(hfull:∀ j (h:j < n),l[j].2 ≠ [])(hasc:∀ j (h:j+1 < n),jJ l[j].1 l[j+1].1=true)
  {e1:Int} (hbad:(e1=40 ∨ e1=41)∧(∀ (S:St) (k:V->St->Prop),k (.int .i64 e1) S->RC prog 37 [gE l[n]] S k) ∨ e1=42∧(∀ (S:St) (k:V->St->Prop),k (.int .i64 0) S->RC prog 37 [gE l[n]] S k)∧l[n].2=[]) {S:St} (fl:Fl) (e:TypeId) (hrow:S.hs.get i=some (.cells (cellsOf l ++ rest) e fl)) (hc:l.length <= c) {k:V->St->Prop} (hk:k (.tup [.int .i64 (.ofNat n),.int .i64 e1]) S) :
  RC prog 76 [.slice i 0 l.length c 2 ex] S k:=by
 obtain ⟨i40,hi40,hs40⟩:=lK;refine RC.read mixed f76 (l:=[.slice aI 0 l.length l.length 2 false]) [i] [.cells (cellsOf l ++ rest) e fl] [.cells (cellsOf l) e .ro] [] (v2:=.tup [.int .i64 (.ofNat n),.int .i64 e1]) ?_ rfl rfl ?_ ?_ ?_ sm ?_ hk
 ·rintro (_|a) o h
  ·simp at h;subst h;rfl
  ·simp at h
 ·rintro (_|a) j o h1 h2
  ·simp at h1 h2;subst h1;subst h2;exact hrow
  ·simp at h1
 ·rintro (_|a) o1 o2 h1 h2
  ·simp at h1 h2;subst h1;subst h2;exact .part (aN l)
  ·simp at h1
 ·exact .cons (.slice _ _ _ _ _ _ _ (iC.at (a:=0) rfl sm) (.inr (af _)) hc sm) .nil
 ·refine build ?_;refine enter ?_;refine goB ?_;refine lG (by have:=hfew;rw [bF];simp;omega) ?_;refine goB ?_;refine LP.induct0 n (fun j E=>j <= n∧Kn E 46 [(0,.slice aI 0 l.length l.length 2 false),(10,.slice aI 0 l.length l.length 2 false),(11,.int .i64 (.ofNat l.length)),(12,.int .i64 (.ofNat j))]) ⟨ai _,kq⟩ ?_;intro j E ⟨hjl,hf⟩ ih;refine LP.kng mixed hf ?_;refine goB ?_;refine dG (fun hb=>?_) (fun hb=>absurd hb (by rw [bF];simp;omega))
  have hlt:j < l.length:=by rw [bF] at hb;simpa using hb
  rcases Nat.lt_or_ge j n with hjn|hjn
  ·
   refine goB ?_;refine bX (fun _=>?_) (fun h=>absurd (h.symm.trans hb) sm);refine goB ?_;refine dT agg40 hi40 hs40 (j:=j) (ak hlt) (show 0+j * 2=2 * j by omega) ?_;refine goB ?_;refine hone j hjn _ _ ?_;refine goB ?_
   have hv:kG l[j].2 []=false:=by
    have:=hfull j hjn;rw [cY];simpa using this
   cases hj0:qG 0 (Int.ofNat j)
   ·
    refine godB ?_;refine godB ?_;refine godB ?_;refine goB ?_;refine bA (j+1) rfl (by have:=hfew;show j+1 <= 9223372036854775807;omega) ?_;refine goB ?_;refine ⟨_,⟨af _,?_⟩,rfl,ih _ hjn ⟨om,kq⟩⟩
    repeat' (first
     | exact trivial
     | exact ae rfl
     | exact ⟨_,rfl,.cells (aN _) (.inl rfl)⟩
     | apply And.intro)
   ·obtain ⟨m,rfl⟩:∃ m,j=m+1:=by
     rw [bF] at hj0;simp at hj0;exact ⟨j - 1,om⟩
    have hm:Nat.blt m l.length=true:=ag om;refine godB ?_
    refine aV rfl (by
     intro Q hQ
     conv=>whnf
     refine bA m (by show Int.subNatNat (m+1) 1=_;rw [Int.subNatNat_of_le om];rfl) (by have:=hfew;show m <= 9223372036854775807;omega) ?_
     exact hQ) ?_
    refine godB ?_
    refine aV rfl (by
     intro Q hQ
     conv=>whnf
     refine bX (fun _=>?_) (fun h=>absurd (h.symm.trans hm) sm)
     conv=>whnf
     (repeat (first|exact hQ|(refine kN (by first|rfl|assumption) ?_;conv=>whnf)|(refine lG (by first|rfl|assumption) ?_;conv=>whnf)|(refine aP ?_;conv=>whnf)|(refine bR ?_;conv=>whnf)|(unfold cR;conv=>whnf)))) ?_
    refine godB ?_
    refine d_readH rfl (by
     intro Q hQ
     conv=>whnf
     refine aH xN (2 * m) (show 0+m * 2+0=2 * m by omega) (jN om).1 ?_
     exact hQ) ?_
    intro _;have hlt1:=hasc m hjn;have hlt2:=aDx hlt1;have hlt3:kG l[m+1].1 l[m].1=false:=xV (Ne.symm (rW hlt1));refine godB ?_;refine godB ?_;refine godB ?_;refine goB ?_;refine bA (m+1+1) rfl (by have:=hfew;show m+1+1 <= 9223372036854775807;omega) ?_;refine goB ?_;refine ⟨_,⟨af _,?_⟩,rfl,ih _ hjn ⟨om,kq⟩⟩
    repeat' (first
     | exact trivial
     | exact ae rfl
     | exact ⟨_,rfl,.cells (aN _) (.inl rfl)⟩
     | apply And.intro)
  ·obtain rfl:j=n:=om;refine goB ?_;refine bX (fun _=>?_) (fun h=>absurd (h.symm.trans hb) sm);refine goB ?_;refine dT agg40 hi40 hs40 (j:=j) (ak hlt) (show 0+j * 2=2 * j by omega) ?_;refine goB ?_
   rcases hbad with ⟨he,h1⟩|⟨rfl,h1,h2⟩
   ·refine h1 _ _ ?_
    rcases he with rfl|rfl
    ·refine goB ?_;refine godB ?_;refine goB ?_;exact ⟨[],bj,sm,.tup (.cons (.int _ _) (.cons (.int _ _) .nil)),trivial,trivial⟩
    ·refine goB ?_;refine godB ?_;refine goB ?_;exact ⟨[],bj,sm,.tup (.cons (.int _ _) (.cons (.int _ _) .nil)),trivial,trivial⟩
   ·refine h1 _ _ ?_
    have hv:kG l[j].2 []=true:=by rw [h2];rfl
    refine goB ?_;refine godB ?_;refine goB ?_;exact ⟨[],bj,sm,.tup (.cons (.int _ _) (.cons (.int _ _) .nil)),trivial,trivial⟩
section
attribute [local irreducible] aO bK cM bD
theorem aWZ:bB prog 37 13 [.tmp 2] (aL Tryz.f37):=fq Tryz.f37
theorem wP {q:aY}{a b:Bool}(ha:∀ (S:St) (k:V->St->Prop),k (.bool a) S->RC prog 69 [.str q.1] S k)(hb:∀ (S:St) (k:V->St->Prop),k (.bool b) S->RC prog 70 [.str q.2] S k){e:Int}(he:e=if a then (if b then 0 else 41) else 40){S:St}{k:V->St->Prop}(hk:k (.int .i64 e) S) :
  RC prog 37 [gE q] S k:=by
 refine RC.pure mixed aWZ hk ?_;unfold gE;refine enter ?_;refine go ?_;refine aD dc fun S1 hS1=>?_;refine go ?_;refine aA (aJ hS1) ?_;refine aH kr _ rfl rfl ?_;refine go ?_;refine ha _ _ ?_;cases a
 ·refine go ?_;exact congrArg _ he.symm
 ·refine go ?_;refine aA (aJ hS1) ?_;refine aH kr _ rfl rfl ?_;refine go ?_;refine hb _ _ ?_;cases b
  ·refine go ?_;exact congrArg _ he.symm
  ·refine go ?_;exact congrArg _ he.symm
theorem aVw:bB prog 48 12 [.tmp 2] (aL Tryz.f48):=fq Tryz.f48
theorem uS {v:V}{n e:Int}(he:e=40 ∨ e=41 ∨ e=42){S:St}(hc:∀ k:V->St->Prop,k (.tup [.int .i64 n,.int .i64 e]) S->RC prog 76 [v] S k){k:V->St->Prop}(hk:k (.bool false) S):RC prog 48 [v] S k:=by
 refine RC.run mixed aS (aG aVw ?_);refine enter ?_;refine go ?_;refine hc _ ?_
 rcases he with rfl|rfl|rfl
 ·refine go ?_;exact hk
 ·refine go ?_;exact hk
 ·refine go ?_;exact hk
theorem aJQ:bB prog 22 29 [.tmp 4,.tmp 5] (aL Tryz.f22):=fq Tryz.f22
theorem aMn {v w:V}{S:St}(hR:∀ k:V->St->Prop,k (.bool false) S->RC prog 48 [v] S k){k:V->St->Prop}(hk:k (.tup [.nilPtr,.int .i64 240]) S):RC prog 22 [v,w] S k:=by
 refine RC.run mixed aS (aG aJQ ?_);refine enter ?_;refine go ?_;refine hR _ ?_;refine go ?_;exact hk
theorem aMl {v w:V}{S:St}(hR:∀ k:V->St->Prop,k (.bool true) S->RC prog 48 [v] S k)(hC:∀ k:V->St->Prop,k (.bool true) S->RC prog 49 [v,.func (.func 50) [] []] S k){k:V->St->Prop}(hk:k (.tup [.nilPtr,.int .i64 240]) S):RC prog 22 [v,w] S k:=by
 refine RC.run mixed aS (aG aJQ ?_);refine enter ?_;refine go ?_;refine hR _ ?_;refine go ?_;refine hC _ ?_;refine go ?_;exact hk
theorem aMm {v w:V}{S:St}(hR:∀ k:V->St->Prop,k (.bool true) S->RC prog 48 [v] S k)(hC:∀ k:V->St->Prop,k (.bool false) S->RC prog 49 [v,.func (.func 50) [] []] S k){A:St->Prop}(hN:∀ k:V->St->Prop,(∀ S',A S'->k (.tup [.nilPtr,.int .i64 1,.int .i64 120]) S')->RC prog 51 [w] S k){k:V->St->Prop}
  (hk:∀ S',A S'->k (.tup [.nilPtr,.int .i64 120]) S'):RC prog 22 [v,w] S k:=by
 refine RC.run mixed aS (aG aJQ ?_);refine enter ?_;refine go ?_;refine hR _ ?_;refine go ?_;refine hC _ ?_;refine go ?_;refine hN _ fun S' h=>?_;refine go ?_;exact hk S' h
theorem aNQ:bB prog 10 26 [.tmp 6] (aL Tryz.f10):=fq Tryz.f10
theorem uL {v w u:V}{e:Int}(he:e=240 ∨ e=120){S:St}{A:St->Prop}(hR:∀ k:V->St->Prop,(∀ S',A S'->k (.tup [.nilPtr,.int .i64 e]) S')->RC prog 22 [v,w] S k){k:V->St->Prop}(hk:∀ S',A S'->k (.int .i64 e) S'):RC prog 10 [v,w,u] S k:=by
 refine RC.run mixed aS (aG aNQ ?_);refine enter ?_;refine go ?_;refine hR _ fun S' h=>?_
 rcases he with rfl|rfl
 ·refine go ?_;exact hk S' h
 ·refine go ?_;exact hk S' h
theorem aHU {v w:V}{p:V}{lim:Int}(hl:lim < 1 ∨ 1000 < lim){S:St}{A:St->Prop}(hR:∀ k:V->St->Prop,(∀ S' p,A S'->k (.tup [p,.int .i64 0]) S')->RC prog 22 [v,w] S k){k:V->St->Prop}(hk:∀ S',A S'->k (.int .i64 2) S'):RC prog 10 [v,w,.int .i64 lim] S k:=by
 refine RC.run mixed aS (aG aNQ ?_);refine enter ?_;refine go ?_;refine hR _ fun S' p h=>?_;refine go ?_;refine dG (fun h1=>?_) (fun h1=>?_)
 ·refine go ?_;exact hk S' h
 ·rw [bF] at h1
  have h1:¬ lim < 1:=by simpa using h1
  refine go ?_;refine kN (by rw [bF];simp;omega) ?_;refine go ?_;exact hk S' h
end
section
attribute [local irreducible] aO bK cM bD
theorem aSh:bB prog 12 33 [.cell 6 49,.tmp 7,.tmp 8] (aL Tryz.f12):=fq Tryz.f12
theorem aXA {A:Prop}{v:V}(h:A=(v=v∧([]:List (Option O))=[]∧([]:List (Option O))=[])):A:=h ▸ ⟨rfl,rfl,rfl⟩
theorem aRt {S:St}{k:V->St->Prop}(hk:k (.bool false) S):RC prog 25 [.agg [.nilSlice,.int .u64 0,.bool false,.int .i64 0]] S k :=
 RC.clo0 (eF 1000) (.bool false) (aXA (v:=.bool false) kr) rfl (fun _=>rfl) hk
theorem aKj {v w:V}{e:Int}(he:e=240 ∨ e=120){S:St}{n:Nat}(hn:S.next+n+2 < room)(hR:∀ S2:St,(∀ id,id < S.next->S2.hs.get id=S.hs.get id)->S.next <= S2.next->S2.next <= S.next+2->∀ k:V->St->Prop,(∀ S',Abv S2.next S2.next S2 S' n->k (.tup [.nilPtr,.int .i64 e]) S')->RC prog 22 [v,w] S2 k){k:V->St->Prop}
  (hk:∀ S',Abv S.next S.next S S' (n+2)->k (.tup [.agg [.nilSlice,.int .u64 0,.bool false,.int .i64 0],.bool false,.int .i64 e]) S'):RC prog 12 [.agg [.nilSlice,.int .u64 0,.bool false,.int .i64 0],v,w] S k:=by
 refine RC.run mixed aS (aG aSh ?_);refine enter ?_;refine go ?_;refine aD om fun S1 hS1=>?_;have n1:=aF hS1;refine go ?_;refine aD om fun S2 hS2=>?_;have n2:=aF hS2
 have k2:∀ id,id < S.next->S2.hs.get id=S.hs.get id:=fun id g=>by rw [aC hS2 om,aC hS1 om]
 refine go ?_;refine hR S2 k2 om om _ fun S3 hA3=>?_;have a3:=hA3.lo;have b3:=hA3.hi
 rcases he with rfl|rfl
 all_goals
  refine go ?_;have r2:S2.hs.get S1.next=some (.cells [.nilSlice,.int .u64 0,.bool false,.int .i64 0] 49 .ex):=aJ hS2;have r3:=(hA3.keep S1.next om om).trans r2;refine aA r3 ?_;refine wrA (xs:=[.nilSlice,.int .u64 0,.bool false,.int .i64 0]) sm kr (by show 0 < 4;omega) rfl rfl ?_;refine aE om fun S4 hS4=>?_;have n4:=aK hS4;refine go ?_;refine aA (aR hS4) ?_;refine aX (n:=4) (xs:=[.nilSlice,.int .u64 0,.bool false,.int .i64 0]) kr kr (af 4) rfl ?_;refine go ?_;exact hk S4 ⟨fun id g _=>by rw [aB hS4 om,hA3.keep id om om];exact k2 id g,om,om⟩
theorem aOQ {v w:V}{S:St}{n:Nat}(hn:S.next+n+2 < room)(hR:∀ S2:St,(∀ id,id < S.next->S2.hs.get id=S.hs.get id)->S.next <= S2.next->S2.next <= S.next+2->∀ k:V->St->Prop,(∀ S' r,Abv S2.next S2.next S2 S' n->k (.tup [.ptr r 0,.int .i64 0]) S')->RC prog 22 [v,w] S2 k){k:V->St->Prop}
  (hk:∀ S',Abv S.next S.next S S' (n+2)->k (.tup [.agg [.nilSlice,.int .u64 0,.bool false,.int .i64 0],.bool false,.int .i64 243]) S'):RC prog 12 [.agg [.nilSlice,.int .u64 0,.bool false,.int .i64 0],v,w] S k:=by
 refine RC.run mixed aS (aG aSh ?_);refine enter ?_;refine go ?_;refine aD om fun S1 hS1=>?_;have n1:=aF hS1;refine go ?_;refine aD om fun S2 hS2=>?_;have n2:=aF hS2
 have k2:∀ id,id < S.next->S2.hs.get id=S.hs.get id:=fun id g=>by rw [aC hS2 om,aC hS1 om]
 refine go ?_;refine hR S2 k2 om om _ fun S3 r hA3=>?_;have a3:=hA3.lo;have b3:=hA3.hi;have b1:S1.hs.get S.next=some (.cells [.nilSlice,.int .u64 0,.bool false,.int .i64 0] 49 .ex):=aJ hS1;have b3':=(hA3.keep S.next om om).trans ((aC hS2 (show S.next ≠ S1.next by omega)).trans b1);refine go ?_;refine aA b3' ?_;refine aX (n:=4) (xs:=[.nilSlice,.int .u64 0,.bool false,.int .i64 0]) kr kr (af 4) rfl ?_;refine go ?_;refine aRt ?_;refine go ?_;have r2:S2.hs.get S1.next=some (.cells [.nilSlice,.int .u64 0,.bool false,.int .i64 0] 49 .ex):=aJ hS2;have r3:=(hA3.keep S1.next om om).trans r2;refine aA r3 ?_;refine wrA (xs:=[.nilSlice,.int .u64 0,.bool false,.int .i64 0]) sm kr (by show 0 < 4;omega) rfl rfl ?_;refine aE om fun S4 hS4=>?_;have n4:=aK hS4;refine go ?_;refine aA (aR hS4) ?_;refine aX (n:=4) (xs:=[.nilSlice,.int .u64 0,.bool false,.int .i64 0]) kr kr (af 4) rfl ?_;refine go ?_;exact hk S4 ⟨fun id g _=>by rw [aB hS4 om,hA3.keep id om om];exact k2 id g,om,om⟩
end
section
theorem aTs:bB prog 7 7 [.tmp 2] (aL Tryz.f7):=fq Tryz.f7
attribute [local irreducible] fX nH cM bK bD
theorem aPv {α:Type}{k:List α->Prop}{n:Nat}{l xs:List α}(h:n <= l.length)(e:l.take n=xs)(hk:k xs):fX n l k:=bJ h (e ▸ hk)
theorem aSW {S:St}{id2 c:Nat}{ex:Bool}{l:List aY}{e2:TypeId}{fl2:Fl}(hx:S.hs.get id2=some (.cells (cellsOf l) e2 fl2))(hlen:l.length < 4096){k:V->St->Prop}
  (h0:l=[]->k .nilSlice S) (h1:l ≠ []->bK (.cells (cellsOf l) 34 .rw) S fun id S=>k (.slice id 0 l.length l.length 2 false) S):aO prog #[29,29] .nilSlice (.slice id2 0 l.length c 2 ex) S k:=by
 unfold aO
 conv=>whnf
 refine aA hx ?_;refine bY (ai _) ?_
 have e:((cellsOf l).drop 0).take (l.length * 2)=cellsOf l:=by rw [List.drop_zero,bd (by rw [aZ];omega)]
 refine aPv (xs:=cellsOf l) (by show l.length * 2 <= _;rw [List.drop_zero,aZ];omega) e ?_;clear hx e
 cases l with
 | nil=>exact h0 rfl
 | cons q l' =>
   refine ifK_intro (ag ?_) (h1 sm);show (l'.length+1) * 33 <= 70368744177664;simp at hlen;omega
theorem aFL {l:List aY}{v:V}{S:St}(hv:(l=[]∧v=.nilSlice) ∨ ∃ i c ex e fl,v=.slice i 0 l.length c 2 ex∧S.hs.get i=some (.cells (cellsOf l) e fl))(hlen:l.length < 4096)(hn:S.next+1 < room){k:V->St->Prop}(hk:∀ S' v',Abv S.next S.next S S' 1->((l=[]∧v'=.nilSlice) ∨ ∃ m,l ≠ []∧v'=.slice m 0 l.length l.length 2 false∧S.next <= m∧m < S'.next∧m < room∧S'.hs.get m=some (.cells (cellsOf l) 34 .rw))->k v' S'):RC prog 7 [v] S k:=by
 refine RC.run mixed aS (aG aTs ?_);refine enter ?_
 rcases hv with ⟨rfl,rfl⟩|⟨i,c,ex,e,fl,rfl,hi⟩
 ·refine go ?_;exact hk S .nilSlice ⟨fun _ _ _=>rfl,om,om⟩ (.inl ⟨rfl,rfl⟩)
 ·refine go ?_;refine aSW (c:=c) (ex:=ex) hi hlen (fun h=>?_) fun h=>?_
  ·refine go ?_;exact hk S .nilSlice ⟨fun _ _ _=>rfl,om,om⟩ (.inl ⟨h,rfl⟩)
  ·refine aD om fun S1 hS1=>?_;have n1:=aF hS1;refine go ?_;exact hk S1 _ ⟨fun id g _=>aC hS1 om,om,om⟩ (.inr ⟨S.next,h,rfl,af _,om,om,aJ hS1⟩)
theorem aSY {b:Nat}{S:St}{v:V}{o:List aY}{q:aY}{i2:Nat}{e2:TypeId}{fl2:Fl}(h:(o=[]∧v=.nilSlice) ∨ ∃ m,o ≠ []∧v=.slice m 0 o.length o.length 2 false∧b <= m∧m < S.next∧m < room∧S.hs.get m=some (.cells (cellsOf o) 34 .rw))(hb:b <= S.next)(hx:S.hs.get i2=some (.cells (cellsOf [q]) e2 fl2))(hlen:o.length < 4096)(hn:S.next+1 < room){k:V->St->Prop}
  (hk:∀ S' m',Abv b b S S' 1->b <= m'->m' < S'.next->S'.hs.get m'=some (.cells (cellsOf (o ++ [q])) 34 .rw)->k (.slice m' 0 (o.length+1) (o.length+1) 2 false) S'):aO prog #[29,29] v (.slice i2 0 1 1 2 true) S k:=by
 rcases h with ⟨rfl,rfl⟩|⟨m,_,rfl,h2,h3,h4,h5⟩
 ·refine aEk hx ?_;refine aD om fun S2 hS2=>?_;exact hk S2 _ ((Abv.refl b b S 0).new hS2 hb om) hb (by rw [aF hS2];omega) (aJ hS2)
 ·refine aEj h5 hx hlen ?_;refine aE h4 fun S2 hS2=>?_;have hn2:=aK hS2;refine aD om fun S3 hS3=>?_;have hA:=((Abv.refl b b S 0).put hS2 (.inr h2)).new hS3 hb (m:=1) om;exact hk S3 _ hA om (by rw [aF hS3];omega) (aJ hS3)
end
end Go.Am
