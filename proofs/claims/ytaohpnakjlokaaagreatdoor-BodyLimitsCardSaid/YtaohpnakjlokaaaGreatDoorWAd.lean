/- Part 4 of the proof that BodyLimits returns true, and leaves its arguments as they were, for every input, over a start where the listed variables hold what the program lays: the statement Rows.BodyLimitsCardSaid. -/
import Derived.Test.YtaohpnakjlokaaaGreatDoorWAc
import Derived.Shelf.GgSortFunc.RowK
import Derived.Shelf.Strconv.Itoa0
import Derived.Shelf.Strconv.Itoa1
import Derived.Shelf.LaysM
import Derived.Shelf.Strconv.Itoa2
import Derived.Shelf.Strconv.Itoa3
import Derived.Shelf.Bits.Mul64
import Derived.Test.YtaohpnakjlokaaaGreatDoorChecked
import Derived.Test.YtaohpnakjlokaaaGreatDoorCheckedLc
import Derived.KernelRfl
import Derived.Laws.RangeString
import Ieee.Arith
import GoSem.PinnedTables
set_option linter.unusedVariables false
set_option linter.unusedSimpArgs false
set_option maxRecDepth 100000
set_option maxHeartbeats 4000000
namespace Go.Am
section
variable {P:Program}
def fQ:List (Nat × Option O)→Hs→Hs
 | [],H=>H
 | q :: l,H=>(fQ l H).put q.1 q.2
theorem fF:∀ (l:List (Nat × Option O)) (H:Hs),(fQ l H).next=H.next
 | [],_=>rfl
 | _ :: l,H=>fF l H
theorem aCE {j:Nat}{o:O}:∀ {l:List (Nat × Option O)} {H:Hs},(fQ l H).get j=some o→(∃ a:Nat,l[a]?=some (j,some o)) ∨ (H.get j=some o∧∀ q ∈ l,q.1 ≠ j)
 | [],H,h=>.inr ⟨h,by simp⟩
 | q :: l,H,h=>by
   by_cases e:j=q.1
   ·subst e
    have:q.2=some o:=by simpa [fQ,Hs.put] using h
    exact .inl ⟨0,by rw [← this];rfl⟩
   ·have h':(fQ l H).get j=some o:=by simpa [fQ,Hs.put,e] using h
    rcases aCE h' with ⟨a,ha⟩|⟨h1,h2⟩
    ·exact .inl ⟨a+1,by simpa using ha⟩
    ·exact .inr ⟨h1,fun x hx=>by
      rcases List.mem_cons.1 hx with rfl|hx
      ·exact fun e'=>e e'.symm
      ·exact h2 x hx⟩
def zO (R:Nat→Nat→Prop)(S:St):Nat→List (Option O)→Prop
 | _,[]=>True
 | n,none :: l=>zO R S (n+1) l
 | n,some o :: l=>(∃ o1,T.get fU n S.hp=some o1∧OI R o1 o)∧zO R S (n+1) l
theorem zO.get {R:Nat→Nat→Prop}{S:St}:∀ {l:List (Option O)} {n a:Nat} {o:O},zO R S n l→l[a]?=some (some o)→∃ o1,S.hs.get (n+a)=some o1∧OI R o1 o
 | [],_,_,_,_,h=>by simp at h
 | none :: l,n,0,o,hh,h=>by simp at h
 | some x :: l,n,0,o,hh,h=>by
   simp at h;subst h;exact hh.1
 | none :: l,n,a+1,o,hh,h=>by
   have:=zO.get (n:=n+1) (l:=l) hh (a:=a) (o:=o) (by simpa using h)
   rw [show n+(a+1)=n+1+a by omega];exact this
 | some x :: l,n,a+1,o,hh,h=>by
   have:=zO.get (n:=n+1) (l:=l) hh.2 (a:=a) (o:=o) (by simpa using h)
   rw [show n+(a+1)=n+1+a by omega];exact this
def aIQ (gb:List (Nat × O))(q:Nat)(ids:List Nat)(n m:Nat)(ks2:List (Option O))(news:List O)(v2:V)(v:V)(S':St):Prop :=
 ∃ gs:List Nat,gs.Nodup∧(∀ g ∈ gs,n ≤ g)∧VI (sG gb q ids gs n m (m+news.length)) v v2∧zO (sG gb q ids gs n m (m+news.length)) S' (aN+q) ks2∧xZ (sG gb q ids gs n m (m+news.length)) S' gs news
set_option maxHeartbeats 1000000 in
theorem iG.smallD (gb:List (Nat × O)){c:FuncId}{l l2:List V}(q:Nat){ids:List Nat}{ks os news:List O}{ks2:List (Option O)}{S0 S':St}{K:Hs}{v v2:V}(h:iG P c l S0.hs v S'.hs)(h0:S0.hs=eM (gb ++ pO aN os) (St.hs ⟨.nil,aN+os.length⟩))(hgb:∀ p ∈ gb,p.1 < aN∧p.2.wr=false∧∃ o',K.get p.1=some o'∧OI (jC ids (aN+os.length)) o' p.2)
  (hfar:∀ a i:Nat,q ≤ a→ids[a]?=some i→aN ≤ i) (hids:∀ a b i:Nat,q ≤ a→ids[a]?=some i→ids[b]?=some i→a=b) (hro:∀ (a:Nat) (o:O),a < q→os[a]?=some o→o.wr=false) (hlen:ids.length=os.length) (hlen1:ks.length=os.length) (hlen2:ks2.length+q=os.length)
  (hat:∀ (a i:Nat) (o:O),ids[a]?=some i→ks[a]?=some o→K.get i=some o)
  (hin:∀ (a:Nat) (o' o:O),ks[a]?=some o'→os[a]?=some o→OI (jC ids (aN+os.length)) o' o) (hl:oG (jC ids (aN+os.length)) l2 l)
  (hw:∀ (a:Nat) (o:O),ks2[a]?=some (some o)→o.wr=true) (hwn:∀ (a:Nat) (o:O),news[a]?=some o→o.wr=true) (hp:aIQ gb q ids (aN+os.length) K.next ks2 news v2 v S') :
  iG P c l2 K v2 (gQ news (fQ ((ids.drop q).zip ks2) K)):=by
 obtain ⟨gs,hnd,hge,hv,hheld,hnews⟩:=hp
 have hn0:S0.hs.next=aN+os.length:=by rw [h0,iP];rfl
 have hroF:∀ i,i < aN→roF q i=false:=fun i hi=>aOp hi
 have hroA:∀ a,roG gb q (aN+a)=roF q (aN+a):=fun a=>by
  unfold roG
  have:(gb.any fun p=>Nat.beq p.1 (aN+a))=false:=by
   rw [List.any_eq_false]
   intro p hp he
   have:=Nat.eq_of_beq_eq_true he
   have:=(hgb p hp).1
   omega
  rw [this,Bool.or_false]
 have hgl:=hnews.length
 have hn':(gQ news (fQ ((ids.drop q).zip ks2) K)).next=K.next+news.length:=by rw [nZ,fF]
 have hg0:∀ i,S0.hs.get i=if aN ≤ i∧i < aN+os.length then os[i - aN]? else (eM gb (St.hs ⟨.nil,aN+os.length⟩)).get i:=fun i=>by rw [h0,mL,qG]
 have hgm:∀ i o,(eM gb (St.hs ⟨.nil,aN+os.length⟩)).get i=some o→(i,o) ∈ gb:=fun i o h=>by
  rcases aCh h with h|h
  ·exact h
  ·rw [aJH] at h;cases h
 have hroM:∀ i o,(i,o) ∈ gb→roG gb q i=true:=fun i o h=>by
  unfold roG
  rw [Bool.or_eq_true]
  exact .inr (List.any_eq_true.2 ⟨_,h,by simp⟩)
 have hg1:∀ i,(S0.hs.get i).isSome→(∃ a,i=aN+a∧a < os.length) ∨ ∃ o,(i,o) ∈ gb:=fun i hi=>by
  rw [hg0] at hi
  by_cases hc:aN ≤ i∧i < aN+os.length
  ·exact .inl ⟨i - aN,by omega,by omega⟩
  ·rw [if_neg hc] at hi
   obtain ⟨o,ho⟩:=Option.isSome_iff_exists.1 hi
   exact .inr ⟨o,hgm i o ho⟩
 have fD:∀ a (ha:a < os.length),ids[a]?=some (ids[a]'(by omega)):=fun a ha=>List.getElem?_eq_getElem _
 have hwr:∀ {R:Nat→Nat→Prop} {o1 o:O},OI R o1 o→o.wr=true→o1.wr=true:=fun h hw=>by
  cases h with
  | cells hc hf =>
    rename_i cs cs' e fl fl'
    cases fl' with
    | ro=>cases hw
    | ex=>cases fl <;> first|rfl|(exfalso;simp at hf)
    | rw=>cases fl <;> first|rfl|(exfalso;simp at hf)
  | part _=>cases hw
  | map _=>rfl
  | strIter _ _=>rfl
  | mapIter0=>rfl
  | mapIter _=>rfl
  | deferred=>rfl
 refine h.frame (roG gb q) (idF ids) (fun j=>gs.getD (j - K.next) 0) (by rw [hn0];omega) (fun i hi=>if_pos hi) (fun i i' hi hi' hr e=>?_) (fun i o ho=>?_) (by rw [hn0];exact hl) (by rw [hn0,hn'];exact hv) (by rw [hn'];omega)
  (fun j j' h1 h2 h3 h4 e=>?_) (fun j o ho=>?_)
 ·rcases hg1 i hi with ⟨a,rfl,ha⟩|⟨o,ho⟩
  case inr=>rw [hroM i o ho] at hr;cases hr
  rw [hroA] at hr
  rcases hg1 i' hi' with ⟨a',rfl,ha'⟩|⟨o,ho⟩
  case inr =>
   have hlt:=(hgb _ ho).1
   have e2:idF ids i'=i':=if_pos hlt
   rw [nB (fD a ha),e2] at e
   have hq:q ≤ a:=by
    rcases Nat.lt_or_ge a q with h'|h'
    ·rw [xJ h'] at hr;cases hr
    ·exact h'
   have:=hfar a _ hq (fD a ha)
   have hlt':i' < aN:=hlt
   omega
  rw [nB (fD a ha),nB (fD a' ha')] at e
  have hq:q ≤ a:=by
   rcases Nat.lt_or_ge a q with h'|h'
   ·rw [xJ h'] at hr;cases hr
   ·exact h'
  have:=hids a a' _ hq (fD a ha) (by rw [fD a' ha',e])
  rw [this]
 ·rcases hg1 i (by rw [ho];rfl) with ⟨a,rfl,ha⟩|⟨o1,ho1⟩
  case inr =>
   have hlt:=(hgb _ ho1).1
   rw [hg0,if_neg om] at ho
   have hm:=hgm i o ho
   obtain ⟨_,hw0,o',hk0,hk1⟩:=hgb _ hm
   refine ⟨by rw [hn0];omega,fun _=>hw0,o',?_,by rw [hn0];exact hk1⟩
   have e2:idF ids i=i:=if_pos hlt
   rw [e2];exact hk0
  rw [hg0,if_pos ⟨by omega,by omega⟩,show aN+a - aN=a by omega] at ho
  rw [hroA]
  have hk:ks[a]?=some (ks[a]'(by omega)):=List.getElem?_eq_getElem _
  refine ⟨by rw [hn0];omega,fun hr=>hro a o ?_ ho,ks[a]'(by omega),?_,?_⟩
  ·rcases Nat.lt_or_ge a q with h'|h'
   ·exact h'
   ·rw [aCl h'] at hr;cases hr
  ·rw [nB (fD a ha)];exact hat a _ _ (fD a ha) hk
  ·rw [hn0];exact hin a _ _ hk ho
 ·have e':gs.getD (j - K.next) 0=gs.getD (j' - K.next) 0:=e
  rw [hn'] at h2 h4
  have l1:j - K.next < gs.length:=by omega
  have l2:j' - K.next < gs.length:=by omega
  simp only [List.getD,List.getElem?_eq_getElem l1,List.getElem?_eq_getElem l2,Option.getD_some] at e'
  have:=qF hnd l1 l2 e'
  omega
 ·rw [hn0,hn']
  rcases aBX ho with ⟨a,h1,h2⟩|h1
  ·rw [fF] at h2
   obtain ⟨g,o1,p,q',r⟩:=hnews.get h1
   subst h2
   refine .inl ⟨g,o1,sG.new (gb:=gb) (q:=q) (ids:=ids) (gs:=gs) p (hge g (List.mem_of_getElem? p)) ?_,q',r,hwr r (hwn a o h1)⟩
   have:=(List.getElem?_eq_some_iff.1 h1).1
   omega
  ·rcases aCE h1 with ⟨a,h2⟩|⟨h2,h3⟩
   ·rw [List.getElem?_zip_eq_some] at h2
    obtain ⟨o1,p,q'⟩:=hheld.get h2.2
    have hd:ids[q+a]?=some j:=by rw [← List.getElem?_drop];exact h2.1
    have ha:q+a < os.length:=by have:=(List.getElem?_eq_some_iff.1 hd).1;omega
    exact .inl ⟨aN+q+a,o1,by rw [Nat.add_assoc];exact sG.at (gb:=gb) (q:=q) (ids:=ids) (gs:=gs) hd om (by rw [hroA];exact aCl om),p,q',hwr q' (hw a o h2.2)⟩
   ·refine .inr ⟨h2,fun i hi hj hr=>?_⟩
    cases hgi:S0.hs.get i with
    | none=>rfl
    | some o1 =>
      exfalso
      rcases hg1 i (by rw [hgi];rfl) with ⟨a,rfl,ha⟩|⟨o2,ho2⟩
      case inr=>rw [hroM i o2 ho2] at hr;cases hr
      rw [hroA] at hr
      rw [nB (fD a ha)] at hj
      have hq:q ≤ a:=by
       rcases Nat.lt_or_ge a q with h'|h'
       ·rw [xJ h'] at hr;cases hr
       ·exact h'
      have hz:((ids.drop q).zip ks2)[a - q]?=some (j,ks2[a - q]'(by omega)):=by
       rw [List.getElem?_zip_eq_some]
       refine ⟨?_,List.getElem?_eq_getElem _⟩
       rw [List.getElem?_drop,show q+(a - q)=a by omega,fD a ha,hj]
      exact h3 _ (List.mem_of_getElem? hz) rfl
theorem RC.small2 (hm:P.follows .mixedOrders=true){c:FuncId}{n:Nat}{rs:List ResultVar}{code:Code}(hf:bA P c n rs code)(gb:List (Nat × O)){l l2:List V}(q:Nat)(ids:List Nat)(ks os:List O)(ks2:List (Option O))(news:List O){S:St}{v2:V}{k:V→St→Prop}
  (hgb:∀ p ∈ gb,p.1 < aN∧p.2.wr=false∧∃ o',S.hs.get p.1=some o'∧OI (jC ids (aN+os.length)) o' p.2) (hfar:∀ a i:Nat,q ≤ a→ids[a]?=some i→aN ≤ i)
  (hids:∀ a b i:Nat,q ≤ a→ids[a]?=some i→ids[b]?=some i→a=b) (hro:∀ (a:Nat) (o:O),a < q→os[a]?=some o→o.wr=false) (hlen:ids.length=os.length) (hlen1:ks.length=os.length) (hlen2:ks2.length+q=os.length)
  (hat:∀ (a i:Nat) (o:O),ids[a]?=some i→ks[a]?=some o→S.hs.get i=some o)
  (hin:∀ (a:Nat) (o' o:O),ks[a]?=some o'→os[a]?=some o→OI (jC ids (aN+os.length)) o' o) (hl:oG (jC ids (aN+os.length)) l2 l)
  (hw:∀ (a:Nat) (o:O),ks2[a]?=some (some o)→o.wr=true) (hwn:∀ (a:Nat) (o:O),news[a]?=some o→o.wr=true)
  (hrun:dY (gb ++ pO aN os) ⟨.nil,aN+os.length⟩ (vQ P n rs code l (aIQ gb q ids (aN+os.length) S.next ks2 news v2)))
  (hr:S.next+news.length < room) (hir:∀ i ∈ ids,i < room) (hk:∀ S':St,S'.hs=gQ news (fQ ((ids.drop q).zip ks2) S.hs)→k v2 S'):RC P c l2 S k:=by
 obtain ⟨S0,h1,h0⟩:=gI hrun
 have hX:pM P []:=fun q h=>by cases h
 obtain ⟨v,S',h2,h3⟩:=iL hX fA fC nG (evDraw_ok hm fA fC) c l S0 _ (aH hf h1)
 have:=h3.smallD gb q h0 hgb hfar hids hro hlen hlen1 hlen2 hat hin hl hw hwn h2
 have hex:∃ S':St,S'.hs=gQ news (fQ ((ids.drop q).zip ks2) S.hs):=by
  have hnews:∀ (l:List O) (S:St),S.next+l.length < room→∃ S':St,S'.hs=gQ l S.hs:=by
   intro l
   induction l with
   | nil=>exact fun S _=>⟨S,rfl⟩
   | cons o l ih =>
     intro S hn
     have:∃ S1:St,S1.hs=S.hs.new o:=by
      have hq:bR o S fun _ S'=>∃ S1:St,S1.hs=S.hs.new o:=aF (by simp at hn;omega) fun S1 h=>⟨S1,h⟩
      obtain ⟨_,h,_⟩:=eF hq
      exact h
     obtain ⟨S1,e1⟩:=this
     obtain ⟨S2,e2⟩:=ih S1 (by have:=aK e1;simp at hn;omega)
     exact ⟨S2,by rw [e2,e1];rfl⟩
  have hupd:∀ (l:List (Nat × Option O)) (S:St),(∀ x ∈ l,x.1 < room)→∃ S':St,S'.hs=fQ l S.hs:=by
   intro l
   induction l with
   | nil=>exact fun S _=>⟨S,rfl⟩
   | cons x l ih =>
     intro S hn
     obtain ⟨S1,e1⟩:=ih S fun y hy=>hn y (by simp [hy])
     have hq:bI x.1 x.2 S1 fun _=>∃ S2:St,S2.hs=S1.hs.put x.1 x.2:=aD (hn x sm) fun S2 h=>⟨S2,h⟩
     obtain ⟨_,⟨S2,h2⟩,_⟩:=bS hq
     exact ⟨S2,by rw [h2,e1];rfl⟩
  obtain ⟨S1,e1⟩:=hupd ((ids.drop q).zip ks2) S fun x hx=>hir x.1 (List.mem_of_mem_drop (List.of_mem_zip (show (x.1,x.2) ∈ _ from hx)).1)
  obtain ⟨S2,e2⟩:=hnews news S1 (by
   have:S1.next=S.next:=by
    have:=congrArg Hs.next e1
    rw [fF] at this;exact this
   omega)
  exact ⟨S2,by rw [e2,e1]⟩
 obtain ⟨S2,e2⟩:=hex
 exact .mk v2 S2 (by rw [e2];exact this) (hk S2 e2)
end
section
variable {P:Program}
def Gb (gb:List (Nat × O))(S:St):Prop:=∀ p ∈ gb,p.1 < aN∧p.2.wr=false∧S.hs.get p.1=some p.2∧∀ ids n,aN ≤ n→OI (jC ids n) p.2 p.2
theorem Gb.nil (S:St):Gb [] S:=fun _ h=>by cases h
theorem Gb.cons {p:Nat × O}{gb:List (Nat × O)}{S:St}(h1:p.1 < aN)(h2:p.2.wr=false)(h3:S.hs.get p.1=some p.2)(h4:∀ ids n,aN ≤ n→OI (jC ids n) p.2 p.2)(h:Gb gb S):Gb (p :: gb) S:=fun q hq=>by
 rcases List.mem_cons.1 hq with rfl|hq
 ·exact ⟨h1,h2,h3,h4⟩
 ·exact h q hq
theorem Gb.sub {gb gb':List (Nat × O)}{S:St}(h:Gb gb S)(hs:∀ p ∈ gb',p ∈ gb):Gb gb' S:=fun p hp=>h p (hs p hp)
theorem Gb.to {gb:List (Nat × O)}{S S':St}(h:Gb gb S)(hs:∀ p ∈ gb,S'.hs.get p.1=some p.2):Gb gb S':=fun p hp=>⟨(h p hp).1,(h p hp).2.1,hs p hp,(h p hp).2.2.2⟩
theorem aEO {R:Nat→Nat→Prop}{cs:List V}{e:TypeId}(h:V.flat.V.flatL cs=true):OI R (.cells cs e .ro) (.cells cs e .ro):=.cells (fJ h) (.inl rfl)
theorem Gb.small {gb:List (Nat × O)}{S:St}(h:Gb gb S)(ids:List Nat)(m:Nat):∀ p ∈ gb,p.1 < aN∧p.2.wr=false∧∃ o',S.hs.get p.1=some o'∧OI (jC ids (aN+m)) o' p.2:=fun p hp =>
 ⟨(h p hp).1,(h p hp).2.1,p.2,(h p hp).2.2.1,(h p hp).2.2.2 ids _ (Nat.le_add_right _ _)⟩
theorem RC.pureG (hm:P.follows .mixedOrders=true){c:FuncId}{n:Nat}{rs:List ResultVar}{code:Code}(hf:bA P c n rs code)(gb:List (Nat × O)){l:List V}{S:St}{v:V}{k:V→St→Prop}(hgb:Gb gb S)(hk:k v S)
  (hrun:dY gb ⟨.nil,aN⟩ (vQ P n rs code l (fun u _=>u=v))) (hv:v.flat=true:=by rfl) (hl:V.flat.V.flatL l=true:=by rfl):RC P c l S k:=by
 have hX:pM P []:=fun q h=>by cases h
 obtain ⟨S0,h1,h0⟩:=gI hrun
 obtain ⟨u,S',h2,h3⟩:=iL hX fA fC nG (evDraw_ok hm fA fC) c l S0 _ (aH hf h1)
 subst h2
 have:=h3.smallD gb (K:=S.hs) (l2:=l) (v2:=u) 0 (ids:=[]) (ks:=[]) (os:=[]) (ks2:=[]) (news:=[]) (by rw [h0];simp [pO]) (hgb.small [] 0) sm sm sm rfl rfl rfl sm sm (fJ hl) sm sm
  ⟨[],List.nodup_nil,by simp,mK hv,trivial,trivial⟩
 exact .mk u S this hk
end
section
variable {P:Program} {E E1:Env} {S S1:St} {base i wr seen anc dw own wr' seen' sd:Nat} {ops:List Oper} {l:List Oper} {o:Oper} {ancs:List (Nat × Nat × Nat × Nat)} {pe pe':List (Nat × Nat × O)} {chs:List Ch} {rds:List Rd} {als:List (Nat × Nat)} {K:Dr→Prop} {v:V}
noncomputable def aIb (P:Program)(base:Nat)(ops l:List Oper)(o:Oper)(i:Nat)(ancs:List (Nat × Nat × Nat × Nat))(wr seen:Nat)(E:Env)(pe:List (Nat × Nat × O))(chs:List Ch)(rds:List Rd)(als:List (Nat × Nat))(K:Dr→Prop):V→St→Prop :=
 rX fun v S'=>cU E o.dst v fun E1=>drOps P (RC P) (RD P) base ops l i ancs wr seen ⟨E1,S',pe,chs,rds,als⟩ K
theorem cI {f:cL→bQ→OpT}{A:(V→St→Prop)→Prop}(hc:sO P o.op=.chain f)(hm:∀ Q:List (Nat × Nat × O)→St→Prop,Q pe' S1→oT anc pe S Q)(hA:∀ Q:V→St→Prop,A Q→f (RC P) (RD P) E S1 Q)
  (h:A (aIb P base ops l o (Nat.succ i) ((anc,dw,sd,own) :: ancs) wr' seen' E pe' (⟨i,anc,S⟩ :: chs) rds als K))
  (hs:kO ops i ancs wr seen o=.ok anc dw own wr' seen':=by exact rfl) (hd:dS o.dst=sd:=by exact rfl) (hg:∀ Y N:Prop,Y→dF E ops o.guard Y N:=by intro _ _ hy;(conv=>whnf);exact hy)
  (ha:List.rec (motive:=fun _=>Bool) true (fun c _ _=>aR anc c.idx) chs=true:=by kernel_rfl):evD P base ops (o :: l) i ancs wr seen ⟨E,S,pe,chs,rds,als⟩ K :=
 aMW hs hd hg hc ha hm fun Q hQ=>by
  have e:Q=aIb P base ops l o (Nat.succ i) ((anc,dw,sd,own) :: ancs) wr' seen' E pe' (⟨i,anc,S⟩ :: chs) rds als K:=by
   funext v S'
   rw [hQ]
   unfold aIb
   rw [bG]
  rw [e]
  exact hA _ h
theorem dE (hp:∀ Q:Env→Prop,Q E1→cU E o.dst v Q)(h:evD P base ops l i ancs wr seen ⟨E1,S,pe,chs,rds,als⟩ K):aIb P base ops l o i ancs wr seen E pe chs rds als K v S:=by unfold aIb;rw [bG];exact hp _ h
end
section
variable {P:Program} {E:Env} {S:St}
theorem aNr {ops l:List Oper}{o:Oper}{K:Env→St→Prop}{t u:TypeId}{x y:Operand}{a b:IntKind}{n m r:Nat}(ho:o.op=.binOp .shl t x y u)(hg:∀ A B:Prop,A→dF E ops o.guard A B)
  (hx:∀ Q:V→Prop,Q (.int a (.ofNat n))→eZ E x Q) (hy:∀ Q:V→Prop,Q (.int b (.ofNat m))→eZ E y Q)
  (hr:a.wrap (Int.ofNat n * 2 ^ min m a.bits)=Int.ofNat r) (h:kOp P ops l o E K (.int a (.ofNat r)) S):evL P ops (o :: l) E S K:=by
 refine aPD (A:=fun Q=>Q (.int a (.ofNat r)) S) (fun Q hQ=>hg _ _ ?_) h
 rw [ho]
 show eZ E x fun v=>eZ E y fun u=>aEA P (isC x || isC y) t .shl v u fun v=>Q v S
 refine hx _ (hy _ ?_)
 show fI (a.wrap (Int.ofNat n * 2 ^ min m a.bits)) fun n=>Q (.int a n) S
 rw [hr]
 exact bK hQ
end
structure Grew (S S':St)(p n:Nat):Prop where
 keep:∀ id,id < S.next→id ≠ p→S'.hs.get id=S.hs.get id
 lo:S.next ≤ S'.next
 hi:S'.next ≤ S.next+n
theorem Grew.refl (S:St)(p n:Nat):Grew S S p n:=⟨fun _ _ _=>rfl,Nat.le_refl _,Nat.le_add_right _ _⟩
theorem Grew.put {S S1 S2:St}{p n id0:Nat}{o:Option O}(h:Grew S S1 p n)(h2:S2.hs=S1.hs.put id0 o)(hi:id0=p ∨ S.next ≤ id0):Grew S S2 p n :=
 ⟨fun id h1 hp=>by rw [aB h2 om];exact h.keep id h1 hp,by rw [aJ h2];exact h.lo,by rw [aJ h2];exact h.hi⟩
theorem Grew.new {S S1 S2:St}{p n m:Nat}{o:O}(h:Grew S S1 p n)(h2:S2.hs=S1.hs.new o)(hm:n+1 ≤ m):Grew S S2 p m :=
 ⟨fun id h1 hp=>by have:=h.lo;rw [aC h2 om];exact h.keep id h1 hp,by have:=h.lo;rw [aK h2];omega,by have:=h.hi;rw [aK h2];omega⟩
theorem Grew.trans {S S1 S2:St}{p q n m t:Nat}(h:Grew S S1 p n)(h2:Grew S1 S2 q m)(hq:q=p ∨ S.next ≤ q)(hm:n+m ≤ t):Grew S S2 p t :=
 ⟨fun id h1 hp=>by have:=h.lo;rw [h2.keep id om om];exact h.keep id h1 hp,Nat.le_trans h.lo h2.lo,by have:=h.hi;have:=h2.hi;omega⟩
theorem Grew.le {S S1:St}{p n m:Nat}(h:Grew S S1 p n)(hm:n ≤ m):Grew S S1 p m:=⟨h.keep,h.lo,by have:=h.hi;omega⟩
theorem Grew.at {S S1:St}{p n id:Nat}{o:O}(h:Grew S S1 p n)(ho:S.hs.get id=some o)(hl:id < S.next)(hp:id ≠ p):S1.hs.get id=some o:=by rw [h.keep id hl hp];exact ho
theorem bO {P:Program}{t:TypeId}(ha:qP P t=some true){n:Nat}(hn:(P.info? t).map (fun i=>i.size)=some n){cs xs:List V}{off:Nat}{k:V→Prop}(hl:off+n ≤ cs.length)(hx:(cs.drop off).take n=xs)(h:k (.agg xs)):bX P t off cs k:=by
 unfold bX
 rw [ha]
 show vR P t fun n=>kV off cs fun r=>hC n r fun r=>k (.agg r)
 unfold vR
 cases hi:P.info? t with
 | none=>rw [hi] at hn;cases hn
 | some i =>
   rw [hi] at hn
   have hs:i.size=n:=Option.some.inj hn
   show kV off cs fun r=>hC i.size r fun r=>k (.agg r)
   rw [hs]
   refine cD om (bJ (by rw [List.length_drop];omega) ?_)
   rw [hx];exact h
theorem aBQ:∀ {l:List bB} {rest:List V} {j:Nat} (h:j < l.length),((cellsOf l ++ rest).drop (2 * j)).take 2=[.str l[j].1,.str l[j].2]
 | q :: l,rest,0,_=>rfl
 | q :: l,rest,j+1,h=>aBQ (l:=l) (rest:=rest) (j:=j) (by simpa using h)
section
variable {P:Program}
def Wf (S:St):Prop:=∀ id,S.next ≤ id→id < room→S.hs.get id=none
theorem Wf.put {S S2:St}{id0:Nat}{o:Option O}(h:Wf S)(h2:S2.hs=S.hs.put id0 o)(hi:id0 < S.next):Wf S2:=fun id h1 h3=>by
 rw [aJ h2] at h1
 rw [aB h2 om];exact h id h1 h3
theorem Wf.new {S S2:St}{o:O}(h:Wf S)(h2:S2.hs=S.hs.new o):Wf S2:=fun id h1 h3=>by
 rw [aK h2] at h1
 rw [aC h2 om];exact h id om h3
theorem aSI:∀ (l:List (Nat × Option O)) (S:St),(∀ x ∈ l,x.1 < room)→∃ S':St,S'.hs=fQ l S.hs:=by
 intro l
 induction l with
 | nil=>exact fun S _=>⟨S,rfl⟩
 | cons x l ih =>
   intro S hn
   obtain ⟨S1,e1⟩:=ih S fun y hy=>hn y (by simp [hy])
   have hq:bI x.1 x.2 S1 fun _=>∃ S2:St,S2.hs=S1.hs.put x.1 x.2:=aD (hn x sm) fun S2 h=>⟨S2,h⟩
   obtain ⟨_,⟨S2,h2⟩,_⟩:=bS hq
   exact ⟨S2,by rw [h2,e1];rfl⟩
theorem aJV {j:Nat}:∀ {l:List (Nat × Option O)} {H:Hs},(∀ q ∈ l,q.1 ≠ j)→(fQ l H).get j=H.get j
 | [],H,_=>rfl
 | q :: l,H,h=>by
   have h1:=h q sm
   have:(fQ (q :: l) H).get j=(fQ l H).get j:=by simp [fQ,Hs.put,Ne.symm h1]
   rw [this]
   exact aJV fun x hx=>h x (by simp [hx])
theorem aEf {j:Nat}:∀ {l:List (Nat × Option O)} {H:Hs},(∀ q ∈ l,q.2=none)→(∃ q ∈ l,q.1=j)→(fQ l H).get j=none
 | [],H,_,⟨_,h,_⟩=>by cases h
 | q :: l,H,hn,⟨x,hx,e⟩=>by
   by_cases hq:j=q.1
   ·have:(fQ (q :: l) H).get j=q.2:=by simp [fQ,Hs.put,hq]
    rw [this];exact hn q sm
   ·have:(fQ (q :: l) H).get j=(fQ l H).get j:=by simp [fQ,Hs.put,hq]
    rw [this]
    refine aEf (fun y hy=>hn y (by simp [hy])) ⟨x,?_,e⟩
    rcases List.mem_cons.1 hx with rfl|hx
    ·exact absurd e.symm hq
    ·exact hx
theorem aUx (S:St):∃ S':St,Wf S'∧S'.next=S.next∧(∀ id,id < S.next→S'.hs.get id=S.hs.get id)∧Sub S'.hs S.hs:=by
 let l:List (Nat × Option O):=(List.range' S.next (room - S.next)).map fun i=>(i,none)
 have hl:∀ x ∈ l,S.next ≤ x.1∧x.1 < room∧x.2=none:=fun x hx=>by
  obtain ⟨i,hi,rfl⟩:=List.mem_map.1 hx
  rw [List.mem_range'_1] at hi
  exact ⟨hi.1,by show i < room;omega,rfl⟩
 obtain ⟨S',hS'⟩:=aSI l S fun x hx=>(hl x hx).2.1
 have hn:S'.next=S.next:=by have:=congrArg Hs.next hS';rw [fF] at this;exact this
 refine ⟨S',fun id h1 h2=>?_,hn,fun id h1=>?_,fun id o ho=>?_,?_⟩
 ·rw [hS']
  exact aEf (fun q hq=>(hl q hq).2.2) ⟨(id,none),List.mem_map.2 ⟨id,by rw [List.mem_range'_1];omega,rfl⟩,rfl⟩
 ·rw [hS'];exact aJV fun q hq=>by have:=(hl q hq).1;omega
 ·rw [hS'] at ho
  rcases aCE ho with ⟨a,ha⟩|⟨h1,_⟩
  ·have:=(hl _ (List.mem_of_getElem? ha)).2.2
   cases this
  ·exact h1
 ·show S.next ≤ S'.next
  omega
theorem RC.wf {g:FuncId}{l:List V}{S:St}{k:V→St→Prop}(h:RC P g l S fun v S'=>∀ S'',Wf S''→S''.next=S'.next→(∀ id,id < S'.next→S''.hs.get id=S'.hs.get id)→k v S''):RC P g l S k :=
 h.gc fun v S' hk=>by
  obtain ⟨S'',h1,h2,h3,h4⟩:=aUx S'
  exact ⟨S'',h4,hk S'' h1 h2 h3⟩
theorem aOl {id:Nat}{o:Option O}{S:St}(hn:id < room):∃ S':St,S'.hs=S.hs.put id o∧∀ k:St→Prop,k S'→bI id o S k:=by
 cases S
 rename_i hp nx
 obtain ⟨t',ht⟩:=T.set_ex (x:=o) (d:=fU) (n:=id) (t:=hp) (tP hn)
 have hk:bI id o ⟨hp,nx⟩ fun S'=>S'=⟨t',nx⟩:=ht _ rfl
 obtain ⟨S',h2,h3⟩:=bS hk
 exact ⟨⟨t',nx⟩,by rw [← h2];exact h3,fun k hk=>ht _ hk⟩
theorem RD.run (hm:P.follows .mixedOrders=true){id:Nat}{l:List V}{S:St}{k:V→St→Prop}(h:aAE P (RC P) (RD P) (LQ P) (cW P (RC P) (RD P)) id l S k):RD P id l S k:=by
 obtain ⟨v,S',h1,h2⟩:=wK fA fC nG (evDraw_ok hm fA fC) id l S k h
 exact .mk v S' h2 h1
theorem kH {S:St}{id:Nat}{k:LoopState→Option Code→Env→List Tmp→Code→Code→Nat→Prop}{st:LoopState}{pe:Option Code}{E:Env}{ps:List Tmp}{a b:Code}{d:Nat}(h:S.hs.get id=some (.loop st pe E ps a b d))(hk:k st pe E ps a b d):rV S id k:=by
 have h':T.get fU id S.hp=some (.loop st pe E ps a b d):=h
 unfold rV;rw [h'];exact hk
noncomputable def aBM (l:Nat)(k:V→St→Prop):KT:=rX fun x _ _ S=>rV S l fun _ _ E' ps a b' d=>X.casesOn x (bI l (some (.loop .ready none E' ps a b' d)) S fun S=>k (.bool true) S)
 (fun id=>bI l (some (.loop .done (some (.exit id)) E' ps a b' d)) S fun S=>k (.bool false) S)
 (bI l (some (.loop .done (some .ret) E' ps a b' d)) S fun S=>k (.bool false) S) (fun _=>False)
noncomputable def aPR (P:Program)(l:Nat)(b:Code)(k:V→St→Prop):KT:=rX fun x E D S=>X.casesOn x
 (rV S l fun st pe E' ps a b' d=>match st with
  | .ready=>bI l (some (.loop .busy pe E' ps a b' d)) S fun S=>yJ P (some l) b E D S (aBM l k)
  | _=>False) (fun _=>False) False (fun _=>False)
theorem aJq (hm:P.follows .mixedOrders=true){l:Nat}{args:List V}{S:St}{k:V→St→Prop}{st:LoopState}{pe:Option Code}{E0:Env}{ps:List Tmp}{a b:Code}{d:Nat}(E1:Env)(hl:S.hs.get l=some (.loop st pe E0 ps a b d))(hp:∀ Q:Env→Prop,Q E1→tX ps args E0 Q)
  (h:yJ P (some l) a E1 [] S (aPR P l b k)):RD P l args S k:=by
 refine .run hm ?_
 unfold aAE
 refine kH hl (hp _ ?_)
 unfold aPR aBM at h
 simp only [bG] at h
 exact h
theorem aRe {l:Nat}{b b' a:Code}{k:V→St→Prop}{E E':Env}{D:List Df}{S:St}{pe:Option Code}{ps:List Tmp}{d:Nat}(hl:S.hs.get l=some (.loop .ready pe E' ps a b' d))(h:bI l (some (.loop .busy pe E' ps a b' d)) S fun S=>yJ P (some l) b E D S (aBM l k)):aPR P l b k .normal E D S:=by
 unfold aPR;rw [bG]
 exact kH hl h
theorem aNP {l:Nat}{k:V→St→Prop}{E E':Env}{D:List Df}{S:St}{st:LoopState}{pe:Option Code}{ps:List Tmp}{a b':Code}{d:Nat}(hl:S.hs.get l=some (.loop st pe E' ps a b' d))(h:bI l (some (.loop .ready none E' ps a b' d)) S fun S=>k (.bool true) S):aBM l k .normal E D S:=by
 unfold aBM;rw [bG]
 exact kH hl h
theorem aSz {l:Nat}{k:V→St→Prop}{E E':Env}{D:List Df}{S:St}{st:LoopState}{pe:Option Code}{ps:List Tmp}{a b':Code}{d:Nat}(hl:S.hs.get l=some (.loop st pe E' ps a b' d))(h:bI l (some (.loop .done (some .ret) E' ps a b' d)) S fun S=>k (.bool false) S):aBM l k .ret E D S:=by
 unfold aBM;rw [bG]
 exact kH hl h
noncomputable def aKU (l:Nat)(E:Env)(D:List Df)(k:KT):V→St→Prop:=rX fun _ S=>rV S l fun st pe E' ps a b d=>match st with
 | .busy=>False
 | _=>bI l (some (.loop .exhausted pe E' ps a b d)) S fun S=>match pe with
   | none=>k .normal E D S
   | some .ret=>k .ret E D S
   | some (.exit id)=>k (.exit id) E D S
   | _=>False
theorem aJp {f:Operand}{ps:Array Tmp}{a b:Code}{E:Env}{D:List Df}{S:St}{k:KT}{g:FuncId}{ar caps:List V}(hf:∀ Q:V→Prop,Q (.func (.func g) ar caps)→eZ E f Q)(hb:aJd P (.func (.func g) ar caps)=true)(hn:S.next+1 < room)
  (h:∀ (S1 S2:St) (o:O),o=.loop .ready none E ps.toList a b S.next→S1.hs=S.hs.new .deferred→S2.hs=S1.hs.new o→RC P g ((ar ++ [.yield S1.next]) ++ caps) S2 (aKU S1.next E (.mark S.next :: D) k)):yJ P none (.rangeFunc f ps a b) E D S k:=by
 show bR .deferred S fun d S=>vJ P (RC P) (RD P) f ps.toList a b d E (.mark d :: D) S k
 refine aF om fun S1 h1=>?_
 have n1:=aK h1
 refine aF (S:=S1) om fun S2 h2=>?_
 refine hf _ (ifK_intro hb ?_)
 show oZ ar [.yield S1.next] fun l=>oZ l caps fun l=>RC P g l S2 _
 refine bZ (bZ ?_)
 have h:=h S1 S2 _ rfl h1 h2
 unfold aKU at h
 rw [bG] at h
 exact h
theorem aNQ {l:Nat}{E E':Env}{D:List Df}{k:KT}{v:V}{S:St}{ps:List Tmp}{a b:Code}{d:Nat}(hl:S.hs.get l=some (.loop .ready none E' ps a b d))(h:bI l (some (.loop .exhausted none E' ps a b d)) S fun S=>k .normal E D S):aKU l E D k v S:=by
 unfold aKU;rw [bG]
 exact kH hl h
theorem aSu {l:Nat}{E E':Env}{D:List Df}{k:KT}{v:V}{S:St}{ps:List Tmp}{a b:Code}{d:Nat}(hl:S.hs.get l=some (.loop .done (some .ret) E' ps a b d))(h:bI l (some (.loop .exhausted (some .ret) E' ps a b d)) S fun S=>k .ret E D S):aKU l E D k v S:=by
 unfold aKU;rw [bG]
 exact kH hl h
theorem aOm {S:St}{rds:List Rd}{r:Rd}{c3 c2 c1:Ch}{Q:Prop}(hS:∀ Q:V→Prop,Q r.val→fM c3.anc r.sel S fun S=>eW P r.op r.env S Q)(h3:∀ Q:V→Prop,Q r.val→fM c2.anc r.sel c3.st fun S=>eW P r.op r.env S Q)
  (h2:∀ Q:V→Prop,Q r.val→fM c1.anc r.sel c2.st fun S=>eW P r.op r.env S Q) (h1:∀ Q:V→Prop,Q r.val→fM 0 r.sel c1.st fun S=>eW P r.op r.env S Q) (he:uL 8 r.val r.val=true) (h:eN P [c3,c2,c1] S rds Q):eN P [c3,c2,c1] S (r :: rds) Q :=
 show nT P r c3.anc none S (nT P r c2.anc (some c3.idx) c3.st (nT P r c1.anc (some c2.idx) c2.st (nT P r 0 (some c1.idx) c1.st _))) from
  dK (.inr (.inr hS)) he (dK (.inr (.inr h3)) he (dK (.inr (.inr h2)) he (dK (.inr (.inr h1)) he h)))
end
section
variable {P:Program}
theorem qR:∀ {l:List (Nat × O)} {S:St} {k:St→Prop},(∀ q ∈ l,q.1 < room)→(∀ S':St,S'.hs=eM l S.hs→k S')→dY l S k
 | [],S,k,_,h=>h S rfl
 | q :: l,S,k,hl,h=>by
   show bI q.1 (some q.2) S fun S1=>dY l S1 k
   exact aD (hl q sm) fun S1 h1=>qR (fun x hx=>hl x (List.mem_cons_of_mem _ hx)) fun S' h2=>h S' (by rw [h2,h1];rfl)
theorem aDX {j:Nat}:∀ {l:List (Nat × O)} {H:Hs},(∀ q ∈ l,q.1 ≠ j)→(eM l H).get j=H.get j
 | [],_,_=>rfl
 | q :: l,H,h=>by
   show (eM l (H.put q.1 (some q.2))).get j=_
   rw [aDX fun x hx=>h x (by simp [hx])]
   exact if_neg (Ne.symm (h q sm))
theorem uD {q:Nat × O}:∀ {l:List (Nat × O)} {H:Hs},(l.map (·.1)).Nodup→q ∈ l→(eM l H).get q.1=some q.2
 | x :: l,H,hn,hq=>by
   rw [List.map_cons,List.nodup_cons] at hn
   show (eM l (H.put x.1 (some x.2))).get q.1=_
   rcases List.mem_cons.1 hq with rfl|hq
   ·rw [aDX fun y hy e=>hn.1 (List.mem_map.2 ⟨y,hy,e⟩)]
    exact if_pos rfl
   ·exact uD hn.2 hq
theorem RC.ro (hm:P.follows .mixedOrders=true){c:FuncId}{n:Nat}{rs:List ResultVar}{code:Code}(hf:bA P c n rs code){gb:List (Nat × O)}{S:St}(hgb:Gb gb S)(hnd:(gb.map (·.1)).Nodup){i:Nat}{o o':O}(ho:S.hs.get i=some o)(hoi:OI (jC [i] (aN+1)) o o')(hro:o'.wr=false)(hir:i < room)(hr:S.next < room)
  {l l2:List V} (hl:oG (jC [i] (aN+1)) l2 l) {v:V} (hv:v.flat=true) (hrun:∀ (S0:St) (K:V→St→Prop),S0.next=aN+1→S0.hs.get aN=some o'→Gb gb S0→(∀ S',K v S')→vQ P n rs code l K S0) {k:V→St→Prop} (hk:∀ S':St,S'.hs=S.hs→k v S'):RC P c l2 S k:=by
 have hngl:aN=1000:=rfl
 have hroom:room=4096:=rfl
 refine RC.small2 hm hf gb 1 [i] [o] [o'] [] [] (hgb.small [i] 1) ?_ ?_ ?_ rfl rfl rfl ?_ ?_ hl sm sm ?_ (by simpa using hr) (by simpa using hir) hk
 ·intro a j h1 h2
  rcases a with _|a
  ·omega
  ·simp at h2
 ·intro a b j h1 h2
  rcases a with _|a
  ·omega
  ·simp at h2
 ·rintro (_|a) x h1 h2
  ·simp at h2;subst h2;exact hro
  ·simp at h2
 ·rintro (_|a) j x h1 h2
  ·simp at h1 h2;subst h1;subst h2;exact ho
  ·simp at h1
 ·rintro (_|a) x y h1 h2
  ·simp at h1 h2;subst h1;subst h2;exact hoi
  ·simp at h1
 ·have hlt:∀ p ∈ gb,p.1 < aN:=fun p hp=>(hgb p hp).1
  have hnd2:((gb ++ [(aN,o')]).map (·.1)).Nodup:=by
   rw [List.map_append,List.nodup_append]
   refine ⟨hnd,by simp,fun a ha b hb e=>?_⟩
   obtain ⟨p,hp,rfl⟩:=List.mem_map.1 ha
   simp at hb
   have:=hlt p hp
   omega
  have hnum:pO aN [o']=[(aN,o')]:=rfl
  refine qR (fun q hq=>?_) fun S0 h0=>?_
  ·rcases List.mem_append.1 hq with hq|hq
   ·have:=hlt q hq;omega
   ·rw [hnum,List.mem_singleton] at hq
    subst hq
    show aN < room
    omega
  ·rw [hnum] at h0
   have hn0:S0.next=aN+1:=by have:=congrArg Hs.next h0;rw [iP] at this;exact this
   exact hrun S0 _ hn0 (by rw [h0];exact uD (q:=(aN,o')) hnd2 sm) (fun p hp=>⟨(hgb p hp).1,(hgb p hp).2.1,by rw [h0];exact uD hnd2 (by simp [hp]),(hgb p hp).2.2.2⟩) fun S'=>⟨[],List.nodup_nil,by simp,mK hv,trivial,trivial⟩
theorem aEZ {o:O}{S:St}{k:St→Prop}(hn:S.next < room)(h:∀ S',S'.hs=S.hs.new o→k S'):jL [o] S k:=by
 show bR o S fun _ S=>k S
 exact aF hn h
theorem xG {S:St}{rds:List Rd}{r:Rd}{c4 c3 c2 c1:Ch}{Q:Prop}(h:∀ (n:Nat) (S':St),S'=S ∨ S'=c4.st ∨ S'=c3.st ∨ S'=c2.st ∨ S'=c1.st→∀ Q:V→Prop,Q r.val→fM n r.sel S' fun S=>eW P r.op r.env S Q)(he:uL 8 r.val r.val=true)(hr:eN P [c4,c3,c2,c1] S rds Q):eN P [c4,c3,c2,c1] S (r :: rds) Q :=
 show nT P r c4.anc none S (nT P r c3.anc (some c4.idx) c4.st (nT P r c2.anc (some c3.idx) c3.st (nT P r c1.anc (some c2.idx) c2.st (nT P r 0 (some c1.idx) c1.st _)))) from
  dK (.inr (.inr (h _ _ sm))) he (dK (.inr (.inr (h _ _ sm))) he (dK (.inr (.inr (h _ _ sm))) he (dK (.inr (.inr (h _ _ sm))) he (dK (.inr (.inr (h _ _ sm))) he hr))))
end
end Go.Am
namespace Go.Am
open Go.Sort
section
variable {P:Program}
theorem qQ:∀ {a b:List bB},a.Pairwise (fun p q=>kI p.1 q.1=true)→b.Pairwise (fun p q=>kI p.1 q.1=true)→(∀ x,x ∈ a ↔ x ∈ b)→a=b
 | [],[],_,_,_=>rfl
 | [],y :: b,_,_,h=>absurd ((h y).2 sm) sm
 | x :: a,[],_,_,h=>absurd ((h x).1 sm) sm
 | x :: a,y :: b,ha,hb,h=>by
   have ha':=List.pairwise_cons.1 ha
   have hb':=List.pairwise_cons.1 hb
   have hxy:x=y:=by
    rcases List.mem_cons.1 ((h x).1 sm) with e|e
    ·exact e
    ·rcases List.mem_cons.1 ((h y).2 sm) with e2|e2
     ·exact e2.symm
     ·have h1:=hb'.1 x e
      have h2:=ha'.1 y e2
      have h3:=lZ h1 h2
      rw [lY] at h3;cases h3
   subst hxy
   have hnot:∀ (c:List bB),(∀ z ∈ c,kI x.1 z.1=true)→x ∉ c:=fun c hc hx=>by
    have:=hc x hx
    rw [lY] at this;cases this
   rw [qQ ha'.2 hb'.2 fun z=>⟨fun hz=>by
    rcases List.mem_cons.1 ((h z).1 (List.mem_cons_of_mem _ hz)) with e|e
    ·subst e;exact absurd hz (hnot a ha'.1)
    ·exact e,fun hz=>by
    rcases List.mem_cons.1 ((h z).2 (List.mem_cons_of_mem _ hz)) with e|e
    ·subst e;exact absurd hz (hnot b hb'.1)
    ·exact e⟩]
theorem cP.grow {ρ:Rho}{S:Hs}{w:World}(h:cP ρ S w)(os:Array Obj):cP ρ S (Go.Sort.grow w os) :=
 ⟨fun id o ho=>by
  obtain ⟨l,co,a,b,c⟩:=h.obj id o ho
  refine ⟨l,co,a,?_,c⟩
  have hlt:l.blk < w.heap.size:=by
   rcases Nat.lt_or_ge l.blk w.heap.size with h'|h'
   ·exact h'
   ·simp [Array.getElem?_eq_none h'] at b
  show (w.heap ++ os)[l.blk]?=some co
  rw [Array.getElem?_append_left hlt];exact b,h.sep,h.fresh⟩
theorem Ext.grow (ρ:Rho)(S:Hs)(w:World)(os:Array Obj):Ext ρ S w ρ S (Go.Sort.grow w os) :=
 ⟨fun _ _=>rfl,Nat.le_refl _,by simp [Go.Sort.grow],fun b hb _=>by show (w.heap ++ os)[b]?=_;rw [Array.getElem?_append_left hb],fun _ h=>.inr h,fun _ h=>.inr h,rfl,rfl,rfl,Nat.le_refl _⟩
theorem cP.ahead {ρ:Rho}{S:Hs}{w:World}(h:cP ρ S w)(n:Nat):cP ρ S (Go.Sort.ahead w n):=⟨h.obj,h.sep,h.fresh⟩
theorem Ext.ahead (ρ:Rho)(S:Hs)(w:World)(n:Nat):Ext ρ S w ρ S (Go.Sort.ahead w n):=⟨fun _ _=>rfl,Nat.le_refl _,Nat.le_refl _,fun _ _ _=>rfl,fun _ h=>.inr h,fun _ h=>.inr h,rfl,rfl,rfl,Nat.le_add_right _ _⟩
end
end Go.Am
namespace Go.Proofs
open Go.Shelf
def Tryz.lays129_ren:Go.Shelf.Ren:=⟨fun|129=>116|n=>n,fun|53=>41|3=>3|4=>4|46=>141|5=>5|9=>9|n=>n,fun|n=>n⟩
theorem Tryz.lays129:Go.Proofs.Lays.n129 Tryz.prog Tryz.lays129_ren:={
 mixed:=by kernel_rfl
 f129:=Tryz.func116.trans (congrArg some (by kernel_rfl))
 t3:=Tryz.underlying3
 a3:=Tryz.isAgg3
 z3:=Tryz.sizeOf3
 v3:=Tryz.zeroValue3
 t4:=Tryz.underlying4
 a4:=Tryz.isAgg4
 z4:=Tryz.sizeOf4
 v4:=Tryz.zeroValue4
 t5:=Tryz.underlying5
 a5:=Tryz.isAgg5
 z5:=Tryz.sizeOf5
 v5:=Tryz.zeroValue5
 t9:=Tryz.underlying9
 a9:=Tryz.isAgg9
 z9:=Tryz.sizeOf9
 v9:=Tryz.zeroValue9
 t46:=Tryz.underlying141
 a46:=Tryz.isAgg141
 z46:=Tryz.sizeOf141
 v46:=Tryz.zeroValue141
 t53:=Tryz.underlying41
 a53:=Tryz.isAgg41
 z53:=Tryz.sizeOf41
 v53:=Tryz.zeroValue41 }
theorem Tryz.bits_Len64 (x:Int)(w:World)(h0:0 ≤ x)(h1:x ≤ 18446744073709551615) :
  Calls Tryz.prog 116 #[.int .u64 x] w fun e w'=>e=.returned (.int .i64 (Lib.bitLen x.toNat))∧w'=w:=Any.bits_Len64 Tryz.lays129 x w h0 h1
def Tryz.lays283_ren:Go.Shelf.Ren:=⟨fun|283=>191|n=>n,fun|3=>3|9=>9|4=>4|n=>n,fun|n=>n⟩
theorem Tryz.lays283:Go.Proofs.Lays.n283 Tryz.prog Tryz.lays283_ren:={
 mixed:=by kernel_rfl
 f283:=Tryz.func191.trans (congrArg some (by kernel_rfl))
 t3:=Tryz.underlying3
 a3:=Tryz.isAgg3
 z3:=Tryz.sizeOf3
 v3:=Tryz.zeroValue3
 t4:=Tryz.underlying4
 a4:=Tryz.isAgg4
 z4:=Tryz.sizeOf4
 v4:=Tryz.zeroValue4
 t9:=Tryz.underlying9
 a9:=Tryz.isAgg9
 z9:=Tryz.sizeOf9
 v9:=Tryz.zeroValue9 }
open Go.Lib in
theorem Tryz.internal_strconv_small (i:Nat)(h:i < 100)(w:World) :
  Calls Tryz.prog 191 #[.int .i64 i] w fun e w'=>e=.returned (.string ⟨(Lib.decDigits i).toArray⟩)∧w'=w:=Any.internal_strconv_small Tryz.lays283 i h w
def Tryz.laysM284_ren:Go.Shelf.Ren:=⟨fun|284=>192|129=>116|317=>226|318=>227|n=>n,fun|53=>41|3=>3|212=>325|0=>0|4=>4|46=>141|5=>5|9=>9|n=>n,fun|17=>4|n=>n⟩
theorem Tryz.laysM284:Go.Proofs.LaysM.n284 Tryz.prog Tryz.laysM284_ren:={
 mixed:=by kernel_rfl
 f129:=Tryz.func116.trans (congrArg some (by kernel_rfl))
 f284:=Tryz.func192.trans (congrArg some (by kernel_rfl))
 f317:=Tryz.func226.trans (congrArg some (by kernel_rfl))
 f318:=Tryz.func227.trans (congrArg some (by kernel_rfl))
 t0:=Tryz.underlying0
 a0:=Tryz.isAgg0
 z0:=Tryz.sizeOf0
 v0:=Tryz.zeroValue0
 t3:=Tryz.underlying3
 a3:=Tryz.isAgg3
 z3:=Tryz.sizeOf3
 v3:=Tryz.zeroValue3
 t4:=Tryz.underlying4
 a4:=Tryz.isAgg4
 z4:=Tryz.sizeOf4
 v4:=Tryz.zeroValue4
 t5:=Tryz.underlying5
 a5:=Tryz.isAgg5
 z5:=Tryz.sizeOf5
 v5:=Tryz.zeroValue5
 t9:=Tryz.underlying9
 a9:=Tryz.isAgg9
 z9:=Tryz.sizeOf9
 v9:=Tryz.zeroValue9
 t46:=Tryz.underlying141
 a46:=Tryz.isAgg141
 z46:=Tryz.sizeOf141
 v46:=Tryz.zeroValue141
 t53:=Tryz.underlying41
 a53:=Tryz.isAgg41
 z53:=Tryz.sizeOf41
 v53:=Tryz.zeroValue41
 t212:=Tryz.underlying325
 a212:=Tryz.isAgg325
 z212:=Tryz.sizeOf325
 v212:=Tryz.zeroValue325
 g17:=by kernel_rfl
 i0:=by kernel_rfl
 i3:=by kernel_rfl
 i4:=by kernel_rfl
 i5:=by kernel_rfl
 i9:=by kernel_rfl
 i46:=by kernel_rfl
 i53:=by kernel_rfl
 i212:=by kernel_rfl
 m17:=by kernel_rfl }
open Go.Lib in
theorem Tryz.internal_strconv_numDigits (u:Nat)(h1:1 ≤ u)(h2:u < 18446744073709551616)(w:World)(htab:Lib.TabIs Tryz.prog w "internal/strconv.uint64pow10" .u64 Lib.pow10Tab) :
  Calls Tryz.prog 192 #[.int .u64 u] w fun e w'=>e=.returned (.int .i64 (Lib.nDigits u))∧w'=w:=Any.internal_strconv_numDigits Tryz.laysM284 u h1 h2 w htab
def Tryz.lays285_ren:Go.Shelf.Ren:=⟨fun|285=>193|n=>n,fun|37=>75|53=>41|3=>3|4=>4|51=>194|9=>9|5=>5|0=>0|n=>n,fun|n=>n⟩
theorem Tryz.lays285:Go.Proofs.Lays.n285 Tryz.prog Tryz.lays285_ren:={
 mixed:=by kernel_rfl
 f285:=Tryz.func193.trans (congrArg some (by kernel_rfl))
 t0:=Tryz.underlying0
 a0:=Tryz.isAgg0
 z0:=Tryz.sizeOf0
 v0:=Tryz.zeroValue0
 t3:=Tryz.underlying3
 a3:=Tryz.isAgg3
 z3:=Tryz.sizeOf3
 v3:=Tryz.zeroValue3
 t4:=Tryz.underlying4
 a4:=Tryz.isAgg4
 z4:=Tryz.sizeOf4
 v4:=Tryz.zeroValue4
 t5:=Tryz.underlying5
 a5:=Tryz.isAgg5
 z5:=Tryz.sizeOf5
 v5:=Tryz.zeroValue5
 t9:=Tryz.underlying9
 a9:=Tryz.isAgg9
 z9:=Tryz.sizeOf9
 v9:=Tryz.zeroValue9
 t37:=Tryz.underlying75
 a37:=Tryz.isAgg75
 z37:=Tryz.sizeOf75
 v37:=Tryz.zeroValue75
 t51:=Tryz.underlying194
 a51:=Tryz.isAgg194
 z51:=Tryz.sizeOf194
 v51:=Tryz.zeroValue194
 t53:=Tryz.underlying41
 a53:=Tryz.isAgg41
 z53:=Tryz.sizeOf41
 v53:=Tryz.zeroValue41 }
open Go.RowKit Go.Sort Go.Lib in
theorem Tryz.internal_strconv_formatBase10 (blk off cap:Nat)(u:Nat)(d:Array UInt8)(w:World)(hH:Holds (fun (b:UInt8)=>Value.int .u8 (b.toNat:Int)) w blk off d)(hu:u < 10 ^ d.size)(hu64:u < 18446744073709551616)(hsz:d.size < 4611686018427387904) :
  Calls Tryz.prog 193 #[.slice (some ⟨blk,off,none⟩) d.size cap,.int .u64 u] w fun e w' =>
   e=.returned (.tuple #[])∧∃ (n v':Nat) (dk:Array UInt8),w'=(putRow (fun (b:UInt8)=>Value.int .u8 (b.toNat:Int)) w blk off dk).drewN n∧FmtInv d.size u 0 v' dk:=Any.internal_strconv_formatBase10 Tryz.lays285 blk off cap u d w hH hu hu64 hsz
def Tryz.laysM171_ren:Go.Shelf.Ren:=⟨fun|171=>66|243=>104|246=>152|283=>191|284=>192|285=>193|286=>194|129=>116|317=>226|318=>227|319=>228|320=>229|337=>250|338=>251|n=>n,fun|3=>3|9=>9|2=>2|4=>4|171=>284|0=>0|53=>41|37=>75|5=>5|173=>286|212=>325|51=>194|20=>20|213=>326|46=>141|232=>382|233=>383|n=>n,fun|17=>4|18=>8|19=>9|n=>n⟩
theorem Tryz.laysM171:Go.Proofs.LaysM.n171 Tryz.prog Tryz.laysM171_ren:={
 mixed:=by kernel_rfl
 f129:=Tryz.func116.trans (congrArg some (by kernel_rfl))
 f171:=Tryz.func66.trans (congrArg some (by kernel_rfl))
 f243:=Tryz.func104.trans (congrArg some (by kernel_rfl))
 f246:=Tryz.func152.trans (congrArg some (by kernel_rfl))
 f283:=Tryz.func191.trans (congrArg some (by kernel_rfl))
 f284:=Tryz.func192.trans (congrArg some (by kernel_rfl))
 f285:=Tryz.func193.trans (congrArg some (by kernel_rfl))
 f286:=Tryz.func194.trans (congrArg some (by kernel_rfl))
 f317:=Tryz.func226.trans (congrArg some (by kernel_rfl))
 f318:=Tryz.func227.trans (congrArg some (by kernel_rfl))
 f319:=Tryz.func228.trans (congrArg some (by kernel_rfl))
 f320:=Tryz.func229.trans (congrArg some (by kernel_rfl))
 f337:=Tryz.func250.trans (congrArg some (by kernel_rfl))
 f338:=Tryz.func251.trans (congrArg some (by kernel_rfl))
 t0:=Tryz.underlying0
 a0:=Tryz.isAgg0
 z0:=Tryz.sizeOf0
 v0:=Tryz.zeroValue0
 t2:=Tryz.underlying2
 a2:=Tryz.isAgg2
 z2:=Tryz.sizeOf2
 v2:=Tryz.zeroValue2
 t3:=Tryz.underlying3
 a3:=Tryz.isAgg3
 z3:=Tryz.sizeOf3
 v3:=Tryz.zeroValue3
 t4:=Tryz.underlying4
 a4:=Tryz.isAgg4
 z4:=Tryz.sizeOf4
 v4:=Tryz.zeroValue4
 t5:=Tryz.underlying5
 a5:=Tryz.isAgg5
 z5:=Tryz.sizeOf5
 v5:=Tryz.zeroValue5
 t9:=Tryz.underlying9
 a9:=Tryz.isAgg9
 z9:=Tryz.sizeOf9
 v9:=Tryz.zeroValue9
 t20:=Tryz.underlying20
 a20:=Tryz.isAgg20
 z20:=Tryz.sizeOf20
 v20:=Tryz.zeroValue20
 t37:=Tryz.underlying75
 a37:=Tryz.isAgg75
 z37:=Tryz.sizeOf75
 v37:=Tryz.zeroValue75
 t46:=Tryz.underlying141
 a46:=Tryz.isAgg141
 z46:=Tryz.sizeOf141
 v46:=Tryz.zeroValue141
 t51:=Tryz.underlying194
 a51:=Tryz.isAgg194
 z51:=Tryz.sizeOf194
 v51:=Tryz.zeroValue194
 t53:=Tryz.underlying41
 a53:=Tryz.isAgg41
 z53:=Tryz.sizeOf41
 v53:=Tryz.zeroValue41
 t171:=Tryz.underlying284
 a171:=Tryz.isAgg284
 z171:=Tryz.sizeOf284
 v171:=Tryz.zeroValue284
 t173:=Tryz.underlying286
 a173:=Tryz.isAgg286
 z173:=Tryz.sizeOf286
 v173:=Tryz.zeroValue286
 t212:=Tryz.underlying325
 a212:=Tryz.isAgg325
 z212:=Tryz.sizeOf325
 v212:=Tryz.zeroValue325
 t213:=Tryz.underlying326
 a213:=Tryz.isAgg326
 z213:=Tryz.sizeOf326
 t232:=Tryz.underlying382
 a232:=Tryz.isAgg382
 z232:=Tryz.sizeOf382
 v232:=Tryz.zeroValue382
 t233:=Tryz.underlying383
 a233:=Tryz.isAgg383
 z233:=Tryz.sizeOf383
 v233:=Tryz.zeroValue383
 g17:=by kernel_rfl
 g18:=by kernel_rfl
 g19:=by kernel_rfl
 i0:=by kernel_rfl
 i2:=by kernel_rfl
 i3:=by kernel_rfl
 i4:=by kernel_rfl
 i5:=by kernel_rfl
 i9:=by kernel_rfl
 i20:=by kernel_rfl
 i37:=by kernel_rfl
 i46:=by kernel_rfl
 i51:=by kernel_rfl
 i53:=by kernel_rfl
 i171:=by kernel_rfl
 i173:=by kernel_rfl
 i212:=by kernel_rfl
 i232:=by kernel_rfl
 i233:=by kernel_rfl
 m17:=by kernel_rfl
 m18:=by kernel_rfl
 m19:=by kernel_rfl }
open Go.RowKit Go.Sort Go.Lib in
theorem Tryz.strconv_Itoa (n:Int)(h0:-9223372036854775808 ≤ n)(h1:n ≤ 9223372036854775807)(w:World)(htab:Lib.TabIs Tryz.prog w "internal/strconv.uint64pow10" .u64 Lib.pow10Tab) :
  Calls Tryz.prog 66 #[.int .i64 n] w fun e w'=>e=.returned (.string ⟨(Lib.itoa n).toArray⟩)∧∃ k os,w'=grow (w.drewN k) os:=Any.strconv_Itoa Tryz.laysM171 n h0 h1 w htab
def Tryz.lays264_ren:Go.Shelf.Ren:=⟨fun|264=>333|n=>n,fun|53=>41|46=>141|n=>n,fun|n=>n⟩
theorem Tryz.lays264:Go.Proofs.Lays.n264 Tryz.prog Tryz.lays264_ren:={
 mixed:=by kernel_rfl
 f264:=Tryz.func333.trans (congrArg some (by kernel_rfl))
 t46:=Tryz.underlying141
 a46:=Tryz.isAgg141
 z46:=Tryz.sizeOf141
 v46:=Tryz.zeroValue141
 t53:=Tryz.underlying41
 a53:=Tryz.isAgg41
 z53:=Tryz.sizeOf41
 v53:=Tryz.zeroValue41 }
open Go.RowKit Go.Lib in
theorem Tryz.bits_Mul64 (x y:Nat)(hx:x < 18446744073709551616)(hy:y < 18446744073709551616)(w:World) :
  Calls Tryz.prog 333 #[.int .u64 x,.int .u64 y] w fun e w'=>e=.returned (.tuple #[.int .u64 ((x * y / 18446744073709551616:Nat):Int),.int .u64 ((x * y % 18446744073709551616:Nat):Int)])∧w'=w:=Any.bits_Mul64 Tryz.lays264 x y hx hy w
end Go.Proofs
namespace Go.Am
open Go.Proofs
def xts:xY:=[(186,1,0),(159,2,0),(95,3,0),(182,4,0),(93,5,0),(96,6,75),(296,8,0)]
theorem aV:pM Tryz.prog xts:=fun q hq=>by
 simp only [xts,List.mem_cons,List.mem_nil_iff,or_false] at hq
 rcases hq with rfl|rfl|rfl|rfl|rfl|rfl|rfl
 ·exact ⟨Tryz.f186,by kernel_rfl,by kernel_rfl,by kernel_rfl,by kernel_rfl,by kernel_rfl⟩
 ·exact ⟨Tryz.f159,by kernel_rfl,by kernel_rfl,by kernel_rfl,by kernel_rfl,by kernel_rfl⟩
 ·exact ⟨Tryz.f95,by kernel_rfl,by kernel_rfl,by kernel_rfl,by kernel_rfl,by kernel_rfl⟩
 ·exact ⟨Tryz.f182,by kernel_rfl,by kernel_rfl,by kernel_rfl,by kernel_rfl,by kernel_rfl⟩
 ·exact ⟨Tryz.f93,by kernel_rfl,by kernel_rfl,by kernel_rfl,by kernel_rfl,by kernel_rfl⟩
 ·exact ⟨Tryz.f96,by kernel_rfl,by kernel_rfl,by kernel_rfl,by kernel_rfl,by kernel_rfl⟩
 ·exact ⟨Tryz.f296,by kernel_rfl,by kernel_rfl,by kernel_rfl,by kernel_rfl,by kernel_rfl⟩
theorem mixed:Tryz.prog.follows .mixedOrders=true:=by kernel_rfl
theorem aAr:qP Tryz.prog 9=some false:=by kernel_rfl
theorem agg40:qP Tryz.prog 85=some true:=by kernel_rfl
theorem nC:∃ i,Tryz.prog.info? 85=some i∧i.size=2:=by
 have h:(Tryz.prog.info? 85).map (·.size)=some 2:=by kernel_rfl
 cases hi:Tryz.prog.info? 85 with
 | none=>rw [hi] at h;cases h
 | some i=>rw [hi] at h;exact ⟨i,rfl,by simpa using h⟩
end Go.Am
namespace Go.Am
open Go.Proofs
attribute [local irreducible] fN fI fB bX eR evCode evOps rX kOp aAv wW uM wX kGc aKT aKS kDr kMg drOps eN kT sl
def oY (c:UInt8):Bool:=decide (48 ≤ c.toNat∧c.toNat ≤ 57)
def aMT (s:List UInt8):Nat:=(s.takeWhile oY).length
theorem tG {p:UInt8→Bool}:∀ {s:List UInt8} {j:Nat},(s.take j).all p=true→(∀ h:j < s.length,p s[j]=false)→j ≤ s.length→(s.takeWhile p).length=j
 | [],j,_,_,hj=>by simp at hj;subst hj;rfl
 | c :: s,0,_,h,_=>by
   have:p c=false:=h sm
   simp [List.takeWhile,this]
 | c :: s,j+1,ha,h,hj=>by
   simp only [List.take_succ_cons,List.all_cons,Bool.and_eq_true] at ha
   simp only [List.takeWhile,ha.1,List.length_cons,Nat.add_right_cancel_iff]
   exact tG ha.2 (fun h'=>h (by simpa using h')) (by simpa using hj)
theorem pV {p:UInt8→Bool}{s:List UInt8}{j:Nat}(ha:(s.take j).all p=true)(hj:j < s.length)(h:p s[j]=true):(s.take (j+1)).all p=true:=by
 rw [List.take_succ_eq_append_getElem hj,List.all_append,ha];simp [h]
theorem aFV {a b:List UInt8}(ha:a.all oY=true)(hb:∀ c,b.head?=some c→oY c=false):aMT (a ++ b)=a.length:=by
 unfold aMT
 refine tG (by simpa using ha) (fun h=>?_) sm
 rw [List.getElem_append_right (Nat.le_refl _)]
 refine hb _ ?_
 rw [List.head?_eq_getElem?];simp
theorem aTi:bA Tryz.prog 219 23 [.tmp 2] (aM Tryz.f219):=fq Tryz.f219
theorem aBl {s:List UInt8}{S:St}{k:V→St→Prop}(hs:s.length < 9223372036854775807)(hk:k (.int .i64 (.ofNat (aMT s))) S):RC Tryz.prog 219 [.str s] S k:=by
 refine RC.run mixed aV (aH aTi ?_)
 refine enter ?_
 refine go ?_
 refine LP.induct0 s.length (fun j E=>j ≤ s.length∧(s.take j).all oY=true∧Kn E 23 [(0,.str s),(3,.int .i64 (.ofNat j))]) ⟨Nat.zero_le _,by simp,rfl,rfl,rfl,trivial⟩ ?_
 intro j E ⟨hj,ha,hf⟩ ih
 have hend:(∀ h:j < s.length,oY s[j]=false)→k (.int .i64 (.ofNat j)) S:=fun h=>by rw [← tG ha h hj];exact hk
 refine LP.kn mixed hf ?_
 refine go ?_
 refine aZ (fun hlt=>?_) (fun hge=>?_)
 ·rw [aL] at hlt
  refine go ?_
  refine bW _ (rD hlt) ?_
  refine go ?_
  refine aZ (fun (h48:_ < 48)=>?_) (fun (h48:48 ≤ _)=>?_)
  ·refine go ?_
   exact hend fun _=>decide_eq_false om
  ·refine go ?_
   refine bW _ (rD hlt) ?_
   refine go ?_
   refine aZ (fun (h57:57 < _)=>?_) (fun (h57:_ ≤ 57)=>?_)
   ·refine go ?_
    exact hend fun _=>decide_eq_false om
   ·refine go ?_
    refine aRs ?_
    refine go ?_
    exact ih _ hlt ⟨by omega,pV ha hlt (decide_eq_true om),rfl,rfl,rfl,trivial⟩
 ·rw [aL] at hge
  refine go ?_
  exact hend fun h=>by omega
def aGR (s:List UInt8):List UInt8:=match s with|c :: r=>if c=43 ∨ c=45 then r else c :: r|[]=>[]
theorem aUt {a b:UInt8}:a.toNat ≠ b.toNat ↔ a ≠ b:=by rw [Ne,Ne,UInt8.toNat_inj]
theorem aTG:bA Tryz.prog 218 19 [.tmp 2] (aM Tryz.f218):=fq Tryz.f218
theorem aIE {s:List UInt8}{S:St}{k:V→St→Prop}(hk:k (.str (aGR s)) S):RC Tryz.prog 218 [.str s] S k:=by
 refine RC.run mixed aV (aH aTG ?_)
 refine enter ?_
 refine go ?_
 refine aZ (fun h0=>?_) (fun h0=>?_)
 ·rw [aL] at h0
  have e:∃ c r,s=c :: r∧s[0]=c∧s.drop 1=r:=by
   obtain ⟨c,r,rfl⟩:=List.exists_cons_of_length_pos h0
   exact ⟨c,r,rfl,rfl,rfl⟩
  obtain ⟨c,r,e1,e2,e3⟩:=e
  refine go ?_
  refine bW _ (rD h0) ?_
  refine go ?_
  refine bL (fun (h43:_=43)=>?_) (fun (h43:_ ≠ 43)=>?_)
  ·refine go ?_
   refine cN h0 ?_
   refine go ?_
   have:c=43:=UInt8.toNat_inj.1 (by rw [← e2];exact h43)
   rw [e1] at hk
   simp only [aGR,this,true_or,if_true] at hk
   rw [e3];exact hk
  ·refine go ?_
   refine bW _ (rD h0) ?_
   refine go ?_
   refine bL (fun (h45:_=45)=>?_) (fun (h45:_ ≠ 45)=>?_)
   ·refine go ?_
    refine cN h0 ?_
    refine go ?_
    have:c=45:=UInt8.toNat_inj.1 (by rw [← e2];exact h45)
    rw [e1] at hk
    simp only [aGR,this,or_true,if_true] at hk
    rw [e3];exact hk
   ·refine go ?_
    have h1:¬ (c=43 ∨ c=45):=by
     rintro (h|h)
     ·exact h43 (by rw [e2,h];rfl)
     ·exact h45 (by rw [e2,h];rfl)
    have h2:aGR s=s:=by rw [e1];simp only [aGR,h1,if_false]
    rw [h2] at hk;exact hk
 ·rw [aL] at h0
  refine go ?_
  have:s=[]:=by cases s with|nil=>rfl|cons _ _=>simp at h0
  subst this
  exact hk
def aHX (s p:List UInt8):Bool:=decide (s.take p.length=p)
theorem aTm:bA Tryz.prog 73 18 [.tmp 4] (aM Tryz.f73):=fq Tryz.f73
theorem aUT:bA Tryz.prog 41 8 [.tmp 4] (aM Tryz.f41):=fq Tryz.f41
theorem aCW {s p:List UInt8}{S:St}{k:V→St→Prop}(hk:k (.bool (aHX s p)) S):RC Tryz.prog 41 [.str s,.str p] S k:=by
 refine RC.run mixed aV (aH aUT ?_)
 refine enter ?_
 refine go ?_
 refine RC.run mixed aV (aH aTm ?_)
 refine enter ?_
 refine go ?_
 refine aZ (fun h=>?_) (fun h=>?_)
 ·rw [aL,aL] at h
  refine go ?_
  have:aHX s p=false:=decide_eq_false fun e=>by
   have:=congrArg List.length e
   rw [List.length_take] at this
   omega
  rw [this] at hk
  exact hk
 ·rw [aL,aL] at h
  refine go ?_
  refine lD (by rw [aL];exact h) ?_
  rw [aL]
  refine go ?_
  refine fE (fun h=>?_) (fun h=>?_)
  ·refine go ?_
   have:aHX s p=true:=decide_eq_true h
   rw [this] at hk
   exact hk
  ·refine go ?_
   have:aHX s p=false:=decide_eq_false h
   rw [this] at hk
   exact hk
structure Dec (T sg D tl F:List UInt8):Prop where
 eq:T=sg ++ (D ++ tl)
 sg':sg=[] ∨ sg=[45]
 d0:D ≠ []
 d:D.all oY=true
 f:F.all oY=true
 tl':(tl=[]∧F=[]) ∨ tl=46 :: F
theorem dI {c:UInt8}:oY c=true ↔ 48 ≤ c.toNat∧c.toNat ≤ 57:=by unfold oY;rw [decide_eq_true_iff]
theorem Dec.head {T sg D tl F:List UInt8}(h:Dec T sg D tl F):∃ c r,D=c :: r∧oY c=true∧r.all oY=true:=by
 cases hD:D with
 | nil=>exact absurd hD h.d0
 | cons c r =>
   have:=h.d
   rw [hD,List.all_cons,Bool.and_eq_true] at this
   exact ⟨c,r,rfl,this.1,this.2⟩
theorem aSm {c:UInt8}(h:oY c=true):¬ (c=43 ∨ c=45):=by
 rw [dI] at h
 rintro (rfl|rfl) <;> simp at h
theorem Dec.sgn {T sg D tl F:List UInt8}(h:Dec T sg D tl F):aGR T=D ++ tl:=by
 obtain ⟨c,r,hD,hc,_⟩:=h.head
 rw [h.eq]
 rcases h.sg' with rfl|rfl
 ·rw [hD];simp only [List.nil_append,List.cons_append,aGR,aSm hc,if_false]
 ·simp [aGR]
theorem Dec.dig {T sg D tl F:List UInt8}(h:Dec T sg D tl F):aMT (D ++ tl)=D.length :=
 aFV h.d fun c hc=>by
  rcases h.tl' with ⟨rfl,_⟩|rfl
  ·simp at hc
  ·simp at hc;subst hc;decide
theorem aMU {F:List UInt8}(h:F.all oY=true):aMT F=F.length:=by
 have:=aFV (b:=[]) h sm
 simpa using this
theorem aPx:bA Tryz.prog 179 55 [.tmp 2] (aM Tryz.f179):=fq Tryz.f179
theorem aLx {T sg D tl F:List UInt8}(h:Dec T sg D tl F)(hT:T.length ≤ 1200){S:St}{k:V→St→Prop}(hk:k (.bool true) S):RC Tryz.prog 179 [.str T] S k:=by
 have hlen:D.length+tl.length ≤ 1200:=by
  rw [h.eq] at hT;simp at hT;omega
 have hD0:0 < D.length:=List.length_pos_iff.2 h.d0
 refine RC.run mixed aV (aH aPx ?_)
 refine enter ?_
 refine go ?_
 refine aIE ?_
 rw [h.sgn]
 refine go ?_
 refine aBl (by simp;omega) ?_
 rw [h.dig]
 refine go ?_
 refine cN sm ?_
 rw [List.drop_left]
 refine go ?_
 refine aCW ?_
 rcases h.tl' with ⟨h1,h2⟩|h1
 ·have e:aHX tl [46]=false:=by rw [h1];decide
  rw [e]
  refine go ?_
  refine bL (fun (h0:_=0)=>by omega) (fun h0=>?_)
  refine go ?_
  refine fE (fun h0=>?_) (fun h0=>absurd h1 h0)
  refine go ?_
  exact hk
 ·have e:aHX tl [46]=true:=by rw [h1];simp [aHX]
  rw [e]
  have hl:tl.length=F.length+1:=by rw [h1];rfl
  refine go ?_
  refine cN (show 1 ≤ _ by omega) ?_
  refine go ?_
  have e1:tl.drop 1=F:=by rw [h1];rfl
  rw [e1]
  refine aBl om ?_
  rw [aMU h.f]
  refine go ?_
  refine aRs ?_
  refine go ?_
  refine aY (1+F.length) rfl (by simp only [rZ];omega) ?_
  refine go ?_
  refine cN om ?_
  have e2:tl.drop (1+F.length)=[]:=List.drop_of_length_le om
  rw [e2]
  refine go ?_
  refine bL (fun (h0:_=0)=>by omega) (fun h0=>?_)
  refine go ?_
  exact hk
theorem lT {P:Program}{Xt:xY}{f:FuncId}{args:List V}{S:St}{k:V→St→Prop}(hf:∃ fn,P.funcs[f]?=some fn∧fn.body=none)(h:aEL P Xt f args S k):sR P Xt (RC P) (RD P) (LQ P) (cW P (RC P) (RD P)) f args S k:=by
 obtain ⟨fn,h1,h2⟩:=hf
 unfold sR
 rw [h1]
 show Option.casesOn fn.body _ _
 rw [h2];exact h
theorem pG {c:UInt8}:∀ {a b:List UInt8} {i:Nat},(∀ x ∈ a,x ≠ c)→eJ c.toNat (a ++ c :: b) i=some (i+a.length)
 | [],b,i,_=>by
   show Bool.rec (motive:=fun _=>Option Nat) _ _ (Nat.beq c.toNat c.toNat)=_
   rw [Nat.beq_refl];rfl
 | x :: a,b,i,h=>by
   show Bool.rec (motive:=fun _=>Option Nat) (eJ c.toNat (a ++ c :: b) (Nat.succ i)) _ (Nat.beq x.toNat c.toNat)=_
   have:Nat.beq x.toNat c.toNat=false:=by
    cases hb:Nat.beq x.toNat c.toNat with
    | false=>rfl
    | true=>exact absurd (UInt8.toNat_inj.1 (Nat.eq_of_beq_eq_true hb)) (h x sm)
   rw [this]
   show eJ c.toNat (a ++ c :: b) (Nat.succ i)=_
   rw [pG (fun y hy=>h y (by simp [hy]))]
   simp;omega
theorem wO {c:UInt8}:∀ {a:List UInt8} {i:Nat},(∀ x ∈ a,x ≠ c)→eJ c.toNat a i=none
 | [],i,_=>rfl
 | x :: a,i,h=>by
   show Bool.rec (motive:=fun _=>Option Nat) (eJ c.toNat a (Nat.succ i)) _ (Nat.beq x.toNat c.toNat)=_
   have:Nat.beq x.toNat c.toNat=false:=by
    cases hb:Nat.beq x.toNat c.toNat with
    | false=>rfl
    | true=>exact absurd (UInt8.toNat_inj.1 (Nat.eq_of_beq_eq_true hb)) (h x sm)
   rw [this]
   exact wO (fun y hy=>h y (by simp [hy]))
def ixR (o:Option Nat):V:=match o with|none=>.int .i64 (.negSucc 0)|some n=>.int .i64 (.ofNat n)
theorem wU (o:Option Nat):(ixR o).flat=true:=by cases o <;> rfl
theorem aTr:∃ fn,Tryz.prog.funcs[186]?=some fn∧fn.body=none:=⟨Tryz.f186,by kernel_rfl,by kernel_rfl⟩
theorem aPQ {s:List UInt8}{c:Nat}(hc:c < 256){S:St}{k:V→St→Prop}(hk:k (ixR (eJ c s 0)) S):RC Tryz.prog 186 [.str s,.int .u8 (.ofNat c)] S k:=by
 refine RC.run mixed aV (lT aTr ?_)
 conv=>whnf
 refine ifK_intro (Nat.ble_eq_true_of_le hc) ?_
 conv=>whnf
 cases h:eJ c s 0 with
 | none=>rw [h] at hk;exact hk
 | some n =>
   rw [h] at hk
   exact aI hk
theorem aTH:bA Tryz.prog 139 8 [.tmp 4] (aM Tryz.f139):=fq Tryz.f139
theorem aJN {s:List UInt8}{c:Nat}(hc:c < 256){S:St}{k:V→St→Prop}(hk:k (ixR (eJ c s 0)) S):RC Tryz.prog 139 [.str s,.int .u8 (.ofNat c)] S k:=by
 refine RC.pure mixed aTH hk ?_ (wU _)
 refine enter ?_
 refine go ?_
 refine aPQ hc ?_
 refine go ?_
 rfl
theorem aNl:bA Tryz.prog 94 143 [.tmp 4] (aM Tryz.f94):=fq Tryz.f94
theorem aCo {s:List UInt8}{c:UInt8}{S:St}{k:V→St→Prop}(hk:k (ixR (eJ c.toNat s 0)) S):RC Tryz.prog 94 [.str s,.str [c]] S k:=by
 refine RC.pure mixed aNl hk ?_ (wU _)
 refine enter ?_
 refine go ?_
 refine fE (fun h=>?_) (fun h=>?_)
 ·refine go ?_
  rw [← h]
  have:=@pG c [] [] 0 sm
  simp only [List.nil_append,List.length_nil] at this
  rw [this];rfl
 ·refine go ?_
  refine aJN (UInt8.toNat_lt c) ?_
  refine go ?_
  rfl
theorem aSd:bA Tryz.prog 124 23 [.tmp 4,.tmp 5,.tmp 6] (aM Tryz.f124):=fq Tryz.f124
theorem aTg:bA Tryz.prog 78 13 [.tmp 4,.tmp 5,.tmp 6] (aM Tryz.f78):=fq Tryz.f78
theorem aED {s:List UInt8}{c:UInt8}(hs:s.length < 9223372036854775807){v:V}(hv:(∃ a b,s=a ++ c :: b∧(∀ x ∈ a,x ≠ c)∧v=.tup [.str a,.str b,.bool true]) ∨ ((∀ x ∈ s,x ≠ c)∧v=.tup [.str s,.str [],.bool false]))
  {S:St} {k:V→St→Prop} (hk:k v S):RC Tryz.prog 78 [.str s,.str [c]] S k:=by
 refine RC.pure mixed aTg hk ?_ (by rcases hv with ⟨a,b,_,_,rfl⟩|⟨_,rfl⟩ <;> rfl)
 refine enter ?_
 refine go ?_
 refine RC.pure mixed aSd (v:=v) ?_ ?_ (by rcases hv with ⟨a,b,_,_,rfl⟩|⟨_,rfl⟩ <;> rfl)
 ·rcases hv with ⟨a,b,_,_,rfl⟩|⟨_,rfl⟩
  ·refine go ?_
   rfl
  ·refine go ?_
   rfl
 ·refine enter ?_
  refine go ?_
  refine aCo ?_
  rcases hv with ⟨a,b,rfl,h,rfl⟩|⟨h,rfl⟩
  ·have hl:a.length+b.length+1 < 9223372036854775807:=by simp at hs;omega
   rw [pG h,Nat.zero_add]
   unfold ixR
   refine go ?_
   refine xX ?_
   refine aP (v:=.str a) rfl ?_ ?_
   ·intro Q hQ
    conv=>whnf
    refine lD sm ?_
    rw [List.take_left]
    exact hQ
   refine xX ?_
   refine aP (v:=.int .i64 (.ofNat (a.length+1))) rfl ?_ ?_
   ·intro Q hQ
    conv=>whnf
    refine bF (a.length+1) ?_
    exact hQ
   refine xX ?_
   refine aP (v:=.str b) rfl ?_ ?_
   ·intro Q hQ
    conv=>whnf
    refine cN sm ?_
    have e:(a ++ c :: b).drop (a.length+1)=b:=by rw [List.drop_append];simp
    rw [e]
    exact hQ
   refine xX ?_
   refine go ?_
   rfl
  ·rw [wO h]
   unfold ixR
   refine go ?_
   rfl
theorem aDT {s:List UInt8}{j:Nat}(h:j < s.length):nth (s.drop j) 0=some s[j]:=by
 rw [nth_eq,List.getElem?_drop];simp [h]
def nE (p:UInt8→Bool)(s:List UInt8):Nat:=(s.takeWhile p).length
theorem aIJ (p:UInt8→Bool)(s:List UInt8):nE p s ≤ s.length:=by
 unfold nE
 induction s with
 | nil=>simp
 | cons c s ih=>simp only [List.takeWhile];split <;> simp <;> omega
def sF (c:UInt8)(x:UInt8):Bool:=decide (x=c)
theorem aTQ:bA Tryz.prog 145 17 [.tmp 4] (aM Tryz.f145):=fq Tryz.f145
theorem aQx {s:List UInt8}{c:UInt8}{S:St}{k:V→St→Prop}(hk:k (.str (s.drop (nE (sF c) s))) S):RC Tryz.prog 145 [.str s,.int .u8 (.ofNat c.toNat)] S k:=by
 refine RC.run mixed aV (aH aTQ ?_)
 refine enter ?_
 refine go ?_
 refine LP.induct0 s.length (fun j E=>j ≤ s.length∧(s.take j).all (sF c)=true∧Kn E 17 [(0,.str (s.drop j)),(1,.int .u8 (.ofNat c.toNat))]) ⟨Nat.zero_le _,by simp,rfl,rfl,rfl,trivial⟩ ?_
 intro j E ⟨hj,ha,hf⟩ ih
 have hend:(∀ h:j < s.length,sF c s[j]=false)→k (.str (s.drop j)) S:=fun h=>by
  have:=tG ha h hj
  unfold nE at hk
  rw [this] at hk;exact hk
 refine LP.kn mixed hf ?_
 refine go ?_
 refine aZ (fun hlt=>?_) (fun hge=>?_)
 ·rw [aL,List.length_drop] at hlt
  have hj':j < s.length:=by have:0 < s.length - j:=hlt;omega
  refine go ?_
  refine bW _ (aDT hj') ?_
  refine go ?_
  refine bL (fun he=>?_) (fun he=>?_)
  ·refine go ?_
   refine cN (by rw [List.length_drop];exact hlt) ?_
   rw [List.drop_drop]
   refine go ?_
   exact ih _ hj' ⟨hj',pV ha hj' (decide_eq_true (UInt8.toNat_inj.1 he)),rfl,rfl,rfl,trivial⟩
  ·refine go ?_
   exact hend fun _=>decide_eq_false (aUt.1 he)
 ·rw [aL,List.length_drop] at hge
  have hge':s.length - j ≤ 0:=hge
  refine go ?_
  exact hend fun h=>by omega
theorem aTO:bA Tryz.prog 102 37 [.tmp 4] (aM Tryz.f102):=fq Tryz.f102
theorem pU {s:List UInt8}{c:UInt8}(hc:c.toNat < 128){S:St}{k:V→St→Prop}(hk:k (.str (s.drop (nE (sF c) s))) S):RC Tryz.prog 102 [.str s,.str [c]] S k:=by
 refine RC.pure mixed aTO hk ?_
 refine enter ?_
 refine go ?_
 refine fE (fun h=>?_) (fun h=>?_)
 ·refine go ?_
  subst h;rfl
 ·refine go ?_
  refine aZ (fun hlt=>?_) (fun hge=>absurd hc (by have:128 ≤ c.toNat:=hge;omega))
  refine go ?_
  refine aQx ?_
  refine go ?_
  rfl
theorem aTR:bA Tryz.prog 149 23 [.tmp 4] (aM Tryz.f149):=fq Tryz.f149
theorem aQz {s:List UInt8}{c:UInt8}{n:Nat}(hn:n ≤ s.length)(ha:(s.drop n).all (sF c)=true)(he:∀ h:0 < n,sF c (s[n - 1]'(by omega))=false)(hs:s.length < 9223372036854775807){S:St}{k:V→St→Prop}(hk:k (.str (s.take n)) S):RC Tryz.prog 149 [.str s,.int .u8 (.ofNat c.toNat)] S k:=by
 refine RC.run mixed aV (aH aTR ?_)
 refine enter ?_
 refine go ?_
 refine LP.induct0 s.length (fun j E=>j ≤ s.length - n∧Kn E 23 [(0,.str (s.take (s.length - j))),(1,.int .u8 (.ofNat c.toNat))]) ⟨Nat.zero_le _,rfl,?_,rfl,trivial⟩ ?_
 ·simp only [Nat.sub_zero,List.take_length];rfl
 intro j E ⟨hj,hf⟩ ih
 refine LP.kn mixed hf ?_
 have hl:(s.take (s.length - j)).length=s.length - j:=by rw [List.length_take];omega
 refine go ?_
 refine aZ (fun hlt=>?_) (fun hge=>?_)
 ·rw [aL,hl] at hlt
  have hj':0 < s.length - j:=hlt
  refine go ?_
  refine gU (s.length - j - 1) ?_ (by rw [aL,hl];show _=_+1;omega)
  refine go ?_
  have hx:s.length - j - 1 < (s.take (s.length - j)).length:=by omega
  refine bW _ (rD hx) ?_
  rw [List.getElem_take]
  refine go ?_
  refine bL (fun hq=>?_) (fun hq=>?_)
  ·have hlt2:j < s.length - n:=by
    rcases Nat.lt_or_ge j (s.length - n) with h|h
    ·exact h
    ·have e1:s.length - j - 1=n - 1:=by omega
     have:=he om
     simp only [← e1,sF,decide_eq_false_iff_not] at this
     exact absurd (UInt8.toNat_inj.1 hq) this
   refine go ?_
   refine gU (s.length - j - 1) ?_ (by rw [aL,hl];show _=_+1;omega)
   refine go ?_
   refine lD om ?_
   rw [List.take_take,Nat.min_eq_left om]
   refine go ?_
   exact ih _ om ⟨by omega,rfl,rfl,rfl,trivial⟩
  ·refine go ?_
   have e:j=s.length - n:=by
    rcases Nat.lt_or_ge j (s.length - n) with h|h
    ·exfalso
     have:=List.all_eq_true.1 ha (s[s.length - j - 1]'(by omega)) (by
      rw [List.mem_iff_getElem]
      exact ⟨s.length - j - 1 - n,by rw [List.length_drop];omega,by rw [List.getElem_drop];congr 1;omega⟩)
     exact hq (by rw [of_decide_eq_true this])
    ·omega
   subst e
   have:s.length - (s.length - n)=n:=by omega
   rw [this];exact hk
 ·rw [aL,hl] at hge
  have hge':s.length - j ≤ 0:=hge
  refine go ?_
  have:s.length - j=n:=by omega
  rw [this];exact hk
theorem aVl:bA Tryz.prog 103 37 [.tmp 4] (aM Tryz.f103):=fq Tryz.f103
theorem tF {s:List UInt8}{c:UInt8}{n:Nat}(hc:c.toNat < 128)(hn:n ≤ s.length)(ha:(s.drop n).all (sF c)=true)(he:∀ h:0 < n,sF c (s[n - 1]'(by omega))=false)(hs:s.length < 9223372036854775807){S:St}{k:V→St→Prop}(hk:k (.str (s.take n)) S):RC Tryz.prog 103 [.str s,.str [c]] S k:=by
 refine RC.pure mixed aVl hk ?_
 refine enter ?_
 refine go ?_
 refine fE (fun h=>?_) (fun h=>?_)
 ·refine go ?_
  subst h
  simp
 ·refine go ?_
  refine aZ (fun hlt=>?_) (fun hge=>absurd hc (by have:128 ≤ c.toNat:=hge;omega))
  refine go ?_
  refine aQz hn ha he hs ?_
  refine go ?_
  rfl
noncomputable def aOt (n:Nat):aMg:=oL Tryz.prog xts (fun _=>none) (cW Tryz.prog) n
theorem aOu (n:Nat):eH Tryz.prog (aOt n).call:=(tS aV (fun _ _ h=>by cases h) (fun _ _ hc hd=>evDraw_ok mixed hc hd) n).1
theorem RC.kern (n:Nat){g:FuncId}{l:List V}{S:St}{v:V}{k:V→St→Prop}(h:((aOt n).call g l ⟨.nil,aN⟩ fun u _=>u=v)=(v=v))(hk:k v S)(hv:v.flat=true:=by rfl)(hl:V.flat.V.flatL l=true:=by rfl):RC Tryz.prog g l S k:=by
 have h1:(aOt n).call g l ⟨.nil,aN⟩ fun u _=>u=v:=by rw [h]
 obtain ⟨u,S',h2,h3⟩:=aOu n _ _ _ _ h1
 subst h2
 have:=h3.small (K:=S.hs) (l2:=l) (v2:=u) 0 (ids:=[]) (ks:=[]) (os:=[]) (ks2:=[]) (news:=[]) rfl sm sm rfl rfl rfl sm sm (fJ hl) sm sm
  ⟨[],List.nodup_nil,by simp,mK hv,trivial,trivial⟩
 exact .mk u S this hk
def asG (f:Nat→Bool):Nat→Nat→List V
 | _,0=>[]
 | i,n+1=>.bool (f i) :: asG f (i+1) n
def asC (f:Nat→Bool):List V:=asG f 0 256
theorem aIY {f:Nat→Bool}:∀ {n i j:Nat},j < n→(asG f i n)[j]?=some (.bool (f (i+j)))
 | n+1,i,0,_=>rfl
 | n+1,i,j+1,h=>by
   have:=@aIY f n (i+1) j om
   rw [show i+(j+1)=i+1+j by omega]
   simpa [asG] using this
def dO (n:Nat):Bool:=Nat.beq n 32 || Nat.beq n 9
def aEK (n:Nat):Bool:=Nat.beq n 101 || Nat.beq n 69
theorem aDP {S:St}{k:V→St→Prop}(hk:k (.tup [.agg (asC dO),.bool true]) S):RC Tryz.prog 146 [.str [32,9]] S k:=RC.kern 20 kr hk
theorem aUf {S:St}{k:V→St→Prop}(hk:k (.tup [.agg (asC aEK),.bool true]) S):RC Tryz.prog 146 [.str [101,69]] S k:=RC.kern 20 kr hk
theorem aMo:qP Tryz.prog 4=some false:=by kernel_rfl
theorem aTa:bA Tryz.prog 195 10 [.tmp 4] (aM Tryz.f195):=fq Tryz.f195
theorem aIZ {f:Nat→Bool}{p:Nat}{e:TypeId}{fl:Fl}{c:Nat}(hc:c < 256){S:St}(hp:S.hs.get p=some (.cells (asC f) e fl)){k:V→St→Prop}(hk:k (.bool (f c)) S):RC Tryz.prog 195 [.ptr p 0,.int .u8 (.ofNat c)] S k:=by
 refine RC.run mixed aV (aH aTa ?_)
 refine enter ?_
 refine go ?_
 refine ifK_intro (Nat.ble_eq_true_of_le hc) ?_
 refine go ?_
 refine aA hp ?_
 refine aE aMo c (by show 0+c * 1=c;omega) (by unfold asC;rw [aIY hc,Nat.zero_add]) ?_
 refine go ?_
 exact hk
theorem aTP:bA Tryz.prog 147 16 [.tmp 4] (aM Tryz.f147):=fq Tryz.f147
theorem aQw {f:Nat→Bool}{s:List UInt8}{p:Nat}{e:TypeId}{fl:Fl}{S:St}(hp:S.hs.get p=some (.cells (asC f) e fl)){k:V→St→Prop}(hk:k (.str (s.drop (nE (fun c=>f c.toNat) s))) S):RC Tryz.prog 147 [.str s,.ptr p 0] S k:=by
 refine RC.run mixed aV (aH aTP ?_)
 refine enter ?_
 refine go ?_
 refine LP.induct0 s.length (fun j E=>j ≤ s.length∧(s.take j).all (fun c=>f c.toNat)=true∧Kn E 16 [(0,.str (s.drop j)),(1,.ptr p 0)]) ⟨Nat.zero_le _,by simp,rfl,rfl,rfl,trivial⟩ ?_
 intro j E ⟨hj,ha,hf⟩ ih
 have hend:(∀ h:j < s.length,(fun c:UInt8=>f c.toNat) s[j]=false)→k (.str (s.drop j)) S:=fun h=>by
  have:=tG ha h hj
  unfold nE at hk
  rw [this] at hk;exact hk
 refine LP.kn mixed hf ?_
 refine go ?_
 refine aZ (fun hlt=>?_) (fun hge=>?_)
 ·rw [aL,List.length_drop] at hlt
  have hj':j < s.length:=by have:0 < s.length - j:=hlt;omega
  refine go ?_
  refine bW _ (aDT hj') ?_
  refine go ?_
  refine aIZ (UInt8.toNat_lt _) hp ?_
  cases hb:f s[j].toNat with
  | true =>
    refine go ?_
    refine cN (by rw [List.length_drop];exact hlt) ?_
    rw [List.drop_drop]
    refine go ?_
    exact ih _ hj' ⟨hj',pV ha hj' hb,rfl,rfl,rfl,trivial⟩
  | false =>
    refine go ?_
    exact hend fun _=>hb
 ·rw [aL,List.length_drop] at hge
  have hge':s.length - j ≤ 0:=hge
  refine go ?_
  exact hend fun h=>by omega
theorem aDh {s:List UInt8}{S:St}{k:V→St→Prop}(hk:k (.str (s.drop (nE (fun c=>dO c.toNat) s))) S):RC Tryz.prog 102 [.str s,.str [32,9]] S k:=by
 refine RC.pure mixed aTO hk ?_
 refine enter ?_
 refine go ?_
 refine fE (fun h=>?_) (fun h=>?_)
 ·refine go ?_
  subst h;rfl
 ·refine go ?_
  refine aDP ?_
  refine go ?_
  refine aQw (p:=aN) (f:=dO) rfl ?_
  refine go ?_
  rfl
theorem aEz (a b:Nat):Nat.beq a b=decide (a=b):=by
 cases hb:Nat.beq a b
 ·exact (decide_eq_false (fun h=>by subst h;rw [Nat.beq_refl] at hb;cases hb)).symm
 ·exact (decide_eq_true (Nat.eq_of_beq_eq_true hb)).symm
theorem aUV:bA Tryz.prog 210 8 [.tmp 4] (aM Tryz.f210):=fq Tryz.f210
theorem aSj {s:List UInt8}{c:Nat}(hc:c < 256){S:St}{k:V→St→Prop}(hk:k (ixR (eJ c s 0)) S):RC Tryz.prog 210 [.str s,.int .u8 (.ofNat c)] S k:=by
 refine RC.pure mixed aUV hk ?_ (wU _)
 refine enter ?_
 refine go ?_
 refine aJN hc ?_
 refine go ?_
 rfl
theorem aPr:bA Tryz.prog 215 187 [.tmp 4] (aM Tryz.f215):=fq Tryz.f215
theorem aKR {s:List UInt8}{c:Nat}(hc:c < 128){S:St}{k:V→St→Prop}(hk:k (ixR (eJ c s 0)) S):RC Tryz.prog 215 [.str s,.int .i32 (.ofNat c)] S k:=by
 refine RC.pure mixed aPr hk ?_ (wU _)
 refine enter ?_
 refine go ?_
 refine aZ (fun _=>?_) (fun h=>absurd hc (by have:128 ≤ c:=h;omega))
 refine go ?_
 refine aY c rfl (by show c ≤ 255;omega) ?_
 refine go ?_
 refine aSj om ?_
 refine go ?_
 rfl
theorem aTN:bA Tryz.prog 216 5 [.tmp 2] (aM Tryz.f216):=fq Tryz.f216
theorem aUU:bA Tryz.prog 175 55 [.tmp 4] (aM Tryz.f175):=fq Tryz.f175
def aEv (f:Nat→Bool)(s:List UInt8):V:=if nE (fun c=>!f c.toNat) s < s.length then .int .i64 (.ofNat (nE (fun c=>!f c.toNat) s)) else .int .i64 (.negSucc 0)
theorem wQ {f:Nat→Bool}{c0 c1:UInt8}{s:List UInt8}(hcs:∀ n,(eJ n [c0,c1] 0).isSome=f n)(hmas:∀ (S:St) (k:V→St→Prop),k (.tup [.agg (asC f),.bool true]) S→RC Tryz.prog 146 [.str [c0,c1]] S k)
  (hs:s.length < 9223372036854775807) (hasc:∀ c ∈ s,c.toNat < 128) {S:St} {k:V→St→Prop} (hk:k (aEv f s) S):RC Tryz.prog 175 [.str s,.str [c0,c1]] S k:=by
 refine RC.pure mixed aUU hk ?_ (by unfold aEv;split <;> rfl)
 have hend:∀ {j:Nat},j ≤ s.length→(s.take j).all (fun c=>!f c.toNat)=true→(∀ h:j < s.length,(!f s[j].toNat)=false)→aEv f s=if j < s.length then .int .i64 (.ofNat j) else .int .i64 (.negSucc 0):=fun hj ha h=>by
  have:=tG ha h hj
  unfold aEv nE
  rw [this]
 refine enter ?_
 refine go ?_
 refine RC.pure mixed aTN (v:=.bool (decide (8 < s.length))) ?_ ?_
 ·by_cases h8:8 < s.length
  ·rw [decide_eq_true h8]
   refine go ?_
   refine hmas _ _ ?_
   refine go ?_
   refine LP.induct0 s.length (fun j E=>j ≤ s.length∧(s.take j).all (fun c=>!f c.toNat)=true∧Kn E 55 [(0,.str s),(6,.ptr aN 0),(8,.int .i64 (.ofNat j))]) ⟨Nat.zero_le _,by simp,rfl,rfl,rfl,rfl,trivial⟩ ?_
   intro j E ⟨hj,ha,hf⟩ ih
   refine LP.kn mixed hf ?_
   refine go ?_
   refine aZ (fun hlt=>?_) (fun hge=>?_)
   ·rw [aL] at hlt
    refine go ?_
    refine bW _ (rD hlt) ?_
    refine go ?_
    refine aIZ (UInt8.toNat_lt _) (f:=f) rfl ?_
    cases hb:f s[j].toNat with
    | true =>
      refine go ?_
      rw [hend hj ha (fun _=>by rw [hb];rfl),if_pos hlt]
    | false =>
      refine go ?_
      refine bF (j+1) ?_
      refine go ?_
      exact ih _ hlt ⟨hlt,pV ha hlt (by rw [hb];rfl),rfl,rfl,rfl,rfl,trivial⟩
   ·rw [aL] at hge
    refine go ?_
    rw [hend hj ha (fun h=>by omega),if_neg om]
    rfl
  ·rw [decide_eq_false h8]
   refine go ?_
   refine LP.induct s.length (fun j E S'=>j ≤ s.length∧(s.take j).all (fun c=>!f c.toNat)=true∧S'=rY [(aN,.strIter s j)] (aN+1)∧Kn E 55 [(1,.str [c0,c1]),(45,.ptr aN 0)]) ⟨Nat.zero_le _,by simp,by kernel_rfl,rfl,rfl,rfl,trivial⟩ ?_
   intro j E S' ⟨hj,ha,hS,hf⟩ ih
   subst hS
   refine LP.kn mixed hf ?_
   refine go ?_
   refine cC (fun hb=>?_) (fun hb=>?_)
   ·have hlt:j < s.length:=by have:=Nat.le_of_ble_eq_true hb;rw [aL] at this;exact this
    have hx:s[j].toNat < 128:=hasc _ (List.getElem_mem hlt)
    have e:Utf8.decode ⟨⟨s⟩⟩ j=(s[j].toNat,1):=decode_ascii ⟨⟨s⟩⟩ j hlt hx
    rw [e]
    refine go ?_
    refine aKR hx ?_
    have hfx:=hcs s[j].toNat
    cases hi:eJ s[j].toNat [c0,c1] 0 with
    | some m =>
      unfold ixR
      refine go ?_
      rw [hend hj ha (fun _=>by rw [← hfx,hi];rfl),if_pos hlt]
    | none =>
      unfold ixR
      refine go ?_
      refine ih _ _ hlt ⟨hlt,pV ha hlt (by rw [← hfx,hi];rfl),?_,rfl,rfl,rfl,trivial⟩
      kernel_rfl
   ·have hge:s.length ≤ j:=by
     rcases Nat.lt_or_ge j s.length with h|h
     ·exact absurd (hb.symm.trans (Nat.ble_eq_true_of_le (by rw [aL];exact h))) sm
     ·exact h
    refine go ?_
    rw [hend hj ha (fun h=>by omega),if_neg om]
    rfl
 ·refine enter ?_
  refine go ?_
  refine aZ (fun h=>?_) (fun h=>?_)
  ·rw [aL] at h
   refine go ?_
   rw [decide_eq_true (show 8 < s.length from h)]
  ·rw [aL] at h
   refine go ?_
   rw [decide_eq_false (show ¬ 8 < s.length from Nat.not_lt.2 h)]
theorem aEu {s:List UInt8}(hs:s.length < 9223372036854775807)(hasc:∀ c ∈ s,c.toNat < 128){S:St}{k:V→St→Prop}(hk:k (aEv dO s) S):RC Tryz.prog 175 [.str s,.str [32,9]] S k :=
 wQ (fun n=>by
  show Option.isSome (Bool.rec (motive:=fun _=>Option Nat) (Bool.rec (motive:=fun _=>Option Nat) none (some 1) (Nat.beq 9 n)) (some 0) (Nat.beq 32 n))=(Nat.beq n 32 || Nat.beq n 9)
  have e:∀ a b:Nat,Nat.beq a b=decide (a=b):=aEz
  simp only [e,eq_comm (a:=n)]
  by_cases h1:32=n <;> by_cases h2:9=n <;> simp [h1,h2]) (fun _ _ h=>aDP h) hs hasc hk
theorem aFK {s:List UInt8}(hs:s.length < 9223372036854775807)(hasc:∀ c ∈ s,c.toNat < 128){S:St}{k:V→St→Prop}(hk:k (aEv aEK s) S):RC Tryz.prog 175 [.str s,.str [101,69]] S k :=
 wQ (fun n=>by
  show Option.isSome (Bool.rec (motive:=fun _=>Option Nat) (Bool.rec (motive:=fun _=>Option Nat) none (some 1) (Nat.beq 69 n)) (some 0) (Nat.beq 101 n))=(Nat.beq n 101 || Nat.beq n 69)
  have e:∀ a b:Nat,Nat.beq a b=decide (a=b):=aEz
  simp only [e,eq_comm (a:=n)]
  by_cases h1:101=n <;> by_cases h2:69=n <;> simp [h1,h2]) (fun _ _ h=>aUf h) hs hasc hk
theorem dH {x:Int}{k:Int→Prop}(n:Nat)(hx:x=Int.ofNat n)(h:k (Int.ofNat n)):fI x k:=by subst hx;exact bK h
theorem zM {n:Nat}(h:n < 18446744073709551616):IntKind.u64.wrap (n:Int)=Int.ofNat n :=
 rQ .u64 _ (by simp [IntKind.min,IntKind.signed]) (by simp [IntKind.max,IntKind.signed,IntKind.bits];omega)
theorem rS {a b:Nat}(ha:a < 18446744073709551616)(hb:b < 18446744073709551616):IntKind.u64.wrap ((BitVec.ofInt IntKind.u64.bits (Int.ofNat a) &&& BitVec.ofInt IntKind.u64.bits (Int.ofNat b)).toNat:Int)=Int.ofNat (a &&& b):=by
 have e:∀ x:Nat,x < 18446744073709551616→(BitVec.ofInt 64 (Int.ofNat x)).toNat=x:=fun x hx=>by
  rw [show BitVec.ofInt 64 (Int.ofNat x)=BitVec.ofNat 64 x from BitVec.ofInt_ofNat ..]
  rw [BitVec.toNat_ofNat];exact Nat.mod_eq_of_lt hx
 show IntKind.u64.wrap (((BitVec.ofInt 64 (Int.ofNat a) &&& BitVec.ofInt 64 (Int.ofNat b)).toNat:Nat):Int)=_
 rw [BitVec.toNat_and,e a ha,e b hb]
 exact zM (Nat.lt_of_le_of_lt Nat.and_le_left ha)
theorem aDb {a b:Nat}(ha:a < 18446744073709551616)(hb:b < 18446744073709551616):IntKind.u64.wrap ((BitVec.ofInt IntKind.u64.bits (Int.ofNat a) ||| BitVec.ofInt IntKind.u64.bits (Int.ofNat b)).toNat:Int)=Int.ofNat (a ||| b):=by
 have e:∀ x:Nat,x < 18446744073709551616→(BitVec.ofInt 64 (Int.ofNat x)).toNat=x:=fun x hx=>by
  rw [show BitVec.ofInt 64 (Int.ofNat x)=BitVec.ofNat 64 x from BitVec.ofInt_ofNat ..]
  rw [BitVec.toNat_ofNat];exact Nat.mod_eq_of_lt hx
 show IntKind.u64.wrap (((BitVec.ofInt 64 (Int.ofNat a) ||| BitVec.ofInt 64 (Int.ofNat b)).toNat:Nat):Int)=_
 rw [BitVec.toNat_or,e a ha,e b hb]
 refine zM ?_
 exact Nat.or_lt_two_pow (n:=64) ha hb
theorem qA (a b:Nat):(Int.ofNat a).fdiv (b:Int)=Int.ofNat (a / b):=Int.ofNat_fdiv ..|>.symm
def dG (v:Nat):Nat:=v / 2 ^ 52 % 2048
def kE (v:Nat):Nat:=v % 2 ^ 52
theorem aBD (v:Nat):kE v < 2 ^ 52:=Nat.mod_lt _ dc
theorem aPw:bA Tryz.prog 61 10 [.tmp 2,.tmp 3] (aM Tryz.f61):=fq Tryz.f61
theorem aDW {v:Nat}(hv:v < 18446744073709551616){S:St}{k:V→St→Prop}(hk:k (.tup [.int .i64 (.ofNat (dG v)),.int .u64 (.ofNat (kE v))]) S):RC Tryz.prog 61 [.int .u64 (.ofNat v)] S k:=by
 refine RC.run mixed aV (aH aPw ?_)
 refine enter ?_
 refine go ?_
 refine dH (v / 2 ^ 52) (qA v (2 ^ 52)) ?_
 refine go ?_
 have h1:v / 2 ^ 52 < 4096:=by omega
 refine dH (dG v) ((rS (b:=2047) om om).trans (congrArg Int.ofNat (Nat.and_two_pow_sub_one_eq_mod (v / 2 ^ 52) 11))) ?_
 refine go ?_
 refine bF (dG v) ?_ rfl (by unfold dG;omega)
 refine go ?_
 refine dH (kE v) ((rS (b:=4503599627370495) hv om).trans (congrArg Int.ofNat (Nat.and_two_pow_sub_one_eq_mod v 52))) ?_
 refine go ?_
 exact hk
def jJ (v:Nat):Nat:=if dG v=2047 then (if kE v=0 then 3 else 4) else if 0 < dG v then 2 else if 0 < kE v then 1 else 0
theorem aRZ:bA Tryz.prog 28 26 [.tmp 2] (aM Tryz.f28):=fq Tryz.f28
theorem aGm {v:Nat}(hv:v < 18446744073709551616){S:St}{k:V→St→Prop}(hk:k (.int .u8 (.ofNat (jJ v))) S):RC Tryz.prog 28 [.int .u64 (.ofNat v)] S k:=by
 refine RC.run mixed aV (aH aRZ ?_)
 refine enter ?_
 refine go ?_
 refine aDW hv ?_
 refine go ?_
 unfold jJ at hk
 refine bL (fun (h1:_=2047)=>?_) (fun (h1:_ ≠ 2047)=>?_)
 ·rw [if_pos h1] at hk
  refine go ?_
  refine bL (fun (h2:_=0)=>?_) (fun (h2:_ ≠ 0)=>?_)
  ·rw [if_pos h2] at hk
   refine go ?_
   exact hk
  ·rw [if_neg h2] at hk
   refine go ?_
   refine bL (fun _=>?_) (fun h=>absurd h1 h)
   refine go ?_
   exact hk
 ·rw [if_neg h1] at hk
  refine go ?_
  refine bL (fun h=>absurd h h1) (fun _=>?_)
  refine go ?_
  refine aZ (fun (h2:0 < _)=>?_) (fun (h2:_ ≤ 0)=>?_)
  ·rw [if_pos h2] at hk
   refine go ?_
   exact hk
  ·rw [if_neg (Nat.not_lt.2 h2)] at hk
   refine go ?_
   refine aZ (fun (h3:0 < _)=>?_) (fun (h3:_ ≤ 0)=>?_)
   ·rw [if_pos h3] at hk
    refine go ?_
    exact hk
   ·rw [if_neg (Nat.not_lt.2 h3)] at hk
    refine go ?_
    exact hk
end Go.Am
namespace Go.Am
theorem aIq {v:V}{k:List V→Prop}:∀ {cs:List V} {off:Nat},off < cs.length→k (cs.set off v)→fR [v] off cs k
 | [],off,h,_=>by simp at h
 | c :: cs,0,_,hk=>hk
 | c :: cs,off+1,h,hk=>by
   have:=aIq (v:=v) (k:=fun r=>k (c :: r)) (cs:=cs) (off:=off) (by simpa using h) (by simpa using hk)
   exact this
def dC (ds:List Nat):List V:=ds.map fun d=>.int .u8 (.ofNat (48+d))
theorem lS (ds:List Nat):(dC ds).length=ds.length:=by simp [dC]
theorem aMP {ds:List Nat}{j:Nat}(h:j < ds.length):(dC ds)[j]?=some (.int .u8 (.ofNat (48+ds[j]))):=by simp [dC,h]
theorem aMQ (ds:List Nat)(j d:Nat):(dC ds).set j (.int .u8 (.ofNat (48+d)))=dC (ds.set j d):=by simp [dC,List.map_set]
theorem sI {R:Nat→Nat→Prop}:∀ l:List Nat,oG R (dC l) (dC l)
 | []=>.nil
 | _ :: l=>.cons (.int _ _) (sI l)
def fO:List Nat→Nat
 | []=>0
 | d :: l=>d * 10 ^ l.length+fO l
theorem aHa (a b:List Nat):fO (a ++ b)=fO a * 10 ^ b.length+fO b:=by
 induction a with
 | nil=>simp [fO]
 | cons d a ih=>simp only [List.cons_append,fO,ih,List.length_append,Nat.pow_add,Nat.add_mul,Nat.mul_assoc];omega
def oE (l:List Nat):Prop:=∀ d ∈ l,d < 10
def dZ:List Nat→Nat × List Nat
 | []=>(0,[])
 | d :: l=>((2 * d+(dZ l).1) / 10,(2 * d+(dZ l).1) % 10 :: (dZ l).2)
theorem gK:∀ l,(dZ l).2.length=l.length
 | []=>rfl
 | d :: l=>by simp [dZ,gK l]
theorem tO:∀ {l},oE l→oE (dZ l).2∧(dZ l).1 ≤ 1
 | [],_=>⟨fun d h=>by simp [dZ] at h,by simp [dZ]⟩
 | d :: l,h=>by
   obtain ⟨h1,h2⟩:=tO (l:=l) fun x hx=>h x (by simp [hx])
   have hd:d < 10:=h d sm
   refine ⟨fun x hx=>?_,by simp only [dZ];omega⟩
   simp only [dZ,List.mem_cons] at hx
   rcases hx with rfl|hx
   ·omega
   ·exact h1 x hx
theorem aFS:∀ l,(dZ l).1 * 10 ^ l.length+fO (dZ l).2=2 * fO l
 | []=>rfl
 | d :: l=>by
   have ih:=aFS l
   have e:=Nat.div_add_mod (2 * d+(dZ l).1) 10
   simp only [dZ,fO,List.length_cons,gK,Nat.pow_succ]
   generalize (2 * d+(dZ l).1) / 10=q at *
   generalize (2 * d+(dZ l).1) % 10=r at *
   generalize 10 ^ l.length=P at *
   have e1:q * (P * 10)+r * P=(10 * q+r) * P:=by rw [Nat.add_mul,Nat.mul_comm P 10,← Nat.mul_assoc,Nat.mul_comm q 10]
   rw [← Nat.add_assoc,e1,e,Nat.add_mul,Nat.mul_add,← ih,Nat.mul_assoc];omega
def dbl (l:List Nat):List Nat:=if 0 < (dZ l).1 then (dZ l).1 :: (dZ l).2 else (dZ l).2
theorem aPh (l:List Nat):fO (dbl l)=2 * fO l:=by
 rw [← aFS l]
 unfold dbl
 split
 ·simp [fO,gK]
 ·rename_i h
  have:(dZ l).1=0:=by omega
  rw [this];simp
theorem aMS {l:List Nat}(h:oE l):oE (dbl l):=by
 obtain ⟨h1,h2⟩:=tO h
 unfold dbl
 split
 ·intro d hd
  rcases List.mem_cons.1 hd with rfl|hd
  ·omega
  ·exact h1 d hd
 ·exact h1
theorem aHF (l:List Nat):l.length ≤ (dbl l).length∧(dbl l).length ≤ l.length+1:=by
 unfold dbl
 split <;> simp [gK]
theorem aKA {ds:List Nat}{m:Nat}(h:m < ds.length):dZ (ds.drop m)=((2 * ds[m]+(dZ (ds.drop (m+1))).1) / 10,(2 * ds[m]+(dZ (ds.drop (m+1))).1) % 10 :: (dZ (ds.drop (m+1))).2):=by
 rw [List.drop_eq_getElem_cons h];rfl
def lV:Nat→List Nat→List Nat
 | _,[]=>[]
 | r,d :: l=>(10 * r+d) / 2 :: lV ((10 * r+d) % 2) l
def gH:Nat→List Nat→Nat
 | r,[]=>r
 | r,d :: l=>gH ((10 * r+d) % 2) l
theorem gL:∀ r l,(lV r l).length=l.length
 | _,[]=>rfl
 | r,d :: l=>by simp [lV,gL]
theorem aAF:∀ {r l},r ≤ 1→gH r l ≤ 1
 | r,[],h=>h
 | r,d :: l,_=>aAF (l:=l) om
theorem aDI:∀ {r l},r ≤ 1→oE l→oE (lV r l)
 | r,[],_,_=>fun d h=>by simp [lV] at h
 | r,d :: l,hr,h=>fun x hx=>by
   have hd:d < 10:=h d sm
   simp only [lV,List.mem_cons] at hx
   rcases hx with rfl|hx
   ·omega
   ·exact aDI om (fun y hy=>h y (by simp [hy])) x hx
theorem aJu:∀ r l,2 * fO (lV r l)+gH r l=r * 10 ^ l.length+fO l
 | r,[]=>by simp [lV,gH,fO]
 | r,d :: l=>by
   have ih:=aJu ((10 * r+d) % 2) l
   have e:=Nat.div_add_mod (10 * r+d) 2
   simp only [lV,gH,fO,List.length_cons,gL,Nat.pow_succ]
   generalize (10 * r+d) / 2=q at *
   generalize (10 * r+d) % 2=s at *
   generalize 10 ^ l.length=P at *
   have e1:r * (P * 10)+d * P=(10 * r+d) * P:=by rw [Nat.add_mul,Nat.mul_comm P 10,← Nat.mul_assoc,Nat.mul_comm r 10]
   rw [← Nat.add_assoc,e1,← e,Nat.mul_add,Nat.add_mul,Nat.add_assoc,ih,Nat.mul_assoc];omega
theorem aGg:∀ (r:Nat) (a b:List Nat),lV r (a ++ b)=lV r a ++ lV (gH r a) b
 | _,[],_=>rfl
 | r,d :: a,b=>by simp only [List.cons_append,lV,gH,aGg _ a b]
theorem aGh:∀ (r:Nat) (a b:List Nat),gH r (a ++ b)=gH (gH r a) b
 | _,[],_=>rfl
 | r,d :: a,b=>by simp only [List.cons_append,gH,aGh _ a b]
def hlv (l:List Nat):List Nat:=if 0 < gH 0 l then lV 0 l ++ [5] else lV 0 l
theorem aNw (l:List Nat):2 * fO (hlv l)=(if 0 < gH 0 l then 10 else 1) * fO l:=by
 have h:=aJu 0 l
 have h1:=aAF (r:=0) (l:=l) om
 unfold hlv
 split
 ·rename_i h0
  rw [aHa]
  simp only [List.length_singleton,Nat.pow_one,fO,List.length_nil,Nat.pow_zero]
  omega
 ·rename_i h0
  have:gH 0 l=0:=by omega
  rw [this] at h;omega
theorem aNv {l:List Nat}(h:oE l):oE (hlv l):=by
 have h1:=aDI (r:=0) om h
 unfold hlv
 split
 ·intro d hd
  rcases List.mem_append.1 hd with hd|hd
  ·exact h1 d hd
  ·simp at hd;omega
 ·exact h1
end Go.Am
namespace Go.Am
open Go.Proofs
attribute [local irreducible] fN fI fB bX eR evCode evOps rX kOp aAv wW uM wX kGc aKT aKS kDr kMg drOps eN kT sl
open Go.Sort in
theorem RC.ofCalls {P:Program}{g:FuncId}{n:Nat}{rs:List ResultVar}{c:Code}(hf:bA P g n rs c){l:List V}{v:V}{S S':St}{k:V→St→Prop}
  (h:∀ (ρ:Rho) (w:World) (l':List Value),dW ρ→cP ρ S.hs w→VRs ρ l l'→Calls P g ⟨l'⟩ w fun e w'=>Rt ρ S.hs w v S'.hs e w') (hk:k v S'):RC P g l S k:=by
 obtain ⟨fn,h1,h2,_,_,h3⟩:=hf.at'
 refine .mk v S' (fun ρ w l' hgl hs hl=>?_) hk
 have hcall:(callFunc g ⟨l'⟩).run P w=.ok (.enter g ⟨l'⟩) w:=by
  have h0:¬ fn.name = "runtime.NumGoroutine" := fun e=>by rw [e] at h3;simp at h3
  simp [callFunc,h1,h0,h2]
 rw [hcall]
 exact gJ.2 (h ρ w l' hgl hs hl)
theorem aPs:bA Tryz.prog 116 25 [.tmp 2] (aM Tryz.f116):=fq Tryz.f116
theorem aDO {x:Nat}(hx:x < 18446744073709551616){S:St}{k:V→St→Prop}(hk:k (.int .i64 (.ofNat (Lib.bitLen x))) S):RC Tryz.prog 116 [.int .u64 (.ofNat x)] S k :=
 RC.ofCalls aPs (fun ρ w l' _ hs hl=>by
  cases hl with
  | cons h1 hl =>
    cases h1;cases hl
    exact (Tryz.bits_Len64 (x:Int) w om om).mono fun e w' ⟨he,hw⟩=>by
     subst hw
     exact ⟨_,ρ,he,.int _ _,hs,Ext.refl _ _ _⟩) hk
theorem aPu:bA Tryz.prog 333 51 [.tmp 4,.tmp 5] (aM Tryz.f333):=fq Tryz.f333
theorem aLe {x y:Nat}(hx:x < 18446744073709551616)(hy:y < 18446744073709551616){S:St}{k:V→St→Prop}(hk:k (.tup [.int .u64 (.ofNat (x * y / 18446744073709551616)),.int .u64 (.ofNat (x * y % 18446744073709551616))]) S):RC Tryz.prog 333 [.int .u64 (.ofNat x),.int .u64 (.ofNat y)] S k :=
 RC.ofCalls aPu (fun ρ w l' _ hs hl=>by
  cases hl with
  | cons h1 hl =>
    cases h1
    cases hl with
    | cons h2 hl =>
      cases h2;cases hl
      exact (Tryz.bits_Mul64 x y hx hy w).mono fun e w' ⟨he,hw⟩=>by
       subst hw
       exact ⟨_,ρ,he,.tup (.cons (.int _ _) (.cons (.int _ _) .nil)),hs,Ext.refl _ _ _⟩) hk
theorem aPz:bA Tryz.prog 191 15 [.tmp 2] (aM Tryz.f191):=fq Tryz.f191
theorem aEd {i:Nat}(hi:i < 100){S:St}{k:V→St→Prop}(hk:k (.str (Lib.decDigits i)) S):RC Tryz.prog 191 [.int .i64 (.ofNat i)] S k :=
 RC.ofCalls aPz (fun ρ w l' _ hs hl=>by
  cases hl with
  | cons h1 hl =>
    cases h1;cases hl
    exact (Tryz.internal_strconv_small i hi w).mono fun e w' ⟨he,hw⟩=>by
     subst hw
     exact ⟨_,ρ,he,.str _,hs,Ext.refl _ _ _⟩) hk
def bC (l:List UInt8):List V:=l.map fun b=>.int .u8 (.ofNat b.toNat)
theorem cS (l:List UInt8):(bC l).length=l.length:=by simp [bC]
theorem aPq:bA Tryz.prog 193 167 [] (aM Tryz.f193):=fq Tryz.f193
open Go.Sort in
theorem aKJ {u:Nat}(hu:u < 18446744073709551616){pre post:List V}{mid:List UInt8}(hm:mid.length=Lib.nDigits u)(h100:mid.length ≤ 100){S:St}{id c:Nat}{ex:Bool}{e:TypeId}{fl:Fl}(hfl:fl ≠ .ro)(hc:mid.length ≤ c)
  (hg:S.hs.get id=some (.cells (pre ++ bC mid ++ post) e fl)) {k:V→St→Prop} (hir:id < room) (hk:∀ S',S'.hs=S.hs.put id (some (.cells (pre ++ bC (Lib.decDigits u) ++ post) e fl))→k (.tup []) S') :
  RC Tryz.prog 193 [.slice id pre.length mid.length c 1 ex,.int .u64 (.ofNat u)] S k:=by
 have hn1:=Lib.nDigits_pos u
 have hdl:=Lib.decDigits_length u
 obtain ⟨S',hS',hk'⟩:∃ S',S'.hs=S.hs.put id (some (.cells (pre ++ bC (Lib.decDigits u) ++ post) e fl))∧k (.tup []) S':=by
  have hq:bI id (some (.cells (pre ++ bC (Lib.decDigits u) ++ post) e fl)) S fun S'=>S'.hs=S.hs.put id (some (.cells (pre ++ bC (Lib.decDigits u) ++ post) e fl))∧k (.tup []) S':=aD hir fun S' h=>⟨h,hk S' h⟩
  obtain ⟨S',h,_⟩:=bS hq
  exact ⟨S',h⟩
 refine RC.ofCalls (S':=S') aPq (fun ρ w l' _ hs hl=>?_) hk'
 cases hl with
 | cons h1 hl =>
 cases hl with
 | cons h2 hl =>
 cases h2;cases hl
 cases h1 with
 | sliceS _ _ _ _ _ off' cap' sp hloc ho hcc hx hll hr hsp =>
 rename_i l0
 obtain rfl:=hsp om
 have hoff:off'=pre.length:=ho om
 subst hoff
 obtain ⟨lx,co,a,b,cc,f,rfl,hsz,hle,hcells,hrw,hex⟩:=hs.obj id _ hg
 rw [hloc] at a
 cases a
 have hlen:(pre ++ bC mid ++ post).length=pre.length+mid.length+post.length:=by simp [bC];omega
 have hH:Holds (fun (b:UInt8)=>Value.int .u8 (b.toNat:Int)) w l0.blk (l0.base+pre.length) ⟨mid⟩:=fun j hj=>by
  have hj':j < mid.length:=hj
  obtain ⟨v',hv',hvr⟩:=hcells (pre.length+j) (.int .u8 (.ofNat mid[j].toNat)) (by
   rw [List.append_assoc,List.getElem?_append_right om,Nat.add_sub_cancel_left,List.getElem?_append_left (by rw [cS];exact hj')]
   simp [bC,hj'])
  cases hvr
  refine ⟨?_,?_⟩
  ·rw [show l0.base+pre.length+j=l0.base+(pre.length+j) by omega]
   simp [World.cell?,b,hv',hj']
  ·have h3:=(hrw hfl).2 (l0.base+pre.length+j) om
   simp [World.frozen?,b]
   omega
 refine (Tryz.internal_strconv_formatBase10 l0.blk (l0.base+pre.length) cap' u ⟨mid⟩ w hH (by show u < 10 ^ mid.length;rw [hm];exact Lib.lt_pow_nDigits u) hu (by show mid.length < _;omega)).mono fun e' w' ⟨he,n,v',dk,hw,hfm⟩=>?_
 have hfm':Lib.FmtInv (Lib.nDigits u) u 0 v' dk:=by rw [← hm];exact hfm
 have hdk:dk.toList=Lib.decDigits u:=by
  apply List.ext_getElem
  ·have:=hfm'.size
   rw [Array.length_toList,this,hdl]
  ·intro j h1 h2
   rw [Lib.row_is_numeral hfm' j h2,getElem!_pos dk j (by simpa using h1)]
   simp
 refine ⟨.tuple #[],ρ,he,.tup .nil,?_⟩
 rw [hS',hw]
 have hput:=hs.put_cells (w':=putRow (fun (b:UInt8)=>Value.int .u8 (b.toNat:Int)) w l0.blk (l0.base+pre.length) dk) (cs':=pre ++ bC (Lib.decDigits u) ++ post) (fl':=fl) hg hloc (hrw hfl).1 (co':=.cells (putCells (fun (b:UInt8)=>Value.int .u8 (b.toNat:Int)) (l0.base+pre.length) dk cc) e f) ?_ ?_ ?_ rfl rfl rfl ?_ (Nat.le_refl _)
 ·exact ⟨hput.1.ahead n,hput.2.trans (Ext.ahead _ _ _ n)⟩
 ·show (w.heap.modify l0.blk (onCells _))[l0.blk]?=_
  rw [Array.getElem?_modify,if_pos rfl,b]
  rfl
 ·intro b' hb'
  show (w.heap.modify l0.blk (onCells _))[b']?=_
  rw [Array.getElem?_modify,if_neg (Ne.symm hb')]
 ·show (w.heap.modify l0.blk _).size=_
  simp
 ·have hdks:dk.size=mid.length:=by rw [hfm'.size,hm]
  have hlen':(pre ++ bC (Lib.decDigits u) ++ post).length=(pre ++ bC mid ++ post).length:=by simp [bC,hdl,hm]
  refine ⟨_,f,rfl,by simpa [putCells] using hsz,by rw [hlen'];simpa [putCells] using hle,fun i v hv=>?_,fun h=>⟨(hrw h).1,fun o ho=>(hrw h).2 o (by simpa [putCells] using ho)⟩,fun h=>by rw [hlen'];simpa [putCells] using hex h⟩
  have hi:i < (pre ++ bC mid ++ post).length:=by rw [← hlen'];exact (List.getElem?_eq_some_iff.1 hv).1
  have hlt2:l0.base+i < cc.size:=by omega
  have hput:(putCells (fun (b:UInt8)=>Value.int .u8 (b.toNat:Int)) (l0.base+pre.length) dk cc)[l0.base+i]?=some (if l0.base+pre.length ≤ l0.base+i∧l0.base+i < l0.base+pre.length+dk.size then .int .u8 ((dk[l0.base+i - (l0.base+pre.length)]!).toNat:Int) else cc[l0.base+i]):=by
   simp only [putCells,Array.getElem?_mapIdx,Array.getElem?_eq_getElem hlt2,Option.map_some]
  rw [hput]
  refine ⟨_,rfl,?_⟩
  by_cases hin:pre.length ≤ i∧i < pre.length+mid.length
  ·rw [if_pos om]
   have e1:l0.base+i - (l0.base+pre.length)=i - pre.length:=by omega
   rw [e1]
   rw [List.append_assoc,List.getElem?_append_right hin.1,List.getElem?_append_left (by rw [cS,hdl];omega)] at hv
   have hj:i - pre.length < (Lib.decDigits u).length:=by rw [hdl];omega
   have:v=.int .u8 (.ofNat ((Lib.decDigits u)[i - pre.length]).toNat):=by simpa [bC,hj] using hv.symm
   rw [this,Lib.row_is_numeral hfm' _ hj]
   exact .int _ _
  ·rw [if_neg om]
   have hv2:(pre ++ bC mid ++ post)[i]?=some v:=by
    rw [← hv]
    rcases Nat.lt_or_ge i pre.length with h|h
    ·rw [List.append_assoc,List.append_assoc,List.getElem?_append_left h,List.getElem?_append_left h]
    ·have h':pre.length+mid.length ≤ i:=by
      rcases Nat.lt_or_ge i (pre.length+mid.length) with h2|h2
      ·exact absurd ⟨h,h2⟩ hin
      ·exact h2
     rw [List.getElem?_append_right (by simp [bC];omega),List.getElem?_append_right (by simp [bC,hdl];omega)]
     simp [bC,hdl,hm]
   obtain ⟨v2,h2,h3⟩:=hcells i v hv2
   rw [Array.getElem?_eq_getElem hlt2] at h2
   rw [Option.some.inj h2];exact h3
def aDc:List V:=(List.range 20).map fun i=>.int .u64 (.ofNat (10 ^ i))
theorem aOf {i:Nat}(h:i < 20):aDc[i]?=some (.int .u64 (.ofNat (10 ^ i))):=by simp [aDc,h]
theorem aDU:V.flat.V.flatL aDc=true:=by kernel_rfl
theorem aEt:qP Tryz.prog 41=some false:=by kernel_rfl
def jF (S:St):Prop:=∃ e,S.hs.get 4=some (.cells aDc e .ro)
theorem aTs:bA Tryz.prog 226 6 [.tmp 2] (aM Tryz.f226):=fq Tryz.f226
theorem aPS {x:Nat}(hx:x ≤ 64){S:St}{k:V→St→Prop}(hk:k (.int .i64 (.ofNat (Lib.l10 x))) S):RC Tryz.prog 226 [.int .i64 (.ofNat x)] S k:=by
 refine RC.run mixed aV (aH aTs ?_)
 refine enter ?_
 refine go ?_
 refine bF (x * 78913) ?_
 refine go ?_
 refine dH (x * 78913 / 2 ^ 18) (qA (x * 78913) (2 ^ 18)) ?_
 refine go ?_
 exact hk
theorem aTb:bA Tryz.prog 227 4 [.tmp 2] (aM Tryz.f227):=fq Tryz.f227
theorem aAA {b:Bool}{S:St}{k:V→St→Prop}(hk:k (.int .i64 (.ofNat b.toNat)) S):RC Tryz.prog 227 [.bool b] S k:=by
 refine RC.run mixed aV (aH aTb ?_)
 refine enter ?_
 refine go ?_
 cases b with
 | true =>
   refine go ?_
   exact hk
 | false =>
   refine go ?_
   exact hk
theorem aVb:bA Tryz.prog 192 15 [.tmp 2] (aM Tryz.f192):=fq Tryz.f192
theorem pN {u:Nat}(h1:1 ≤ u)(hu:u < 18446744073709551616){S:St}(h10:jF S){k:V→St→Prop}(hk:k (.int .i64 (.ofNat (Lib.nDigits u))) S):RC Tryz.prog 192 [.int .u64 (.ofNat u)] S k:=by
 obtain ⟨e,h10⟩:=h10
 obtain ⟨n1,n2⟩:=Lib.numDigits_eq u h1 hu
 have hb:Lib.bitLen u ≤ 64:=Lib.bitLen_le u 64 (Nat.le_refl _) hu
 refine RC.run mixed aV (aH aVb ?_)
 refine enter ?_
 refine go ?_
 refine aDO hu ?_
 refine go ?_
 refine aPS hb ?_
 refine go ?_
 refine ifK_intro (Nat.ble_eq_true_of_le (show _+1 ≤ 20 by omega)) ?_
 refine go ?_
 refine aA h10 ?_
 refine aE aEt (Lib.l10 (Lib.bitLen u)) (by show 0+_ * 1=_;omega) (aOf om) ?_
 refine go ?_
 refine aZ (fun h=>?_) (fun h=>?_)
 ·refine go ?_
  refine aAA ?_
  refine go ?_
  rw [if_neg om] at n1
  refine bF (Lib.nDigits u) ?_ (by show Int.add (Int.ofNat _) 0=_;rw [← n1];rfl) om
  refine go ?_
  exact hk
 ·refine go ?_
  refine aAA ?_
  refine go ?_
  rw [if_pos h] at n1
  refine bF (Lib.nDigits u) ?_ (by show Int.add (Int.ofNat _) 1=_;rw [← n1];rfl) om
  refine go ?_
  exact hk
theorem mA {u:Nat}(h1:1 ≤ u)(hu:u < 18446744073709551616):Lib.nDigits u ≤ 20:=by
 obtain ⟨n1,n2⟩:=Lib.numDigits_eq u h1 hu
 split at n1 <;> omega
theorem aJT {α:Type}{n:Nat}{l m:List α}{k:List α→Prop}(hl:n ≤ l.length)(h:l.take n=m)(hk:k m):hC n l k:=bJ hl (by rw [h];exact hk)
theorem fG:∀ {l:List UInt8} {k:List UInt8→Prop},k l→yG (bC l) k
 | [],k,h=>h
 | b :: l,k,h=>by
   show cZ (Nat.blt b.toNat 256) (yG (bC l) fun r=>k (UInt8.ofNat b.toNat :: r))
   refine ifK_intro (Nat.ble_eq_true_of_le (UInt8.toNat_lt b)) (fG ?_)
   rw [show UInt8.ofNat b.toNat=b from UInt8.ofNat_toNat];exact h
theorem aBA {u:Nat}{pre post:List V}{mid:List UInt8}{off n es:Nat}(ho:off=pre.length)(hn:n=mid.length)(hes:es=1)(hm:mid.length=Lib.nDigits u)(h100:mid.length ≤ 100){S:St}{id c:Nat}{ex:Bool}{e:TypeId}{fl:Fl}(hfl:fl ≠ .ro)(hc:mid.length ≤ c)(hu:u < 18446744073709551616)
  (hg:S.hs.get id=some (.cells (pre ++ bC mid ++ post) e fl)) {k:V→St→Prop} (hir:id < room) (hk:∀ S',S'.hs=S.hs.put id (some (.cells (pre ++ bC (Lib.decDigits u) ++ post) e fl))→k (.tup []) S') :
  RC Tryz.prog 193 [.slice id off n c es ex,.int .u64 (.ofNat u)] S k:=by subst ho;subst hn;subst hes;exact aKJ hu hm h100 hfl hc hg hir hk
theorem aTn:bA Tryz.prog 144 32 [.tmp 4] (aM Tryz.f144):=fq Tryz.f144
theorem aRY:bA Tryz.prog 99 8 [.tmp 4] (aM Tryz.f99):=fq Tryz.f99
theorem qB {S:St}(h:jF S):∃ e,Gb [(4,.cells aDc e .ro)] S:=by
 obtain ⟨e,h⟩:=h
 exact ⟨e,.cons (show 4 < 1000 by decide) rfl h (fun _ _ _=>aEO aDU) (.nil _)⟩
theorem aPI {u:Nat}(hu:u < 18446744073709551616){S:St}(h10:jF S){k:V→St→Prop}(hk:k (.str (Lib.decDigits u)) S):RC Tryz.prog 144 [.int .u64 (.ofNat u),.int .i64 10] S k:=by
 obtain ⟨e,hgb⟩:=qB h10
 refine RC.pureG mixed aTn _ hgb hk ?_
 refine build ?_
 refine enter ?_
 refine go ?_
 refine aZ (fun (h:_ < 100)=>?_) (fun (h:100 ≤ _)=>?_)
 ·refine go ?_
  refine bF u ?_
  refine go ?_
  refine aEd h ?_
  refine go ?_
  rfl
 ·refine go ?_
  refine pN om hu ⟨e,rfl⟩ ?_
  have hn:=mA om hu
  refine go ?_
  refine ifK_intro (Nat.ble_eq_true_of_le (show _ ≤ 24 by omega)) ?_
  refine go ?_
  have hz:List.replicate 24 (V.int .u8 (.ofNat 0))=[] ++ bC (List.replicate (Lib.nDigits u) 0) ++ List.replicate (24 - Lib.nDigits u) (V.int .u8 (.ofNat 0)):=by
   have e1:bC (List.replicate (Lib.nDigits u) 0)=List.replicate (Lib.nDigits u) (V.int .u8 (.ofNat 0)):=by simp [bC]
   rw [e1,List.nil_append,List.replicate_append_replicate]
   congr 1;omega
  refine aBA (pre:=[]) (post:=List.replicate (24 - Lib.nDigits u) (V.int .u8 (.ofNat 0))) (mid:=List.replicate (Lib.nDigits u) 0) (e:=284) (fl:=.ex) rfl sm rfl sm (by simp;omega) sm (by simp;omega) hu (show _=some (O.cells _ _ _) by rw [← hz];rfl) dc fun S1 hS1=>?_
  refine go ?_
  refine aA (aT hS1) ?_
  have hl24:([] ++ bC (Lib.decDigits u) ++ List.replicate (24 - Lib.nDigits u) (V.int .u8 (.ofNat 0))).length=24:=by simp [cS,Lib.decDigits_length];omega
  refine go ?_
  refine ifK_intro (by rw [aL,hl24];rfl) ?_
  refine go ?_
  refine ifK_intro (Nat.ble_eq_true_of_le (show Lib.nDigits u ≤ 24 by omega)) ?_
  refine go ?_
  refine aA (aT hS1) ?_
  refine go ?_
  have e2:List.take (Lib.nDigits u) ([] ++ bC (Lib.decDigits u) ++ List.replicate (24 - Lib.nDigits u) (V.int .u8 (.ofNat 0)))=bC (Lib.decDigits u):=by
   rw [List.nil_append,List.take_left' (by rw [cS,Lib.decDigits_length])]
  refine aJT (by rw [hl24];show Lib.nDigits u ≤ 24;omega) e2 ?_
  refine fG ?_
  refine go ?_
  rfl
theorem aGf {u:Nat}(hu:u < 18446744073709551616){S:St}(h10:jF S){k:V→St→Prop}(hk:k (.str (Lib.decDigits u)) S):RC Tryz.prog 99 [.int .u64 (.ofNat u),.int .i64 10] S k:=by
 refine RC.run mixed aV (aH aRY ?_)
 refine enter ?_
 refine go ?_
 refine aPI hu h10 ?_
 refine go ?_
 exact hk
theorem aOd {v:V}{k:List V→Prop}{cs cs':List V}{off:Nat}(off':Nat)(ho:off=off')(h:off' < cs.length)(hc:cs.set off' v=cs')(hk:k cs'):fR [v] off cs k:=by subst ho;subst hc;exact aIq h hk
theorem aJS {α:Type}{n:Nat}{l:List α}{k:List α→Prop}(h:n=l.length)(hk:k l):hC n l k:=bJ om (by rw [h,List.take_length];exact hk)
theorem aMp:qP Tryz.prog 5=some false:=by kernel_rfl
structure Num (S:St)(p b:Nat)(ds:List Nat)(h:Nat):Prop where
 held:∃ q ex fl,fl ≠ .ro∧p ≠ q∧b ≠ q∧aN ≤ q∧q < S.next∧S.hs.get p=some (.cells [.slice q 0 ds.length ds.length 1 ex] 75 .ex)∧S.hs.get q=some (.cells (dC ds) 5 fl)
 beh:S.hs.get b=some (.cells [.int .i64 (.ofNat h)] 3 .ex)
 ne:p ≠ b
 hp:aN ≤ p∧p < S.next
 hb:aN ≤ b∧b < S.next
theorem aCF:∀ {l:List (Nat × O)} {S:St} {k:St→Prop},(∀ q ∈ l,q.1 < room)→(∀ S',S'.hs=rP l S.hs→k S')→aIM l S k
 | [],S,k,_,h=>h S rfl
 | q :: l,S,k,hr,h=>by
   show aIM l S fun S=>bI q.1 (some q.2) S k
   refine aCF (fun x hx=>hr x (by simp [hx])) fun S1 h1=>aD (hr q sm) fun S2 h2=>h S2 ?_
   rw [h2,h1];rfl
theorem mT:∀ {l:List O} {S:St} {k:St→Prop},S.next+l.length < room→(∀ S',S'.hs=gQ l S.hs→k S')→jL l S k
 | [],S,k,_,h=>h S rfl
 | o :: l,S,k,hr,h=>by
   show bR o S fun _ S=>jL l S k
   refine aF (by simp at hr;omega) fun S1 h1=>mT (by have:=aK h1;simp at hr;omega) fun S2 h2=>h S2 ?_
   rw [h2,h1];rfl
theorem aOF {q:Nat}{ids:List Nat}{ks2 news:List O}{S:St}{k:St→Prop}(hr:S.next+news.length < room)(hi:∀ i ∈ ids,i < room)(h:∀ S',S'.hs=gQ news (rP ((ids.drop q).zip ks2) S.hs)→k S'):aIM ((ids.drop q).zip ks2) S fun S1=>jL news S1 k:=by
 refine aCF (fun x hx=>hi x.1 ?_) fun S1 h1=>mT (by
  have:S1.next=S.next:=by
   have:=congrArg Hs.next h1
   rw [mX] at this;exact this
  omega) fun S2 h2=>h S2 (by rw [h2,h1])
 have:=(List.of_mem_zip (show (x.1,x.2) ∈ _ from hx)).1
 exact List.mem_of_mem_drop this
theorem aTh:bA Tryz.prog 100 34 [] (aM Tryz.f100):=fq Tryz.f100
theorem aHJ {ds:List Nat}(hd:oE ds)(hne:ds ≠ [])(hlen:ds.length ≤ 2000){S:St}{p b h:Nat}(hN:Num S p b ds h)(hroom:S.next+1 < 4096){k:V→St→Prop}(hk:∀ S',Num S' p b (dbl ds) h→S'.next ≤ S.next+1→k (.tup []) S'):RC Tryz.prog 100 [.ptr p 0] S k:=by
 obtain ⟨⟨q,ex,fl,hfl,hpq,hbq,hq,hqn,gp,gq⟩,gb,hpb,hp,hb⟩:=hN
 have hn0:0 < ds.length:=List.length_pos_iff.2 hne
 refine RC.small mixed aTh (l:=[.ptr (aN+1) 0]) 0 [q,p] [.cells (dC ds) 5 fl,.cells [.slice q 0 ds.length ds.length 1 ex] 75 .ex] [.cells (dC ds) 5 .rw,.cells [.slice aN 0 ds.length ds.length 1 false] 75 .ex]
  [.cells (dC (dZ ds).2) 5 .rw,.cells [if 0 < (dZ ds).1 then .slice S.next 0 (1+ds.length) (1+ds.length) 1 false else .slice q 0 ds.length ds.length 1 false] 75 .ex]
  (if 0 < (dZ ds).1 then [.cells (dC (dbl ds)) 5 .rw] else []) (v2:=.tup []) ?_ sm rfl rfl rfl ?_ ?_ (.cons (.ptr _ (jC.at (a:=1) rfl sm)) .nil) ?_ ?_ ?_ ?_
 ·rintro (_|_|a) (_|_|c) i _ h1 h2 <;> simp at h1 h2 <;> first|rfl|(subst h1;exact absurd h2 hpq)|(subst h1;exact absurd h2.symm hpq)
 ·rintro (_|_|a) i o h1 h2
  ·simp at h1 h2;subst h1;subst h2;exact gq
  ·simp at h1 h2;subst h1;subst h2;exact gp
  ·simp at h1
 ·rintro (_|_|a) o1 o2 h1 h2
  ·simp at h1 h2;subst h1;subst h2
   refine .cells (sI _) ?_
   cases fl with
   | ro=>exact absurd rfl hfl
   | ex=>exact .inr (.inl rfl)
   | rw=>exact .inl rfl
  ·simp at h1 h2;subst h1;subst h2
   exact .cells (.cons (.slice _ _ _ _ _ _ _ (jC.at (a:=0) rfl sm) (.inl rfl) (Nat.le_refl _) sm) .nil) (.inl rfl)
  ·simp at h1
 ·rintro (_|_|a) o h
  ·simp at h;subst h;rfl
  ·simp at h;subst h;rfl
  ·simp at h
 ·intro a o h
  split at h
  ·rcases a with _|a
   ·simp at h;subst h;rfl
   ·simp at h
  ·simp at h
 ·generalize hK:aAm _ _ _ _ _ _ _=K
  refine build ?_
  refine enter ?_
  refine go ?_
  refine aHe ?_ (by show ds.length ≤ _;omega)
  refine go ?_
  refine LP.induct ds.length (fun j E S'=>∃ m,m+j=ds.length∧S'=rY [(aN,.cells (dC (ds.take m ++ (dZ (ds.drop m)).2)) 5 .rw),(aN+1,.cells [.slice aN 0 ds.length ds.length 1 false] 75 .ex)] (aN+2)∧Kn E 34 [(0,.ptr (aN+1) 0),(1,.int .u8 (.ofNat (dZ (ds.drop m)).1)),(2,.int .i64 (pvI m))]) ⟨ds.length,rfl,?_,?_⟩ ?_
  ·rw [List.take_length,List.drop_length]
   simp only [dZ,List.append_nil]
   kernel_rfl
  ·rw [List.drop_length]
   exact ⟨rfl,rfl,rfl,rfl,trivial⟩
  rintro j E S' ⟨m,hm,hS,hf⟩ ih
  subst hS
  refine LP.kn mixed hf ?_
  cases m with
  | succ m =>
    have hlt:m < ds.length:=by omega
    have hst:=aKA hlt
    have hd10:ds[m] < 10:=hd _ (List.getElem_mem hlt)
    have hc1:(dZ (ds.drop (m+1))).1 ≤ 1:=(tO fun x hx=>hd x (List.mem_of_mem_drop hx)).2
    have hlc:(dC (ds.take (m+1) ++ (dZ (ds.drop (m+1))).2)).length=ds.length:=by
     rw [lS,List.length_append,gK,List.length_take,List.length_drop];omega
    have hget:(dC (ds.take (m+1) ++ (dZ (ds.drop (m+1))).2))[m]?=some (.int .u8 (.ofNat (48+ds[m]))):=by
     rw [aMP (by rw [List.length_append,List.length_take];omega)]
     rw [List.getElem_append_left (by rw [List.length_take];omega),List.getElem_take]
    generalize hc:(dZ (ds.drop (m+1))).1=c at *
    generalize hx:ds[m]=x at *
    refine go ?_
    refine ifK_intro (Nat.ble_eq_true_of_le hlt) ?_
    refine go ?_
    refine aE aMp m (by show 0+m * 1=m;omega) hget ?_
    refine go ?_
    refine nA x ?_ (by show 48+x=x+48;omega) (by show x ≤ 255;omega)
    refine go ?_
    refine aY (2 * x) rfl (by show 2 * x ≤ 255;omega) ?_
    refine go ?_
    refine aY (2 * x+c) rfl (by show 2 * x+c ≤ 255;omega) ?_
    refine go ?_
    refine dH ((2 * x+c) % 10) rfl ?_
    refine go ?_
    refine aY (48+(2 * x+c) % 10) rfl (by show 48+(2 * x+c) % 10 ≤ 255;omega) ?_
    refine go ?_
    refine aY ((2 * x+c) / 10) rfl (by show (2 * x+c) / 10 ≤ 255;omega) ?_
    refine go ?_
    refine ifK_intro (Nat.ble_eq_true_of_le hlt) ?_
    refine go ?_
    refine aOd (cs':=dC (ds.take m ++ (dZ (ds.drop m)).2)) m (by show 0+m * 1=m;omega) (by rw [hlc];exact hlt) ?_ ?_
    ·rw [aMQ,hst]
     congr 1
     rw [List.take_succ_eq_append_getElem hlt,List.append_assoc,List.set_append_right _ _ (by rw [List.length_take];omega),List.length_take,Nat.min_eq_left om,Nat.sub_self]
     rfl
    refine go ?_
    refine aHe ?_
    refine go ?_
    refine ih _ _ om ⟨m,by omega,?_,rfl,rfl,?_,rfl,trivial⟩
    ·kernel_rfl
    ·rw [hst];rfl
  | zero =>
    have e1:ds.take 0 ++ (dZ (ds.drop 0)).2=(dZ ds).2:=rfl
    have e2:(dZ (ds.drop 0)).1=(dZ ds).1:=rfl
    rw [e1,e2] at *
    refine go ?_
    refine aZ (fun (hc:0 < _)=>?_) (fun (hc:_ ≤ 0)=>?_)
    ·simp only [if_pos hc] at hK ⊢
     have hc1:=(tO hd).2
     have hl2:=gK ds
     have hdb:dbl ds=(dZ ds).1 :: (dZ ds).2:=by unfold dbl;rw [if_pos hc]
     rw [hdb] at hK
     generalize (dZ ds).1=c at *
     generalize (dZ ds).2=l at *
     refine go ?_
     refine aY (48+c) rfl (by show 48+c ≤ 255;omega) ?_
     refine go ?_
     refine aJS (by rw [lS,hl2];show ds.length * 1=_;omega) ?_
     refine go ?_
     refine cC (fun hb=>?_) (fun _=>?_)
     ·have:=Nat.le_of_ble_eq_true hb
      have h3:1+ds.length ≤ 1:=this
      omega
     refine go ?_
     refine ifK_intro (Nat.ble_eq_true_of_le (show (1+ds.length) * 2 ≤ 70368744177664 by omega)) ?_
     refine go ?_
     rw [← hK]
     refine ⟨[aN+3],dJ _,fun g hg=>by rw [List.mem_singleton] at hg;subst hg;exact Nat.le_of_ble_eq_true rfl,.tup .nil,⟨⟨_,rfl,.cells (sI _) (.inl rfl)⟩,⟨_,rfl,.cells (.cons (.slice _ _ _ _ _ _ _ (sE.new (a:=0) rfl (Nat.le_of_ble_eq_true rfl) sm) (.inl rfl) (Nat.le_refl _) (fun h=>⟨h,rfl⟩)) .nil) (.inl rfl)⟩,trivial⟩,⟨⟨_,rfl,.cells (.cons (.int _ _) (sI _)) (.inl rfl)⟩,trivial⟩⟩
    ·simp only [if_neg (show ¬ 0 < (dZ ds).1 by omega)] at hK ⊢
     refine go ?_
     rw [← hK]
     refine ⟨[],List.nodup_nil,by simp,.tup .nil,⟨⟨_,rfl,.cells (sI _) (.inl rfl)⟩,⟨_,rfl,.cells (.cons (.slice _ _ _ _ _ _ _ (sE.at (a:=0) rfl (Nat.le_of_ble_eq_true rfl) (Nat.zero_le _)) (.inl rfl) (Nat.le_refl _) (fun h=>⟨h,rfl⟩)) .nil) (.inl rfl)⟩,trivial⟩,trivial⟩
 ·have hrm:room=4096:=rfl
  refine aOF (by split <;> simp only [List.length_cons,List.length_nil] <;> omega) (fun i hi=>by simp only [List.mem_cons,List.mem_nil_iff,or_false] at hi;omega) fun S' hS'=>?_
  have hnext:S'.next=S.next+(if 0 < (dZ ds).1 then 1 else 0):=by
   have:=congrArg Hs.next hS'
   rw [nZ,mX] at this
   rw [show S'.next=S'.hs.next from rfl,this]
   split <;> rfl
  have hget:∀ i,S'.hs.get i=(gQ (if 0 < (dZ ds).1 then [.cells (dC (dbl ds)) 5 .rw] else []) (rP ([q,p].zip [.cells (dC (dZ ds).2) 5 .rw,.cells [if 0 < (dZ ds).1 then .slice S.next 0 (1+ds.length) (1+ds.length) 1 false else .slice q 0 ds.length ds.length 1 false] 75 .ex]) S.hs)).get i:=fun i=>by rw [hS'];rfl
  have hnx:S.hs.next=S.next:=rfl
  refine hk S' ⟨?_,?_,hpb,⟨hp.1,by omega⟩,⟨hb.1,by omega⟩⟩ (by rw [hnext];split <;> omega)
  ·by_cases hc:0 < (dZ ds).1
   ·have hl:(dbl ds).length=1+ds.length:=by unfold dbl;rw [if_pos hc];simp [gK];omega
    refine ⟨S.next,false,.rw,by simp,by omega,by omega,by omega,by rw [hnext,if_pos hc];omega,?_,?_⟩
    ·rw [hget,if_pos hc,if_pos hc,hl]
     simp only [gQ,Hs.new,mX,hnx,if_neg (show ¬ p=S.next by omega),rP,List.zip_cons_cons,Hs.put,if_neg hpq,if_pos]
    ·rw [hget,if_pos hc]
     simp only [gQ,Hs.new,mX,hnx,if_pos]
   ·have hl:dbl ds=(dZ ds).2:=by unfold dbl;rw [if_neg hc]
    refine ⟨q,false,.rw,by simp,hpq,hbq,hq,by rw [hnext];omega,?_,?_⟩
    ·rw [hget,if_neg hc,if_neg hc,hl,gK]
     simp only [gQ,rP,List.zip_cons_cons,Hs.put,if_neg hpq,if_pos]
    ·rw [hget,if_neg hc,hl]
     simp only [gQ,rP,List.zip_cons_cons,Hs.put,if_pos]
  ·rw [hget]
   by_cases hc:0 < (dZ ds).1
   ·rw [if_pos hc,if_pos hc]
    simp only [gQ,Hs.new,mX,hnx,if_neg (show ¬ b=S.next by omega),rP,List.zip_cons_cons,Hs.put,if_neg hbq,if_neg (Ne.symm hpb)]
    exact gb
   ·rw [if_neg hc,if_neg hc]
    simp only [gQ,rP,List.zip_cons_cons,Hs.put,if_neg hbq,if_neg (Ne.symm hpb)]
    exact gb
theorem aKP {ds:List Nat}{m:Nat}(h:m < ds.length)(r:Nat):gH r (ds.take (m+1))=(10 * gH r (ds.take m)+ds[m]) % 2:=by
 rw [List.take_succ_eq_append_getElem h,aGh];rfl
theorem aKO {ds:List Nat}{m:Nat}(h:m < ds.length)(r:Nat):lV r (ds.take (m+1))=lV r (ds.take m) ++ [(10 * gH r (ds.take m)+ds[m]) / 2]:=by
 rw [List.take_succ_eq_append_getElem h,aGg];rfl
theorem aTl:bA Tryz.prog 101 34 [] (aM Tryz.f101):=fq Tryz.f101
theorem aKN {ds:List Nat}(hd:oE ds)(hne:ds ≠ [])(hlen:ds.length ≤ 2000){S:St}{p b h:Nat}(hh:h ≤ 2000)(hN:Num S p b ds h)(hroom:S.next+1 < 4096){k:V→St→Prop}(hk:∀ S',Num S' p b (hlv ds) (if 0 < gH 0 ds then h+1 else h)→S'.next ≤ S.next+1→k (.tup []) S'):RC Tryz.prog 101 [.ptr p 0,.ptr b 0] S k:=by
 obtain ⟨⟨q,ex,fl,hfl,hpq,hbq,hq,hqn,gp,gq⟩,gb,hpb,hp,hb⟩:=hN
 have hn0:0 < ds.length:=List.length_pos_iff.2 hne
 have hrm:room=4096:=rfl
 refine RC.small2 mixed aTl [] (l:=[.ptr (aN+1) 0,.ptr (aN+2) 0]) 0 [q,p,b] [.cells (dC ds) 5 fl,.cells [.slice q 0 ds.length ds.length 1 ex] 75 .ex,.cells [.int .i64 (.ofNat h)] 3 .ex] [.cells (dC ds) 5 .rw,.cells [.slice aN 0 ds.length ds.length 1 false] 75 .ex,.cells [.int .i64 (.ofNat h)] 3 .ex]
  [if 0 < gH 0 ds then none else some (.cells (dC (lV 0 ds)) 5 .rw),some (.cells [if 0 < gH 0 ds then .slice S.next 0 (ds.length+1) (ds.length+1) 1 false else .slice q 0 ds.length ds.length 1 false] 75 .ex),some (.cells [.int .i64 (.ofNat (if 0 < gH 0 ds then h+1 else h))] 3 .ex)]
  (if 0 < gH 0 ds then [.cells (dC (hlv ds)) 5 .rw] else []) (v2:=.tup []) sm ?_ ?_ sm rfl rfl rfl ?_ ?_ (.cons (.ptr _ (jC.at (a:=1) rfl sm)) (.cons (.ptr _ (jC.at (a:=2) rfl sm)) .nil)) ?_ ?_ ?_ ?_ ?_ ?_
 ·rintro (_|_|_|a) i _ h1 <;> simp at h1 <;> omega
 ·rintro (_|_|_|a) (_|_|_|c) i _ h1 h2 <;> simp at h1 h2 <;> first|rfl|omega
 ·rintro (_|_|_|a) i o h1 h2
  ·simp at h1 h2;subst h1;subst h2;exact gq
  ·simp at h1 h2;subst h1;subst h2;exact gp
  ·simp at h1 h2;subst h1;subst h2;exact gb
  ·simp at h1
 ·rintro (_|_|_|a) o1 o2 h1 h2
  ·simp at h1 h2;subst h1;subst h2
   refine .cells (sI _) ?_
   cases fl with
   | ro=>exact absurd rfl hfl
   | ex=>exact .inr (.inl rfl)
   | rw=>exact .inl rfl
  ·simp at h1 h2;subst h1;subst h2
   exact .cells (.cons (.slice _ _ _ _ _ _ _ (jC.at (a:=0) rfl sm) (.inl rfl) (Nat.le_refl _) sm) .nil) (.inl rfl)
  ·simp at h1 h2;subst h1;subst h2
   exact .cells (.cons (.int _ _) .nil) (.inl rfl)
  ·simp at h1
 ·rintro (_|_|_|a) o h
  ·simp at h;rw [← h.2];rfl
  ·simp at h;subst h;rfl
  ·simp at h;subst h;rfl
  ·simp at h
 ·intro a o h
  split at h
  ·rcases a with _|a
   ·simp at h;subst h;rfl
   ·simp at h
  ·simp at h
 ·generalize hK:aIQ _ _ _ _ _ _ _ _=K
  refine build ?_
  refine enter ?_
  refine go ?_
  refine LP.induct ds.length (fun j E S'=>j ≤ ds.length∧S'=rY [(aN,.cells (dC (lV 0 (ds.take j) ++ ds.drop j)) 5 .rw),(aN+1,.cells [.slice aN 0 ds.length ds.length 1 false] 75 .ex),(aN+2,.cells [.int .i64 (.ofNat h)] 3 .ex)] (aN+3)∧Kn E 34 [(0,.ptr (aN+1) 0),(1,.ptr (aN+2) 0),(2,.int .u8 (.ofNat (gH 0 (ds.take j)))),(6,.int .i64 (.ofNat ds.length)),(7,.int .i64 (.ofNat j))]) ⟨Nat.zero_le _,?_,rfl,rfl,rfl,rfl,rfl,rfl,trivial⟩ ?_
  ·show _=rY [(aN,.cells (dC ds) 5 .rw),(aN+1,.cells [.slice aN 0 ds.length ds.length 1 false] 75 .ex),(aN+2,.cells [.int .i64 (.ofNat h)] 3 .ex)] (aN+3)
   kernel_rfl
  rintro j E S' ⟨hj,hS,hf⟩ ih
  subst hS
  refine LP.kn mixed hf ?_
  refine go ?_
  refine aZ (fun hlt=>?_) (fun hge=>?_)
  ·have hd10:ds[j] < 10:=hd _ (List.getElem_mem hlt)
   have hr1:gH 0 (ds.take j) ≤ 1:=aAF om
   have hlc:(dC (lV 0 (ds.take j) ++ ds.drop j)).length=ds.length:=by
    rw [lS,List.length_append,gL,List.length_take,List.length_drop];omega
   have hlj:(lV 0 (ds.take j)).length=j:=by rw [gL,List.length_take];omega
   have hget:(dC (lV 0 (ds.take j) ++ ds.drop j))[j]?=some (.int .u8 (.ofNat (48+ds[j]))):=by
    rw [aMP (by rw [List.length_append,List.length_drop];omega)]
    rw [List.getElem_append_right om,List.getElem_drop]
    simp only [hlj,Nat.sub_self,Nat.add_zero]
   have t1:=aKP hlt 0
   have t2:=aKO hlt 0
   generalize hc:gH 0 (ds.take j)=r at *
   generalize hx:ds[j]=x at *
   refine go ?_
   refine aY (10 * r) rfl (by show 10 * r ≤ 255;omega) ?_
   refine go ?_
   refine ifK_intro (Nat.ble_eq_true_of_le hlt) ?_
   refine go ?_
   refine aE aMp j (by show 0+j * 1=j;omega) hget ?_
   refine go ?_
   refine aY (10 * r+(48+x)) rfl (by show 10 * r+(48+x) ≤ 255;omega) ?_
   refine go ?_
   refine nA (10 * r+x) ?_ (by show 10 * r+(48+x)=10 * r+x+48;omega) (by show 10 * r+x ≤ 255;omega)
   refine go ?_
   refine aY ((10 * r+x) / 2) rfl (by show (10 * r+x) / 2 ≤ 255;omega) ?_
   refine go ?_
   refine aY (48+(10 * r+x) / 2) rfl (by show 48+(10 * r+x) / 2 ≤ 255;omega) ?_
   refine go ?_
   refine dH ((10 * r+x) % 2) rfl ?_
   refine go ?_
   refine ifK_intro (Nat.ble_eq_true_of_le hlt) ?_
   refine go ?_
   refine aOd (cs':=dC (lV 0 (ds.take (j+1)) ++ ds.drop (j+1))) j (by show 0+j * 1=j;omega) (by rw [hlc];exact hlt) ?_ ?_
   ·rw [aMQ,t2,List.set_append_right _ _ om,hlj,Nat.sub_self,List.drop_eq_getElem_cons hlt,List.append_assoc]
    rfl
   refine go ?_
   refine bF (j+1) ?_
   refine go ?_
   refine ih _ _ hlt ⟨hlt,?_,rfl,rfl,rfl,?_,rfl,rfl,trivial⟩
   ·kernel_rfl
   ·rw [t1];rfl
  ·have e:j=ds.length:=by omega
   subst e
   rw [List.take_length,List.drop_length,List.append_nil] at *
   have hr1:gH 0 ds ≤ 1:=aAF om
   refine go ?_
   refine aZ (fun (hc:0 < _)=>?_) (fun (hc:_ ≤ 0)=>?_)
   ·simp only [if_pos hc] at hK ⊢
    have hl2:=gL 0 ds
    have hdb:hlv ds=lV 0 ds ++ [5]:=by unfold hlv;rw [if_pos hc]
    rw [hdb] at hK
    generalize gH 0 ds=c at *
    generalize lV 0 ds=l at *
    refine go ?_
    refine cC (fun hb=>?_) (fun _=>?_)
    ·have:=Nat.le_of_ble_eq_true hb
     have h3:ds.length+1 ≤ ds.length:=this
     omega
    refine go ?_
    refine ifK_intro (Nat.ble_eq_true_of_le (show (ds.length+1) * 2 ≤ 70368744177664 by omega)) ?_
    refine go ?_
    refine aJS (by rw [lS,hl2];show ds.length * 1=_;omega) ?_
    refine go ?_
    refine bZ ?_
    refine go ?_
    refine bF (h+1) ?_
    refine go ?_
    rw [← hK]
    refine ⟨[aN+4],dJ _,fun g hg=>by rw [List.mem_singleton] at hg;subst hg;exact Nat.le_of_ble_eq_true rfl,.tup .nil,⟨⟨_,rfl,.cells (.cons (.slice _ _ _ _ _ _ _ (sG.new (a:=0) rfl (Nat.le_of_ble_eq_true rfl) sm) (.inl rfl) (Nat.le_refl _) (fun h=>⟨h,rfl⟩)) .nil) (.inl rfl)⟩,⟨_,rfl,.cells (.cons (.int _ _) .nil) (.inl rfl)⟩,trivial⟩,⟨⟨_,rfl,?_⟩,trivial⟩⟩
    have e:dC (l ++ [5])=dC l ++ [.int .u8 (.ofNat 53)]:=by simp [dC]
    rw [e]
    exact .cells ((sI l).app (.cons (.int _ _) .nil)) (.inl rfl)
   ·simp only [if_neg (show ¬ 0 < gH 0 ds by omega)] at hK ⊢
    refine go ?_
    rw [← hK]
    refine ⟨[],List.nodup_nil,by simp,.tup .nil,⟨⟨_,rfl,.cells (sI _) (.inl rfl)⟩,⟨_,rfl,.cells (.cons (.slice _ _ _ _ _ _ _ (sG.at (a:=0) rfl (Nat.le_of_ble_eq_true rfl) rfl) (.inl rfl) (Nat.le_refl _) (fun h=>⟨h,rfl⟩)) .nil) (.inl rfl)⟩,⟨_,rfl,.cells (.cons (.int _ _) .nil) (.inl rfl)⟩,trivial⟩,trivial⟩
 ·split <;> simp only [List.length_cons,List.length_nil] <;> omega
 ·intro i hi
  simp only [List.mem_cons,List.mem_nil_iff,or_false] at hi
  omega
 ·intro S' hS'
  have hnext:S'.next=S.next+(if 0 < gH 0 ds then 1 else 0):=by
   have:=congrArg Hs.next hS'
   rw [nZ,fF] at this
   rw [show S'.next=S'.hs.next from rfl,this]
   split <;> rfl
  have hget:∀ i,S'.hs.get i=(gQ (if 0 < gH 0 ds then [.cells (dC (hlv ds)) 5 .rw] else []) (fQ ([q,p,b].zip [if 0 < gH 0 ds then none else some (.cells (dC (lV 0 ds)) 5 .rw),some (.cells [if 0 < gH 0 ds then .slice S.next 0 (ds.length+1) (ds.length+1) 1 false else .slice q 0 ds.length ds.length 1 false] 75 .ex),some (.cells [.int .i64 (.ofNat (if 0 < gH 0 ds then h+1 else h))] 3 .ex)]) S.hs)).get i:=fun i=>by rw [hS'];rfl
  have hnx:S.hs.next=S.next:=rfl
  refine hk S' ⟨?_,?_,hpb,⟨hp.1,by omega⟩,⟨hb.1,by omega⟩⟩ (by rw [hnext];split <;> omega)
  ·by_cases hc:0 < gH 0 ds
   ·have hl:(hlv ds).length=ds.length+1:=by unfold hlv;rw [if_pos hc];simp [gL]
    refine ⟨S.next,false,.rw,by simp,by omega,by omega,by omega,by rw [hnext,if_pos hc];omega,?_,?_⟩
    ·rw [hget,if_pos hc,if_pos hc,if_pos hc,hl]
     simp only [gQ,Hs.new,fF,hnx,if_neg (show ¬ p=S.next by omega),fQ,List.zip_cons_cons,Hs.put,if_neg hpq,if_pos]
    ·rw [hget,if_pos hc]
     simp only [gQ,Hs.new,fF,hnx,if_pos]
   ·have hl:hlv ds=lV 0 ds:=by unfold hlv;rw [if_neg hc]
    refine ⟨q,false,.rw,by simp,hpq,hbq,hq,by rw [hnext];omega,?_,?_⟩
    ·rw [hget,if_neg hc,if_neg hc,if_neg hc,hl,gL]
     simp only [gQ,fQ,List.zip_cons_cons,Hs.put,if_neg hpq,if_pos]
    ·rw [hget,if_neg hc,if_neg hc,hl]
     simp only [gQ,fQ,List.zip_cons_cons,Hs.put,if_pos]
  ·rw [hget]
   by_cases hc:0 < gH 0 ds
   ·simp only [if_pos hc]
    simp only [gQ,Hs.new,fF,hnx,if_neg (show ¬ b=S.next by omega),fQ,List.zip_cons_cons,Hs.put,if_neg hbq,if_neg (Ne.symm hpb),if_pos]
   ·simp only [if_neg hc]
    simp only [gQ,fQ,List.zip_cons_cons,Hs.put,if_neg hbq,if_neg (Ne.symm hpb),if_pos]
end Go.Am
namespace Go.Am
def dB (ds:List Nat):List UInt8:=ds.map fun d=>UInt8.ofNat (48+d)
theorem iW (ds:List Nat):(dB ds).length=ds.length:=by simp [dB]
theorem aJg:∀ {ds:List Nat},oE ds→dC ds=bC (dB ds)
 | [],_=>rfl
 | d :: ds,h=>by
   have hd:d < 10:=h d sm
   have ih:=aJg (ds:=ds) fun x hx=>h x (by simp [hx])
   show V.int .u8 (.ofNat (48+d)) :: dC ds=V.int .u8 (.ofNat (UInt8.ofNat (48+d)).toNat) :: bC (dB ds)
   rw [ih]
   congr 3
   rw [UInt8.toNat_ofNat'];omega
def dl (u:Nat):List Nat:=(Lib.decDigits u).map fun b=>b.toNat - 48
theorem aEE (u:Nat):∀ b ∈ Lib.decDigits u,48 ≤ b.toNat∧b.toNat ≤ 57:=by
 induction u using Nat.strongRecOn with
 | _ u ih =>
   intro b hb
   rw [Lib.decDigits] at hb
   split at hb
   ·rename_i h
    rw [List.mem_singleton] at hb;subst hb
    rw [UInt8.toNat_ofNat'];omega
   ·rename_i h
    rcases List.mem_append.1 hb with hb|hb
    ·exact ih (u / 10) om b hb
    ·rw [List.mem_singleton] at hb;subst hb
     rw [UInt8.toNat_ofNat'];omega
theorem wG (u:Nat):oE (dl u):=fun d hd=>by
 obtain ⟨b,hb,rfl⟩:=List.mem_map.1 hd
 have:=aEE u b hb
 omega
theorem tQ (u:Nat):(dl u).length=Lib.nDigits u:=by rw [dl,List.length_map,Lib.decDigits_length]
theorem aFW (u:Nat):bC (Lib.decDigits u)=dC (dl u):=by
 unfold bC dC dl
 rw [List.map_map]
 refine List.map_congr_left fun b hb=>?_
 have:=aEE u b hb
 show V.int .u8 (.ofNat b.toNat)=V.int .u8 (.ofNat (48+(b.toNat - 48)))
 congr 2;omega
theorem uI (u:Nat):fO (dl u)=u:=by
 induction u using Nat.strongRecOn with
 | _ u ih =>
   unfold dl
   rw [Lib.decDigits]
   split
   ·rename_i h
    simp only [List.map_cons,List.map_nil,fO,List.length_nil,Nat.pow_zero,Nat.mul_one,Nat.add_zero]
    rw [UInt8.toNat_ofNat'];omega
   ·rename_i h
    have:=ih (u / 10) om
    rw [List.map_append,aHa]
    show fO (dl (u / 10)) * _+_=u
    rw [this]
    simp only [List.map_cons,List.map_nil,List.length_singleton,Nat.pow_one,fO,List.length_nil,Nat.pow_zero,Nat.mul_one,Nat.add_zero]
    rw [UInt8.toNat_ofNat'];omega
def itD (ds:List Nat):Nat→List Nat
 | 0=>ds
 | n+1=>dbl (itD ds n)
def uU (ds:List Nat):Nat→List Nat × Nat
 | 0=>(ds,0)
 | n+1=>(hlv (uU ds n).1,if 0 < gH 0 (uU ds n).1 then (uU ds n).2+1 else (uU ds n).2)
theorem wT {ds:List Nat}(h:oE ds):∀ n,oE (itD ds n)
 | 0=>h
 | n+1=>aMS (wT h n)
theorem lW (ds:List Nat):∀ n,ds.length ≤ (itD ds n).length∧(itD ds n).length ≤ ds.length+n
 | 0=>⟨Nat.le_refl _,Nat.le_refl _⟩
 | n+1=>by
   obtain ⟨h1,h2⟩:=lW ds n
   obtain ⟨h3,h4⟩:=aHF (itD ds n)
   show ds.length ≤ (dbl (itD ds n)).length∧(dbl (itD ds n)).length ≤ ds.length+(n+1)
   omega
theorem aES (ds:List Nat):∀ n,fO (itD ds n)=fO ds * 2 ^ n
 | 0=>by simp [itD]
 | n+1=>by
   show fO (dbl (itD ds n))=_
   rw [aPh,aES ds n,Nat.pow_succ,Nat.mul_comm 2,Nat.mul_assoc]
theorem aBJ {ds:List Nat}(h:oE ds):∀ n,oE (uU ds n).1
 | 0=>h
 | n+1=>aNv (aBJ h n)
theorem aHY (l:List Nat):(hlv l).length=l.length+(if 0 < gH 0 l then 1 else 0):=by
 unfold hlv
 split <;> simp [gL]
theorem oR (ds:List Nat):∀ n,(uU ds n).1.length=ds.length+(uU ds n).2∧(uU ds n).2 ≤ n
 | 0=>⟨rfl,Nat.le_refl _⟩
 | n+1=>by
   obtain ⟨h1,h2⟩:=oR ds n
   have h3:=aHY (uU ds n).1
   show (hlv (uU ds n).1).length=ds.length+(if 0 < gH 0 (uU ds n).1 then (uU ds n).2+1 else (uU ds n).2)∧(if 0 < gH 0 (uU ds n).1 then (uU ds n).2+1 else (uU ds n).2) ≤ n+1
   rw [h3]
   split <;> omega
theorem aET (ds:List Nat):∀ n,fO (uU ds n).1 * 2 ^ n=fO ds * 10 ^ (uU ds n).2
 | 0=>by simp [uU]
 | n+1=>by
   have ih:=aET ds n
   have h:=aNw (uU ds n).1
   show fO (hlv (uU ds n).1) * 2 ^ (n+1)=fO ds * 10 ^ (if 0 < gH 0 (uU ds n).1 then (uU ds n).2+1 else (uU ds n).2)
   have e:fO (hlv (uU ds n).1) * 2 ^ (n+1)=2 * fO (hlv (uU ds n).1) * 2 ^ n:=by rw [Nat.pow_succ,Nat.mul_comm (2 ^ n) 2,← Nat.mul_assoc,Nat.mul_comm (fO _) 2]
   rw [e,h,Nat.mul_assoc,ih]
   split
   ·rw [Nat.pow_succ,← Nat.mul_assoc,Nat.mul_comm 10 (fO ds),Nat.mul_assoc,Nat.mul_comm 10 (10 ^ _)]
   ·rw [Nat.one_mul]
def cV (v:Nat):Nat:=if dG v=0 then kE v else 2 ^ 52+kE v
def jR (v:Nat):Nat:=if dG v=0 then 1 else dG v
def cH (v:Nat):List Nat × Nat:=if 1075 < jR v then (itD (dl (cV v)) (jR v - 1075),0) else if 0 < cV v then uU (dl (cV v)) (1075 - jR v) else (dl (cV v),0)
def lz (l:List UInt8):List UInt8:=l.drop (nE (sF 48) l)
def rz (l:List UInt8):List UInt8:=(lz l.reverse).reverse
def cQ (v:Nat):List UInt8:=if lz (dB ((cH v).1.take ((cH v).1.length - (cH v).2)))=[] then [48] else lz (dB ((cH v).1.take ((cH v).1.length - (cH v).2)))
def cE (v:Nat):List UInt8:=rz (dB ((cH v).1.drop ((cH v).1.length - (cH v).2)))
def iH (v:Nat):List UInt8:=if cE v=[] then [] else 46 :: cE v
def uW (v:Nat):List UInt8:=if 2 ^ 63 ≤ v then [45] else []
def bV (v:Nat):List UInt8:=uW v ++ (cQ v ++ iH v)
theorem lN (v:Nat):oE (cH v).1∧(cH v).2 ≤ (cH v).1.length:=by
 unfold cH
 split
 ·exact ⟨wT (wG _) _,Nat.zero_le _⟩
 ·split
  ·exact ⟨aBJ (wG _) _,by rw [(oR (dl (cV v)) (1075 - jR v)).1];exact Nat.le_add_left _ _⟩
  ·exact ⟨wG _,Nat.zero_le _⟩
theorem aRd {l:List UInt8}{c:UInt8}(h:(lz l).head?=some c):c ≠ 48:=by
 unfold lz nE at h
 induction l with
 | nil=>simp at h
 | cons x l ih =>
   by_cases hx:sF 48 x=true
   ·simp only [List.takeWhile,hx,List.length_cons,List.drop_succ_cons] at h
    exact ih h
   ·have hx':sF 48 x=false:=by cases hb:sF 48 x <;> simp_all
    simp only [List.takeWhile,hx',List.length_nil,List.drop_zero,List.head?_cons] at h
    cases h
    intro e;subst e;exact hx dc
theorem aIf {l:List UInt8}{c:UInt8}(h:c ∈ lz l):c ∈ l:=List.mem_of_mem_drop h
theorem yR (l:List UInt8):(lz l).length ≤ l.length:=by unfold lz;rw [List.length_drop];omega
theorem aEc (l:List UInt8):(rz l).length ≤ l.length:=by unfold rz;rw [List.length_reverse];have:=yR l.reverse;rw [List.length_reverse] at this;exact this
theorem aFi (p:UInt8→Bool):∀ s:List UInt8,(s.take (nE p s)).all p=true
 | []=>by simp [nE]
 | c :: s=>by
   unfold nE
   by_cases h:p c=true
   ·simp only [List.takeWhile,h,List.length_cons,List.take_succ_cons,List.all_cons,Bool.true_and]
    exact aFi p s
   ·have h':p c=false:=by cases hb:p c <;> simp_all
    simp [List.takeWhile,h']
theorem aFj (p:UInt8→Bool):∀ (s:List UInt8) (h:nE p s < s.length),p s[nE p s]=false
 | [],h=>by simp at h
 | c :: s,h=>by
   by_cases hc:p c=true
   ·have e:nE p (c :: s)=nE p s+1:=by simp [nE,List.takeWhile,hc]
    have h2:nE p s < s.length:=by rw [e] at h;simpa using h
    have:=aFj p s h2
    simp only [e,List.getElem_cons_succ]
    exact this
   ·have h':p c=false:=by cases hb:p c <;> simp_all
    have e:nE p (c :: s)=0:=by simp [nE,List.takeWhile,h']
    simp only [e,List.getElem_cons_zero]
    exact h'
theorem aAL (s:List UInt8):∃ n,n ≤ s.length∧rz s=s.take n∧(s.drop n).all (sF 48)=true∧∀ (h:0 < n) (h':n - 1 < s.length),sF 48 s[n - 1]=false:=by
 have hle:=aIJ (sF 48) s.reverse
 rw [List.length_reverse] at hle
 refine ⟨s.length - nE (sF 48) s.reverse,Nat.sub_le _ _,?_,?_,fun h h'=>?_⟩
 ·unfold rz lz
  rw [List.reverse_drop,List.length_reverse,List.reverse_reverse]
 ·have:=aFi (sF 48) s.reverse
  rw [List.all_eq_true] at this ⊢
  intro c hc
  refine this c ?_
  have e:s.drop (s.length - nE (sF 48) s.reverse)=(s.reverse.take (nE (sF 48) s.reverse)).reverse:=by
   rw [List.reverse_take,List.length_reverse,List.reverse_reverse]
  rw [e] at hc
  exact List.mem_reverse.1 hc
 ·have hs:=aFj (sF 48) s.reverse (by rw [List.length_reverse];omega)
  rw [List.getElem_reverse] at hs
  have e:s.length - 1 - nE (sF 48) s.reverse=s.length - nE (sF 48) s.reverse - 1:=by omega
  simpa only [e] using hs
theorem aSS {v:Nat}(hv:v < 2 ^ 64):v &&& 2 ^ 63=if 2 ^ 63 ≤ v then 2 ^ 63 else 0:=by
 apply Nat.eq_of_testBit_eq
 intro i
 rw [Nat.testBit_and,Nat.testBit_two_pow]
 by_cases hi:63=i
 ·subst hi
  by_cases h:2 ^ 63 ≤ v
  ·rw [if_pos h,Nat.testBit_two_pow]
   have:v.testBit 63=true:=by
    rw [Nat.testBit_eq_decide_div_mod_eq]
    have:v / 2 ^ 63=1:=by omega
    rw [this];rfl
   rw [this];simp
  ·rw [if_neg h]
   have:v.testBit 63=false:=by
    rw [Nat.testBit_eq_decide_div_mod_eq]
    have:v / 2 ^ 63=0:=by omega
    rw [this];rfl
   rw [this];simp
 ·rw [decide_eq_false hi,Bool.and_false]
  by_cases h:2 ^ 63 ≤ v
  ·rw [if_pos h,Nat.testBit_two_pow,decide_eq_false hi]
  ·rw [if_neg h,Nat.zero_testBit]
end Go.Am
namespace Go.Am
open Go.Proofs
attribute [local irreducible] fN fI fB bX eR evCode evOps rX kOp aAv wW uM wX kGc aKT aKS kDr kMg drOps eN kT sl
theorem iV:∀ {s:List UInt8} {k:List V→Prop},k (bC s)→qK s k
 | [],k,h=>h
 | b :: s,k,h=>by
   show fN b.toNat fun n=>qK s fun r=>k (.int .u8 (Int.ofNat n) :: r)
   exact aI (iV (s:=s) h)
theorem aQL {α:Type}{n:Nat}{l m:List α}{k:List α→Prop}(hl:n ≤ l.length)(h:l.drop n=m)(hk:k m):kV n l k:=cD hl (by rw [h];exact hk)
theorem aOw (v:Nat):cV v < 2 ^ 53:=by
 have:=aBD v
 unfold cV
 split <;> omega
theorem aVx {f:Nat}(h:f < 2 ^ 52):f ||| 2 ^ 52=2 ^ 52+f:=by
 rw [Nat.or_comm]
 have:=Nat.two_pow_add_eq_or_of_lt (i:=52) (b:=f) h 1
 rw [Nat.mul_one] at this
 exact this.symm
theorem aRR (v:Nat):1 ≤ jR v∧jR v ≤ 2047:=by
 have:dG v < 2048:=Nat.mod_lt _ dc
 unfold jR
 split <;> omega
theorem aNI {v:Nat}(h:jJ v ≠ 3∧jJ v ≠ 4):dG v ≠ 2047:=fun e=>by
 unfold jJ at h
 rw [if_pos e] at h
 split at h <;> omega
theorem aSC (v:Nat):Lib.nDigits (cV v) ≤ 16:=by
 have h:=aOw v
 rcases Nat.eq_zero_or_pos (cV v) with h0|h0
 ·rw [h0,Lib.nDigits_small dc];decide
 ·rcases Nat.lt_or_ge (Lib.nDigits (cV v)) 17 with h1|h1
  ·omega
  ·exfalso
   have:∀ n u,1 ≤ u→u < 10 ^ n→Lib.nDigits u ≤ n:=by
    intro n
    induction n with
    | zero=>intro u h1 h2;simp at h2;omega
    | succ n ih =>
      intro u h1 h2
      by_cases hu:u < 10
      ·rw [Lib.nDigits_small hu];omega
      ·rw [Lib.nDigits_big hu]
       have:=ih (u / 10) om (by rw [Nat.pow_succ] at h2;omega)
       omega
   have:=this 16 (cV v) h0 om
   omega
theorem aPo:bA Tryz.prog 65 80 [.tmp 2] (aM Tryz.f65):=fq Tryz.f65
set_option maxHeartbeats 8000000 in
theorem aKF {v:Nat}(hv:v < 18446744073709551616)(hfin:jJ v ≠ 3∧jJ v ≠ 4){S:St}(h10:jF S){k:V→St→Prop}(hk:k (.str (bV v)) S):RC Tryz.prog 65 [.int .u64 (.ofNat v)] S k:=by
 have he47:=aNI hfin
 obtain ⟨e,hgb⟩:=qB h10
 obtain ⟨hdig,hbeh⟩:=lN v
 have hnd:=aSC v
 have hsl:=aOw v
 have hex:=aRR v
 have hdl:=tQ (cV v)
 refine RC.pureG mixed aPo _ hgb hk ?_
 refine build ?_
 refine enter ?_
 refine go ?_
 refine aGm hv ?_
 refine go ?_
 refine bL (fun (h:_=4)=>absurd h hfin.2) (fun _=>?_)
 refine go ?_
 refine bL (fun (h:_=3)=>absurd h hfin.1) (fun _=>?_)
 refine go ?_
 refine aDW hv ?_
 refine go ?_
 apply LP.join 80 [(0,.int .u64 (.ofNat v)),(3,.int .i64 (.ofNat (jR v))),(4,.int .u64 (.ofNat (cV v))),(5,.ptr (aN+1) 0),(6,.ptr (aN+2) 0),(7,.func (.func 100) [] [.ptr (aN+1) 0]),(8,.func (.func 101) [] [.ptr (aN+1) 0,.ptr (aN+2) 0])]
 ·intro key
  refine bL (fun (he0:_=0)=>?_) (fun (he0:_ ≠ 0)=>?_)
  ·have e1:kE v=cV v:=by unfold cV;rw [if_pos he0]
   have e2:jR v=1:=by unfold jR;rw [if_pos he0]
   rw [e1]
   refine go ?_
   refine aGf om ⟨e,rfl⟩ ?_
   refine go ?_
   refine iV ?_
   rw [aL,aFW,Lib.decDigits_length,← tQ]
   refine go ?_
   exact key _ ⟨rfl,rfl,by rw [e2];rfl,rfl,rfl,rfl,rfl,rfl,trivial⟩
  ·have e1:2 ^ 52+kE v=cV v:=by unfold cV;rw [if_neg he0]
   have e2:jR v=dG v:=by unfold jR;rw [if_neg he0]
   refine go ?_
   refine dH (cV v) ((aDb (b:=4503599627370496) (by have:=aBD v;omega) om).trans (congrArg Int.ofNat ((aVx (aBD v)).trans e1))) ?_
   refine go ?_
   refine aGf om ⟨e,rfl⟩ ?_
   refine go ?_
   refine iV ?_
   rw [aL,aFW,Lib.decDigits_length,← tQ]
   refine go ?_
   exact key _ ⟨rfl,rfl,by rw [e2];rfl,rfl,rfl,rfl,rfl,rfl,trivial⟩
 intro Ex hEx
 have hdl0:dl (cV v) ≠ []:=List.length_pos_iff.1 (by rw [hdl];exact Lib.nDigits_pos _)
 have hngl:aN=1000:=rfl
 refine LP.induct 1100 (fun j E S'=>(j ≤ jR v - 1075)∧Num S' (aN+1) (aN+2) (itD (dl (cV v)) j) 0∧S'.next ≤ aN+10+j∧Kn E 80 [(0,.int .u64 (.ofNat v)),(3,.int .i64 (.ofNat (jR v - j))),(4,.int .u64 (.ofNat (cV v))),(5,.ptr (aN+1) 0),(6,.ptr (aN+2) 0),(7,.func (.func 100) [] [.ptr (aN+1) 0]),(8,.func (.func 101) [] [.ptr (aN+1) 0,.ptr (aN+2) 0])]) ⟨Nat.zero_le _,?_,?_,by rw [Nat.sub_zero];exact hEx⟩ ?_
 ·refine ⟨⟨aN,false,.rw,by simp,by omega,by omega,Nat.le_refl _,?_,rfl,rfl⟩,rfl,by omega,⟨by omega,?_⟩,⟨by omega,?_⟩⟩
  ·exact Nat.le_of_ble_eq_true rfl
  ·exact Nat.le_of_ble_eq_true rfl
  ·exact Nat.le_of_ble_eq_true rfl
 ·exact Nat.le_of_ble_eq_true rfl
 rintro j E S1 ⟨hj,hN,hnx,hf⟩ ih
 refine LP.kn mixed hf ?_
 refine go ?_
 refine aZ (fun (hgt:1075 < _)=>?_) (fun (hle:_ ≤ 1075)=>?_)
 ·refine go ?_
  refine aHJ (wT (wG _) _) ?_ ?_ hN om fun S2 hN2 hn2=>?_
  ·have:=(lW (dl (cV v)) j).1
   exact List.length_pos_iff.1 (by have:=List.length_pos_iff.2 hdl0;omega)
  ·have:=(lW (dl (cV v)) j).2
   omega
  refine go ?_
  refine gU (jR v - (j+1)) ?_ (by show jR v - j=jR v - (j+1)+1;omega)
  refine go ?_
  exact ih _ _ om ⟨by omega,hN2,by omega,rfl,rfl,rfl,rfl,rfl,rfl,rfl,rfl,trivial⟩
 ·refine go ?_
  have hA:oE (itD (dl (cV v)) j):=wT (wG _) _
  have hA0:0 < (itD (dl (cV v)) j).length:=by
   have:=(lW (dl (cV v)) j).1
   have:=List.length_pos_iff.2 hdl0
   omega
  have hA2:=(lW (dl (cV v)) j).2
  have hjn:1075 < jR v→j=jR v - 1075:=fun h=>by omega
  have hj0:jR v ≤ 1075→j=0:=fun h=>by omega
  have hall:∀ n,n ≤ 1075 - (jR v - j)→(0 < n→0 < cV v)→(1075 ≤ jR v - j+n ∨ cV v=0)→uU (itD (dl (cV v)) j) n=cH v:=fun n h1 h2 h3=>by
   unfold cH
   by_cases h:1075 < jR v
   ·rw [if_pos h]
    have e1:=hjn h
    have e2:n=0:=by omega
    subst e2
    rw [e1];rfl
   ·rw [if_neg h]
    have e1:=hj0 om
    subst e1
    by_cases h0:0 < cV v
    ·rw [if_pos h0]
     have e2:n=1075 - jR v:=by omega
     rw [e2];rfl
    ·rw [if_neg h0]
     have e2:n=0:=by
      rcases Nat.eq_zero_or_pos n with h|h
      ·exact h
      ·exact absurd (h2 h) h0
     subst e2;rfl
  refine LP.induct 1100 (fun n E S'=>(n ≤ 1075 - (jR v - j))∧(0 < n→0 < cV v)∧Num S' (aN+1) (aN+2) (uU (itD (dl (cV v)) j) n).1 (uU (itD (dl (cV v)) j) n).2∧S'.next ≤ aN+10+j+n∧Kn E 80 [(0,.int .u64 (.ofNat v)),(3,.int .i64 (.ofNat (jR v - j+n))),(4,.int .u64 (.ofNat (cV v))),(5,.ptr (aN+1) 0),(6,.ptr (aN+2) 0),(8,.func (.func 101) [] [.ptr (aN+1) 0,.ptr (aN+2) 0])]) ⟨Nat.zero_le _,fun h=>absurd h (Nat.lt_irrefl _),hN,hnx,rfl,rfl,rfl,rfl,rfl,rfl,rfl,trivial⟩ ?_
  rintro n E S2 ⟨hn,hnf,hN2,hnx2,hf2⟩ ih2
  have hlen:=(oR (itD (dl (cV v)) j) n)
  refine LP.kn mixed hf2 ?_
  refine go ?_
  refine aZ (fun (hlt:_ < 1075)=>?_) (fun (hge:1075 ≤ _)=>?_)
  refine go ?_
  refine aZ (fun (hf0:0 < _)=>?_) (fun (hf0:_ ≤ 0)=>?_)
  ·refine go ?_
   refine aKN (aBJ hA _) (List.length_pos_iff.1 om) om om hN2 om fun S3 hN3 hn3=>?_
   refine go ?_
   refine bF (jR v - j+(n+1)) ?_ rfl om
   refine go ?_
   exact ih2 _ _ om ⟨by omega,fun _=>hf0,hN3,by omega,rfl,rfl,rfl,rfl,rfl,rfl,rfl,trivial⟩
  all_goals
   rw [hall n hn hnf om] at hN2 hlen
   clear ih2 ih
   obtain ⟨⟨q,ex,fl,hfl,_,_,hq1,hq2,gp,gq⟩,gb,_,_,_⟩:=hN2
   refine go ?_
   refine aA gp ?_
   refine go ?_
   refine aA gp ?_
   refine go ?_
   refine aA gb ?_
   refine go ?_
   refine gU ((cH v).1.length - (cH v).2) ?_ om om
   refine go ?_
   have hm:(cH v).1.length - (cH v).2 ≤ (cH v).1.length:=Nat.sub_le _ _
   have hmh:(cH v).1.length=((cH v).1.length - (cH v).2)+(cH v).2:=by omega
   have hl3:(cH v).1.length ≤ 4000:=by omega
   have hw:cQ v=if List.drop (nE (sF 48) (dB ((cH v).1.take ((cH v).1.length - (cH v).2)))) (dB ((cH v).1.take ((cH v).1.length - (cH v).2)))=[] then [48] else List.drop (nE (sF 48) (dB ((cH v).1.take ((cH v).1.length - (cH v).2)))) (dB ((cH v).1.take ((cH v).1.length - (cH v).2))):=rfl
   have hfr:cE v=rz (dB ((cH v).1.drop ((cH v).1.length - (cH v).2))):=rfl
   have hlw:=yR (dB ((cH v).1.take ((cH v).1.length - (cH v).2)))
   rw [iW,List.length_take] at hlw
   unfold lz at hlw
   have hlf:=aEc (dB ((cH v).1.drop ((cH v).1.length - (cH v).2)))
   rw [iW,List.length_drop,← hfr] at hlf
   have hds:oE (cH v).1:=hdig
   generalize (cH v).1.length - (cH v).2=m at *
   generalize (cH v).1=ds at *
   have hdt:oE (ds.take m):=fun d hd=>hds d (List.mem_of_mem_take hd)
   have hdd:oE (ds.drop m):=fun d hd=>hds d (List.mem_of_mem_drop hd)
   refine ifK_intro (Nat.ble_eq_true_of_le hm) ?_
   refine go ?_
   refine aA gq ?_
   refine go ?_
   refine aJT (m:=bC (dB (ds.take m))) (by rw [lS];exact hm) (by rw [← aJg hdt];unfold dC;rw [List.map_take];rfl) ?_
   refine fG ?_
   refine go ?_
   refine pU (c:=48) dc ?_
   have hsg:v &&& 2 ^ 63=if 2 ^ 63 ≤ v then 2 ^ 63 else 0:=aSS om
   obtain ⟨nz,hz1,hz2,hz3,hz4⟩:=aAL (dB (ds.drop m))
   generalize List.drop (nE (sF 48) (dB (ds.take m))) (dB (ds.take m))=W0 at *
   refine go ?_
   refine fE (fun hem=>?_) (fun hem=>?_)
   ·rw [if_pos hem] at hw
    refine go ?_
    refine aA gp ?_
    refine go ?_
    refine aA gp ?_
    refine go ?_
    refine aA gb ?_
    refine go ?_
    refine gU m ?_ hmh om
    refine go ?_
    refine ifK_intro (Nat.ble_eq_true_of_le hm) ?_
    refine ifK_intro (Nat.ble_eq_true_of_le (Nat.le_refl _)) ?_
    refine go ?_
    refine aA gq ?_
    refine go ?_
    refine aQL (m:=bC (dB (ds.drop m))) (by rw [lS];show 0+m * 1 ≤ _;omega) (by rw [← aJg hdd];unfold dC;rw [List.map_drop];congr 1;show 0+m * 1=m;omega) ?_
    refine go ?_
    refine aJS (by rw [cS,iW,List.length_drop];rfl) ?_
    refine fG ?_
    refine go ?_
    refine tF (c:=48) (n:=nz) dc hz1 hz3 (fun h=>hz4 h om) (by rw [iW,List.length_drop];omega) ?_
    rw [← hz2,← hfr]
    have ht1:cE v=[]→iH v=[]:=fun h=>if_pos h
    have ht2:cE v ≠ []→iH v=46 :: cE v:=fun h=>if_neg h
    generalize cE v=FT at *
    refine go ?_
    refine fE (fun ht=>?_) (fun ht=>?_)
    ·have htl:iH v=[]:=ht1 ht
     refine go ?_
     refine dH (v &&& 2 ^ 63) (rS (b:=9223372036854775808) hv om) ?_
     rw [hsg]
     by_cases h63:2 ^ 63 ≤ v
     ·rw [if_pos h63]
      have hs1:uW v=[45]:=if_pos h63
      refine go ?_
      show V.str _=V.str (bV v)
      unfold bV
      rw [hs1,hw,htl]
      rw [List.append_nil];all_goals rfl
     ·rw [if_neg h63]
      have hs1:uW v=[]:=if_neg h63
      refine go ?_
      show V.str _=V.str (bV v)
      unfold bV
      rw [hs1,hw,htl]
      rw [List.append_nil];all_goals rfl
    ·have htl:iH v=46 :: FT:=ht2 ht
     refine go ?_
     refine fV (by first|exact Nat.le_of_ble_eq_true rfl|(simp only [List.length_cons,List.length_nil];omega)) ?_
     refine go ?_
     refine fV (by first|exact Nat.le_of_ble_eq_true rfl|(simp only [List.length_cons,List.length_nil,List.length_append];omega)) ?_
     refine go ?_
     refine dH (v &&& 2 ^ 63) (rS (b:=9223372036854775808) hv om) ?_
     rw [hsg]
     by_cases h63:2 ^ 63 ≤ v
     ·rw [if_pos h63]
      have hs1:uW v=[45]:=if_pos h63
      refine go ?_
      refine fV (by first|exact Nat.le_of_ble_eq_true rfl|(simp only [List.length_cons,List.length_nil,List.length_append];omega)) ?_
      refine go ?_
      show V.str _=V.str (bV v)
      unfold bV
      rw [hs1,hw,htl]
      all_goals rfl
     ·rw [if_neg h63]
      have hs1:uW v=[]:=if_neg h63
      refine go ?_
      show V.str _=V.str (bV v)
      unfold bV
      rw [hs1,hw,htl]
      all_goals rfl
   ·rw [if_neg hem] at hw
    refine go ?_
    refine aA gp ?_
    refine go ?_
    refine aA gp ?_
    refine go ?_
    refine aA gb ?_
    refine go ?_
    refine gU m ?_ hmh om
    refine go ?_
    refine ifK_intro (Nat.ble_eq_true_of_le hm) ?_
    refine ifK_intro (Nat.ble_eq_true_of_le (Nat.le_refl _)) ?_
    refine go ?_
    refine aA gq ?_
    refine go ?_
    refine aQL (m:=bC (dB (ds.drop m))) (by rw [lS];show 0+m * 1 ≤ _;omega) (by rw [← aJg hdd];unfold dC;rw [List.map_drop];congr 1;show 0+m * 1=m;omega) ?_
    refine go ?_
    refine aJS (by rw [cS,iW,List.length_drop];rfl) ?_
    refine fG ?_
    refine go ?_
    refine tF (c:=48) (n:=nz) dc hz1 hz3 (fun h=>hz4 h om) (by rw [iW,List.length_drop];omega) ?_
    rw [← hz2,← hfr]
    have ht1:cE v=[]→iH v=[]:=fun h=>if_pos h
    have ht2:cE v ≠ []→iH v=46 :: cE v:=fun h=>if_neg h
    generalize cE v=FT at *
    refine go ?_
    refine fE (fun ht=>?_) (fun ht=>?_)
    ·have htl:iH v=[]:=ht1 ht
     refine go ?_
     refine dH (v &&& 2 ^ 63) (rS (b:=9223372036854775808) hv om) ?_
     rw [hsg]
     by_cases h63:2 ^ 63 ≤ v
     ·rw [if_pos h63]
      have hs1:uW v=[45]:=if_pos h63
      refine go ?_
      refine fV (by first|exact Nat.le_of_ble_eq_true rfl|(simp only [List.length_cons,List.length_nil,List.length_append];omega)) ?_
      refine go ?_
      show V.str _=V.str (bV v)
      unfold bV
      rw [hs1,hw,htl]
      rw [List.append_nil];all_goals rfl
     ·rw [if_neg h63]
      have hs1:uW v=[]:=if_neg h63
      refine go ?_
      show V.str _=V.str (bV v)
      unfold bV
      rw [hs1,hw,htl]
      rw [List.append_nil];all_goals rfl
    ·have htl:iH v=46 :: FT:=ht2 ht
     refine go ?_
     refine fV (by first|exact Nat.le_of_ble_eq_true rfl|(simp only [List.length_cons,List.length_nil];omega)) ?_
     refine go ?_
     refine fV (by first|exact Nat.le_of_ble_eq_true rfl|(simp only [List.length_cons,List.length_nil,List.length_append];omega)) ?_
     refine go ?_
     refine dH (v &&& 2 ^ 63) (rS (b:=9223372036854775808) hv om) ?_
     rw [hsg]
     by_cases h63:2 ^ 63 ≤ v
     ·rw [if_pos h63]
      have hs1:uW v=[45]:=if_pos h63
      refine go ?_
      refine fV (by first|exact Nat.le_of_ble_eq_true rfl|(simp only [List.length_cons,List.length_nil,List.length_append];omega)) ?_
      refine go ?_
      show V.str _=V.str (bV v)
      unfold bV
      rw [hs1,hw,htl]
      all_goals rfl
     ·rw [if_neg h63]
      have hs1:uW v=[]:=if_neg h63
      refine go ?_
      show V.str _=V.str (bV v)
      unfold bV
      rw [hs1,hw,htl]
      all_goals rfl
end Go.Am
namespace Fp
def us (h mid l2 S:Nat):Nat :=
 if h / S * S ≠ h then (h / S) ||| 1
 else ((if mid < l2 then h - 1 else h) / S) ||| (if (mid+2 ^ 64 - l2) % 2 ^ 64 > 1 then 1 else 0)
theorem or1_even (n:Nat):(4 * n) ||| 1=4 * n+1:=by
 have h:4 * n+1=2 ^ 1 * (2 * n)+1:=by omega
 have k:=Nat.two_pow_add_eq_or_of_lt (i:=1) (b:=1) (by decide) (2 * n)
 rw [h,k];congr 1;omega
theorem or1_odd (n:Nat)(b:Nat)(hb:b ≤ 1)(h:0 < n):(4 * n - 1) ||| b=4 * n - 1:=by
 have hn:4 * n - 1=2 ^ 1 * (2 * n - 1)+1:=by omega
 have k:=Nat.two_pow_add_eq_or_of_lt (i:=1) (b:=1) (by decide) (2 * n - 1)
 have hb':b=0 ∨ b=1:=by omega
 rcases hb' with rfl|rfl
 ·simp
 ·rw [hn,k,Nat.or_assoc,Nat.or_self]
theorem le_of_mul {q n W:Nat}(h:q * W < (n+1) * W):q ≤ n:=by
 have:=Nat.lt_of_mul_lt_mul_right h
 omega
theorem us_near {h mid L S W M T B:Nat}(hB:B=2 ^ 128)(hL:L < B)
  (hm:mid * 2 ^ 64 < B) (hs:4 ≤ S) (hW:S * B=W) (hM:0 < M)
  (hT:T+L=h * B+mid * 2 ^ 64)
  (h1:4 * ((4 * M) * W) < 4 * T+W)
  (h2:4 * T < 4 * ((4 * M) * W)+W) :
  us h mid (L / 2 ^ 64) S=4 * M - 1 ∨ us h mid (L / 2 ^ 64) S=4 * M ∨
   us h mid (L / 2 ^ 64) S=4 * M+1:=by
 have hB0:0 < B:=by rw [hB];decide
 clear hB
 unfold us
 have hq:=Nat.div_add_mod h S
 have hr:h % S < S:=Nat.mod_lt _ (by omega)
 generalize hq0:h / S=q at hq ⊢
 generalize hr0:h % S=r at hq hr
 have hTq:T+L=q * W+r * B+mid * 2 ^ 64:=by
  rw [hT,← hq,← hW,Nat.add_mul,Nat.mul_comm S q,Nat.mul_assoc]
 have hSr:r * B+B ≤ W:=by
  rw [← hW]
  have:(r+1) * B ≤ S * B:=Nat.mul_le_mul_right _ (by omega)
  rw [Nat.add_mul] at this;omega
 have hW4:4 * B ≤ W:=by
  rw [← hW];exact Nat.mul_le_mul_right _ hs
 generalize mid * 2 ^ 64=mm at hm hT hTq
 by_cases hr1:r=0
 ·subst hr1
  have hqs:q * S=h:=by rw [Nat.mul_comm];omega
  rw [if_neg (by simp [hqs])]
  have hqM:q=4 * M:=by
   have a:q * W < (4 * M+1) * W:=by rw [Nat.add_mul];omega
   have b:(4 * M) * W < (q+1) * W:=by rw [Nat.add_mul];omega
   have:=le_of_mul a
   have:=le_of_mul b
   omega
  by_cases hmid:mid < L / 2 ^ 64
  ·rw [if_pos hmid]
   have hd:(h - 1) / S=4 * M - 1:=by
    rw [← hqs,hqM]
    apply Nat.div_eq_of_lt_le
    ·rw [Nat.sub_mul];omega
    ·have:4 * M - 1+1=4 * M:=by omega
     rw [this]
     have:0 < 4 * M * S:=Nat.mul_pos (by omega) (by omega)
     omega
   rw [hd,or1_odd M _ (by split <;> omega) hM]
   exact Or.inl rfl
  ·rw [if_neg hmid,hq0,hqM]
   split
   ·rw [or1_even];exact Or.inr (Or.inr rfl)
   ·simp
 ·have hne:q * S ≠ h:=by
   rw [Nat.mul_comm];omega
  rw [if_pos hne]
  have hrB:B ≤ r * B:=by
   have:1 * B ≤ r * B:=Nat.mul_le_mul_right _ (by omega)
   omega
  have a:q * W < (4 * M+1) * W:=by rw [Nat.add_mul];omega
  have b:(4 * M) * W < (q+1+1) * W:=by
   rw [Nat.add_mul,Nat.add_mul];omega
  have a':=le_of_mul a
  have b':=le_of_mul b
  have:q=4 * M ∨ q=4 * M - 1:=by omega
  rcases this with hh|hh
  ·rw [hh,or1_even];exact Or.inr (Or.inr rfl)
  ·rw [hh,or1_odd M 1 (by omega) hM];exact Or.inl rfl
def rnd (u:Nat):Nat:=(u+1+u / 4 % 2) / 4
theorem rnd_near {u M:Nat}(hM:0 < M)(h:u=4 * M - 1 ∨ u=4 * M ∨ u=4 * M+1):rnd u=M:=by
 unfold rnd
 rcases h with h|h|h <;> omega
def half (u:Nat):Nat:=u / 2 ||| u % 2
theorem half_near {u M:Nat}(hM:0 < M)(h:u=4 * (2 * M) - 1 ∨ u=4 * (2 * M) ∨ u=4 * (2 * M)+1) :
  half u=4 * M - 1 ∨ half u=4 * M ∨ half u=4 * M+1:=by
 unfold half
 rcases h with h|h|h
 ·left
  have a:u / 2=4 * M - 1:=by omega
  have b:u % 2=1:=by omega
  rw [a,b,or1_odd M 1 (by omega) hM]
 ·right;left
  have a:u / 2=4 * M:=by omega
  have b:u % 2=0:=by omega
  rw [a,b];simp
 ·right;right
  have a:u / 2=4 * M:=by omega
  have b:u % 2=1:=by omega
  rw [a,b,or1_even]
end Fp
namespace Fp
theorem scale {d K X pm N H D G E F W M T t : Nat}(hX : X = d * K)(hT : T = X * pm)
    (tab1 : pm * (D * G) ≤ N * H + D * G) (tab2 : N * H ≤ pm * (D * G) + D * G)
    (id4 : 4 * (W * (G * E)) = K * H * F)
    (v1 : d * (N * E) ≤ M * (D * F) + t) (v2 : M * (D * F) ≤ d * (N * E) + t)
    (ht : 55 * t ≤ D * F) (hXW : 8 * X ≤ W) (hW : 0 < W) (hD : 0 < D) (hG : 0 < G) (hE : 0 < E) :
    4 * ((4 * M) * W) < 4 * T + W ∧ 4 * T < 4 * ((4 * M) * W) + W := by
  have hZ : 0 < D * G * E := Nat.mul_pos (Nat.mul_pos hD hG) hE
  -- the sides, times D * G * E
  have a1 : T * (D * G * E) = X * E * (pm * (D * G)) := by rw [hT]; ac_rfl
  have a2 : X * E * (pm * (D * G)) ≤ X * E * (N * H) + X * E * (D * G) := by
    rw [← Nat.mul_add]; exact Nat.mul_le_mul_left _ tab1
  have a3 : X * E * (N * H) ≤ X * E * (pm * (D * G)) + X * E * (D * G) := by
    rw [← Nat.mul_add]; exact Nat.mul_le_mul_left _ tab2
  have a4 : X * E * (N * H) = K * H * (d * (N * E)) := by rw [hX]; ac_rfl
  have a5 : K * H * (d * (N * E)) ≤ K * H * (M * (D * F)) + K * H * t := by
    rw [← Nat.mul_add]; exact Nat.mul_le_mul_left _ v1
  have a6 : K * H * (M * (D * F)) ≤ K * H * (d * (N * E)) + K * H * t := by
    rw [← Nat.mul_add]; exact Nat.mul_le_mul_left _ v2
  have a7 : K * H * (M * (D * F)) = 4 * (M * W * (D * G * E)) := by
    calc K * H * (M * (D * F)) = (K * H * F) * (M * D) := by ac_rfl
      _ = 4 * (W * (G * E)) * (M * D) := by rw [id4]
      _ = 4 * (M * W * (D * G * E)) := by ac_rfl
  have a8 : 55 * (K * H * t) ≤ 4 * (W * (D * G * E)) := by
    calc 55 * (K * H * t) = K * H * (55 * t) := by ac_rfl
      _ ≤ K * H * (D * F) := Nat.mul_le_mul_left _ ht
      _ = (K * H * F) * D := by ac_rfl
      _ = 4 * (W * (G * E)) * D := by rw [id4]
      _ = 4 * (W * (D * G * E)) := by ac_rfl
  have a9 : X * E * (D * G) = X * (D * G * E) := by ac_rfl
  have a10 : 8 * (X * (D * G * E)) ≤ W * (D * G * E) := by
    rw [← Nat.mul_assoc]; exact Nat.mul_le_mul_right _ hXW
  have hw : 0 < W * (D * G * E) := Nat.mul_pos hW hZ
  have b1 : 4 * ((4 * M) * W) * (D * G * E) = 16 * (M * W * (D * G * E)) := by
    calc 4 * ((4 * M) * W) * (D * G * E) = (4 * 4) * (M * W * (D * G * E)) := by ac_rfl
      _ = 16 * (M * W * (D * G * E)) := rfl
  constructor
  · apply Nat.lt_of_mul_lt_mul_right (a := D * G * E)
    rw [b1, Nat.add_mul, Nat.mul_assoc 4 T, a1]
    omega
  · apply Nat.lt_of_mul_lt_mul_right (a := D * G * E)
    rw [Nat.add_mul, b1, Nat.mul_assoc 4 T, a1]
    omega
end Fp
namespace Fp
def A74:Nat:=2 ^ 1074
def A12:Nat:=2 ^ 1200
def A13:Nat:=2 ^ 1327
def Tn:Nat:=10 ^ 18
theorem gen1 (n k m:Nat)(h:n+1=k+m):2 * 2 ^ n=2 ^ k * 2 ^ m:=by
 rw [← Nat.pow_add,← h,Nat.pow_succ,Nat.mul_comm]
theorem gen2 (n k m:Nat)(h:n=k+m):2 ^ n=2 ^ k * 2 ^ m:=by
 rw [← Nat.pow_add,← h]
theorem a12:2 * A12=2 ^ 127 * A74:=by
 unfold A12 A74;exact gen1 1200 127 1074 (by decide)
theorem a13:A13=2 ^ 127 * A12:=by
 unfold A13 A12;exact gen2 1327 127 1200 (by decide)
theorem a74pos:0 < A74:=by unfold A74;exact Nat.two_pow_pos 1074
theorem a12pos:0 < A12:=by unfold A12;exact Nat.two_pow_pos 1200
theorem tn:Tn=10 ^ 18:=rfl
attribute [irreducible] A74 A12 A13 Tn
def pack (m j:Nat):Nat:=if m < 2 ^ 52 then m else m - 2 ^ 52+(j+1) * 2 ^ 52
def u64 (d b g hi lo:Nat):Nat :=
 us (d * 2 ^ (64 - b) * hi / 2 ^ 64) (d * 2 ^ (64 - b) * hi % 2 ^ 64)
  (d * 2 ^ (64 - b) * lo / 2 ^ 64) (2 ^ (187+(b+g - 179) - (b+g)))
def parse64 (d b g hi lo:Nat):Nat :=
 if 2 ^ 55 - 2 ≤ u64 d b g hi lo then pack (rnd (half (u64 d b g hi lo))) (b+g - 179+1)
 else pack (rnd (u64 d b g hi lo)) (b+g - 179)
structure Row (N D g hi lo:Nat):Prop where
 d0:0 < D
 hi64:hi < 2 ^ 64
 lo64:lo < 2 ^ 64
 le:lo ≤ hi * 2 ^ 64
 t1:(hi * 2 ^ 64 - lo) * (D * 2 ^ g) ≤ N * A13+D * 2 ^ g
 t2:N * A13 ≤ (hi * 2 ^ 64 - lo) * (D * 2 ^ g)+D * 2 ^ g
 t3:D * 2 ^ g ≤ N * A12
 t4:(N * A12) * (Tn+1) ≤ (D * 2 ^ g * 2) * Tn
structure Rep (f r:Nat):Prop where
 f0:0 < f
 f53:f < 2 ^ 53
 norm:2 ^ 52 ≤ f ∨ r=0
structure Near (d b N D f r t:Nat):Prop where
 b64:b ≤ 64
 b1:2 ^ b ≤ 2 * d
 b2:d < 2 ^ b
 v1:d * (N * A74) ≤ f * 2 ^ r * D+t
 v2:f * 2 ^ r * D ≤ d * (N * A74)+t
 ht:t * Tn ≤ d * (N * A74)
section
variable {d b N D g hi lo f r t:Nat}
theorem pw (a c:Nat):2 ^ (a+c)=2 ^ a * 2 ^ c:=Nat.pow_add 2 a c
theorem low (R : Row N D g hi lo)(Q : Near d b N D f r t)(x : Nat)(hx : x + 127 = b + g) :
    2 ^ x * D ≤ d * (N * A74) := by
  apply Nat.le_of_mul_le_mul_right (c := 2 * A12) ?_ (Nat.mul_pos (by decide) a12pos)
  calc 2 ^ x * D * (2 * A12) = (2 ^ x * 2 ^ 127) * A74 * D := by
        rw [a12]; generalize (2 : Nat) ^ x = y; generalize (2 : Nat) ^ 127 = z; ac_rfl
    _ = (2 ^ b * 2 ^ g) * A74 * D := by rw [← pw x 127, hx, pw b g]
    _ = 2 ^ b * (D * 2 ^ g) * A74 := by ac_rfl
    _ ≤ (2 * d) * (N * A12) * A74 :=
        Nat.mul_le_mul_right _ (Nat.mul_le_mul Q.b1 R.t3)
    _ = d * (N * A74) * (2 * A12) := by ac_rfl
theorem high (R : Row N D g hi lo)(Q : Near d b N D f r t)(x : Nat)(hx : b + g ≤ x + 125) :
    f * 2 ^ r * D < 2 ^ x * D := by
  have e1 : Tn * (f * 2 ^ r * D) ≤ (Tn + 1) * (d * (N * A74)) := by
    have h1 := Nat.mul_le_mul_left Tn Q.v2
    have h2 := Q.ht
    rw [Nat.mul_comm t] at h2
    rw [Nat.mul_add] at h1
    rw [Nat.add_mul]
    omega
  have e2 : (Tn + 1) * (d * (N * A74)) * (2 * A12) < Tn * (2 ^ x * D) * (2 * A12) := by
    have hd : d * (2 * A74 * (N * A12 * (Tn + 1))) < 2 ^ b * (2 * A74 * (D * 2 ^ g * 2 * Tn)) := by
      apply Nat.mul_lt_mul_of_lt_of_le Q.b2 (Nat.mul_le_mul_left _ R.t4)
      apply Nat.mul_pos (Nat.mul_pos (by decide) a74pos)
      refine Nat.mul_pos (Nat.mul_pos (Nat.mul_pos R.d0 (Nat.pow_pos (by decide))) (by decide)) ?_
      rw [tn]; decide
    calc (Tn + 1) * (d * (N * A74)) * (2 * A12) = d * (2 * A74 * (N * A12 * (Tn + 1))) := by ac_rfl
      _ < 2 ^ b * (2 * A74 * (D * 2 ^ g * 2 * Tn)) := hd
      _ = (2 ^ b * 2 ^ g) * (4 * (A74 * (D * Tn))) := by
          have : (2 * A74 * (D * 2 ^ g * 2 * Tn)) = 2 ^ g * ((2 * 2) * (A74 * (D * Tn))) := by ac_rfl
          rw [this, ← Nat.mul_assoc]
      _ ≤ (2 ^ x * 2 ^ 125) * (4 * (A74 * (D * Tn))) := by
          rw [← pw b g, ← pw x 125]
          exact Nat.mul_le_mul_right _ (Nat.pow_le_pow_right (by decide) hx)
      _ = 2 ^ x * (2 ^ 125 * 4) * (A74 * (D * Tn)) := by
          generalize (2 : Nat) ^ 125 = z; ac_rfl
      _ = 2 ^ x * 2 ^ 127 * (A74 * (D * Tn)) := by rfl
      _ = Tn * (2 ^ x * D) * (2 ^ 127 * A74) := by
          generalize (2 : Nat) ^ 127 = z; ac_rfl
      _ = Tn * (2 ^ x * D) * (2 * A12) := by rw [a12]
  have e3 := Nat.lt_of_mul_lt_mul_right e2
  exact Nat.lt_of_mul_lt_mul_left (a := Tn) (by omega)
end
end Fp
namespace Fp
theorem ac4 (a b c d:Nat):a * (b * c) * d=a * b * (c * d):=by ac_rfl
theorem ac5 (a b c:Nat):a * b * c=b * (a * c):=by ac_rfl
theorem ac6 (a b c:Nat):a * (b * c)=a * (c * b):=by ac_rfl
theorem ac7 (k z a j:Nat):2 * (k * (z * a) * j)=k * z * j * (2 * a):=by ac_rfl
theorem ac8 (k z j a:Nat):k * z * j * (z * a)=k * z * z * j * a:=by ac_rfl
theorem ac9 (s y g a:Nat):2 * (4 * (s * y * (g * a)))=2 * (4 * (s * y * g)) * a:=by ac_rfl
theorem pwe {a b:Nat}(h:a=b):2 ^ a=2 ^ b:=by rw [h]
theorem mre {a b:Nat}(c:Nat)(h:a=b):a * c=b * c:=by rw [h]
section
variable {d b N D g hi lo f r t:Nat}
theorem big (R:Row N D g hi lo)(P:Rep f r)(Q:Near d b N D f r t):126 ≤ b+g:=by
 apply Nat.le_of_not_lt
 intro h
 have:=high R Q 0 (by omega)
 have h1:0 < f * 2 ^ r:=Nat.mul_pos P.f0 (Nat.two_pow_pos r)
 have h2:1 * D ≤ f * 2 ^ r * D:=Nat.mul_le_mul_right _ h1
 omega
theorem yv (Q:Near d b N D f r t):d * (N * A74) ≤ f * 2 ^ r * D+t∧t * 10 ^ 18 ≤ d * (N * A74):=by
 have:=Q.v1;have h:=Q.ht;rw [tn] at h;exact ⟨this,h⟩
theorem jr (R:Row N D g hi lo)(P:Rep f r)(Q:Near d b N D f r t):b+g - 179 ≤ r:=by
 apply Nat.le_of_not_lt
 intro h
 have h1:=low R Q (b+g - 179+52) (by omega)
 obtain ⟨h2,h3⟩:=yv Q
 obtain ⟨j,hj⟩:∃ j,b+g - 179=j+1:=⟨b+g - 179 - 1,by omega⟩
 rw [hj] at h1 h
 have e1:2 ^ (j+1+52) * D=2 ^ 53 * (2 ^ j * D):=by
  rw [show j+1+52=53+j by omega,Nat.pow_add,Nat.mul_assoc]
 have hr:2 ^ r ≤ 2 ^ j:=Nat.pow_le_pow_right (by decide) (by omega)
 have e2:f * 2 ^ r * D ≤ (2 ^ 53 - 1) * (2 ^ j * D):=by
  rw [Nat.mul_assoc]
  exact Nat.mul_le_mul (by have:=P.f53;omega) (Nat.mul_le_mul_right _ hr)
 have hz:0 < 2 ^ j * D:=Nat.mul_pos (Nat.two_pow_pos j) R.d0
 rw [e1] at h1
 generalize 2 ^ j * D=z at *
 generalize d * (N * A74)=y at *
 generalize f * 2 ^ r * D=v at *
 omega
theorem vM (R:Row N D g hi lo)(P:Rep f r)(Q:Near d b N D f r t) :
  f * 2 ^ r * D=(f * 2 ^ (r - (b+g - 179))) * (2 ^ (b+g - 179) * D):=by
 have h:=jr R P Q
 have:2 ^ r=2 ^ (r - (b+g - 179)) * 2 ^ (b+g - 179):=by
  rw [← Nat.pow_add];exact pwe (by omega)
 rw [this];exact ac4 _ _ _ _
theorem Mhi (R:Row N D g hi lo)(P:Rep f r)(Q:Near d b N D f r t) :
  f * 2 ^ (r - (b+g - 179)) < 2 ^ 54:=by
 have h:=high R Q (b+g - 179+54) (by omega)
 rw [vM R P Q,Nat.pow_add,ac5 (2 ^ (b+g - 179))] at h
 exact Nat.lt_of_mul_lt_mul_right h
theorem tz (R:Row N D g hi lo)(_P:Rep f r)(Q:Near d b N D f r t) :
  55 * t ≤ 2 ^ (b+g - 179) * D:=by
 have h:=high R Q (b+g - 179+54) (by omega)
 obtain ⟨h2,h3⟩:=yv Q
 rw [Nat.pow_add,ac5 (2 ^ (b+g - 179))] at h
 generalize 2 ^ (b+g - 179) * D=z at *
 generalize d * (N * A74)=y at *
 generalize f * 2 ^ r * D=v at *
 omega
theorem Mlo (R:Row N D g hi lo)(P:Rep f r)(Q:Near d b N D f r t)(hj:0 < b+g - 179) :
  2 ^ 52 ≤ f * 2 ^ (r - (b+g - 179)):=by
 have h1:=low R Q (b+g - 179+52) (by omega)
 obtain ⟨h2,h3⟩:=yv Q
 have h4:=tz R P Q
 have hz:0 < 2 ^ (b+g - 179) * D:=Nat.mul_pos (Nat.two_pow_pos _) R.d0
 rw [Nat.pow_add,ac5 (2 ^ (b+g - 179))] at h1
 rw [vM R P Q] at h2
 generalize f * 2 ^ (r - (b+g - 179))=M at *
 generalize 2 ^ (b+g - 179) * D=z at *
 have:2 ^ 52 * z < (M+1) * z:=by rw [Nat.add_mul];omega
 have:=Nat.lt_of_mul_lt_mul_right this
 omega
theorem Xlt (Q:Near d b N D f r t):d * 2 ^ (64 - b) < 2 ^ 64:=by
 have:d * 2 ^ (64 - b) < 2 ^ b * 2 ^ (64 - b):=Nat.mul_lt_mul_of_pos_right Q.b2 (Nat.two_pow_pos _)
 rw [← Nat.pow_add,show b+(64 - b)=64 by have:=Q.b64;omega] at this
 exact this
theorem u_near (R : Row N D g hi lo)(P : Rep f r)(Q : Near d b N D f r t) :
    u64 d b g hi lo = 4 * (f * 2 ^ (r - (b + g - 179))) - 1 ∨
    u64 d b g hi lo = 4 * (f * 2 ^ (r - (b + g - 179))) ∨
    u64 d b g hi lo = 4 * (f * 2 ^ (r - (b + g - 179))) + 1 := by
  have hX := Xlt Q
  have hbg := big R P Q
  have hM : 0 < f * 2 ^ (r - (b + g - 179)) := Nat.mul_pos P.f0 (Nat.two_pow_pos _)
  have hL : d * 2 ^ (64 - b) * lo < 2 ^ 128 := by
    calc d * 2 ^ (64 - b) * lo < 2 ^ 64 * 2 ^ 64 := Nat.mul_lt_mul'' hX R.lo64
      _ = 2 ^ 128 := by decide
  have hmid : d * 2 ^ (64 - b) * hi % 2 ^ 64 * 2 ^ 64 < 2 ^ 128 := by
    have : d * 2 ^ (64 - b) * hi % 2 ^ 64 < 2 ^ 64 := Nat.mod_lt _ (Nat.two_pow_pos 64)
    have := Nat.mul_lt_mul_of_pos_right this (Nat.two_pow_pos 64)
    rw [← Nat.pow_add] at this
    exact this
  have hS : 4 ≤ 2 ^ (187 + (b + g - 179) - (b + g)) := by
    calc 4 = 2 ^ 2 := rfl
      _ ≤ _ := Nat.pow_le_pow_right (by decide) (by omega)
  have hXhi := Nat.div_add_mod (d * 2 ^ (64 - b) * hi) (2 ^ 64)
  have hsc := scale (d := d) (K := 2 ^ (64 - b)) (X := d * 2 ^ (64 - b)) (pm := hi * 2 ^ 64 - lo) (N := N)
    (H := A13) (D := D) (G := 2 ^ g) (E := A74) (F := 2 ^ (b + g - 179))
    (W := 2 ^ (187 + (b + g - 179) - (b + g)) * 2 ^ 128) (M := f * 2 ^ (r - (b + g - 179)))
    (T := d * 2 ^ (64 - b) * (hi * 2 ^ 64 - lo)) (t := t) rfl rfl R.t1 R.t2
    (by
      refine Nat.eq_of_mul_eq_mul_left (show 0 < 2 by decide) ?_
      rw [a13, ac7, a12, ac8, ac9, show (4 : Nat) = 2 ^ 2 from rfl]
      refine mre _ ?_
      rw [show ∀ x : Nat, 2 * x = 2 ^ 1 * x from fun x => by rw [Nat.pow_one]]
      simp only [← Nat.pow_add]
      have := Q.b64
      exact pwe (by omega))
    (by
      have := Q.v1
      rw [show (f * 2 ^ (r - (b + g - 179))) * (D * 2 ^ (b + g - 179)) = f * 2 ^ r * D by
        rw [vM R P Q, ac6]]
      exact this)
    (by
      have := Q.v2
      rw [show (f * 2 ^ (r - (b + g - 179))) * (D * 2 ^ (b + g - 179)) = f * 2 ^ r * D by
        rw [vM R P Q, ac6]]
      exact this)
    (by have := tz R P Q; rw [Nat.mul_comm D]; exact this)
    (by
      have : 1 * 2 ^ 128 ≤ 2 ^ (187 + (b + g - 179) - (b + g)) * 2 ^ 128 :=
        Nat.mul_le_mul_right _ (by omega)
      have h8 : 8 * (d * 2 ^ (64 - b)) ≤ 8 * 2 ^ 64 := Nat.mul_le_mul_left _ (Nat.le_of_lt hX)
      refine Nat.le_trans h8 (Nat.le_trans ?_ this)
      decide)
    (Nat.mul_pos (Nat.two_pow_pos _) (Nat.two_pow_pos _)) R.d0 (Nat.two_pow_pos g) a74pos
  exact us_near (B := 2 ^ 128) rfl hL hmid hS rfl hM
    (by
      have e : d * 2 ^ (64 - b) * (hi * 2 ^ 64 - lo) + d * 2 ^ (64 - b) * lo =
          (d * 2 ^ (64 - b) * hi) * 2 ^ 64 := by
        rw [← Nat.mul_add, Nat.sub_add_cancel R.le, ← Nat.mul_assoc]
      rw [e]
      have e2 : (2 ^ 64 * (d * 2 ^ (64 - b) * hi / 2 ^ 64) + d * 2 ^ (64 - b) * hi % 2 ^ 64) * 2 ^ 64 =
          (d * 2 ^ (64 - b) * hi / 2 ^ 64) * (2 ^ 64 * 2 ^ 64) + d * 2 ^ (64 - b) * hi % 2 ^ 64 * 2 ^ 64 := by
        rw [Nat.add_mul, Nat.mul_comm (2 ^ 64) (d * 2 ^ (64 - b) * hi / 2 ^ 64), Nat.mul_assoc]
      rw [hXhi] at e2
      rw [e2, ← Nat.pow_add])
    hsc.1 hsc.2
end
end Fp
namespace Fp
section
variable {d b N D g hi lo f r t:Nat}
theorem pack_eq (P:Rep f r):pack f r=f+r * 2 ^ 52:=by
 unfold pack
 rcases P.norm with h|h
 ·rw [if_neg (by omega),Nat.add_mul];omega
 ·subst h
  split <;> omega
theorem parse64_eq (R:Row N D g hi lo)(P:Rep f r)(Q:Near d b N D f r t) :
  parse64 d b g hi lo=f+r * 2 ^ 52:=by
 have hn:=u_near R P Q
 have hj:=jr R P Q
 have hhi:=Mhi R P Q
 have hlo:=Mlo R P Q
 rw [← pack_eq P]
 unfold parse64
 generalize hjj:b+g - 179=j at *
 generalize u64 d b g hi lo=u at *
 obtain ⟨k,hk⟩:∃ k,r=j+k:=⟨r - j,by omega⟩
 have hrj:r - j=k:=by omega
 rw [hrj] at hn hhi hlo
 have f0:=P.f0
 have f53:=P.f53
 match k,hk with
 | 0,hk =>
   rw [Nat.pow_zero,Nat.mul_one] at hn
   have hr:r=j:=by omega
   rw [if_neg (by omega),rnd_near f0 hn,hr]
 | 1,hk =>
   rw [Nat.pow_one,Nat.mul_comm f 2] at hn
   have h52:2 ^ 52 ≤ f:=by
    rcases P.norm with h|h
    ·exact h
    ·omega
   have hr:r=j+1:=by omega
   rw [if_pos (by omega),rnd_near f0 (half_near f0 hn),hr]
 | k+2,hk =>
   exfalso
   have h52:2 ^ 52 ≤ f:=by
    rcases P.norm with h|h
    ·exact h
    ·omega
   have h4:4 ≤ 2 ^ (k+2):=by
    have:2 ^ 2 ≤ 2 ^ (k+2):=Nat.pow_le_pow_right (by decide) (by omega)
    omega
   have:=Nat.mul_le_mul h52 h4
   omega
theorem shift_lt (R:Row N D g hi lo)(P:Rep f r)(Q:Near d b N D f r t) :
  8 ≤ 187+(b+g - 179) - (b+g)∧187+(b+g - 179) - (b+g) < 64:=by
 have:=big R P Q
 omega
end
end Fp
namespace Fp
open Ieee
theorem log2_rep {f r:Nat}(P:Rep f r):(f.log2=52∧2 ^ 52 ≤ f) ∨ (f.log2 < 52∧r=0):=by
 have f0:=P.f0
 have h53:f.log2 < 53:=(Nat.log2_lt (by omega)).2 P.f53
 by_cases h:2 ^ 52 ≤ f
 ·have:52 ≤ f.log2:=(Nat.le_log2 (by omega)).2 h
  exact Or.inl ⟨by omega,h⟩
 ·refine Or.inr ⟨(Nat.log2_lt (by omega)).2 (by omega),?_⟩
  rcases P.norm with h'|h'
  ·exact absurd h' h
  ·exact h'
theorem log2_shift {m k:Nat}(hm:0 < m):(m * 2 ^ k).log2=m.log2+k:=by
 have hp:0 < m * 2 ^ k:=Nat.mul_pos hm (Nat.two_pow_pos k)
 rw [Nat.log2_eq_iff (by omega)]
 have h1:2 ^ m.log2 ≤ m:=Nat.log2_self_le (by omega)
 have h2:m < 2 ^ (m.log2+1):=Nat.lt_log2_self
 constructor
 ·rw [Nat.pow_add];exact Nat.mul_le_mul_right _ h1
 ·rw [show m.log2+k+1=m.log2+1+k by omega,Nat.pow_add (m:=m.log2+1)]
  exact Nat.mul_lt_mul_of_pos_right h2 (Nat.two_pow_pos k)
theorem cut0 (neg:Bool)(n:Nat):Toward.even.cut neg n 0=n:=by
 simp [Toward.cut,Nat.mod_one]
theorem cutk (neg:Bool){n k:Nat}(hn:0 < n):Toward.even.cut neg (n * 2 ^ k) k=n:=by
 have hl:min k ((n * 2 ^ k).log2+2)=k:=by rw [log2_shift hn];omega
 have hp:=Nat.two_pow_pos k
 simp only [Toward.cut,hl,Nat.one_shiftLeft,Nat.mul_div_cancel _ hp,Nat.mul_mod_left]
 have h1:¬ (2 ^ k=0):=by omega
 simp
theorem nearest_rep (neg:Bool){mag:Nat}{place:Int}{f r:Nat}(P:Rep f r)(hr:r ≤ 2045)
  (h:∃ k:Nat,(place=(r:Int) - 1074+k∧mag * 2 ^ k=f) ∨
   (place+k=(r:Int) - 1074∧mag=f * 2 ^ k)) :
  double.nearest neg mag place=double.word neg (f+r * 2 ^ 52):=by
 have f0:=P.f0
 have hm:0 < mag:=by
  obtain ⟨k,⟨_,h⟩|⟨_,h⟩⟩:=h
  ·apply Nat.pos_of_ne_zero;intro e;subst e;simp at h;omega
  ·rw [h];exact Nat.mul_pos f0 (Nat.two_pow_pos k)
 have hL:place+mag.log2=(r:Int) - 1074+f.log2:=by
  obtain ⟨k,⟨h1,h⟩|⟨h1,h⟩⟩:=h
  ·rw [← h,log2_shift hm];omega
  ·rw [h,log2_shift f0];omega
 have hlast:max (place+mag.log2 - (double.fractionBits:Int)) double.leastPlace=(r:Int) - 1074:=by
  have e1:double.leastPlace=-1074:=by decide
  have e2:(double.fractionBits:Int)=52:=rfl
  rw [e1,e2,hL]
  rcases log2_rep P with ⟨h,_⟩|⟨h,h'⟩ <;> omega
 have e1:double.leastPlace=-1074:=by decide
 have eb:double.binade=2 ^ 52:=rfl
 have ei:double.infRung=2047 * 2 ^ 52:=rfl
 unfold Format.nearest
 rw [if_neg (by omega)]
 simp only [hlast]
 have hkept:Toward.even.cut neg (mag <<< (place - ((r:Int) - 1074)).toNat)
   (((r:Int) - 1074) - place).toNat=f:=by
  obtain ⟨k,⟨h1,h⟩|⟨h1,h⟩⟩:=h
  ·have a:(place - ((r:Int) - 1074)).toNat=k:=by omega
   have b:(((r:Int) - 1074) - place).toNat=0:=by omega
   rw [a,b,cut0,Nat.shiftLeft_eq,h]
  ·have a:(place - ((r:Int) - 1074)).toNat=0:=by omega
   have b:(((r:Int) - 1074) - place).toNat=k:=by omega
   rw [a,b,Nat.shiftLeft_zero,h,cutk neg f0]
 rw [hkept,e1,eb,ei]
 have ht:((r:Int) - 1074 - -1074).toNat=r:=by omega
 rw [ht]
 have hf:f < 2 * 2 ^ 52:=P.f53
 have hB:=Nat.mul_le_mul_right (2 ^ 52) hr
 generalize 2 ^ 52=B at hf hB ⊢
 rw [Nat.add_comm,Nat.min_eq_left (by omega)]
end Fp
namespace Fp
open Ieee
theorem read_word (neg:Bool){f r:Nat}(P:Rep f r)(hr:r ≤ 2045) :
  double.read (double.word neg (f+r * 2 ^ 52))=.number neg f ((r:Int) - 1074):=by
 have f0:=P.f0
 have hf:f < 2 * 2 ^ 52:=P.f53
 have hB:=Nat.mul_le_mul_right (2 ^ 52) hr
 have hn:=P.norm
 have hlt:f+r * 2 ^ 52 < 2 ^ 63:=by
  have:(2:Nat) ^ 63=2048 * 2 ^ 52:=rfl
  rw [this]
  generalize 2 ^ 52=B at *
  omega
 have es:double.signWeight=2 ^ 63:=rfl
 have eb:double.binade=2 ^ 52:=rfl
 have ei:double.infRung=2047 * 2 ^ 52:=rfl
 have el:double.leastPlace=-1074:=by decide
 have hneg:(double.word neg (f+r * 2 ^ 52) / double.signWeight % 2 == 1)=neg:=by
  rw [Format.word,es]
  generalize f+r * 2 ^ 52=x at hlt
  cases neg
  ·simp [Nat.div_eq_of_lt hlt]
  ·rw [if_pos rfl,Nat.add_div_left _ (Nat.two_pow_pos 63),Nat.div_eq_of_lt hlt];rfl
 have hmod:double.word neg (f+r * 2 ^ 52) % double.signWeight=f+r * 2 ^ 52:=by
  rw [Format.word,es]
  generalize f+r * 2 ^ 52=x at hlt
  cases neg
  ·simp [Nat.mod_eq_of_lt hlt]
  ·rw [if_pos rfl,Nat.add_mod_left,Nat.mod_eq_of_lt hlt]
 unfold Format.read
 simp only [hneg,hmod]
 rw [eb,ei,el]
 rcases hn with h|h
 ·have hB0:0 < 2 ^ 52:=Nat.two_pow_pos 52
  have hge:¬ (f+r * 2 ^ 52 < 2 ^ 52):=by
   generalize 2 ^ 52=B at *;omega
  have hin:f+r * 2 ^ 52 < 2047 * 2 ^ 52:=by
   generalize 2 ^ 52=B at *;omega
  rw [if_neg hge,if_pos hin]
  have e1:f+r * 2 ^ 52=(f - 2 ^ 52)+(r+1) * 2 ^ 52:=by
   rw [Nat.add_mul];generalize 2 ^ 52=B at *;omega
  have hs:f - 2 ^ 52 < 2 ^ 52:=by
   generalize 2 ^ 52=B at *;omega
  have e2:(f+r * 2 ^ 52) % 2 ^ 52=f - 2 ^ 52:=by
   rw [e1,Nat.add_mul_mod_self_right,Nat.mod_eq_of_lt hs]
  have e3:(f+r * 2 ^ 52) / 2 ^ 52=r+1:=by
   rw [e1,Nat.add_mul_div_right _ _ hB0,Nat.div_eq_of_lt hs,Nat.zero_add]
  rw [e2,e3]
  have e4:2 ^ 52+(f - 2 ^ 52)=f:=by generalize 2 ^ 52=B at *;omega
  rw [e4]
  congr 1
 ·subst h
  by_cases hlt2:f+0 * 2 ^ 52 < 2 ^ 52
  ·rw [if_pos hlt2]
   simp
  ·have e:f+0 * 2 ^ 52 < 2047 * 2 ^ 52:=by
    generalize 2 ^ 52=B at *;omega
   rw [if_neg hlt2,if_pos e]
   have hB0:0 < 2 ^ 52:=Nat.two_pow_pos 52
   have e0:f+0 * 2 ^ 52=f:=by simp
   rw [e0] at hlt2 ⊢
   have e1:f=(f - 2 ^ 52)+1 * 2 ^ 52:=by generalize 2 ^ 52=B at *;omega
   have hs:f - 2 ^ 52 < 2 ^ 52:=by generalize 2 ^ 52=B at *;omega
   have e2:f % 2 ^ 52=f - 2 ^ 52:=by
    conv=>lhs;rw [e1]
    rw [Nat.add_mul_mod_self_right,Nat.mod_eq_of_lt hs]
   have e3:f / 2 ^ 52=1:=by
    conv=>lhs;rw [e1]
    rw [Nat.add_mul_div_right _ _ hB0,Nat.div_eq_of_lt hs]
   rw [e2,e3]
   have e4:2 ^ 52+(f - 2 ^ 52)=f:=by generalize 2 ^ 52=B at *;omega
   rw [e4]
   rfl
theorem div_rep {sx sy : Bool}{m a n c f r : Nat}(X : Rep m a)(ha : a ≤ 2045)(Y : Rep n c)(hc : c ≤ 2045)
    (P : Rep f r) (hr : r ≤ 2045) (h : m * 2 ^ (a + 1074) = f * n * 2 ^ (r + c)) :
    double.div (double.word sx (m + a * 2 ^ 52)) (double.word sy (n + c * 2 ^ 52)) =
      some (double.word (sx ^^ sy) (f + r * 2 ^ 52)) := by
  have m0 := X.f0
  have n0 := Y.f0
  have f0 := P.f0
  unfold Format.div
  rw [read_word sx X ha, read_word sy Y hc]
  simp only [Datum.quotient]
  rw [if_neg (by omega)]
  simp only [Option.map_some, Format.write]
  have ed : double.fractionBits + 2 = 54 := rfl
  rw [ed]
  generalize hmore : 54 + n.log2 - m.log2 = more
  have hmm : 54 + n.log2 ≤ m.log2 + more := by omega
  have hu : ∃ u, u + a + 1074 = r + c + more ∧ m * 2 ^ more = f * 2 ^ u * n := by
    by_cases hle : a + 1074 ≤ r + c + more
    · refine ⟨r + c + more - (a + 1074), by omega, ?_⟩
      apply Nat.eq_of_mul_eq_mul_right (Nat.two_pow_pos (a + 1074))
      calc m * 2 ^ more * 2 ^ (a + 1074) = m * 2 ^ (a + 1074) * 2 ^ more := by
            rw [Nat.mul_assoc, Nat.mul_comm (2 ^ more), ← Nat.mul_assoc]
        _ = f * n * 2 ^ (r + c) * 2 ^ more := by rw [h]
        _ = f * n * 2 ^ (r + c + more) := by rw [Nat.mul_assoc, ← Nat.pow_add]
        _ = f * n * (2 ^ (r + c + more - (a + 1074)) * 2 ^ (a + 1074)) := by
            rw [← Nat.pow_add, Nat.sub_add_cancel hle]
        _ = f * 2 ^ (r + c + more - (a + 1074)) * n * 2 ^ (a + 1074) := by
            generalize 2 ^ (r + c + more - (a + 1074)) = p
            generalize 2 ^ (a + 1074) = q
            ac_rfl
    · exfalso
      have hw : a + 1074 = more + (a + 1074 - (r + c + more)) + (r + c) := by omega
      have e : m * 2 ^ more * 2 ^ (a + 1074 - (r + c + more)) = f * n := by
        apply Nat.eq_of_mul_eq_mul_right (Nat.two_pow_pos (r + c))
        rw [← h]
        have e2 : 2 ^ (a + 1074) = 2 ^ more * 2 ^ (a + 1074 - (r + c + more)) * 2 ^ (r + c) := by
          rw [← Nat.pow_add, ← Nat.pow_add, ← hw]
        rw [e2]
        generalize 2 ^ more = x1
        generalize 2 ^ (a + 1074 - (r + c + more)) = x2
        generalize 2 ^ (r + c) = x3
        ac_rfl
      have h1 : 2 ^ (54 + n.log2) ≤ m * 2 ^ more := by
        have : 2 ^ m.log2 ≤ m := Nat.log2_self_le (by omega)
        have h2 := Nat.mul_le_mul_right (2 ^ more) this
        rw [← Nat.pow_add] at h2
        exact Nat.le_trans (Nat.pow_le_pow_right (by decide) hmm) h2
      have h2 : f * n < 2 ^ 53 * 2 ^ (n.log2 + 1) := Nat.mul_lt_mul'' P.f53 Nat.lt_log2_self
      rw [← Nat.pow_add, show 53 + (n.log2 + 1) = 54 + n.log2 by omega, ← e] at h2
      have h3 : m * 2 ^ more * 1 ≤ m * 2 ^ more * 2 ^ (a + 1074 - (r + c + more)) :=
        Nat.mul_le_mul_left _ (Nat.two_pow_pos _)
      omega
  obtain ⟨u, hu1, hu2⟩ := hu
  rw [Nat.shiftLeft_eq, hu2, Nat.mul_div_cancel _ n0, Nat.mul_mod_left]
  have e0 : 2 * (f * 2 ^ u) + ((0 : Nat) != 0).toNat = f * 2 ^ (u + 1) := by
    have : ((0 : Nat) != 0).toNat = 0 := rfl
    rw [this, Nat.add_zero, Nat.pow_succ]; generalize 2 ^ u = x; ac_rfl
  rw [e0, nearest_rep _ P hr ⟨u + 1, Or.inr ⟨by omega, rfl⟩⟩]
end Fp
namespace Fp
open Go
def tenN (i:Nat):Nat:=10 ^ (i - 348)
def tenD (i:Nat):Nat:=10 ^ (348 - i)
def rowG (i:Nat):Nat:=(i * 108853+1440756) / 32768
def rowB (i hi lo:Nat):Bool :=
 Nat.blt hi (2 ^ 64) && (Nat.blt lo (2 ^ 64) && (Nat.ble lo (hi * 2 ^ 64) &&
 (Nat.ble ((hi * 2 ^ 64 - lo) * (tenD i * 2 ^ rowG i)) (tenN i * 2 ^ 1327+tenD i * 2 ^ rowG i) &&
 (Nat.ble (tenN i * 2 ^ 1327) ((hi * 2 ^ 64 - lo) * (tenD i * 2 ^ rowG i)+tenD i * 2 ^ rowG i) &&
 (Nat.ble (tenD i * 2 ^ rowG i) (tenN i * 2 ^ 1200) &&
 Nat.ble ((tenN i * 2 ^ 1200) * (10 ^ 18+1)) ((tenD i * 2 ^ rowG i * 2) * 10 ^ 18))))))
def rowsB:Nat→List (Nat × Nat)→Bool
 | _,[]=>true
 | i,x :: l=>rowB i x.1 x.2 && rowsB (i+1) l
theorem rowB_row {i hi lo:Nat}(h:rowB i hi lo=true):Row (tenN i) (tenD i) (rowG i) hi lo:=by
 unfold rowB at h
 simp only [Bool.and_eq_true,Nat.ble_eq,Nat.blt_eq] at h
 obtain ⟨h1,h2,h3,h4,h5,h6,h7⟩:=h
 constructor
 ·exact Nat.pow_pos (by decide)
 ·exact h1
 ·exact h2
 ·exact h3
 ·unfold A13;exact h4
 ·unfold A13;exact h5
 ·unfold A12;exact h6
 ·unfold A12 Tn;exact h7
theorem rowsB_get:∀ {l:List (Nat × Nat)} {i k:Nat} {x:Nat × Nat},rowsB i l=true→l[k]?=some x→rowB (i+k) x.1 x.2=true
 | [],_,_,_,_,h=>by simp at h
 | y :: l,i,0,x,hb,h=>by
   simp only [List.getElem?_cons_zero,Option.some.injEq] at h
   subst h
   simp only [rowsB,Bool.and_eq_true] at hb
   exact hb.1
 | y :: l,i,k+1,x,hb,h=>by
   simp only [List.getElem?_cons_succ] at h
   simp only [rowsB,Bool.and_eq_true] at hb
   have:=rowsB_get hb.2 h
   rw [show i+(k+1)=i+1+k by omega]
   exact this
theorem rows_ok:rowsB 0 Pinned.pow10Rows=true:=by kernel_rfl
theorem row_ok {i hi lo:Nat}(h:Pinned.pow10Rows[i]?=some (hi,lo)):Row (tenN i) (tenD i) (rowG i) hi lo:=by
 have:=rowsB_get rows_ok h
 rw [Nat.zero_add] at this
 exact rowB_row this
end Fp
namespace Go.Am
structure RS where
 saw:Bool
 nd:Nat
 nm:Nat
 mant:Nat
 dp:Int
 tr:Bool
def RS.dig (st:RS)(d:Nat):RS :=
 if d=0∧st.nd=0 then { st with dp:=Int.sub st.dp 1 }
 else if st.nm < 19 then { st with nd:=st.nd+1,mant:=st.mant * 10+d,nm:=st.nm+1 }
 else { st with nd:=st.nd+1,tr:=st.tr || !(decide (d=0)) }
def RS.step (st:RS)(c:UInt8):RS:=if c=46 then { st with saw:=true,dp:=.ofNat st.nd } else st.dig (c.toNat - 48)
def rs0:RS:=⟨false,0,0,0,0,false⟩
def cG (l:List UInt8):RS:=l.foldl RS.step rs0
theorem aEb {l:List UInt8}{j:Nat}(h:j < l.length):cG (l.take (j+1))=(cG (l.take j)).step l[j]:=by
 unfold cG
 rw [List.take_succ_eq_append_getElem h,List.foldl_append];rfl
structure RS.In (st:RS)(j:Nat):Prop where
 nd:st.nd ≤ j
 nm:st.nm ≤ 19
 nmd:st.nm ≤ st.nd
 mant:st.mant < 10 ^ st.nm
 lo:-(j:Int) ≤ st.dp
 hi:st.dp ≤ (j:Int)
theorem RS.In.step {st:RS}{j:Nat}(h:st.In j){c:UInt8}(hc:oY c=true ∨ c=46):(st.step c).In (j+1):=by
 obtain ⟨h1,h2,h3,h4,h5,h6⟩:=h
 unfold RS.step
 by_cases e:c=46
 ·rw [if_pos e]
  exact ⟨by show st.nd ≤ j+1;omega,h2,h3,h4,by show -((j+1:Nat):Int) ≤ (st.nd:Int);omega,by show (st.nd:Int) ≤ ((j+1:Nat):Int);omega⟩
 ·rw [if_neg e]
  have hd:c.toNat - 48 < 10:=by
   rcases hc with hc|hc
   ·have:=dI.1 hc;omega
   ·exact absurd hc e
  generalize c.toNat - 48=d at *
  unfold RS.dig
  by_cases h0:d=0∧st.nd=0
  ·rw [if_pos h0]
   exact ⟨by show st.nd ≤ j+1;omega,h2,h3,h4,by show -((j+1:Nat):Int) ≤ st.dp - 1;omega,by show st.dp - 1 ≤ ((j+1:Nat):Int);omega⟩
  ·rw [if_neg h0]
   by_cases h9:st.nm < 19
   ·rw [if_pos h9]
    exact ⟨by show st.nd+1 ≤ j+1;omega,by show st.nm+1 ≤ 19;omega,by show st.nm+1 ≤ st.nd+1;omega,by show st.mant * 10+d < 10 ^ (st.nm+1);rw [Nat.pow_succ];omega,by show -((j+1:Nat):Int) ≤ st.dp;omega,by show st.dp ≤ ((j+1:Nat):Int);omega⟩
   ·rw [if_neg h9]
    exact ⟨by show st.nd+1 ≤ j+1;omega,h2,by show st.nm ≤ st.nd+1;omega,h4,by show -((j+1:Nat):Int) ≤ st.dp;omega,by show st.dp ≤ ((j+1:Nat):Int);omega⟩
theorem RS.In.zero:rs0.In 0:=⟨Nat.le_refl _,by decide,Nat.le_refl _,by decide,by decide,by decide⟩
theorem aFg {l:List UInt8}(h:∀ c ∈ l,oY c=true ∨ c=46):∀ {j:Nat},j ≤ l.length→(cG (l.take j)).In j
 | 0,_=>by simpa [cG] using RS.In.zero
 | j+1,hj=>by
   rw [aEb hj]
   exact (aFg h om).step (h _ (List.getElem_mem _))
theorem RS.In.mant64 {st:RS}{j:Nat}(h:st.In j):st.mant < 10000000000000000000:=Nat.lt_of_lt_of_le h.mant (Nat.le_trans (Nat.pow_le_pow_right dc h.nm) dc)
theorem aGM:∀ (l:List UInt8) (st:RS),(l.foldl RS.step st).saw=(st.saw || l.any (fun c=>decide (c=46)))
 | [],st=>by simp
 | c :: l,st=>by
   rw [List.foldl_cons,aGM l,List.any_cons]
   unfold RS.step RS.dig
   by_cases e:c=46
   ·simp [e]
   ·simp only [e,if_false,decide_false,Bool.false_or]
    split <;> (try split) <;> rfl
def oX (l:List UInt8):Nat:=l.foldl (fun e c=>e * 10+(c.toNat - 48)) 0
theorem aEk {l:List UInt8}{j:Nat}(h:j < l.length):oX (l.take (j+1))=oX (l.take j) * 10+(l[j].toNat - 48):=by
 unfold oX
 rw [List.take_succ_eq_append_getElem h,List.foldl_append];rfl
theorem aKa {l:List UInt8}(h:l.all oY=true):∀ {j:Nat},j ≤ l.length→oX (l.take j) < 10 ^ j
 | 0,_=>by simp [oX]
 | j+1,hj=>by
   have ih:=aKa h (j:=j) om
   have:=dI.1 (List.all_eq_true.1 h _ (List.getElem_mem hj))
   rw [aEk hj,Nat.pow_succ];omega
end Go.Am
namespace Go.Am
open Go.Proofs
attribute [local irreducible] fN fI fB bX eR evCode evOps rX kOp aAv wW uM wX kGc aKT aKS kDr kMg drOps eN kT sl
theorem vZ {s:List UInt8}{n:Nat}{c:UInt8}(h:s[n]?=some c):nth s n=some c:=by rw [nth_eq];exact h
theorem aOK {K:IntKind}{x:Int}{k:Int→Prop}(h:k x)(h1:K.min ≤ x)(h2:x ≤ K.max):eR K x k:=uJ (by rw [rQ K x h1 h2];exact h)
theorem aKe {x:Int}{k:Int→Prop}(h:k x)(h1:-9223372036854775808 ≤ x)(h2:x ≤ 9223372036854775807):eR .i64 x k:=aOK h h1 h2
theorem gV {x:Int}{k:Int→Prop}(y:Int)(hx:x=y)(h:k y)(h1:-9223372036854775808 ≤ y)(h2:y ≤ 9223372036854775807):eR .i64 x k:=by subst hx;exact aKe h h1 h2
theorem or8:∀ c:Nat,c < 256→IntKind.u8.wrap ((BitVec.ofInt IntKind.u8.bits (Int.ofNat c) ||| BitVec.ofInt IntKind.u8.bits (Int.ofNat 32)).toNat:Int)=Int.ofNat (c ||| 32):=by decide
theorem aNY:∀ c:Nat,c < 256→c ≠ 120→c ≠ 88→c ||| 32 ≠ 120:=by decide
theorem aPt:bA Tryz.prog 299 5 [.tmp 2] (aM Tryz.f299):=fq Tryz.f299
theorem tZ {c:Nat}(hc:c < 256){S:St}{k:V→St→Prop}(hk:k (.int .u8 (.ofNat (c ||| 32))) S):RC Tryz.prog 299 [.int .u8 (.ofNat c)] S k:=by
 refine RC.run mixed aV (aH aPt ?_)
 refine enter ?_
 refine go ?_
 refine dH (c ||| 32) (or8 c hc) ?_
 refine go ?_
 exact hk
def oU (B E:List UInt8):Int:=Int.sub (if (cG B).saw then (cG B).dp else .ofNat (cG B).nd) (.ofNat (oX E))
def kY (B E:List UInt8):Int:=if (cG B).mant=0 then 0 else Int.sub (oU B E) (.ofNat (cG B).nm)
def rfV (s sg B E:List UInt8):V:=.tup [.int .u64 (.ofNat (cG B).mant),.int .i64 (kY B E),.bool (decide (sg=[45])),.bool (cG B).tr,.bool false,.int .i64 (.ofNat s.length),.bool true]
theorem aVh:bA Tryz.prog 287 253 [.tmp 2,.tmp 3,.tmp 4,.tmp 5,.tmp 6,.tmp 7,.tmp 8] (aM Tryz.f287):=fq Tryz.f287
theorem aDd {s sg D tl F ex E:List UInt8}(hs:s=sg ++ (D ++ tl) ++ ex)(hD:Dec (sg ++ (D ++ tl)) sg D tl F)(hex:(ex=[]∧E=[]) ∨ (ex=101 :: 45 :: E∧E ≠ []))(hE:E.all oY=true)(hE4:E.length ≤ 4)(hlen:s.length ≤ 2000){S:St}{k:V→St→Prop}(hk:k (rfV s sg (D ++ tl) E) S):RC Tryz.prog 287 [.str s] S k:=by
 refine RC.run mixed aV (aH aVh ?_)
 have hD0:0 < D.length:=List.length_pos_iff.2 hD.d0
 have hl1:s.length=sg.length+(D ++ tl).length+ex.length:=by rw [hs];simp;omega
 have hB:∀ c ∈ D ++ tl,oY c=true ∨ c=46:=fun c hc=>by
  rcases List.mem_append.1 hc with h|h
  ·exact .inl (List.all_eq_true.1 hD.d c h)
  ·rcases hD.tl' with ⟨rfl,_⟩|rfl
   ·simp at h
   ·rcases List.mem_cons.1 h with rfl|h
    ·exact .inr rfl
    ·exact .inl (List.all_eq_true.1 hD.f c h)
 have hsaw:∀ j,j ≤ (D ++ tl).length→(cG ((D ++ tl).take j)).saw=decide (D.length < j):=fun j hj=>by
  unfold cG
  rw [aGM]
  show (false || _)=_
  rw [Bool.false_or]
  have hDn:D.any (fun c=>decide (c=46))=false:=by
   rw [List.any_eq_false]
   intro c hc h
   have:=List.all_eq_true.1 hD.d c hc
   rw [of_decide_eq_true h] at this
   exact absurd this dc
  rw [List.take_append,List.any_append]
  have h1:(D.take j).any (fun c=>decide (c=46))=false:=by
   rw [List.any_eq_false] at hDn ⊢
   exact fun c hc=>hDn c (List.mem_of_mem_take hc)
  rw [h1,Bool.false_or]
  rcases hD.tl' with ⟨rfl,_⟩|rfl
  ·simp at hj ⊢;omega
  ·by_cases h:D.length < j
   ·obtain ⟨m,hm⟩:∃ m,j - D.length=m+1:=⟨j - D.length - 1,by omega⟩
    rw [hm,List.take_succ_cons,List.any_cons]
    simp [h]
   ·have:j - D.length=0:=by omega
    rw [this];simp [h]
 have hBlen:(D ++ tl).length=D.length+tl.length:=by simp
 have hat:∀ j (h:j < (D ++ tl).length),s[sg.length+j]?=some (D ++ tl)[j]:=fun j h=>by
  rw [hs,List.append_assoc,List.getElem?_append_right om,Nat.add_sub_cancel_left,List.getElem?_append_left h,List.getElem?_eq_getElem h]
 have hdig:∀ j (h:j < (D ++ tl).length),j ≠ D.length→oY (D ++ tl)[j]=true:=fun j h hn=>by
  by_cases hj:j < D.length
  ·rw [List.getElem_append_left hj]
   exact List.all_eq_true.1 hD.d _ (List.getElem_mem hj)
  ·rw [List.getElem_append_right om]
   rcases hD.tl' with ⟨e,_⟩|e
   ·rw [hBlen,e] at h;simp at h;omega
   ·have hlt:j - D.length - 1 < F.length:=by rw [hBlen,e] at h;simp at h;omega
    have:tl[j - D.length]'(by rw [hBlen] at h;omega)=F[j - D.length - 1]:=by
     simp only [e]
     rw [List.getElem_cons,dif_neg om]
    rw [this]
    exact List.all_eq_true.1 hD.f _ (List.getElem_mem hlt)
 have hpt:∀ (h:D.length < (D ++ tl).length),(D ++ tl)[D.length]=46:=fun h=>by
  rw [List.getElem_append_right (Nat.le_refl _)]
  rcases hD.tl' with ⟨e,_⟩|e
  ·rw [hBlen,e] at h;simp at h
  ·simp only [e,Nat.sub_self,List.getElem_cons_zero]
 have hin:∀ j,j ≤ (D ++ tl).length→(cG ((D ++ tl).take j)).In j:=fun j hj=>aFg hB hj
 generalize hBB:D ++ tl=B at *
 have hB0:0 < B.length:=by omega
 have hc1:∀ c,s[sg.length+1]?=some c→c.toNat ≠ 120∧c.toNat ≠ 88:=fun c h=>by
  by_cases h1:1 < B.length
  ·rw [hat 1 h1] at h
   have:=hB _ (List.getElem_mem h1)
   rw [Option.some.inj h] at this
   rcases this with h|h
   ·have:=dI.1 h;omega
   ·subst h;decide
  ·rw [hs,List.getElem?_append_right (by simp;omega)] at h
   have e:sg.length+1 - (sg ++ B).length=0:=by simp;omega
   rw [e] at h
   rcases hex with ⟨e,_⟩|⟨e,_⟩
   ·rw [e] at h;simp at h
   ·rw [e] at h;simp at h;subst h;decide
 have hx0:∀ h:B.length < (B ++ ex).length,s[sg.length+B.length]?=some 101:=fun h=>by
  rw [hs,List.append_assoc,List.getElem?_append_right om,Nat.add_sub_cancel_left,List.getElem?_append_right om,Nat.sub_self]
  rcases hex with ⟨e,_⟩|⟨e,_⟩
  ·rw [e] at h;simp at h
  ·rw [e];rfl
 refine enter ?_
 refine go ?_
 refine aZ (fun _=>?_) (fun h=>absurd h (by rw [aL];show ¬ _ ≤ 0;omega))
 refine go ?_
 apply LP.join 253 [(0,.str s),(2,.int .u64 (.ofNat 0)),(3,.int .i64 0),(4,.bool (decide (sg=[45]))),(5,.bool false),(6,.bool false),(7,.int .i64 (.ofNat sg.length)),(9,.bool false),(10,.int .u64 10),(11,.int .i64 19),(12,.int .u8 101),(13,.bool false),(14,.bool false),(15,.int .i64 (.ofNat 0)),(16,.int .i64 (.ofNat 0)),(17,.int .i64 (.ofNat 0))]
 intro key
 obtain hsg|hsg:=hD.sg'
 have h0:s[0]?=some B[0]:=by have:=hat 0 hB0;rw [hsg] at this;simpa using this
 have hB0':=h0
 have hd0:=dI.1 (hdig 0 hB0 om)
 refine bW _ (vZ h0) ?_
 refine go ?_
 refine bL (fun (h:_=43)=>by omega) (fun _=>?_)
 refine go ?_
 refine bL (fun (h:_=45)=>by omega) (fun _=>?_)
 refine go ?_
 refine bF 2 ?_
 refine go ?_
 refine aZ (fun h2=>?_) (fun h2=>?_)
 rw [aL] at h2
 refine go ?_
 refine bW _ (vZ hB0') ?_
 refine go ?_
 refine bL (fun h48=>?_) (fun h48=>?_)
 refine go ?_
 refine bF 1 ?_
 refine go ?_
 have hlt1:1 < s.length:=Nat.lt_of_succ_lt h2
 refine bW _ (rD hlt1) ?_
 have hne:=hc1 s[1] (by rw [← List.getElem?_eq_getElem hlt1,hsg];rfl)
 refine go ?_
 refine tZ (UInt8.toNat_lt _) ?_
 refine go ?_
 refine bL (fun h=>absurd h (aNY _ (UInt8.toNat_lt _) hne.1 hne.2)) (fun _=>?_)
 refine go ?_
 exact key _ ⟨rfl,rfl,rfl,rfl,by rw [hsg];rfl,rfl,rfl,by rw [hsg];rfl,rfl,rfl,rfl,rfl,rfl,rfl,rfl,rfl,rfl,trivial⟩
 refine go ?_
 exact key _ ⟨rfl,rfl,rfl,rfl,by rw [hsg];rfl,rfl,rfl,by rw [hsg];rfl,rfl,rfl,rfl,rfl,rfl,rfl,rfl,rfl,rfl,trivial⟩
 refine go ?_
 exact key _ ⟨rfl,rfl,rfl,rfl,by rw [hsg];rfl,rfl,rfl,by rw [hsg];rfl,rfl,rfl,rfl,rfl,rfl,rfl,rfl,rfl,rfl,trivial⟩
 have h0:s[0]?=some 45:=by rw [hs,hsg];rfl
 refine bW _ (vZ h0) ?_
 refine go ?_
 refine bF 1 ?_
 refine go ?_
 have hB0':s[1]?=some B[0]:=by have:=hat 0 hB0;rw [hsg] at this;simpa using this
 refine bF 3 ?_
 refine go ?_
 refine aZ (fun h2=>?_) (fun h2=>?_)
 rw [aL] at h2
 refine go ?_
 refine bW _ (vZ hB0') ?_
 refine go ?_
 refine bL (fun h48=>?_) (fun h48=>?_)
 refine go ?_
 refine bF 2 ?_
 refine go ?_
 have hlt1:2 < s.length:=Nat.lt_of_succ_lt h2
 refine bW _ (rD hlt1) ?_
 have hne:=hc1 s[2] (by rw [← List.getElem?_eq_getElem hlt1,hsg];rfl)
 refine go ?_
 refine tZ (UInt8.toNat_lt _) ?_
 refine go ?_
 refine bL (fun h=>absurd h (aNY _ (UInt8.toNat_lt _) hne.1 hne.2)) (fun _=>?_)
 refine go ?_
 exact key _ ⟨rfl,rfl,rfl,rfl,by rw [hsg];rfl,rfl,rfl,by rw [hsg];rfl,rfl,rfl,rfl,rfl,rfl,rfl,rfl,rfl,rfl,trivial⟩
 refine go ?_
 exact key _ ⟨rfl,rfl,rfl,rfl,by rw [hsg];rfl,rfl,rfl,by rw [hsg];rfl,rfl,rfl,rfl,rfl,rfl,rfl,rfl,rfl,rfl,trivial⟩
 refine go ?_
 exact key _ ⟨rfl,rfl,rfl,rfl,by rw [hsg];rfl,rfl,rfl,by rw [hsg];rfl,rfl,rfl,rfl,rfl,rfl,rfl,rfl,rfl,rfl,trivial⟩
 intro Ex hEx
 refine LP.induct0 B.length (fun j E'=>j ≤ B.length∧Kn E' 253 [(0,.str s),(2,.int .u64 (.ofNat (cG (B.take j)).mant)),(3,.int .i64 0),(4,.bool (decide (sg=[45]))),(5,.bool (cG (B.take j)).tr),(6,.bool false),(7,.int .i64 (.ofNat (sg.length+j))),(9,.bool false),(10,.int .u64 10),(11,.int .i64 19),(12,.int .u8 101),(13,.bool (cG (B.take j)).saw),(14,.bool (decide (0 < j))),(15,.int .i64 (.ofNat (cG (B.take j)).nd)),(16,.int .i64 (.ofNat (cG (B.take j)).nm)),(17,.int .i64 (cG (B.take j)).dp)]) ⟨Nat.zero_le _,hEx⟩ ?_
 intro j E' ⟨hj,hf⟩ ih
 have hst:=hin j hj
 have hsw:=hsaw j hj
 refine LP.kn mixed hf ?_
 refine go ?_
 refine aZ (fun hlt=>?_) (fun hge=>?_)
 ·rw [aL] at hlt
  rcases Nat.lt_or_ge j B.length with hjB|hjB
  ·have hsu:=aEb hjB
   refine go ?_
   refine bW _ (vZ (hat j hjB)) ?_
   by_cases hp:j=D.length
   ·have h46:B[j]=46:=by simp only [hp];exact hpt om
    rw [h46] at hsu ⊢
    have hs0:(cG (B.take j)).saw=false:=by rw [hsw];exact decide_eq_false om
    rw [hs0]
    refine go ?_
    refine bF (sg.length+(j+1)) ?_ rfl om
    refine go ?_
    refine ih _ hjB ⟨hjB,?_⟩
    rw [hsu]
    exact ⟨rfl,rfl,rfl,rfl,rfl,rfl,rfl,rfl,rfl,rfl,rfl,rfl,rfl,by rw [decide_eq_true (show 0 < j+1 by omega),decide_eq_true (show 0 < j by omega)];rfl,rfl,rfl,rfl,trivial⟩
   ·have hd:=dI.1 (hdig j hjB hp)
    have h46:B[j] ≠ 46:=fun h=>by rw [h] at hd;exact absurd hd.1 dc
    have hsu':(cG (B.take j)).step B[j]=(cG (B.take j)).dig (B[j].toNat - 48):=by unfold RS.step;rw [if_neg h46]
    rw [hsu'] at hsu
    generalize hcc:B[j]=c at *
    generalize hrr:cG (B.take j)=r at *
    obtain ⟨saw,nd,nm,mant,dp,tr⟩:=r
    obtain ⟨b1,b2,b3,b4,b5,b6⟩:=hst
    have b7:mant < 10000000000000000000:=RS.In.mant64 ⟨b1,b2,b3,b4,b5,b6⟩
    simp only at b1 b2 b3 b4 b5 b6
    refine go ?_
    refine bL (fun (h:_=95)=>by omega) (fun _=>?_)
    refine go ?_
    refine bL (fun (h:_=46)=>absurd (UInt8.toNat_inj.1 h) h46) (fun _=>?_)
    refine go ?_
    refine aZ (fun (h:_ < 48)=>by omega) (fun _=>?_)
    refine go ?_
    refine aZ (fun (h:57 < _)=>by omega) (fun _=>?_)
    refine go ?_
    refine bL (fun (h48:_=48)=>?_) (fun (h48:_ ≠ 48)=>?_)
    ·refine go ?_
     refine bL (fun (hn0:nd=0)=>?_) (fun (hn0:nd ≠ 0)=>?_)
     ·refine go ?_
      refine aKe ?_ (by show _ ≤ dp - 1;omega) (by show dp - 1 ≤ _;omega)
      refine go ?_
      refine bF (sg.length+(j+1)) ?_ rfl om
      refine go ?_
      refine ih _ hjB ⟨hjB,?_⟩
      rw [hsu]
      unfold RS.dig
      rw [if_pos ⟨by omega,hn0⟩]
      exact ⟨rfl,rfl,rfl,rfl,rfl,rfl,rfl,rfl,rfl,rfl,rfl,rfl,rfl,by rw [decide_eq_true (show 0 < j+1 by omega)];rfl,rfl,rfl,rfl,trivial⟩
     ·have hnz:¬ (c.toNat - 48=0∧nd=0):=fun h=>hn0 h.2
      refine go ?_
      refine bF (nd+1) ?_
      refine go ?_
      refine aZ (fun (h19:nm < 19)=>?_) (fun (h19:19 ≤ nm)=>?_)
      ·have b8:10 ^ nm ≤ 1000000000000000000:=Nat.le_trans (Nat.pow_le_pow_right dc (show nm ≤ 18 by omega)) dc
       refine go ?_
       refine aY (mant * 10) rfl (by show mant * 10 ≤ 18446744073709551615;omega) ?_
       refine go ?_
       refine nA (c.toNat - 48) ?_ (by show c.toNat=c.toNat - 48+48;omega) (by show c.toNat - 48 ≤ 255;omega)
       refine go ?_
       refine aY (c.toNat - 48) rfl (by show c.toNat - 48 ≤ 18446744073709551615;omega) ?_
       refine go ?_
       refine aY (mant * 10+(c.toNat - 48)) rfl (by show mant * 10+(c.toNat - 48) ≤ 18446744073709551615;omega) ?_
       refine go ?_
       refine bF (nm+1) ?_
       refine go ?_
       refine bF (sg.length+(j+1)) ?_ rfl om
       refine go ?_
       refine ih _ hjB ⟨hjB,?_⟩
       rw [hsu]
       unfold RS.dig
       rw [if_neg hnz,if_pos h19]
       exact ⟨rfl,rfl,rfl,rfl,rfl,rfl,rfl,rfl,rfl,rfl,rfl,rfl,rfl,by rw [decide_eq_true (show 0 < j+1 by omega)];rfl,rfl,rfl,rfl,trivial⟩
      ·refine go ?_
       refine bL (fun _=>?_) (fun h=>absurd h48 h)
       refine go ?_
       refine bF (sg.length+(j+1)) ?_ rfl om
       refine go ?_
       refine ih _ hjB ⟨hjB,?_⟩
       rw [hsu]
       unfold RS.dig
       rw [if_neg hnz,if_neg (by show ¬ nm < 19;omega)]
       exact ⟨rfl,rfl,rfl,rfl,rfl,(by rw [show (tr || !(decide (c.toNat - 48=0)))=tr by rw [decide_eq_true (show c.toNat - 48=0 by omega)];simp];rfl),rfl,rfl,rfl,rfl,rfl,rfl,rfl,by rw [decide_eq_true (show 0 < j+1 by omega)];rfl,rfl,rfl,rfl,trivial⟩
    ·have hnz:¬ (c.toNat - 48=0∧nd=0):=fun h=>by omega
     refine go ?_
     refine bF (nd+1) ?_
     refine go ?_
     refine aZ (fun (h19:nm < 19)=>?_) (fun (h19:19 ≤ nm)=>?_)
     ·have b8:10 ^ nm ≤ 1000000000000000000:=Nat.le_trans (Nat.pow_le_pow_right dc (show nm ≤ 18 by omega)) dc
      refine go ?_
      refine aY (mant * 10) rfl (by show mant * 10 ≤ 18446744073709551615;omega) ?_
      refine go ?_
      refine nA (c.toNat - 48) ?_ (by show c.toNat=c.toNat - 48+48;omega) (by show c.toNat - 48 ≤ 255;omega)
      refine go ?_
      refine aY (c.toNat - 48) rfl (by show c.toNat - 48 ≤ 18446744073709551615;omega) ?_
      refine go ?_
      refine aY (mant * 10+(c.toNat - 48)) rfl (by show mant * 10+(c.toNat - 48) ≤ 18446744073709551615;omega) ?_
      refine go ?_
      refine bF (nm+1) ?_
      refine go ?_
      refine bF (sg.length+(j+1)) ?_ rfl om
      refine go ?_
      refine ih _ hjB ⟨hjB,?_⟩
      rw [hsu]
      unfold RS.dig
      rw [if_neg hnz,if_pos h19]
      exact ⟨rfl,rfl,rfl,rfl,rfl,rfl,rfl,rfl,rfl,rfl,rfl,rfl,rfl,by rw [decide_eq_true (show 0 < j+1 by omega)];rfl,rfl,rfl,rfl,trivial⟩
     ·refine go ?_
      refine bL (fun h=>absurd h h48) (fun _=>?_)
      refine go ?_
      refine bF (sg.length+(j+1)) ?_ rfl om
      refine go ?_
      refine ih _ hjB ⟨hjB,?_⟩
      rw [hsu]
      unfold RS.dig
      rw [if_neg hnz,if_neg (by show ¬ nm < 19;omega)]
      exact ⟨rfl,rfl,rfl,rfl,rfl,(by rw [show (tr || !(decide (c.toNat - 48=0)))=true by rw [decide_eq_false (show ¬ c.toNat - 48=0 by omega)];simp];rfl),rfl,rfl,rfl,rfl,rfl,rfl,rfl,by rw [decide_eq_true (show 0 < j+1 by omega)];rfl,rfl,rfl,rfl,trivial⟩
  ·have e:j=B.length:=by omega
   subst e
   rw [List.take_length] at *
   obtain ⟨hx1,hx2⟩:ex=101 :: 45 :: E∧E ≠ []:=by
    rcases hex with ⟨h,_⟩|h
    ·rw [h] at hl1;simp at hl1;omega
    ·exact h
   have hexl:ex.length=E.length+2:=by rw [hx1];rfl
   have hE0:0 < E.length:=List.length_pos_iff.2 hx2
   have hxat:∀ n,s[sg.length+B.length+n]?=ex[n]?:=fun n=>by
    rw [hs,List.getElem?_append_right sm,List.length_append,Nat.add_sub_cancel_left]
   have hx101:s[sg.length+B.length]?=some 101:=by have:=hxat 0;rw [hx1] at this;exact this
   have hx45:s[sg.length+B.length+1]?=some 45:=by have:=hxat 1;rw [hx1] at this;exact this
   have hxE:∀ m (h:m < E.length),s[sg.length+B.length+2+m]?=some E[m]:=fun m h=>by
    have:=hxat (2+m)
    rw [hx1,show 2+m=m+1+1 by omega] at this
    rw [Nat.add_assoc,show 2+m=m+1+1 by omega,this,List.getElem?_cons_succ,List.getElem?_cons_succ,List.getElem?_eq_getElem h]
   rw [decide_eq_true hB0]
   refine go ?_
   refine bW _ (vZ hx101) ?_
   refine go ?_
   have hdE0:=dI.1 (List.all_eq_true.1 hE _ (List.getElem_mem hE0))
   have hst2:-2000 ≤ (if (cG B).saw then (cG B).dp else .ofNat (cG B).nd)∧(if (cG B).saw then (cG B).dp else .ofNat (cG B).nd) ≤ 2000:=by
    have:=hst.lo;have:=hst.hi;have:=hst.nd
    split
    ·omega
    ·simp only [Int.ofNat_eq_natCast];omega
   apply LP.join 253 [(0,.str s),(2,.int .u64 (.ofNat (cG B).mant)),(3,.int .i64 0),(4,.bool (decide (sg=[45]))),(5,.bool (cG B).tr),(6,.bool false),(7,.int .i64 (.ofNat (sg.length+B.length+2))),(9,.bool false),(10,.int .u64 10),(16,.int .i64 (.ofNat (cG B).nm)),(17,.int .i64 (if (cG B).saw then (cG B).dp else .ofNat (cG B).nd)),(19,.int .i64 (.negSucc 0)),(20,.int .i64 (.ofNat 0))]
   ·intro key2
    cases hsv:(cG B).saw with
    | false =>
      refine go ?_
      refine aZ (fun _=>?_) (fun h=>absurd h (by rw [aL];omega))
      refine go ?_
      refine bW _ (vZ hx101) ?_
      refine go ?_
      refine tZ dc ?_
      refine go ?_
      refine bF (sg.length+B.length+1) ?_
      refine go ?_
      refine aZ (fun _=>?_) (fun h=>absurd h (by rw [aL];omega))
      refine go ?_
      refine bW _ (vZ hx45) ?_
      refine go ?_
      refine bF (sg.length+B.length+2) ?_
      refine go ?_
      refine aZ (fun _=>?_) (fun h=>absurd h (by rw [aL];omega))
      refine go ?_
      refine bW _ (vZ (hxE 0 hE0)) ?_
      refine go ?_
      refine aZ (fun (h:_ < 48)=>by omega) (fun _=>?_)
      refine go ?_
      refine bW _ (vZ (hxE 0 hE0)) ?_
      refine go ?_
      refine aZ (fun (h:57 < _)=>by omega) (fun _=>?_)
      refine go ?_
      exact key2 _ ⟨rfl,rfl,rfl,rfl,rfl,rfl,rfl,rfl,rfl,rfl,rfl,by rw [hsv];rfl,rfl,rfl,trivial⟩
    | true =>
      refine go ?_
      refine aZ (fun _=>?_) (fun h=>absurd h (by rw [aL];omega))
      refine go ?_
      refine bW _ (vZ hx101) ?_
      refine go ?_
      refine tZ dc ?_
      refine go ?_
      refine bF (sg.length+B.length+1) ?_
      refine go ?_
      refine aZ (fun _=>?_) (fun h=>absurd h (by rw [aL];omega))
      refine go ?_
      refine bW _ (vZ hx45) ?_
      refine go ?_
      refine bF (sg.length+B.length+2) ?_
      refine go ?_
      refine aZ (fun _=>?_) (fun h=>absurd h (by rw [aL];omega))
      refine go ?_
      refine bW _ (vZ (hxE 0 hE0)) ?_
      refine go ?_
      refine aZ (fun (h:_ < 48)=>by omega) (fun _=>?_)
      refine go ?_
      refine bW _ (vZ (hxE 0 hE0)) ?_
      refine go ?_
      refine aZ (fun (h:57 < _)=>by omega) (fun _=>?_)
      refine go ?_
      exact key2 _ ⟨rfl,rfl,rfl,rfl,rfl,rfl,rfl,rfl,rfl,rfl,rfl,by rw [hsv];rfl,rfl,rfl,trivial⟩
   ·intro Ey hEy
    generalize hdp0:(if (cG B).saw then (cG B).dp else .ofNat (cG B).nd)=dp0 at *
    refine LP.induct0 E.length (fun j E'=>j ≤ E.length∧Kn E' 253 [(0,.str s),(2,.int .u64 (.ofNat (cG B).mant)),(3,.int .i64 0),(4,.bool (decide (sg=[45]))),(5,.bool (cG B).tr),(6,.bool false),(7,.int .i64 (.ofNat (sg.length+B.length+2+j))),(9,.bool false),(10,.int .u64 10),(16,.int .i64 (.ofNat (cG B).nm)),(17,.int .i64 dp0),(19,.int .i64 (.negSucc 0)),(20,.int .i64 (.ofNat (oX (E.take j))))]) ⟨Nat.zero_le _,hEy⟩ ?_
    intro j E' ⟨hj,hf⟩ ih
    have hv:=aKa hE hj
    refine LP.kn mixed hf ?_
    refine go ?_
    refine aZ (fun hlt=>?_) (fun hge=>?_)
    ·rw [aL] at hlt
     have hjE:j < E.length:=by omega
     have hd:=dI.1 (List.all_eq_true.1 hE _ (List.getElem_mem hjE))
     have hsu:=aEk hjE
     have hv4:oX (E.take j) < 1000:=Nat.lt_of_lt_of_le hv (Nat.le_trans (Nat.pow_le_pow_right dc (show j ≤ 3 by omega)) dc)
     generalize hcc:E[j]=c at *
     have hc:=hxE j hjE
     rw [hcc] at hc
     generalize oX (E.take j)=e at *
     refine go ?_
     refine bW _ (vZ hc) ?_
     refine go ?_
     refine aZ (fun (h:_ < 48)=>by omega) (fun _=>?_)
     refine go ?_
     refine bW _ (vZ hc) ?_
     refine go ?_
     refine aZ (fun (h:57 < _)=>by omega) (fun _=>?_)
     refine go ?_
     refine bW _ (vZ hc) ?_
     refine go ?_
     refine bL (fun (h:_=95)=>by omega) (fun _=>?_)
     refine go ?_
     refine aZ (fun _=>?_) (fun (h:10000 ≤ _)=>by omega)
     refine go ?_
     refine bF (e * 10) ?_
     refine go ?_
     refine bW _ (vZ hc) ?_
     refine go ?_
     refine bF c.toNat ?_
     refine go ?_
     refine bF (e * 10+c.toNat) ?_
     refine go ?_
     refine gU (e * 10+(c.toNat - 48)) ?_ (by show e * 10+c.toNat=e * 10+(c.toNat - 48)+48;omega)
     refine go ?_
     refine bF (sg.length+B.length+2+(j+1)) ?_
     refine go ?_
     refine ih _ hjE ⟨hjE,rfl,rfl,rfl,rfl,rfl,rfl,rfl,rfl,rfl,rfl,rfl,rfl,rfl,by rw [hsu];rfl,trivial⟩
    ·rw [aL] at hge
     have ej:j=E.length:=by omega
     subst ej
     rw [List.take_length] at *
     have hv4:oX E < 10000:=Nat.lt_of_lt_of_le hv (Nat.le_trans (Nat.pow_le_pow_right dc hE4) dc)
     have hdpE:oU B E=Int.sub dp0 (.ofNat (oX E)):=by unfold oU;rw [hdp0]
     have hdlo:-12000 ≤ oU B E∧oU B E ≤ 2000:=by
      rw [hdpE]
      show -12000 ≤ dp0 - (oX E:Int)∧dp0 - (oX E:Int) ≤ 2000
      omega
     have hn19:=hst.nm
     have hlenS:s.length=sg.length+B.length+2+E.length:=by omega
     refine go ?_
     refine gV (-(oX E:Int)) (by show (oX E:Int) * (-1)=_;omega) ?_ om om
     refine go ?_
     refine gV (oU B E) (by rw [hdpE];show dp0+-(oX E:Int)=dp0 - (oX E:Int);omega) ?_ om om
     refine go ?_
     unfold rfV at hk
     rw [hlenS] at hk
     by_cases hm:(cG B).mant=0
     ·have hke:kY B E=0:=by unfold kY;rw [if_pos hm]
      rw [hke] at hk
      refine bL (fun _=>?_) (fun h=>absurd hm h)
      refine go ?_
      exact hk
     ·have hke:kY B E=Int.sub (oU B E) (.ofNat (cG B).nm):=by unfold kY;rw [if_neg hm]
      rw [hke] at hk
      refine bL (fun h=>absurd h hm) (fun _=>?_)
      refine go ?_
      refine gV (Int.sub (oU B E) (.ofNat (cG B).nm)) rfl ?_ (by show _ ≤ oU B E - ((cG B).nm:Int);omega) (by show oU B E - ((cG B).nm:Int) ≤ _;omega)
      refine go ?_
      exact hk
 ·rw [aL] at hge
  have e:j=B.length:=by omega
  subst e
  rw [List.take_length] at *
  have hx:ex=[]∧E=[]:=by
   rcases hex with h|⟨h,_⟩
   ·exact h
   ·rw [h] at hl1;simp at hl1;omega
  rw [decide_eq_true hB0]
  have hdpE:(if (cG B).saw then (cG B).dp else .ofNat (cG B).nd)=oU B E:=by
   unfold oU;rw [hx.2];exact (Int.sub_zero _).symm
  have hdlo:-2000 ≤ oU B E∧oU B E ≤ 2000:=by
   rw [← hdpE]
   have:=hst.lo;have:=hst.hi;have:=hst.nd
   split
   ·omega
   ·simp only [Int.ofNat_eq_natCast];omega
  have hn19:=hst.nm
  have hlenS:s.length=sg.length+B.length:=by omega
  refine go ?_
  cases hsv:(cG B).saw with
  | false =>
    rw [hsv] at hdpE
    simp only [Bool.false_eq_true,if_false] at hdpE
    refine go ?_
    refine aZ (fun h=>absurd h (by rw [aL];omega)) (fun _=>?_)
    refine go ?_
    unfold rfV at hk
    rw [hlenS] at hk
    by_cases hm:(cG B).mant=0
    ·have hke:kY B E=0:=by unfold kY;rw [if_pos hm]
     rw [hke] at hk
     refine bL (fun _=>?_) (fun h=>absurd hm h)
     refine go ?_
     exact hk
    ·have hke:kY B E=Int.sub (oU B E) (.ofNat (cG B).nm):=by unfold kY;rw [if_neg hm]
     rw [hke] at hk
     refine bL (fun h=>absurd h hm) (fun _=>?_)
     refine go ?_
     refine gV (Int.sub (oU B E) (.ofNat (cG B).nm)) (by rw [← hdpE]) ?_ (by show _ ≤ oU B E - ((cG B).nm:Int);omega) (by show oU B E - ((cG B).nm:Int) ≤ _;omega)
     refine go ?_
     exact hk
  | true =>
    rw [hsv] at hdpE
    simp only [if_true] at hdpE
    refine go ?_
    refine aZ (fun h=>absurd h (by rw [aL];omega)) (fun _=>?_)
    refine go ?_
    unfold rfV at hk
    rw [hlenS] at hk
    by_cases hm:(cG B).mant=0
    ·have hke:kY B E=0:=by unfold kY;rw [if_pos hm]
     rw [hke] at hk
     refine bL (fun _=>?_) (fun h=>absurd hm h)
     refine go ?_
     exact hk
    ·have hke:kY B E=Int.sub (oU B E) (.ofNat (cG B).nm):=by unfold kY;rw [if_neg hm]
     rw [hke] at hk
     refine bL (fun h=>absurd h hm) (fun _=>?_)
     refine go ?_
     refine gV (Int.sub (oU B E) (.ofNat (cG B).nm)) (by rw [← hdpE]) ?_ (by show _ ≤ oU B E - ((cG B).nm:Int);omega) (by show oU B E - ((cG B).nm:Int) ≤ _;omega)
     refine go ?_
     exact hk
theorem rF {sg m:Nat}(hs:sg=0 ∨ sg=2 ^ 63)(hm:m < 2 ^ 63):sg ||| m=sg+m:=by
 rcases hs with rfl|rfl
 ·simp
 ·have:=Nat.two_pow_add_eq_or_of_lt (i:=63) (b:=m) hm 1
  rw [Nat.mul_one] at this
  exact this.symm
theorem aNZ {fr E:Nat}(hf:fr < 2 ^ 52):fr ||| E * 2 ^ 52=fr+E * 2 ^ 52:=by
 rw [Nat.or_comm,Nat.add_comm,Nat.mul_comm]
 exact (Nat.two_pow_add_eq_or_of_lt (i:=52) (b:=fr) hf E).symm
theorem aQK (x:Nat):x &&& 2 ^ 52=if x / 2 ^ 52 % 2=1 then 2 ^ 52 else 0:=by
 apply Nat.eq_of_testBit_eq
 intro i
 rw [Nat.testBit_and,Nat.testBit_two_pow]
 by_cases hi:52=i
 ·subst hi
  rw [Nat.testBit_eq_decide_div_mod_eq]
  by_cases h:x / 2 ^ 52 % 2=1
  ·rw [if_pos h,decide_eq_true h,Nat.testBit_two_pow];rfl
  ·rw [if_neg h,decide_eq_false h];simp
 ·rw [decide_eq_false hi,Bool.and_false]
  split
  ·rw [Nat.testBit_two_pow,decide_eq_false hi]
  ·rw [Nat.zero_testBit]
theorem aMr {a b c:Nat}(hc:c < 18446744073709551616)(ha:a=c+b)(hd:c &&& b=0)(hab:c+b=c ||| b):IntKind.u64.wrap ((BitVec.ofInt IntKind.u64.bits (Int.ofNat a) &&& ~~~ BitVec.ofInt IntKind.u64.bits (Int.ofNat b)).toNat:Int)=Int.ofNat c:=by
 have e:∀ x:Nat,BitVec.ofInt 64 (Int.ofNat x)=BitVec.ofNat 64 x:=fun x=>BitVec.ofInt_ofNat ..
 show IntKind.u64.wrap (((BitVec.ofInt 64 (Int.ofNat a) &&& ~~~ BitVec.ofInt 64 (Int.ofNat b)).toNat:Nat):Int)=_
 rw [e,e,ha,hab]
 have:BitVec.ofNat 64 (c ||| b) &&& ~~~ BitVec.ofNat 64 b=BitVec.ofNat 64 c:=by
  apply BitVec.eq_of_getLsbD_eq
  intro i hi
  simp only [BitVec.getLsbD_and,BitVec.getLsbD_not,BitVec.getLsbD_ofNat,hi,decide_true,Bool.true_and,Nat.testBit_or]
  have hz:=congrArg (fun n=>n.testBit i) hd
  simp only [Nat.testBit_and,Nat.zero_testBit] at hz
  cases h1:c.testBit i <;> cases h2:b.testBit i <;> simp_all
 rw [this,BitVec.toNat_ofNat,Nat.mod_eq_of_lt hc]
 exact zM hc
theorem aTt:bA Tryz.prog 322 6 [.tmp 2] (aM Tryz.f322):=fq Tryz.f322
theorem aPT {i:Nat}(hi:i < 696){S:St}{k:V→St→Prop}(hk:k (.int .i64 ((Fp.rowG i:Int) - 1200)) S):RC Tryz.prog 322 [.int .i64 ((i:Int) - 348)] S k:=by
 refine RC.run mixed aV (aH aTt ?_)
 refine enter ?_
 refine go ?_
 refine gV (((i:Int) - 348) * 108853) rfl ?_ om om
 refine go ?_
 have e:Int.fdiv (((i:Int) - 348) * 108853) (2 ^ 15)=(Fp.rowG i:Int) - 1200:=by
  rw [Int.fdiv_eq_ediv_of_nonneg _ dc]
  unfold Fp.rowG
  omega
 have e2:fI (Int.fdiv (((i:Int) - 348) * 108853) (2 ^ 15))=fI ((Fp.rowG i:Int) - 1200):=by rw [e]
 show fI (Int.fdiv (((i:Int) - 348) * 108853) (2 ^ 15)) _
 rw [e2]
 refine bK ?_
 refine go ?_
 exact hk
theorem aTc:bA Tryz.prog 295 4 [.tmp 2] (aM Tryz.f295):=fq Tryz.f295
theorem wA {b:Bool}{S:St}{k:V→St→Prop}(hk:k (.int .u64 (.ofNat b.toNat)) S):RC Tryz.prog 295 [.bool b] S k:=by
 refine RC.run mixed aV (aH aTc ?_)
 refine enter ?_
 refine go ?_
 cases b with
 | true =>
   refine go ?_
   exact hk
 | false =>
   refine go ?_
   exact hk
theorem aTE:bA Tryz.prog 327 10 [.tmp 2] (aM Tryz.f327):=fq Tryz.f327
theorem aJL {u:Nat}(hu:u < 2 ^ 60){S:St}{k:V→St→Prop}(hk:k (.int .u64 (.ofNat (Fp.rnd u))) S):RC Tryz.prog 327 [.int .u64 (.ofNat u)] S k:=by
 refine RC.run mixed aV (aH aTE ?_)
 refine enter ?_
 refine go ?_
 refine aY (u+1) rfl (by show u+1 ≤ 18446744073709551615;omega) ?_
 refine go ?_
 refine dH (u / 4) (qA u 4) ?_
 refine go ?_
 refine dH (u / 4 % 2) ((rS (b:=1) om om).trans (congrArg Int.ofNat (Nat.and_two_pow_sub_one_eq_mod (u / 4) 1))) ?_
 refine go ?_
 refine aY (u+1+u / 4 % 2) rfl (by show u+1+u / 4 % 2 ≤ 18446744073709551615;omega) ?_
 refine go ?_
 refine dH (Fp.rnd u) (qA (u+1+u / 4 % 2) 4) ?_
 refine go ?_
 exact hk
theorem aUQ:∃ fn,Tryz.prog.funcs[296]?=some fn∧fn.body=none:=⟨Tryz.f296,by kernel_rfl,by kernel_rfl⟩
theorem qX {b:Nat}{S:St}{k:V→St→Prop}(hk:k (.float .f64 b) S):RC Tryz.prog 296 [.int .u64 (.ofNat b)] S k:=by
 refine RC.run mixed aV (lT aUQ ?_)
 conv=>whnf
 exact hk
theorem aSb:bA Tryz.prog 330 26 [.tmp 4,.tmp 5] (aM Tryz.f330):=fq Tryz.f330
theorem aGw {sg m j:Nat}(hs:sg=0 ∨ sg=2 ^ 63)(hm:m < 2 ^ 53)(hj:j ≤ 2045){S:St}{k:V→St→Prop}(hk:k (.tup [.float .f64 (sg+Fp.pack m j),.nilIface]) S):RC Tryz.prog 330 [.int .u64 (.ofNat (sg+m)),.int .i64 ((j:Int) - 1074)] S k:=by
 have hs64:sg+m < 18446744073709551616:=by rcases hs with rfl|rfl <;> omega
 refine RC.run mixed aV (aH aSb ?_)
 refine enter ?_
 refine go ?_
 refine dH ((sg+m) &&& 2 ^ 52) (rS (b:=4503599627370496) hs64 om) ?_
 rw [aQK]
 unfold Fp.pack at hk
 by_cases h52:m < 2 ^ 52
 ·have e:(sg+m) / 2 ^ 52 % 2 ≠ 1:=by rcases hs with rfl|rfl <;> omega
  rw [if_neg e]
  rw [if_pos h52] at hk
  refine go ?_
  refine qX ?_
  refine go ?_
  exact hk
 ·have e:(sg+m) / 2 ^ 52 % 2=1:=by rcases hs with rfl|rfl <;> omega
  rw [if_pos e]
  rw [if_neg h52] at hk
  refine go ?_
  refine iI (by rw [bH];simp;omega) ?_
  refine go ?_
  obtain ⟨fr,hfr⟩:∃ fr,fr=m - 2 ^ 52:=⟨_,rfl⟩
  rw [← hfr] at hk
  have hm2:m=fr+2 ^ 52:=by omega
  have hz:(sg+fr) &&& 2 ^ 52=0:=by
   rw [aQK,if_neg (by rcases hs with rfl|rfl <;> omega)]
  have ho:sg+fr+2 ^ 52=(sg+fr) ||| 2 ^ 52:=by
   rw [← rF hs (by omega:fr < 2 ^ 63),Nat.or_assoc]
   have:=aNZ (fr:=fr) (E:=1) om
   rw [Nat.one_mul] at this
   rw [this,rF hs om,rF hs om]
   omega
  refine dH (sg+fr) (aMr (b:=4503599627370496) om om hz ho) ?_
  refine go ?_
  obtain ⟨J,hJ⟩:∃ J,J=j+1:=⟨_,rfl⟩
  refine gV (J:Int) (by show (1075:Int)+((j:Int) - 1074)=_;omega) ?_ om om
  refine go ?_
  refine aY J rfl (by show J ≤ 18446744073709551615;omega) ?_
  have hsh:IntKind.u64.wrap (Int.ofNat J * 2 ^ min 52 IntKind.u64.bits)=Int.ofNat (J * 4503599627370496):=by
   have e1:Int.ofNat J * 2 ^ min 52 IntKind.u64.bits=((J * 4503599627370496:Nat):Int):=by
    have:(2:Int) ^ min 52 IntKind.u64.bits=4503599627370496:=by decide
    rw [this]
    show (J:Int) * 4503599627370496=_
    omega
   rw [e1]
   exact zM om
  refine aIi (fun Q hQ=>by (conv=>whnf);exact hQ) ?_
  refine aNr rfl (fun A B h=>by (conv=>whnf);exact h) (fun Q hQ=>by (conv=>whnf);exact hQ) (fun Q hQ=>by (conv=>whnf);exact hQ) hsh ?_
  refine go ?_
  have e52:(4503599627370496:Nat)=2 ^ 52:=by decide
  rw [e52]
  rw [← hJ] at hk
  refine dH (sg+(fr+J * 2 ^ 52)) ((aDb om om).trans (congrArg Int.ofNat (by
   rw [← rF hs (by omega:fr < 2 ^ 63),Nat.or_assoc,aNZ om,rF hs om]))) ?_
  refine go ?_
  refine qX ?_
  refine go ?_
  exact hk
open Fp in
theorem way {d b N D g hi lo f r t:Nat}(R:Row N D g hi lo)(P:Rep f r)(Q:Near d b N D f r t) :
  (u64 d b g hi lo < 2 ^ 55 - 2∧rnd (u64 d b g hi lo)=f∧r=b+g - 179) ∨ (2 ^ 55 - 2 ≤ u64 d b g hi lo∧rnd (half (u64 d b g hi lo))=f∧r=b+g - 179+1):=by
 have hn:=u_near R P Q
 have hj:=jr R P Q
 have hhi:=Mhi R P Q
 generalize hjj:b+g - 179=j at *
 generalize u64 d b g hi lo=u at *
 obtain ⟨k,hk⟩:∃ k,r=j+k:=⟨r - j,by omega⟩
 have hrj:r - j=k:=by omega
 rw [hrj] at hn hhi
 have f0:=P.f0
 have f53:=P.f53
 match k,hk with
 | 0,hk =>
   rw [Nat.pow_zero,Nat.mul_one] at hn
   have hr:r=j:=by omega
   exact .inl ⟨by omega,rnd_near f0 hn,hr⟩
 | 1,hk =>
   rw [Nat.pow_one,Nat.mul_comm f 2] at hn
   have h52:2 ^ 52 ≤ f:=by
    rcases P.norm with h|h
    ·exact h
    ·omega
   have hr:r=j+1:=by omega
   exact .inr ⟨by omega,rnd_near f0 (half_near f0 hn),hr⟩
 | k+2,hk =>
   exfalso
   have h52:2 ^ 52 ≤ f:=by
    rcases P.norm with h|h
    ·exact h
    ·omega
   have h4:4 ≤ 2 ^ (k+2):=by
    have:2 ^ 2 ≤ 2 ^ (k+2):=Nat.pow_le_pow_right dc om
    omega
   have:=Nat.mul_le_mul h52 h4
   omega
open Fp in
theorem aSi {N D g hi lo : Nat}(R : Row N D g hi lo) : 2 ^ 63 ≤ hi := by
  have h1 : D * 2 ^ g * 2 ^ 127 ≤ N * A13 := by
    rw [a13]
    calc D * 2 ^ g * 2 ^ 127 ≤ N * A12 * 2 ^ 127 := Nat.mul_le_mul_right _ R.t3
      _ = N * (2 ^ 127 * A12) := by rw [Nat.mul_assoc, Nat.mul_comm A12]
  have h2 := R.t2
  have hd : 0 < D * 2 ^ g := Nat.mul_pos R.d0 (Nat.two_pow_pos g)
  have h3 : (D * 2 ^ g) * 2 ^ 127 ≤ (D * 2 ^ g) * (hi * 2 ^ 64 - lo + 1) := by
    rw [Nat.mul_add, Nat.mul_one, Nat.mul_comm (D * 2 ^ g) (hi * 2 ^ 64 - lo)]
    exact Nat.le_trans h1 h2
  have h4 := Nat.le_of_mul_le_mul_left h3 hd
  omega
open Fp in
theorem aUa {d b N D g hi lo f r t:Nat}(R:Row N D g hi lo)(Q:Near d b N D f r t):0 < d * 2 ^ (64 - b) * hi / 2 ^ 64:=by
 have h1:2 ^ 63 ≤ d * 2 ^ (64 - b):=by
  have h:=Nat.mul_le_mul_right (2 ^ (64 - b)) Q.b1
  rw [← Nat.pow_add,show b+(64 - b)=64 by have:=Q.b64;omega,Nat.mul_assoc] at h
  omega
 have h2:=Nat.mul_le_mul h1 (aSi R)
 exact Nat.div_pos om om
def aCf:List V:=Pinned.pow10Rows.flatMap fun p=>[.int .u64 (.ofNat p.1),.int .u64 (.ofNat p.2)]
theorem aQR {f g:Nat × Nat→V}:∀ {l:List (Nat × Nat)} {i:Nat} {x:Nat × Nat},l[i]?=some x→(l.flatMap fun p=>[f p,g p])[2 * i]?=some (f x)∧(l.flatMap fun p=>[f p,g p])[2 * i+1]?=some (g x)
 | [],i,x,h=>by simp at h
 | y :: l,0,x,h=>by
   simp only [List.getElem?_cons_zero,Option.some.injEq] at h
   subst h
   exact ⟨rfl,rfl⟩
 | y :: l,i+1,x,h=>by
   simp only [List.getElem?_cons_succ] at h
   obtain ⟨h1,h2⟩:=aQR (f:=f) (g:=g) h
   rw [List.flatMap_cons,show 2 * (i+1)=2 * i+1+1 by omega]
   exact ⟨h1,h2⟩
theorem aGB {i hi lo:Nat}(h:Pinned.pow10Rows[i]?=some (hi,lo)):aCf[2 * i]?=some (.int .u64 (.ofNat hi))∧aCf[2 * i+1]?=some (.int .u64 (.ofNat lo)):=aQR h
theorem yW:V.flat.V.flatL aCf=true:=by kernel_rfl
end Go.Am
