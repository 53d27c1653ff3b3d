/- Part 5 of the proof that BodyLimits returns true, and leaves its arguments as they were, for every input, over a start where the listed variables hold what the program lays: the statement Rows.BodyLimitsCardSaid. -/
import Derived.Test.YtaohpnakjlokaaaGreatDoorWAd
import Derived.KernelRfl
import Derived.Ground.Names2Prog
import Derived.Ground.SlgnProg
import Derived.Shelf.Strconv.AtoiAll
import Derived.Shelf.LaysC
import Derived.Test.YtaohpnakjlokaaaGreatDoorChecked
import Derived.Test.YtaohpnakjlokaaaGreatDoorWAc
set_option linter.unusedVariables false
set_option linter.unusedSimpArgs false
set_option maxRecDepth 100000
set_option maxHeartbeats 4000000
namespace Go.Am
section
variable {P:Program}
theorem aEY {j:Nat}:∀ {l:List O} {H:Hs},j < H.next→(gQ l H).get j=H.get j
 | [],_,_=>rfl
 | o :: l,H,h=>by
   have h1:(H.new o).next=H.next+1:=rfl
   show (gQ l (H.new o)).get j=_
   rw [aEY om]
   show (if j=H.next then some o else H.get j)=_
   rw [if_neg om]
theorem aJE {o:O}:∀ {l:List O} {H:Hs} {a:Nat},l[a]?=some o→(gQ l H).get (H.next+a)=some o
 | x :: l,H,0,h=>by
   have h1:(H.new x).next=H.next+1:=rfl
   show (gQ l (H.new x)).get (H.next+0)=_
   rw [aEY om]
   show (if H.next+0=H.next then some x else _)=_
   rw [if_pos (show H.next+0=H.next from rfl)];simpa using h
 | x :: l,H,a+1,h=>by
   have h1:(H.new x).next=H.next+1:=rfl
   show (gQ l (H.new x)).get (H.next+(a+1))=_
   rw [show H.next+(a+1)=(H.new x).next+a by omega]
   exact aJE (by simpa using h)
theorem aEg {j:Nat}:∀ {l:List (Nat × Option O)} {H:Hs},(∀ q ∈ l,H.get q.1=q.2)→(fQ l H).get j=H.get j
 | [],_,_=>rfl
 | q :: l,H,h=>by
   show (if j=q.1 then q.2 else (fQ l H).get j)=_
   by_cases e:j=q.1
   ·rw [if_pos e,e];exact (h q sm).symm
   ·rw [if_neg e];exact aEg fun x hx=>h x (by simp [hx])
theorem aJF:∀ (l:List O) (S:St),S.next+l.length < room→∃ S':St,S'.hs=gQ l S.hs
 | [],S,_=>⟨S,rfl⟩
 | o :: l,S,hn=>by
   have:∃ S1:St,S1.hs=S.hs.new o:=by
    have hq:bR o S fun _ S'=>∃ S1:St,S1.hs=S.hs.new o:=aF (by simp at hn;omega) fun S1 h=>⟨S1,h⟩
    obtain ⟨_,h,_⟩:=eF hq
    exact h
   obtain ⟨S1,e1⟩:=this
   obtain ⟨S2,e2⟩:=aJF l S1 (by have:=aK e1;simp at hn;omega)
   exact ⟨S2,by rw [e2,e1];rfl⟩
theorem aFl:∀ (l:List (Nat × Option O)) (S:St),(∀ x ∈ l,x.1 < room)→∃ S':St,S'.hs=fQ l S.hs
 | [],S,_=>⟨S,rfl⟩
 | x :: l,S,hn=>by
   obtain ⟨S1,e1⟩:=aFl l S fun y hy=>hn y (by simp [hy])
   have hq:bI x.1 x.2 S1 fun _=>∃ S2:St,S2.hs=S1.hs.put x.1 x.2:=aD (hn x sm) fun S2 h=>⟨S2,h⟩
   obtain ⟨_,⟨S2,h2⟩,_⟩:=bS hq
   exact ⟨S2,by rw [h2,e1];rfl⟩
theorem RC.small3 {c:FuncId}(gb:List (Nat × O)){l l2:List V}(q:Nat)(ids:List Nat)(ks os:List O){S:St}{k:V→St→Prop}
  (hgb:∀ p ∈ gb,p.1 < aN∧p.2.wr=false∧∃ o',S.hs.get p.1=some o'∧OI (jC ids (aN+os.length)) o' p.2) (hfar:∀ a i:Nat,q ≤ a→ids[a]?=some i→aN ≤ i)
  (hids:∀ a b i:Nat,q ≤ a→ids[a]?=some i→ids[b]?=some i→a=b) (hro:∀ (a:Nat) (o:O),a < q→os[a]?=some o→o.wr=false) (hlen:ids.length=os.length) (hlen1:ks.length=os.length)
  (hat:∀ (a i:Nat) (o:O),ids[a]?=some i→ks[a]?=some o→S.hs.get i=some o)
  (hin:∀ (a:Nat) (o' o:O),ks[a]?=some o'→os[a]?=some o→OI (jC ids (aN+os.length)) o' o) (hl:oG (jC ids (aN+os.length)) l2 l)
  (hos:aN+os.length < room) (hir:∀ i ∈ ids,i < room)
  (hrun:∀ S0:St,S0.hs=eM (gb ++ pO aN os) (St.hs ⟨.nil,aN+os.length⟩)→RC P c l S0 fun v S'=>∃ (ks2:List (Option O)) (news:List O) (v2:V),ks2.length+q=os.length∧(∀ (a:Nat) (o:O),ks2[a]?=some (some o)→o.wr=true)∧(∀ (a:Nat) (o:O),news[a]?=some o→o.wr=true)∧S.next+news.length < room∧aIQ gb q ids (aN+os.length) S.next ks2 news v2 v S'∧∀ S2:St,S2.hs=gQ news (fQ ((ids.drop q).zip ks2) S.hs)→k v2 S2):RC P c l2 S k:=by
 have hroom:room=4096:=rfl
 have hngl:aN=1000:=rfl
 have hb:dY (gb ++ pO aN os) ⟨.nil,aN+os.length⟩ fun S0=>S0.hs=eM (gb ++ pO aN os) (St.hs ⟨.nil,aN+os.length⟩):=by
  refine qR (fun x hx=>?_) fun S' h=>h
  rcases List.mem_append.1 hx with hx|hx
  ·have:=(hgb x hx).1;omega
  ·have:∀ (l:List O) (n:Nat),∀ x ∈ pO n l,x.1 < n+l.length:=by
    intro l
    induction l with
    | nil=>intro n x hx;cases hx
    | cons o l ih =>
      intro n x hx
      rcases List.mem_cons.1 hx with rfl|hx
      ·simp
      ·have:=ih (n+1) x hx
       simp;omega
   have:=this os aN x hx
   omega
 obtain ⟨S0,h1,h0⟩:=gI hb
 cases hrun S0 h0 with
 | mk v S' h hp =>
   obtain ⟨ks2,news,v2,hlen2,hw,hwn,hr,hpost,hk⟩:=hp
   have:=h.smallD gb q h0 hgb hfar hids hro hlen hlen1 hlen2 hat hin hl hw hwn hpost
   obtain ⟨S1,e1⟩:=aFl ((ids.drop q).zip ks2) S fun x hx=>hir x.1 (List.mem_of_mem_drop (List.of_mem_zip (show (x.1,x.2) ∈ _ from hx)).1)
   obtain ⟨S2,e2⟩:=aJF news S1 (by
    have:S1.next=S.next:=by
     have:=congrArg Hs.next e1
     rw [fF] at this;exact this
    omega)
   have e3:S2.hs=gQ news (fQ ((ids.drop q).zip ks2) S.hs):=by rw [e2,e1]
   exact .mk v2 S2 (by rw [e3];exact this) (hk S2 e3)
theorem RC.ros {c:FuncId}(ids:List Nat)(ks os:List O){l l2:List V}{S:St}{k:V→St→Prop}(hlen:ids.length=os.length)(hlen1:ks.length=os.length)(hfew:os.length ≤ 1000)(hr:S.next < room)(hir:∀ i ∈ ids,i < room)
  (hat:∀ (a i:Nat) (o:O),ids[a]?=some i→ks[a]?=some o→S.hs.get i=some o) (hro:∀ o ∈ os,o.wr=false)
  (hin:∀ R:Nat→Nat→Prop,(∀ b i,ids[b]?=some i→R i (aN+b))→(∀ (a:Nat) (o' o:O),ks[a]?=some o'→os[a]?=some o→OI R o' o)∧oG R l2 l)
  (hrun:∀ S0:St,S0.next=aN+os.length→(∀ (a:Nat) (o:O),os[a]?=some o→S0.hs.get (aN+a)=some o)→RC P c l S0 fun v _=>v.flat=true∧∀ S2:St,S2.hs=S.hs→k v S2):RC P c l2 S k:=by
 have hroom:room=4096:=rfl
 have hngl:aN=1000:=rfl
 obtain ⟨hin1,hin2⟩:=hin (jC ids (aN+os.length)) fun b i h=>jC.at h (by have:=(List.getElem?_eq_some_iff.1 h).1;omega)
 refine RC.small3 [] (l:=l) os.length ids ks os sm ?_ ?_ (fun a o _ h=>hro o (List.mem_of_getElem? h)) hlen hlen1 hat hin1 hin2 om hir ?_
 ·intro a i ha h
  have:=(List.getElem?_eq_some_iff.1 h).1
  omega
 ·intro a b i ha h _
  have:=(List.getElem?_eq_some_iff.1 h).1
  omega
 ·intro S0 h0
  have hnx:S0.next=aN+os.length:=by
   have:=congrArg Hs.next h0
   rw [iP] at this;exact this
  have hg:∀ (a:Nat) (o:O),os[a]?=some o→S0.hs.get (aN+a)=some o:=fun a o h=>by
   have ha:=(List.getElem?_eq_some_iff.1 h).1
   rw [h0,List.nil_append,qG,if_pos ⟨by omega,by omega⟩,show aN+a - aN=a by omega]
   exact h
  have hRC:=hrun S0 hnx hg
  cases hRC with
  | mk v S' hcall hp =>
    refine .mk v S' hcall ⟨[],[],v,by simp,by simp,by simp,by simpa using hr,⟨[],.nil,by simp,mK hp.1,trivial,trivial⟩,fun S2 h2=>hp.2 S2 ?_⟩
    rw [h2]
    show fQ ((ids.drop os.length).zip []) S.hs=S.hs
    rw [List.zip_nil_right]
    rfl
end
end Go.Am
namespace Go.Am
set_option maxRecDepth 100000
structure Abv (p b:Nat)(S S':St)(n:Nat):Prop where
 keep:∀ id,id < b→id ≠ p→S'.hs.get id=S.hs.get id
 lo:S.next ≤ S'.next
 hi:S'.next ≤ S.next+n
theorem Abv.refl (p b:Nat)(S:St)(n:Nat):Abv p b S S n:=⟨fun _ _ _=>rfl,Nat.le_refl _,Nat.le_add_right _ _⟩
theorem Abv.put {p b:Nat}{S S1 S2:St}{n id0:Nat}{o:Option O}(h:Abv p b S S1 n)(h2:S2.hs=S1.hs.put id0 o)(hi:id0=p ∨ b ≤ id0):Abv p b S S2 n :=
 ⟨fun id h1 hp=>by rw [aB h2 (by omega)];exact h.keep id h1 hp,by rw [aJ h2];exact h.lo,by rw [aJ h2];exact h.hi⟩
theorem Abv.new {p b:Nat}{S S1 S2:St}{n m:Nat}{o:O}(h:Abv p b S S1 n)(h2:S2.hs=S1.hs.new o)(hb:b ≤ S.next)(hm:n+1 ≤ m):Abv p b S S2 m :=
 ⟨fun id h1 hp=>by have:=h.lo;rw [aC h2 (by omega)];exact h.keep id h1 hp,by have:=h.lo;rw [aK h2];omega,by have:=h.hi;rw [aK h2];omega⟩
theorem Abv.trans {p b:Nat}{S S1 S2:St}{n m t:Nat}(h:Abv p b S S1 n)(h2:Abv p b S1 S2 m)(hm:n+m ≤ t):Abv p b S S2 t :=
 ⟨fun id h1 hp=>by rw [h2.keep id h1 hp];exact h.keep id h1 hp,Nat.le_trans h.lo h2.lo,by have:=h.hi;have:=h2.hi;omega⟩
theorem Abv.le {p b:Nat}{S S1:St}{n m:Nat}(h:Abv p b S S1 n)(hm:n ≤ m):Abv p b S S1 m:=⟨h.keep,h.lo,by have:=h.hi;omega⟩
theorem Grew.abv {S S1:St}{p n:Nat}(h:Grew S S1 p n){b:Nat}(hb:b ≤ S.next):Abv p b S S1 n:=⟨fun id h1 hp=>h.keep id (by omega) hp,h.lo,h.hi⟩
theorem Abv.at {p b:Nat}{S S1:St}{n id:Nat}{o:O}(h:Abv p b S S1 n)(ho:S.hs.get id=some o)(hl:id < b)(hp:id ≠ p):S1.hs.get id=some o:=by rw [h.keep id hl hp];exact ho
theorem LP.one {P:Program}(hm:P.follows .mixedOrders=true){ro:Option Nat}{c:Code}{E:Env}{D:List Df}{S:St}{k:KT}(h:yJ P ro c E D S (wX P ro c k)):LP P ro c E D S k :=
 .step' hm fun _ hK=>by subst hK;unfold wX at h;rw [bG] at h;exact h
theorem rec_ltI (y x:Int){A B:Prop}(h1:y < x→B)(h0:x ≤ y→A):Bool.rec (motive:=fun _=>Prop) A B (uA y x):=by
 rw [bH]
 by_cases h:y < x
 ·rw [decide_eq_true h];exact h1 h
 ·rw [decide_eq_false h];exact h0 (by omega)
theorem overA0 {post:List V}:∀ {xs mid:List V} {k:List V→Prop},mid.length=xs.length→k (xs ++ post)→fR xs 0 (mid ++ post) k
 | [],[],k,_,h=>by cases post <;> exact h
 | [],_ :: _,k,hm,h=>by simp at hm
 | y :: xs,[],k,hm,h=>by simp at hm
 | y :: xs,m :: mid,k,hm,h=>by
   show fR xs 0 (mid ++ post) fun r=>k (y :: r)
   exact overA0 (by simpa using hm) h
theorem wrA {P:Program}{t:TypeId}{xs:List V}{fl:Fl}{cs:List V}{K:List V→Prop}(hfl:fl ≠ .ro)(h1:(P.info? t).map (fun i=>i.size)=some xs.length)(h0:0 < xs.length)(hv:cX xs=true)(hl:cs.length=xs.length)(hk:K xs) :
  wrK fl (vR P t fun n=>cZ (Nat.beq (dD xs) n) (cZ (Nat.blt 0 n) (cZ (cX xs) (fR xs 0 cs K)))):=by
 have hw:∀ {k:Prop},k→wrK fl k:=fun {k} hk=>by cases fl <;> first|exact absurd rfl hfl|exact hk
 refine hw ?_
 unfold vR
 cases hi:P.info? t with
 | none=>rw [hi] at h1;cases h1
 | some i =>
   rw [hi] at h1
   have hs:i.size=xs.length:=Option.some.inj h1
   show cZ (Nat.beq (dD xs) i.size) (cZ (Nat.blt 0 i.size) (cZ (cX xs) (fR xs 0 cs K)))
   rw [hs]
   refine ifK_intro (by rw [aL];exact Nat.beq_refl _) (ifK_intro (Nat.ble_eq_true_of_le h0) (ifK_intro hv ?_))
   have:=overA0 (post:=[]) (xs:=xs) (mid:=cs) (k:=K) hl (by rw [List.append_nil];exact hk)
   rw [List.append_nil] at this
   exact this
theorem d_readA {P:Program}{E E1:Env}{S:St}{base i wr seen anc dw own wr' seen' sd:Nat}{ops l:List Oper}{o:Oper}{ancs:List (Nat × Nat × Nat × Nat)}{pe:List (Nat × Nat × O)}{chs:List Ch}{rds:List Rd}{als:List (Nat × Nat)}{K:Dr→Prop}{v:V}(l1:List (Nat × Nat × O))
  (hc:sO P o.op=.read (eW P o.op)) (hf:∀ Q:V→Prop,Q v→fM 0 l1 S fun S=>eW P o.op E S Q) (h:evD P base ops l (Nat.succ i) ((anc,dw,sd,own) :: ancs) wr' seen' ⟨E1,S,pe,chs,⟨o.op,i,anc,E,v,l1⟩ :: rds,als⟩ K)
  (hs:kO ops i ancs wr seen o=.ok anc dw own wr' seen':=by exact rfl) (ha:jD anc pe=l1:=by kernel_rfl) (hd:dS o.dst=sd:=by exact rfl) (hg:∀ Y N:Prop,Y→dF E ops o.guard Y N:=by intro _ _ hy;(conv=>whnf);exact hy)
  (hp:∀ Q:Env→Prop,Q E1→cU E o.dst v Q:=by intro Q hQ;(conv=>whnf);exact hQ):evD P base ops (o :: l) i ancs wr seen ⟨E,S,pe,chs,rds,als⟩ K:=by
 subst ha
 exact cA hc hf h hs hd hg hp
theorem d_readH {P:Program}{E E1:Env}{S:St}{base i wr seen anc dw own wr' seen' sd:Nat}{ops l:List Oper}{o:Oper}{ancs:List (Nat × Nat × Nat × Nat)}{pe:List (Nat × Nat × O)}{chs:List Ch}{rds:List Rd}{als:List (Nat × Nat)}{K:Dr→Prop}{v:V}
  (hc:sO P o.op=.read (eW P o.op)) (hf:∀ Q:V→Prop,Q v→fM 0 (jD anc pe) S fun S=>eW P o.op E S Q) (h:(∀ Q:V→Prop,Q v→fM 0 (jD anc pe) S fun S=>eW P o.op E S Q)→evD P base ops l (Nat.succ i) ((anc,dw,sd,own) :: ancs) wr' seen' ⟨E1,S,pe,chs,⟨o.op,i,anc,E,v,jD anc pe⟩ :: rds,als⟩ K)
  (hs:kO ops i ancs wr seen o=.ok anc dw own wr' seen':=by exact rfl) (hd:dS o.dst=sd:=by exact rfl) (hg:∀ Y N:Prop,Y→dF E ops o.guard Y N:=by intro _ _ hy;(conv=>whnf);exact hy)
  (hp:∀ Q:Env→Prop,Q E1→cU E o.dst v Q:=by intro Q hQ;(conv=>whnf);exact hQ):evD P base ops (o :: l) i ancs wr seen ⟨E,S,pe,chs,rds,als⟩ K:=aJi hs hd hg hc hf hp h
theorem putsK1 {q:Nat × Nat × O}{p:Nat}{S:St}{k:St→Prop}(h:bI q.2.1 (some q.2.2) S k)(hb:aR p q.1=false:=by kernel_rfl):fM p [q] S k:=by
 show Bool.rec (motive:=fun _=>Prop) _ _ (aR p q.1)
 rw [hb];exact h
theorem rdx {A:(V→Prop)→Prop}{v:V}(h:∀ Q:V→Prop,Q v→A Q:=by
 first
 | assumption
 | (intro Q hQ
    conv=>whnf
    repeat (first
     | exact hQ
     | (refine aI ?_;conv=>whnf)
     | (refine bK ?_;conv=>whnf)
     | (unfold bX;conv=>whnf)))):∀ Q:V→Prop,Q v→A Q:=h
theorem mergeK_put {q:Nat × Nat × O}{p:Nat}{l:List (Nat × Nat × O)}{S:St}{k:List (Nat × Nat × O)→St→Prop}(h:bI q.2.1 (some q.2.2) S fun S=>oT p l S k)(hb:aR p q.1=true:=by kernel_rfl):oT p (q :: l) S k:=by
 show Bool.rec (motive:=fun _=>Prop) _ _ (aR p q.1)
 rw [hb];exact h
section
variable {P:Program} {E E1:Env} {S S1:St} {base i wr seen anc dw own wr' seen' sd:Nat} {ops:List Oper} {l:List Oper} {o:Oper} {ancs:List (Nat × Nat × Nat × Nat)} {pe pe':List (Nat × Nat × O)} {chs:List Ch} {rds:List Rd} {als:List (Nat × Nat)} {K:Dr→Prop} {v:V}
theorem n_dopA (h:evD P base ops l i ancs wr seen ⟨E1,S,pe,chs,rds,als⟩ K)(hp:∀ Q:Env→Prop,Q E1→cU E o.dst v Q:=by intro Q hQ;(conv=>whnf);exact hQ):aIb P base ops l o i ancs wr seen E pe chs rds als K v S:=dE hp h
theorem d_callA {f:cL→bQ→OpT}{A:(V→St→Prop)→Prop}(hc:sO P o.op=.chain f)(h:A (aIb P base ops l o (Nat.succ i) ((anc,dw,sd,own) :: ancs) wr' seen' E pe' (⟨i,anc,S⟩ :: chs) rds als K))
  (hs:kO ops i ancs wr seen o=.ok anc dw own wr' seen':=by exact rfl) (hd:dS o.dst=sd:=by exact rfl) (hg:∀ Y N:Prop,Y→dF E ops o.guard Y N:=by intro _ _ hy;(conv=>whnf);exact hy)
  (hm:∀ Q:List (Nat × Nat × O)→St→Prop,Q pe' S1→oT anc pe S Q:=by intro Q hQ;(conv=>whnf);exact hQ) (hA:∀ Q:V→St→Prop,A Q→f (RC P) (RD P) E S1 Q:=by intro Q hQ;(conv=>whnf);exact hQ)
  (ha:List.rec (motive:=fun _=>Bool) true (fun c _ _=>aR anc c.idx) chs=true:=by kernel_rfl):evD P base ops (o :: l) i ancs wr seen ⟨E,S,pe,chs,rds,als⟩ K:=cI hc hm hA h hs hd hg ha
end
theorem kq {E:Env}{n:Nat}{l:List (Nat × V)}(h:Kn E n l:=by refine ⟨rfl,?_⟩;repeat (first|exact trivial|refine ⟨rfl,?_⟩)):Kn E n l:=h
noncomputable def kGb (P:Program)(b:Nat)(c:Code)(k:KT):KT:=rX fun x E1 D1 S1=>X.casesOn x (∃ gs S2,aFu b gs S1 S2∧D1=[]∧LPB b P c (reE b gs E1) S2 k) (fun id=>k (.exit id) E1 D1 S1) (k .ret E1 D1 S1) (fun l=>k (.goto l) E1 D1 S1)
theorem LPB.kn {P:Program}(hm:P.follows .mixedOrders=true){b:Nat}{c:Code}{E:Env}{S:St}{k:KT}{n:Nat}{l:List (Nat × V)}(hb:b ≤ S.next)(hgl:aN ≤ b)(hf:Kn E n l)(h:yJ P none c (aCU E n l) [] S (kGb P b c k)):LPB b P c E S k:=by
 have:LPB b P c (aCU E n l) S k:=.gc hm hb hgl fun _ hK=>by subst hK;unfold kGb at h;rw [bG] at h;exact h
 cases this with
 | mk x E' D' S' h hk=>exact .mk x E' D' S' (fun ρ a w Q hE hD hg hs hQ=>h ρ a w Q (fun t v ht=>hE t v (hf.le t v ht)) hD hg hs hQ) hk
theorem n_gb {P:Program}{b:Nat}{c:Code}{k:KT}{E:Env}{D:List Df}{S1:St}(h:∃ gs S2,aFu b gs S1 S2∧D=[]∧LPB b P c (reE b gs E) S2 k):kGb P b c k .normal E D S1:=by unfold kGb;rw [bG];exact h
theorem x_gb {P:Program}{b:Nat}{c:Code}{k:KT}{E:Env}{D:List Df}{S1:St}{id:Nat}(h:k (.exit id) E D S1):kGb P b c k (.exit id) E D S1:=by unfold kGb;rw [bG];exact h
theorem r_gb {P:Program}{b:Nat}{c:Code}{k:KT}{E:Env}{D:List Df}{S1:St}(h:k .ret E D S1):kGb P b c k .ret E D S1:=by unfold kGb;rw [bG];exact h
theorem goB {A B:Prop}(a:A)(h:Hid A→B:=by
 intro hA
 repeat (first
  | refine aIi (fun Q hQ=>by (conv=>whnf);exact hQ) ?_
  | refine aPD (fun Q hQ=>by (conv=>whnf);exact hQ) ?_
  | refine aQT ?_
  | refine aRh ?_
  | refine aRk ?_
  | refine aQX ?_
  | refine aQU ?_
  | refine aQS ?_
  | refine aNt (fun Q hQ=>by (conv=>whnf);exact hQ) ?_
  | refine aJn (fun Q hQ=>by (conv=>whnf);exact hQ) ?_
  | refine aNq ?_
  | refine aNs ?_
  | refine aNo ?_
  | refine aQV ?_
  | refine aRv ?_
  | refine aRp ?_
  | refine aRf ?_
  | refine aOM ?_
  | refine aOL rfl ?_
  | refine aRm ?_
  | refine aRi ?_
  | refine aRt ?_
  | refine aRn ?_
  | refine aUh ?_
  | refine aUy ?_
  | refine n_gb ?_
  | refine x_gb ?_
  | refine r_gb ?_
  | refine aUm ?_
  | refine aRg (fun Q hQ=>by (conv=>whnf);exact hQ) ?_
  | refine aQW ?_
  | refine aRj ?_
  | refine aRu ?_
  | refine aRo ?_
  | refine aNp ?_
  | refine aJo ?_
  | refine aRa ?_
  | refine aQY ?_
  | refine aQZ ?_
  | refine aUd ?_
  | refine aNF rfl ?_
  | refine aNE rfl ?_
  | (refine iI (by first|rfl|assumption) ?_;conv=>whnf)
  | (refine jH (by first|rfl|assumption) ?_;conv=>whnf)
  | (refine aI ?_;conv=>whnf)
  | (refine bK ?_;conv=>whnf)
  | (unfold bX;(conv=>whnf);refine aIi (fun Q hQ=>by (conv=>whnf);exact hQ) ?_))
 exact hA.out):B:=h ⟨a⟩
theorem godB {A B:Prop}(a:A)(h:Hid A→B:=by
 intro hA
 repeat (first
  | refine iM ?_
  | (refine aP rfl (by
    intro Q hQ
    conv=>whnf
    repeat (first
     | exact hQ
     | (refine iI (by first|rfl|assumption) ?_;conv=>whnf)
     | (refine jH (by first|rfl|assumption) ?_;conv=>whnf)
     | (refine aI ?_;conv=>whnf)
     | (refine bK ?_;conv=>whnf))) ?_)
  | (refine cA rfl (by
    intro Q hQ
    conv=>whnf
    repeat (first
     | exact hQ
     | (refine aI ?_;conv=>whnf)
     | (refine bK ?_;conv=>whnf)
     | (unfold bX;conv=>whnf))) ?_)
  | (refine cA (hs:=rfl) rfl (by
    intro Q hQ
    conv=>whnf
    repeat (first
     | exact hQ
     | (refine aI ?_;conv=>whnf)
     | (refine bK ?_;conv=>whnf)
     | (unfold bX;conv=>whnf))) ?_)
  | refine aMR ?_
  | (refine aAB rfl (by intro Q hQ;(conv=>whnf);exact hQ) ?_)
  | refine mO ?_
  | refine sV ?_
  | refine eC (by first|(simp;done)|(intro c hc;simp at hc;first|(rcases hc with rfl|rfl|rfl <;> exact ⟨rfl,rfl⟩)|(rcases hc with rfl|rfl <;> exact ⟨rfl,rfl⟩)|(rcases hc with rfl;exact ⟨rfl,rfl⟩))) (by assumption) (by first|exact jQ _|exact tR _ _|exact eI _ _|rfl) (by first|exact .inl rfl|exact .inr rfl) ?_
  | (refine eC (by first|(simp;done)|(intro c hc;simp at hc;first|(rcases hc with rfl|rfl|rfl <;> exact ⟨rfl,rfl⟩)|(rcases hc with rfl|rfl <;> exact ⟨rfl,rfl⟩)|(rcases hc with rfl;exact ⟨rfl,rfl⟩))) (by
    intro Q hQ
    conv=>whnf
    repeat (first
     | exact hQ
     | (refine aI ?_;conv=>whnf)
     | (refine bK ?_;conv=>whnf)
     | (unfold bX;conv=>whnf))) (by first|exact jQ _|exact tR _ _|exact dN _ _ _ _ _ _|exact eI _ _|exact sQ _|exact aAD _ _|rfl) (by first|exact .inl rfl|exact .inr rfl) ?_)
  | refine cM (.inl (by first|rfl|kernel_rfl)) (.inr (by first|assumption|exact (by
    intro Q hQ
    conv=>whnf
    repeat (first
     | exact hQ
     | (refine aI ?_;conv=>whnf)
     | (refine bK ?_;conv=>whnf)
     | (unfold bX;conv=>whnf))))) (by first|exact jQ _|exact tR _ _|exact dN _ _ _ _ _ _|exact eI _ _|exact sQ _|rfl) ?_
  | refine iS ?_
  | refine gO ?_
  | refine aDm rfl ?_
  | refine vO (fun Q hQ=>by (conv=>whnf);exact hQ) ?_)
 exact hA.out):B:=h ⟨a⟩
end Go.Am
namespace Go.Am
open Go.Proofs
attribute [local irreducible] fN fI fB bX eR evCode evOps rX kOp aAv wW uM wX kGc aKT aKS kDr kMg drOps eN kT sl
theorem aPA:bA Tryz.prog 325 6 [.tmp 2] (aM Tryz.f325):=fq Tryz.f325
theorem aLO {x:Nat}(h1:1 ≤ x)(hx:x < 2 ^ 60){S:St}{k:V→St→Prop}(hk:k (.int .u64 (.ofNat (4 * x - 2))) S):RC Tryz.prog 325 [.int .u64 (.ofNat x)] S k:=by
 refine RC.run mixed aV (aH aPA ?_)
 refine enter ?_
 refine go ?_
 obtain ⟨y,hy⟩:∃ y,4 * x - 2=y:=⟨_,rfl⟩
 rw [hy] at hk
 have hsh:IntKind.u64.wrap (Int.ofNat x * 2 ^ min 2 IntKind.u64.bits)=Int.ofNat (x * 4):=by
  have e1:Int.ofNat x * 2 ^ min 2 IntKind.u64.bits=((x * 4:Nat):Int):=by
   have:(2:Int) ^ min 2 IntKind.u64.bits=4:=by decide
   rw [this]
   show (x:Int) * 4=_
   omega
  rw [e1]
  exact zM om
 refine dH (x * 4) hsh ?_
 refine go ?_
 refine nA y ?_ (by show x * 4=y+2;omega) (by show y ≤ 18446744073709551615;omega)
 refine go ?_
 exact hk
theorem aJM {d m X:Nat}(h:X=d * 2 ^ m)(hm:m ≤ 64)(hX:X < 2 ^ 64):IntKind.u64.wrap (Int.ofNat d * 2 ^ min m IntKind.u64.bits)=Int.ofNat X:=by
 have e:min m IntKind.u64.bits=m:=Nat.min_eq_left (by show m ≤ 64;omega)
 rw [e,h]
 have e1:Int.ofNat d * 2 ^ m=((d * 2 ^ m:Nat):Int):=by
  rw [Int.natCast_mul,Int.natCast_pow];rfl
 rw [e1]
 exact zM (by rw [← h];exact hX)
theorem aRB {s:Nat}(h:s < 64):IntKind.i64.wrap ((BitVec.ofInt IntKind.i64.bits (Int.ofNat s) &&& BitVec.ofInt IntKind.i64.bits 63).toNat:Int)=Int.ofNat s:=by
 have:∀ s:Fin 64,IntKind.i64.wrap ((BitVec.ofInt IntKind.i64.bits (Int.ofNat s.1) &&& BitVec.ofInt IntKind.i64.bits 63).toNat:Int)=Int.ofNat s.1:=by decide
 exact this ⟨s,h⟩
theorem aGs {x y:Nat}(H L:Nat)(hx:x < 18446744073709551616)(hy:y < 18446744073709551616)(h1:x * y / 18446744073709551616=H)(h2:x * y % 18446744073709551616=L){S:St}{k:V→St→Prop}(hk:k (.tup [.int .u64 (.ofNat H),.int .u64 (.ofNat L)]) S) :
  RC Tryz.prog 333 [.int .u64 (.ofNat x),.int .u64 (.ofNat y)] S k:=aLe hx hy (by rw [h1,h2];exact hk)
theorem rK {H s q:Nat}(hs:s ≤ 64)(hq:H / 2 ^ s=q):Int.fdiv (Int.ofNat H) (2 ^ min s IntKind.u64.bits)=Int.ofNat q:=by
 have e:min s IntKind.u64.bits=s:=Nat.min_eq_left (by show s ≤ 64;omega)
 rw [e,← hq]
 have:(2:Int) ^ s=((2 ^ s:Nat):Int):=by rw [Int.natCast_pow];rfl
 rw [this]
 exact qA H (2 ^ s)
theorem vU {a b d:Nat}{k:Int→Prop}(ha:a < 18446744073709551616)(hb:b < 18446744073709551616)(h:(a+18446744073709551616 - b) % 18446744073709551616=d)(hk:k (.ofNat d)):eR .u64 (Int.sub (Int.ofNat a) (Int.ofNat b)) k:=by
 by_cases hab:b ≤ a
 ·exact nA d hk om (by show d ≤ 18446744073709551615;omega)
 ·have e:IntKind.u64.wrap (Int.sub (Int.ofNat a) (Int.ofNat b))=Int.ofNat d:=by
   show IntKind.u64.wrap ((a:Int) - b)=(d:Int)
   have:IntKind.u64.wrap ((a:Int) - b)=((a:Int) - b) % 18446744073709551616:=by
    simp [IntKind.wrap,IntKind.signed,IntKind.bits]
   rw [this]
   omega
  exact uJ (by rw [e];exact hk)
theorem zW {b:Bool}(c:Bool){k:Bool→Prop}(h:b=c)(hk:k c):fB b k:=by
 subst h
 cases b with
 | false=>exact jH rfl hk
 | true=>exact iI rfl hk
theorem aVm:bA Tryz.prog 324 59 [.tmp 4] (aM Tryz.f324):=fq Tryz.f324
theorem aIN {X hi lo s p:Nat}(hX:X < 2 ^ 64)(hhi:hi < 2 ^ 64)(hlo:lo < 2 ^ 64)(hs:s < 64)(hh:0 < X * hi / 2 ^ 64){S:St}{e:TypeId}{fl:Fl}(hS:S.hs.get p=some (.cells [.int .u64 (.ofNat hi),.int .u64 (.ofNat lo),.int .i64 (.ofNat s)] e fl))
  {k:V→St→Prop} (hk:∀ S',k (.int .u64 (.ofNat (Fp.us (X * hi / 2 ^ 64) (X * hi % 2 ^ 64) (X * lo / 2 ^ 64) (2 ^ s)))) S'):RC Tryz.prog 324 [.int .u64 (.ofNat X),.ptr p 0] S k:=by
 have hH64:X * hi / 2 ^ 64 < 2 ^ 64:=Nat.div_lt_of_lt_mul (Nat.mul_lt_mul'' hX hhi)
 have hl64:X * lo / 2 ^ 64 < 2 ^ 64:=Nat.div_lt_of_lt_mul (Nat.mul_lt_mul'' hX hlo)
 have hm64:X * hi % 2 ^ 64 < 2 ^ 64:=Nat.mod_lt _ om
 obtain ⟨H,hH⟩:∃ H,X * hi / 18446744073709551616=H:=⟨_,rfl⟩
 obtain ⟨md,hmd⟩:∃ H,X * hi % 18446744073709551616=H:=⟨_,rfl⟩
 obtain ⟨l2,hl2⟩:∃ H,X * lo / 18446744073709551616=H:=⟨_,rfl⟩
 obtain ⟨l3,hl3⟩:∃ H,X * lo % 18446744073709551616=H:=⟨_,rfl⟩
 rw [show (2:Nat) ^ 64=18446744073709551616 by decide] at *
 rw [hH] at hk hh hH64
 rw [hmd] at hk hm64
 rw [hl2] at hk hl64
 obtain ⟨q,hq⟩:∃ q,H / 2 ^ s=q:=⟨_,rfl⟩
 obtain ⟨w,hw⟩:∃ w,w=q * 2 ^ s:=⟨_,rfl⟩
 have hwH:w ≤ H:=by rw [hw,← hq];exact Nat.div_mul_le_self _ _
 have hqH:q ≤ H:=by rw [← hq];exact Nat.div_le_self _ _
 unfold Fp.us at hk
 rw [hq,← hw] at hk
 refine RC.run mixed aV (aH aVm ?_)
 refine enter ?_
 refine go ?_
 refine aA hS ?_
 refine go ?_
 refine aGs H md hX hhi hH hmd ?_
 refine go ?_
 refine aA hS ?_
 refine go ?_
 refine dH s (aRB hs) ?_
 refine go ?_
 refine dH q (rK om hq) ?_
 refine go ?_
 refine dH w (aJM hw om (by show w < 18446744073709551616;omega)) ?_
 refine go ?_
 refine bL (fun h=>?_) (fun h=>?_)
 ·rw [if_neg om] at hk
  refine go ?_
  refine aA hS ?_
  refine go ?_
  refine aGs l2 l3 hX hlo hl2 hl3 ?_
  refine go ?_
  obtain ⟨H2,hH2⟩:∃ H2,H2=if md < l2 then H - 1 else H:=⟨_,rfl⟩
  rw [← hH2] at hk
  obtain ⟨q2,hq2⟩:∃ q,H2 / 2 ^ s=q:=⟨_,rfl⟩
  have hH2':H2 ≤ H:=by rw [hH2];split <;> omega
  have hq2H:q2 ≤ H2:=by rw [← hq2];exact Nat.div_le_self _ _
  rw [hq2] at hk
  obtain ⟨dd,hdd⟩:∃ x,(md+18446744073709551616 - l2) % 18446744073709551616=x:=⟨_,rfl⟩
  have hdd64:dd < 18446744073709551616:=by rw [← hdd];exact Nat.mod_lt _ om
  rw [hdd] at hk
  obtain ⟨h0,n0⟩:=S
  obtain ⟨b1,hb1⟩:∃ b,uA 1 (Int.ofNat dd)=b:=⟨_,rfl⟩
  have hb2:b1.toNat=if dd > 1 then 1 else 0:=by
   rw [← hb1,bH]
   by_cases h:dd > 1
   ·rw [if_pos h,decide_eq_true (by show (1:Int) < (dd:Int);omega)];rfl
   ·rw [if_neg h,decide_eq_false (by show ¬ (1:Int) < (dd:Int);omega)];rfl
  rw [← hb2] at hk
  refine aZ (fun (h1:md < l2)=>?_) (fun (h1:l2 ≤ md)=>?_)
  ·rw [if_pos h1] at hH2
   refine go ?_
   refine wA ?_
   refine go ?_
   refine nA H2 ?_ (by show H=H2+1;omega) (by show H2 ≤ 18446744073709551615;omega)
   refine go ?_
   refine iM ?_
   refine aP (v:=.int .u64 (.ofNat H2)) rfl (by intro Q hQ;(conv=>whnf);exact hQ) ?_
   refine aP (v:=.int .i64 (.ofNat s)) rfl (by intro Q hQ;(conv=>whnf);exact hQ) ?_
   refine aP (v:=.int .u64 (.ofNat q2)) rfl (by intro Q hQ;(conv=>whnf);refine dH q2 (rK om hq2) ?_;exact hQ) ?_
   refine aP (v:=.int .u64 (.ofNat md)) rfl (by intro Q hQ;(conv=>whnf);exact hQ) ?_
   refine aP (v:=.int .u64 (.ofNat l2)) rfl (by intro Q hQ;(conv=>whnf);exact hQ) ?_
   refine aP (v:=.int .u64 (.ofNat dd)) rfl (by intro Q hQ;(conv=>whnf);refine vU om om hdd ?_;exact hQ) ?_
   refine aP (v:=.bool b1) rfl (by intro Q hQ;(conv=>whnf);refine zW b1 hb1 ?_;exact hQ) ?_
   refine d_callA rfl ?_
   refine wA ?_
   refine n_dopA ?_
   refine aP (v:=.int .u64 (.ofNat (q2 ||| b1.toNat))) rfl (by intro Q hQ;(conv=>whnf);refine dH (q2 ||| b1.toNat) (aDb om (by have:=b1.toNat_lt;omega)) ?_;exact hQ) ?_
   refine xX ?_
   refine go ?_
   exact hk _
  ·rw [if_neg om] at hH2
   refine go ?_
   refine wA ?_
   refine go ?_
   refine nA H2 ?_ (by show H=H2+0;omega) (by show H2 ≤ 18446744073709551615;omega)
   refine go ?_
   refine iM ?_
   refine aP (v:=.int .u64 (.ofNat H2)) rfl (by intro Q hQ;(conv=>whnf);exact hQ) ?_
   refine aP (v:=.int .i64 (.ofNat s)) rfl (by intro Q hQ;(conv=>whnf);exact hQ) ?_
   refine aP (v:=.int .u64 (.ofNat q2)) rfl (by intro Q hQ;(conv=>whnf);refine dH q2 (rK om hq2) ?_;exact hQ) ?_
   refine aP (v:=.int .u64 (.ofNat md)) rfl (by intro Q hQ;(conv=>whnf);exact hQ) ?_
   refine aP (v:=.int .u64 (.ofNat l2)) rfl (by intro Q hQ;(conv=>whnf);exact hQ) ?_
   refine aP (v:=.int .u64 (.ofNat dd)) rfl (by intro Q hQ;(conv=>whnf);refine vU om om hdd ?_;exact hQ) ?_
   refine aP (v:=.bool b1) rfl (by intro Q hQ;(conv=>whnf);refine zW b1 hb1 ?_;exact hQ) ?_
   refine d_callA rfl ?_
   refine wA ?_
   refine n_dopA ?_
   refine aP (v:=.int .u64 (.ofNat (q2 ||| b1.toNat))) rfl (by intro Q hQ;(conv=>whnf);refine dH (q2 ||| b1.toNat) (aDb om (by have:=b1.toNat_lt;omega)) ?_;exact hQ) ?_
   refine xX ?_
   refine go ?_
   exact hk _
 ·rw [if_pos h] at hk
  refine go ?_
  refine dH q (rK om hq) ?_
  refine go ?_
  refine dH (q ||| 1) (aDb (b:=1) om om) ?_
  refine go ?_
  exact hk _
theorem aQb (u:Nat):u ||| u % 2=u:=by
 rw [← Nat.and_two_pow_sub_one_eq_mod u 1]
 apply Nat.eq_of_testBit_eq
 intro i
 rw [Nat.testBit_or,Nat.testBit_and]
 cases u.testBit i <;> rfl
theorem aPH {u:Nat}(h:u < 2 ^ 60):Fp.half u < 2 ^ 60:=Nat.or_lt_two_pow om om
theorem aVe:bA Tryz.prog 323 32 [] (aM Tryz.f323):=fq Tryz.f323
theorem aVd:bA Tryz.prog 298 63 [.tmp 6,.tmp 7] (aM Tryz.f298):=fq Tryz.f298
open Fp in
theorem aCc {sg d i hi lo f r t:Nat}(hs:sg=0 ∨ sg=2 ^ 63)(hrow:Pinned.pow10Rows[i]?=some (hi,lo))(P:Rep f r)(hr:r ≤ 2045)(Q:Near d (Lib.bitLen d) (tenN i) (tenD i) f r t){S:St}{e:TypeId}(hgb:Gb [(18,.cells aCf e .ro)] S)
  {k:V→St→Prop} (hk:k (.tup [.float .f64 (sg+(f+r * 2 ^ 52)),.nilIface]) S):RC Tryz.prog 298 [.int .u64 (.ofNat d),.int .i64 ((i:Int) - 348),.int .u64 (.ofNat sg)] S k:=by
 have hlen:Pinned.pow10Rows.length=696:=by kernel_rfl
 have hi696:i < 696:=by
  rw [← hlen]
  exact (List.getElem?_eq_some_iff.1 hrow).1
 have R:=row_ok hrow
 have hd64:d < 18446744073709551616:=Nat.lt_of_lt_of_le Q.b2 (Nat.pow_le_pow_right (by decide) Q.b64)
 have hw:=way R P Q
 have hub:u64 d (Lib.bitLen d) (rowG i) hi lo < 2 ^ 60:=by
  have h1:=u_near R P Q
  have h2:=Mhi R P Q
  omega
 have hbig:=big R P Q
 have hX:=Xlt Q
 have hb64:=Q.b64
 have hp:=pack_eq P
 have hU:u64 d (Lib.bitLen d) (rowG i) hi lo=us (d * 2 ^ (64 - Lib.bitLen d) * hi / 2 ^ 64) (d * 2 ^ (64 - Lib.bitLen d) * hi % 2 ^ 64) (d * 2 ^ (64 - Lib.bitLen d) * lo / 2 ^ 64) (2 ^ (187+(Lib.bitLen d+rowG i - 179) - (Lib.bitLen d+rowG i))):=rfl
 have hg:rowG i ≤ 2400:=by unfold rowG;omega
 have hh:=aUa R Q
 have hh64:=R.hi64
 have hl64:=R.lo64
 have hf:=P.f53
 refine RC.pureG mixed aVd _ hgb hk ?_
 refine build ?_
 refine enter ?_
 refine go ?_
 refine aDO hd64 ?_
 refine go ?_
 refine aPT hi696 ?_
 generalize rowG i=g at *
 generalize hb:Lib.bitLen d=b at *
 refine go ?_
 refine gV ((53:Int) - b) rfl ?_ (by omega) (by omega)
 refine go ?_
 refine gV ((1253:Int) - b - g) (by show (53:Int) - b - (g - 1200)=_;omega) ?_ (by omega) (by omega)
 refine aIi (fun Q hQ=>by (conv=>whnf);exact hQ) ?_
 obtain ⟨j,hj⟩:∃ j:Nat,j=b+g - 179:=⟨_,rfl⟩
 rw [← hj] at hU hw
 refine aPD (A:=fun Q=>Q (.int .i64 ((1074:Int) - j)) _) (fun Q hQ=>by
  (conv=>whnf)
  refine rec_ltI ((1253:Int) - b - g) 1074 (fun h=>?_) (fun h=>?_)
  ·have e:(1253:Int) - b - g=1074 - j:=by omega
   rw [e];exact hQ
  ·have e:(1074:Int) - j=1074:=by omega
   rw [e] at hQ;exact hQ) ?_
 refine go ?_
 refine gV ((64:Int) - b) rfl ?_ (by omega) (by omega)
 refine go ?_
 refine gV ((1010:Int) - j+b) (by show (1074:Int) - j - (64 - b)=_;omega) ?_ (by omega) (by omega)
 refine go ?_
 refine RC.run mixed aV (aH aVe ?_)
 refine enter ?_
 refine go ?_
 refine bF i ?_ (by show ((i:Int) - 348) - (-348)=(i:Int);omega) (by omega)
 refine go ?_
 refine ifK_intro (Nat.ble_eq_true_of_le (show i+1 ≤ 696 by omega)) ?_
 refine go ?_
 refine aE aEt (2 * i) (by show 0+i * 2+0=2 * i;omega) (aGB hrow).1 ?_
 refine go ?_
 refine bF i ?_ (by show ((i:Int) - 348) - (-348)=(i:Int);omega) (by omega)
 refine go ?_
 refine ifK_intro (Nat.ble_eq_true_of_le (show i+1 ≤ 696 by omega)) ?_
 refine go ?_
 refine aE aEt (2 * i+1) (by show 0+i * 2+1=2 * i+1;omega) (aGB hrow).2 ?_
 refine go ?_
 obtain ⟨y2,hy2⟩:∃ y:Int,y=(g:Int) - 190 - j+b:=⟨_,rfl⟩
 refine gV y2 (by show (1010:Int) - j+b+(g - 1200)=_;omega) ?_ (by omega) (by omega)
 refine go ?_
 obtain ⟨y3,hy3⟩:∃ y:Int,y=(g:Int) - 187 - j+b:=⟨_,rfl⟩
 refine gV y3 (by show y2+3=_;omega) ?_ (by omega) (by omega)
 refine go ?_
 obtain ⟨s,hs'⟩:∃ s,s=187+j - (b+g):=⟨_,rfl⟩
 refine bF s ?_ (by show (0:Int) - y3=(s:Int);omega) (by omega)
 refine go ?_
 rw [← hs'] at hU
 have hs64:s < 64:=by omega
 refine iI (by rw [bH];exact decide_eq_true (by show (s:Int) < 64;omega)) ?_
 refine go ?_
 obtain ⟨m,hm⟩:∃ m,m=64 - b:=⟨_,rfl⟩
 rw [← hm] at hX hh hU
 refine gU m ?_ (by show 64=m+b;omega) (by omega)
 obtain ⟨X,hXd⟩:∃ X,X=d * 2 ^ m:=⟨_,rfl⟩
 rw [← hXd] at hX hh hU
 refine aIi (fun Q hQ=>by (conv=>whnf);exact hQ) ?_
 refine aNr rfl (fun A B h=>by (conv=>whnf);exact h) (fun Q hQ=>by (conv=>whnf);exact hQ) (fun Q hQ=>by (conv=>whnf);exact hQ) (aJM hXd (by omega) hX) ?_
 refine go ?_
 refine aIN hX hh64 hl64 hs64 hh (by rfl) fun S1=>?_
 rw [← hU]
 obtain ⟨u,hu⟩:∃ u,u64 d b g hi lo=u:=⟨_,rfl⟩
 rw [hu] at hw hub ⊢
 refine go ?_
 refine aLO (x:=9007199254740992) (by decide) (by decide) ?_
 refine go ?_
 refine aZ (fun (h:u < 36028797018963966)=>?_) (fun (h:36028797018963966 ≤ u)=>?_)
 ·obtain ⟨_,hrf,hrj⟩:=hw.resolve_right (by omega)
  refine go ?_
  refine aAA ?_
  refine go ?_
  refine dH u (rK (by decide) (Nat.div_one u)) ?_
  refine go ?_
  refine dH (u % 2) ((rS (b:=1) (by omega) (by omega)).trans (congrArg Int.ofNat (Nat.and_two_pow_sub_one_eq_mod u 1))) ?_
  refine go ?_
  refine dH u ((aDb (by omega) (by omega)).trans (congrArg Int.ofNat (aQb u))) ?_
  refine go ?_
  refine gV ((1074:Int) - j) (by show (1074:Int) - j - 0=_;omega) ?_ (by omega) (by omega)
  refine go ?_
  refine aJL (by omega) ?_
  rw [hrf]
  refine go ?_
  refine dH (sg+f) ((aDb (by omega) (by omega)).trans (congrArg Int.ofNat (rF hs (by omega)))) ?_
  refine go ?_
  refine gV ((j:Int) - 1074) (by show (0:Int) - ((1074:Int) - j)=_;omega) ?_ (by omega) (by omega)
  refine go ?_
  refine aGw hs hf (by omega) ?_
  rw [← hrj,hp]
  refine go ?_
  rfl
 ·obtain ⟨_,hrf,hrj⟩:=hw.resolve_left (by omega)
  refine go ?_
  refine aAA ?_
  refine go ?_
  refine dH (u / 2) (rK (by decide) rfl) ?_
  refine go ?_
  refine dH (u % 2) ((rS (b:=1) (by omega) (by omega)).trans (congrArg Int.ofNat (Nat.and_two_pow_sub_one_eq_mod u 1))) ?_
  refine go ?_
  refine dH (half u) (aDb (by omega) (by omega)) ?_
  refine go ?_
  refine gV ((1073:Int) - j) (by show (1074:Int) - j - 1=_;omega) ?_ (by omega) (by omega)
  refine go ?_
  refine aJL (aPH hub) ?_
  rw [hrf]
  refine go ?_
  refine dH (sg+f) ((aDb (by omega) (by omega)).trans (congrArg Int.ofNat (rF hs (by omega)))) ?_
  refine go ?_
  obtain ⟨j1,hj1⟩:∃ j1,j1=j+1:=⟨_,rfl⟩
  refine gV ((j1:Int) - 1074) (by show (0:Int) - ((1073:Int) - j)=_;omega) ?_ (by omega) (by omega)
  refine go ?_
  refine aGw hs hf (by omega) ?_
  rw [hj1,← hrj,hp]
  refine go ?_
  rfl
theorem aX {P:Program}{t:TypeId}{xs:List V}{fl:Fl}{off:Nat}{cs:List V}{K:List V→Prop}{v:V}(hx:xs=[v])(hfl:fl ≠ .ro)(h1:(P.info? t).map (fun i=>i.size)=some 1)(hv:V.one v=true)(hoff:off < cs.length)(hk:K (cs.set off v)) :
  wrK fl (vR P t fun n=>cZ (Nat.beq (dD xs) n) (cZ (Nat.blt 0 n) (cZ (cX xs) (fR xs off cs K)))):=by
 subst hx
 have hw:∀ {k:Prop},k→wrK fl k:=fun {k} hk=>by cases fl <;> first|exact absurd rfl hfl|exact hk
 refine hw ?_
 unfold vR
 cases hi:P.info? t with
 | none=>rw [hi] at h1;cases h1
 | some i =>
   rw [hi] at h1
   have hs:i.size=1:=Option.some.inj h1
   show cZ (Nat.beq (dD [v]) i.size) (cZ (Nat.blt 0 i.size) (cZ (cX [v]) (fR [v] off cs K)))
   rw [hs]
   refine ifK_intro rfl (ifK_intro rfl (ifK_intro ?_ (aIq hoff hk)))
   show Bool.rec (motive:=fun _=>Bool) false true v.one=true
   rw [hv]
theorem aTk:bA Tryz.prog 152 54 [.tmp 4] (aM Tryz.f152):=fq Tryz.f152
theorem aPX {n:Nat}{k:Int→Prop}(h1:1 ≤ n)(hn:n ≤ 9223372036854775808){x:Int}(hx:x=-(n:Int))(hk:k (.ofNat (18446744073709551616 - n))):eR .u64 x k:=by
 have e:IntKind.u64.wrap x=Int.ofNat (18446744073709551616 - n):=by
  subst hx
  have:IntKind.u64.wrap (-(n:Int))=(-(n:Int)) % 18446744073709551616:=by simp [IntKind.wrap,IntKind.signed,IntKind.bits]
  rw [this]
  show _=((18446744073709551616 - n:Nat):Int)
  omega
 exact uJ (by rw [e];exact hk)
theorem aRV {u:Nat}(hu:u < 9223372036854775808){S:St}(h10:jF S){k:V→St→Prop}(hk:k (.str (Lib.decDigits u)) S):RC Tryz.prog 152 [.int .i64 (.ofNat u),.int .i64 10] S k:=by
 obtain ⟨e,hgb⟩:=qB h10
 refine RC.pureG mixed aTk _ hgb hk ?_
 refine build ?_
 refine enter ?_
 refine go ?_
 refine aZ (fun (h:_ < 100)=>?_) (fun (h:100 ≤ _)=>?_)
 ·refine go ?_
  refine aEd h ?_
  refine go ?_
  rfl
 ·refine go ?_
  refine aY u rfl (by show u ≤ 18446744073709551615;omega) ?_
  refine go ?_
  refine pN om om ⟨e,rfl⟩ ?_
  have hn:=mA (u:=u) om om
  obtain ⟨n,hnd⟩:∃ n,Lib.nDigits u=n:=⟨_,rfl⟩
  rw [hnd] at hn ⊢
  refine go ?_
  refine bF (n+1) ?_ (by show (1:Int)+(n:Int)=((n+1:Nat):Int);omega)
  refine go ?_
  refine ifK_intro (Nat.ble_eq_true_of_le (show n+1 ≤ 24 by omega)) ?_
  refine go ?_
  refine ifK_intro (Nat.ble_eq_true_of_le (show 1 ≤ n+1 by omega)) ?_
  refine go ?_
  have hz:List.replicate 24 (V.int .u8 (.ofNat 0))=[V.int .u8 (.ofNat 0)] ++ bC (List.replicate n 0) ++ List.replicate (23 - n) (V.int .u8 (.ofNat 0)):=by
   have e1:bC (List.replicate n 0)=List.replicate n (V.int .u8 (.ofNat 0)):=by simp [bC]
   have e0:[V.int .u8 (.ofNat 0)]=List.replicate 1 (V.int .u8 (.ofNat 0)):=rfl
   rw [e1,e0,List.replicate_append_replicate,List.replicate_append_replicate]
   congr 1;omega
  refine aBA (pre:=[V.int .u8 (.ofNat 0)]) (post:=List.replicate (23 - n) (V.int .u8 (.ofNat 0))) (mid:=List.replicate n 0) (e:=284) (fl:=.ex) rfl sm rfl (by simp [hnd]) (by simp;omega) sm (by simp;omega) om (show _=some (O.cells _ _ _) by rw [← hz];rfl) dc fun S1 hS1=>?_
  refine go ?_
  refine bF (n+1) ?_ (by show (1:Int)+(n:Int)=((n+1:Nat):Int);omega)
  refine go ?_
  have hl24:([V.int .u8 (.ofNat 0)] ++ bC (Lib.decDigits u) ++ List.replicate (23 - n) (V.int .u8 (.ofNat 0))).length=24:=by simp [cS,Lib.decDigits_length,hnd];omega
  refine aA (aT hS1) ?_
  refine go ?_
  refine ifK_intro (by rw [aL,hl24];rfl) ?_
  refine go ?_
  refine ifK_intro (Nat.ble_eq_true_of_le (show n+1 ≤ 24 by omega)) ?_
  refine go ?_
  refine ifK_intro (Nat.ble_eq_true_of_le (show 1 ≤ n+1 by omega)) ?_
  refine go ?_
  refine aA (aT hS1) ?_
  refine go ?_
  refine cD (n:=1) (by rw [hl24];decide) ?_
  have e2:List.take n (List.drop 1 ([V.int .u8 (.ofNat 0)] ++ bC (Lib.decDigits u) ++ List.replicate (23 - n) (V.int .u8 (.ofNat 0))))=bC (Lib.decDigits u):=by
   rw [List.singleton_append,List.cons_append,List.drop_succ_cons,List.drop_zero,List.take_left' (by rw [cS,Lib.decDigits_length,hnd])]
  refine aJT (n:=n) (by rw [List.length_drop,hl24];omega) e2 ?_
  refine fG ?_
  refine go ?_
  rfl
theorem aRU {u:Nat}(h1:1 ≤ u)(hu:u ≤ 9223372036854775808){x:Int}(hx:x=-(u:Int)){S:St}(h10:jF S){k:V→St→Prop}(hk:k (.str (45 :: Lib.decDigits u)) S):RC Tryz.prog 152 [.int .i64 x,.int .i64 10] S k:=by
 obtain ⟨e,hgb⟩:=qB h10
 refine RC.pureG mixed aTk _ hgb hk ?_
 refine build ?_
 refine enter ?_
 refine go ?_
 refine iI (by rw [bH];exact decide_eq_true om) ?_
 refine go ?_
 refine aPX h1 om hx ?_
 obtain ⟨y,hy⟩:∃ y,18446744073709551616 - u=y:=⟨_,rfl⟩
 rw [hy]
 refine go ?_
 refine iI (by rw [bH];exact decide_eq_true om) ?_
 refine go ?_
 refine vU (a:=0) (b:=y) (d:=u) om om om ?_
 refine go ?_
 refine pN om om ⟨e,rfl⟩ ?_
 have hn:=mA (u:=u) om om
 obtain ⟨n,hnd⟩:∃ n,Lib.nDigits u=n:=⟨_,rfl⟩
 rw [hnd] at hn ⊢
 refine go ?_
 refine bF (n+1) ?_ (by show (1:Int)+(n:Int)=((n+1:Nat):Int);omega)
 refine go ?_
 refine ifK_intro (Nat.ble_eq_true_of_le (show n+1 ≤ 24 by omega)) ?_
 refine go ?_
 refine ifK_intro (Nat.ble_eq_true_of_le (show 1 ≤ n+1 by omega)) ?_
 refine go ?_
 have hz:List.replicate 24 (V.int .u8 (.ofNat 0))=[V.int .u8 (.ofNat 0)] ++ bC (List.replicate n 0) ++ List.replicate (23 - n) (V.int .u8 (.ofNat 0)):=by
  have e1:bC (List.replicate n 0)=List.replicate n (V.int .u8 (.ofNat 0)):=by simp [bC]
  have e0:[V.int .u8 (.ofNat 0)]=List.replicate 1 (V.int .u8 (.ofNat 0)):=rfl
  rw [e1,e0,List.replicate_append_replicate,List.replicate_append_replicate]
  congr 1;omega
 refine aBA (pre:=[V.int .u8 (.ofNat 0)]) (post:=List.replicate (23 - n) (V.int .u8 (.ofNat 0))) (mid:=List.replicate n 0) (e:=284) (fl:=.ex) rfl sm rfl (by simp [hnd]) (by simp;omega) sm (by simp;omega) om (show _=some (O.cells _ _ _) by rw [← hz];rfl) dc fun S1 hS1=>?_
 refine go ?_
 refine iI (by rw [bH];exact decide_eq_true om) ?_
 refine go ?_
 have hl24:([V.int .u8 (.ofNat 0)] ++ bC (Lib.decDigits u) ++ List.replicate (23 - n) (V.int .u8 (.ofNat 0))).length=24:=by simp [cS,Lib.decDigits_length,hnd];omega
 refine aA (aT hS1) ?_
 refine aX (v:=.int .u8 (.ofNat 45)) rfl (by intro h;cases h) kr rfl (show 0 < _ by rw [hl24];decide) ?_
 refine aD dc fun S2 hS2=>?_
 refine go ?_
 refine bF (n+1) ?_ (by show (1:Int)+(n:Int)=((n+1:Nat):Int);omega)
 refine go ?_
 refine aA (aT hS2) ?_
 refine go ?_
 refine ifK_intro (by rw [aL,List.length_set,hl24];rfl) ?_
 refine go ?_
 refine ifK_intro (Nat.ble_eq_true_of_le (show n+1 ≤ 24 by omega)) ?_
 refine go ?_
 refine aA (aT hS2) ?_
 refine go ?_
 have e2:List.take (n+1) (([V.int .u8 (.ofNat 0)] ++ bC (Lib.decDigits u) ++ List.replicate (23 - n) (V.int .u8 (.ofNat 0))).set 0 (.int .u8 (.ofNat 45)))=bC (45 :: Lib.decDigits u):=by
  rw [List.singleton_append,List.cons_append,List.set_cons_zero,List.take_succ_cons,List.take_left' (by rw [cS,Lib.decDigits_length,hnd])]
  rfl
 refine cD (n:=0) (Nat.zero_le _) ?_
 rw [List.drop_zero]
 refine aJT (n:=n+1) (by rw [List.length_set,hl24];omega) e2 ?_
 refine fG ?_
 refine go ?_
 rfl
theorem aQP:bA Tryz.prog 104 5 [.tmp 2] (aM Tryz.f104):=fq Tryz.f104
theorem aTq:bA Tryz.prog 66 5 [.tmp 2] (aM Tryz.f66):=fq Tryz.f66
theorem aNC {u:Nat}(hu:u < 9223372036854775808){S:St}(h10:jF S){k:V→St→Prop}(hk:k (.str (Lib.decDigits u)) S):RC Tryz.prog 66 [.int .i64 (.ofNat u)] S k:=by
 refine RC.run mixed aV (aH aTq ?_)
 refine enter ?_
 refine go ?_
 refine RC.run mixed aV (aH aQP ?_)
 refine enter ?_
 refine go ?_
 refine aRV hu h10 ?_
 refine go ?_
 exact hk
theorem aBK {u:Nat}(h1:1 ≤ u)(hu:u ≤ 9223372036854775808){x:Int}(hx:x=-(u:Int)){S:St}(h10:jF S){k:V→St→Prop}(hk:k (.str (45 :: Lib.decDigits u)) S):RC Tryz.prog 66 [.int .i64 x] S k:=by
 refine RC.run mixed aV (aH aTq ?_)
 refine enter ?_
 refine go ?_
 refine RC.run mixed aV (aH aQP ?_)
 refine enter ?_
 refine go ?_
 refine aRU h1 hu hx h10 ?_
 refine go ?_
 exact hk
end Go.Am
namespace Go.Am
open Fp Go.Proofs Ieee
attribute [local irreducible] fN fI fB bX eR evCode evOps rX kOp aAv wW uM wX kGc aKT aKS kDr kMg drOps eN kT sl
def sgN (b:Bool):Nat:=if b then 2 ^ 63 else 0
theorem xW (neg:Bool)(x:Nat):double.word neg x=sgN neg+x:=by
 cases neg
 ·exact (Nat.zero_add x).symm
 ·rfl
theorem aFk {a b c:Nat}(h:c=a+b):(2:Nat) ^ a * 2 ^ b=2 ^ c:=by rw [h,Nat.pow_add]
theorem aAI {m:Nat}(h0:0 < m)(h:m < 2 ^ 53):m.log2 ≤ 52:=by
 have:=(Nat.log2_lt (by omega:m ≠ 0)).2 h
 omega
def fN0 (m:Nat):Nat:=m * 2 ^ (52 - m.log2)
def fA0 (m:Nat):Nat:=1022+m.log2
theorem aQj {m:Nat}(h0:0 < m)(h:m < 2 ^ 53):Rep (fN0 m) (fA0 m):=by
 have hl:=aAI h0 h
 have h1:m < 2 ^ (m.log2+1):=Nat.lt_log2_self
 have h2:2 ^ m.log2 ≤ m:=Nat.log2_self_le om
 have p:=Nat.two_pow_pos (52 - m.log2)
 constructor
 ·exact Nat.mul_pos h0 p
 ·have:m * 2 ^ (52 - m.log2) < 2 ^ (m.log2+1) * 2 ^ (52 - m.log2):=Nat.mul_lt_mul_of_pos_right h1 p
  rw [aFk (c:=53) om] at this
  exact this
 ·left
  have:2 ^ m.log2 * 2 ^ (52 - m.log2) ≤ m * 2 ^ (52 - m.log2):=Nat.mul_le_mul_right _ h2
  rw [aFk (c:=52) om] at this
  exact this
theorem aHS {m:Nat}(h0:0 < m)(h:m < 2 ^ 53):fA0 m ≤ 1074:=by have:=aAI h0 h;unfold fA0;omega
theorem aJk {m:Nat}(h0:0 < m)(h:m < 2 ^ 53):fN0 m * 2 ^ fA0 m=m * 2 ^ 1074:=by
 have hl:=aAI h0 h
 unfold fN0 fA0
 rw [Nat.mul_assoc,aFk (c:=1074) (by omega)]
def fB0 (m:Nat):Nat:=fN0 m+fA0 m * 2 ^ 52
theorem aUi {m:Nat}(h0:0 < m)(h:m < 2 ^ 53):FloatKind.f64.nearest (Int.ofNat m)=fB0 m:=by
 have hl:=aAI h0 h
 have e:FloatKind.f64.nearest (Int.ofNat m)=double.nearest false m 0:=by
  have:decide (Int.ofNat m < 0)=false:=decide_eq_false (by show ¬ (m:Int) < 0;omega)
  show FloatKind.f64.encode (Datum.number (decide (Int.ofNat m < 0)) m 0)=_
  rw [this];rfl
 rw [e,nearest_rep false (aQj h0 h) (by have:=aHS h0 h;omega) ⟨52 - m.log2,.inl ⟨by unfold fA0;omega,rfl⟩⟩,xW]
 simp [sgN,fB0]
theorem aRT {m:Nat}(h0:0 < m)(h:m < 2 ^ 53):fB0 m < 2 ^ 63:=by
 have h1:=aHS h0 h
 have h2:=(aQj h0 h).f53
 unfold fB0
 omega
theorem aVw {x:Nat}(h:x < 2 ^ 63):Op.negFloat .f64 x=2 ^ 63+x:=by
 have h1:=Nat.two_pow_add_eq_or_of_lt (i:=63) (b:=x) h 1
 rw [Nat.mul_one] at h1
 show x ^^^ 2 ^ 63=_
 rw [h1]
 apply Nat.eq_of_testBit_eq
 intro i
 rw [Nat.testBit_xor,Nat.testBit_or,Nat.testBit_two_pow]
 by_cases hi:63=i
 ·subst hi
  rw [Nat.testBit_lt_two_pow h];rfl
 ·rw [decide_eq_false hi];simp
def tN (i:Nat):Nat:=10 ^ i * 2 ^ 52 / 2 ^ (10 ^ i).log2
def tA (i:Nat):Nat:=1022+(10 ^ i).log2
def tB (i:Nat):Nat:=tN i+tA i * 2 ^ 52
def tOk (i:Nat):Bool:=Nat.blt 0 (tN i) && (Nat.blt (tN i) (2 ^ 53) && (Nat.ble (2 ^ 52) (tN i) && (Nat.ble (tA i) 2045 && Nat.beq (tN i * 2 ^ tA i) (10 ^ i * 2 ^ 1074))))
theorem aQt:(List.range 23).all tOk=true:=by kernel_rfl
theorem aUr {i:Nat}(h:i < 23):Rep (tN i) (tA i)∧tA i ≤ 2045∧tN i * 2 ^ tA i=10 ^ i * 2 ^ 1074:=by
 have:=List.all_eq_true.1 aQt i (List.mem_range.2 h)
 unfold tOk at this
 simp only [Bool.and_eq_true,Nat.blt_eq,Nat.ble_eq,Nat.beq_eq] at this
 obtain ⟨h1,h2,h3,h4,h5⟩:=this
 exact ⟨⟨h1,h2,.inl h3⟩,h4,h5⟩
def tC:List V:=(List.range 23).map fun i=>.float .f64 (tB i)
theorem aOy {i:Nat}(h:i < 23):tC[i]?=some (.float .f64 (tB i)):=by simp [tC,h]
theorem aUG (a b c d:Nat):a * b * (c * d)=a * c * (b * d):=by ac_rfl
theorem aUH {m i f r:Nat}(neg:Bool)(h0:0 < m)(h:m < 2 ^ 53)(hi:i < 23)(P:Rep f r)(hr:r ≤ 2045)(hv:f * 2 ^ r * 10 ^ i=m * 2 ^ 1074) :
  double.div (sgN neg+fB0 m) (tB i)=some (sgN neg+(f+r * 2 ^ 52)):=by
 obtain ⟨T,ht,hT⟩:=aUr hi
 have e:fN0 m * 2 ^ (fA0 m+1074)=f * tN i * 2 ^ (r+tA i):=by
  rw [Nat.pow_add,← Nat.mul_assoc,aJk h0 h,Nat.pow_add 2 r,aUG f,hT,← Nat.mul_assoc,hv]
 have:=div_rep (sx:=neg) (sy:=false) (aQj h0 h) (by have:=aHS h0 h;omega) T ht P hr e
 rw [xW,xW,xW,Bool.xor_false] at this
 have e2:sgN false+(tN i+tA i * 2 ^ 52)=tB i:=Nat.zero_add _
 rw [e2] at this
 exact this
end Go.Am
namespace Go.Am
open Go.Proofs
attribute [local irreducible] fN fI fB bX eR evCode evOps rX kOp aAv wW uM wX kGc aKT aKS kDr kMg drOps eN kT sl
theorem aNg {x:Nat}{k:Nat→Prop}(n:Nat)(h:x=n)(hk:k n):fN x k:=by subst h;exact aI hk
structure FT (S:St):Prop where
 inf:∃ e fl,S.hs.get 12=some (.cells [.int .u64 52,.int .u64 11,.int .i64 (-1023)] e fl)
 ten:∃ B e fl e' fl' ex,S.hs.get 15=some (.cells [.slice B 0 23 23 1 ex] e fl)∧S.hs.get B=some (.cells tC e' fl')
 opt:∃ e fl,S.hs.get 11=some (.cells [.bool true] e fl)
 pow:∃ e,Gb [(18,.cells aCf e .ro)] S
theorem aUK:bA Tryz.prog 297 64 [.tmp 6,.tmp 7] (aM Tryz.f297):=fq Tryz.f297
theorem aIS:qP Tryz.prog 261=some false:=by kernel_rfl
theorem aHx {m:Nat}{x:Int}{neg:Bool}(hm:0 < m)(hm64:m < 18446744073709551616)(hx1:-100000 ≤ x)(hx2:x ≤ 100000){S:St}(hT:FT S){k:V→St→Prop}
  (hbig:2 ^ 52 ≤ m→k (.tup [.float .f64 0,.bool false]) S)
  (hz:m < 2 ^ 52→x=0→k (.tup [.float .f64 (sgN neg+fB0 m),.bool true]) S)
  (hn:∀ i:Nat,m < 2 ^ 52→x=-(i:Int)→1 ≤ i→i ≤ 22→∃ v,Ieee.double.div (sgN neg+fB0 m) (tB i)=some v∧k (.tup [.float .f64 v,.bool true]) S)
  (hl:m < 2 ^ 52→x < -22→∀ v,k (.tup [.float .f64 v,.bool false]) S) (hp:m < 2 ^ 52→x ≤ 0):RC Tryz.prog 297 [.int .u64 (.ofNat m),.int .i64 x,.bool neg] S k:=by
 obtain ⟨e1,l1,h12⟩:=hT.inf
 obtain ⟨B,e2,l2,e3,l3,ex,h15,hB⟩:=hT.ten
 refine RC.run mixed aV (aH aUK ?_)
 refine enter ?_
 refine go ?_
 refine aA h12 ?_
 refine go ?_
 obtain ⟨q,hq⟩:∃ q,m / 2 ^ 52=q:=⟨_,rfl⟩
 refine dH q (rK dc hq) ?_
 refine go ?_
 refine bL (fun (h:q=0)=>?_) (fun (h:q ≠ 0)=>?_)
 ·have hm52:m < 2 ^ 52:=by omega
  refine go ?_
  have hlt:=aRT hm (by omega:m < 2 ^ 53)
  have hne:=aUi hm (by omega:m < 2 ^ 53)
  have hx0:=hp hm52
  have main:∀ y:Nat,y=sgN neg+fB0 m→(x=0→k (.tup [.float .f64 y,.bool true]) S)∧(∀ i:Nat,x=-(i:Int)→1 ≤ i→i ≤ 22→∃ v,Ieee.double.div y (tB i)=some v∧k (.tup [.float .f64 v,.bool true]) S)∧(x < -22→∀ v,k (.tup [.float .f64 v,.bool false]) S):=fun y hy=>by
   subst hy
   exact ⟨hz hm52,fun i=>hn i hm52,hl hm52⟩
  cases neg with
  | true =>
    obtain ⟨c1,c2,c3⟩:=main (Op.negFloat .f64 (FloatKind.f64.nearest (Int.ofNat m))) (by rw [hne,aVw hlt];rfl)
    refine go ?_
    refine dP (fun h0=>?_) (fun h0=>?_)
    ·refine go ?_
     exact c1 (by rw [jE] at h0;simpa using h0)
    ·have h1:x ≠ 0:=fun e=>by rw [jE,e] at h0;simp at h0
     refine go ?_
     refine jH (by rw [bH];exact decide_eq_false om) ?_
     refine go ?_
     refine iI (by rw [bH];exact decide_eq_true om) ?_
     refine go ?_
     refine dP (fun h2=>?_) (fun h2=>?_)
     ·have h3:x < -22:=by rw [bH] at h2;simpa using h2
      refine go ?_
      exact c3 h3 _
     ·have h3:-22 ≤ x:=by rw [bH] at h2;simpa using h2
      obtain ⟨i,hi⟩:∃ i:Nat,x=-(i:Int):=⟨x.natAbs,by omega⟩
      obtain ⟨v,hv,hk⟩:=c2 i hi om om
      refine go ?_
      refine aA h15 ?_
      refine go ?_
      refine bF i ?_ (by show (0:Int) - x=(i:Int);omega) om
      refine go ?_
      refine ifK_intro (Nat.ble_eq_true_of_le (show i+1 ≤ 23 by omega)) ?_
      refine go ?_
      refine aA hB ?_
      refine go ?_
      refine aE aIS i (by show 0+i * 1=i;omega) (aOy om) ?_
      refine go ?_
      refine bW v hv ?_
      refine go ?_
      exact hk
  | false =>
    obtain ⟨c1,c2,c3⟩:=main (FloatKind.f64.nearest (Int.ofNat m)) (by rw [hne];exact (Nat.zero_add _).symm)
    refine go ?_
    refine dP (fun h0=>?_) (fun h0=>?_)
    ·refine go ?_
     exact c1 (by rw [jE] at h0;simpa using h0)
    ·have h1:x ≠ 0:=fun e=>by rw [jE,e] at h0;simp at h0
     refine go ?_
     refine jH (by rw [bH];exact decide_eq_false om) ?_
     refine go ?_
     refine iI (by rw [bH];exact decide_eq_true om) ?_
     refine go ?_
     refine dP (fun h2=>?_) (fun h2=>?_)
     ·have h3:x < -22:=by rw [bH] at h2;simpa using h2
      refine go ?_
      exact c3 h3 _
     ·have h3:-22 ≤ x:=by rw [bH] at h2;simpa using h2
      obtain ⟨i,hi⟩:∃ i:Nat,x=-(i:Int):=⟨x.natAbs,by omega⟩
      obtain ⟨v,hv,hk⟩:=c2 i hi om om
      refine go ?_
      refine aA h15 ?_
      refine go ?_
      refine bF i ?_ (by show (0:Int) - x=(i:Int);omega) om
      refine go ?_
      refine ifK_intro (Nat.ble_eq_true_of_le (show i+1 ≤ 23 by omega)) ?_
      refine go ?_
      refine aA hB ?_
      refine go ?_
      refine aE aIS i (by show 0+i * 1=i;omega) (aOy om) ?_
      refine go ?_
      refine bW v hv ?_
      refine go ?_
      exact hk
 ·refine go ?_
  exact hbig om
end Go.Am
namespace Go.Am
open Fp Go.Proofs Ieee
attribute [local irreducible] fN fI fB bX eR evCode evOps rX kOp aAv wW uM wX kGc aKT aKS kDr kMg drOps eN kT sl
structure Fit (f r i m:Nat)(tr:Bool):Prop where
 rep:Rep f r
 r45:r ≤ 2045
 lo:m * (tenN i * A74) ≤ f * 2 ^ r * tenD i
 hi:f * 2 ^ r * tenD i ≤ (m+tr.toNat) * (tenN i * A74)
 big:tr=true→10 ^ 18 ≤ m
 m19:m < 10 ^ 19
 small:m < 10 ^ 18→i ≤ 348
theorem aAR:A74=2 ^ 1074:=by unfold A74;rfl
theorem aOz (i:Nat):0 < tenD i:=Nat.pow_pos dc
theorem Fit.m0 {f r i m:Nat}{tr:Bool}(h:Fit f r i m tr):0 < m:=by
 apply Nat.pos_of_ne_zero
 intro e
 cases tr with
 | true=>have:=h.big rfl;omega
 | false =>
   have h1:=h.hi
   rw [e,show (0:Nat)+false.toNat=0 from rfl,Nat.zero_mul] at h1
   have:=Nat.mul_pos (Nat.mul_pos h.rep.f0 (Nat.two_pow_pos r)) (aOz i)
   omega
theorem Fit.i_hi {f r i m : Nat}{tr : Bool}(h : Fit f r i m tr) : i ≤ 658 := by
  apply Nat.le_of_not_lt
  intro hi
  obtain ⟨K, hK⟩ : ∃ K, K = 2045 := ⟨_, rfl⟩
  obtain ⟨J, hJ⟩ : ∃ J, J = 311 := ⟨_, rfl⟩
  have h1 : f * 2 ^ r < 2 ^ 53 * 2 ^ K := Nat.mul_lt_mul_of_lt_of_le h.rep.f53 (Nat.pow_le_pow_right dc (by rw [hK]; exact h.r45)) (Nat.two_pow_pos _)
  have hD : tenD i = 1 := by unfold tenD; rw [show 348 - i = 0 by omega]
  have hN : 10 ^ J ≤ tenN i := Nat.pow_le_pow_right dc om
  have h2 : 10 ^ J * A74 ≤ m * (tenN i * A74) := by
    calc 10 ^ J * A74 ≤ tenN i * A74 := Nat.mul_le_mul_right _ hN
      _ = 1 * (tenN i * A74) := (Nat.one_mul _).symm
      _ ≤ m * (tenN i * A74) := Nat.mul_le_mul_right _ h.m0
  have h3 := h.lo
  rw [hD, Nat.mul_one] at h3
  have h4 : (2 : Nat) ^ 53 * 2 ^ K ≤ 10 ^ J * A74 := by
    rw [hK, hJ, aAR]
    exact Nat.le_of_ble_eq_true kr
  omega
theorem Fit.i_lo {f r i m : Nat}{tr : Bool}(h : Fit f r i m tr) : 3 ≤ i := by
  apply Nat.le_of_not_lt
  intro hi
  obtain ⟨K, hK⟩ : ∃ K, K = 346 := ⟨_, rfl⟩
  have h0 : 1 ≤ f * 2 ^ r := Nat.mul_pos h.rep.f0 (Nat.two_pow_pos r)
  have hN : tenN i = 1 := by unfold tenN; rw [show i - 348 = 0 by omega]
  have hD : 10 ^ K ≤ tenD i := Nat.pow_le_pow_right dc om
  have h1 := h.hi
  rw [hN, Nat.one_mul] at h1
  have h2 : 10 ^ K ≤ f * 2 ^ r * tenD i := by
    calc 10 ^ K ≤ tenD i := hD
      _ = 1 * tenD i := (Nat.one_mul _).symm
      _ ≤ f * 2 ^ r * tenD i := Nat.mul_le_mul_right _ h0
  have h3 : (m + tr.toNat) * A74 ≤ 10 ^ 19 * A74 := Nat.mul_le_mul_right _ (by have := h.m19; have := tr.toNat_le; omega)
  have h4 : (10 : Nat) ^ 19 * A74 < 10 ^ K := by
    rw [hK, aAR]
    exact sL kr
  omega
theorem aDr {x:Nat}(h0:x ≠ 0)(h:x < 2 ^ 64):Lib.bitLen x ≤ 64∧2 ^ Lib.bitLen x ≤ 2 * x∧x < 2 ^ Lib.bitLen x:=by
 obtain ⟨h1,h2,h3⟩:=Lib.bitLenAux_bounds 64 x h h0
 refine ⟨Lib.bitLen_le x 64 (Nat.le_refl _) h,?_,h3⟩
 show 2 ^ Lib.bitLenAux 64 x ≤ 2 * x
 rw [show Lib.bitLenAux 64 x=Lib.bitLenAux 64 x - 1+1 by omega,Nat.pow_succ]
 omega
theorem Fit.near {f r i m:Nat}{tr:Bool}(h:Fit f r i m tr):Near m (Lib.bitLen m) (tenN i) (tenD i) f r (tr.toNat * (tenN i * A74)):=by
 have hm:=h.m19
 obtain ⟨b1,b2,b3⟩:=aDr (x:=m) (by have:=h.m0;omega) om
 refine ⟨b1,b2,b3,Nat.le_trans h.lo (Nat.le_add_right _ _),?_,?_⟩
 ·rw [← Nat.add_mul];exact h.hi
 ·cases tr with
  | false=>rw [show false.toNat=0 from rfl,Nat.zero_mul,Nat.zero_mul];exact Nat.zero_le _
  | true =>
    rw [show true.toNat=1 from rfl,Nat.one_mul,Nat.mul_comm,tn]
    exact Nat.mul_le_mul_right _ (h.big rfl)
theorem Fit.near1 {f r i m:Nat}(h:Fit f r i m true):Near (m+1) (Lib.bitLen (m+1)) (tenN i) (tenD i) f r (tenN i * A74):=by
 have hm:=h.m19
 obtain ⟨b1,b2,b3⟩:=aDr (x:=m+1) om om
 have hlo:=h.lo
 have hhi:=h.hi
 rw [show true.toNat=1 from rfl] at hhi
 refine ⟨b1,b2,b3,?_,Nat.le_trans hhi (Nat.le_add_right _ _),?_⟩
 ·rw [Nat.add_mul,Nat.one_mul];omega
 ·rw [Nat.mul_comm,tn]
  exact Nat.mul_le_mul_right _ (by have:=h.big rfl;omega)
theorem aIB {f r g s:Nat}(P:Rep f r)(Q:Rep g s)(h:f * 2 ^ r=g * 2 ^ s):f=g∧r=s:=by
 have key:∀ {f r g s:Nat},Rep f r→Rep g s→f * 2 ^ r=g * 2 ^ s→¬ r < s:=by
  intro f r g s P Q h hl
  obtain ⟨k,hk⟩:∃ k,s=k+1+r:=⟨s - r - 1,by omega⟩
  have h52:2 ^ 52 ≤ g:=by
   rcases Q.norm with h|h
   ·exact h
   ·omega
  rw [hk,Nat.pow_add,← Nat.mul_assoc] at h
  have:=Nat.eq_of_mul_eq_mul_right (Nat.two_pow_pos r) h
  have h1:2 ≤ 2 ^ (k+1):=by
   have:2 ^ 1 ≤ 2 ^ (k+1):=Nat.pow_le_pow_right dc om
   omega
  have h2:=Nat.mul_le_mul h52 h1
  have:=P.f53
  omega
 have e:r=s:=by
  have:=key P Q h
  have:=key Q P h.symm
  omega
 subst e
 exact ⟨Nat.eq_of_mul_eq_mul_right (Nat.two_pow_pos r) h,rfl⟩
theorem Fit.ex {f r i m:Nat}{tr:Bool}(h:Fit f r i m tr)(hm:m < 2 ^ 52):tr=false∧i ≤ 348∧f * 2 ^ r * 10 ^ (348 - i)=m * 2 ^ 1074:=by
 have ht:tr=false:=by
  cases tr with
  | true=>have:=h.big rfl;omega
  | false=>rfl
 subst ht
 have hi:=h.small (by omega)
 refine ⟨rfl,hi,?_⟩
 have h1:=h.lo
 have h2:=h.hi
 have hN:tenN i=1:=by unfold tenN;rw [show i - 348=0 by omega]
 rw [hN,Nat.one_mul,aAR] at h1 h2
 exact Nat.le_antisymm h2 h1
theorem Fit.ex0 {f r m:Nat}{tr:Bool}(h:Fit f r 348 m tr)(hm:m < 2 ^ 52):fB0 m=f+r * 2 ^ 52:=by
 obtain ⟨_,_,he⟩:=h.ex hm
 rw [show 348 - 348=0 from rfl,Nat.pow_zero,Nat.mul_one,← aJk h.m0 om] at he
 obtain ⟨e1,e2⟩:=aIB h.rep (aQj h.m0 om) he
 unfold fB0
 rw [e1,e2]
theorem aIn (neg:Bool){f r:Nat}(P:Rep f r)(hr:r ≤ 2045):double.order (sgN neg+(f+r * 2 ^ 52)) (sgN neg+(f+r * 2 ^ 52))=some .eq:=by
 rw [← xW]
 unfold Format.order
 rw [read_word neg P hr]
 unfold Datum.order
 simp
end Go.Am
namespace Go.Am
open Go.Proofs
attribute [local irreducible] fN fI fB bX eR evCode evOps rX kOp aAv wW uM wX kGc aKT aKS kDr kMg drOps eN kT sl
theorem aTf:bA Tryz.prog 319 36 [.tmp 4] (aM Tryz.f319):=fq Tryz.f319
theorem aPg {s:List UInt8}{c:UInt8}(h0:s[0]?=some c)(hc:oY c=true){S:St}{k:V→St→Prop}(hk:k (.int .i64 0) S):RC Tryz.prog 319 [.str s,.str [105,110,102,105,110,105,116,121]] S k:=by
 have hc:=dI.1 hc
 have hl:0 < s.length:=(List.getElem?_eq_some_iff.1 h0).1
 refine RC.run mixed aV (aH aTf ?_)
 refine enter ?_
 refine go ?_
 refine cC (fun hb=>?_) (fun hb=>?_)
 ·refine go ?_
  refine LP.one mixed ?_
  refine go ?_
  refine aZ (fun _=>?_) (fun h=>absurd h (by rw [aL];show ¬ _ ≤ 0;omega))
  refine go ?_
  refine bW _ (vZ h0) ?_
  refine go ?_
  refine aZ (fun _=>?_) (fun (h:65 ≤ _)=>by omega)
  refine go ?_
  refine bL (fun (h:_=105)=>by omega) (fun _=>?_)
  refine go ?_
  exact hk
 ·refine go ?_
  refine LP.one mixed ?_
  refine go ?_
  refine bW _ (vZ h0) ?_
  refine go ?_
  refine aZ (fun _=>?_) (fun (h:65 ≤ _)=>by omega)
  refine go ?_
  refine bL (fun (h:_=105)=>by omega) (fun _=>?_)
  refine go ?_
  exact hk
theorem aKG:bA Tryz.prog 286 50 [.tmp 2,.tmp 3,.tmp 4] (aM Tryz.f286):=fq Tryz.f286
theorem aGU {s sg r:List UInt8}{c:UInt8}(hs:s=sg ++ c :: r)(hsg:sg=[] ∨ sg=[45])(hc:oY c=true){S:St}{k:V→St→Prop}(hk:k (.tup [.float .f64 0,.int .i64 0,.bool false]) S):RC Tryz.prog 286 [.str s] S k:=by
 have hc':=dI.1 hc
 have hl:0 < s.length:=by rw [hs];simp;omega
 refine RC.run mixed aV (aH aKG ?_)
 refine enter ?_
 refine go ?_
 refine bL (fun h=>absurd h (by rw [aL];show ¬ _=0;omega)) (fun _=>?_)
 refine go ?_
 rcases hsg with rfl|rfl
 ·have h0:s[0]?=some c:=by rw [hs];rfl
  refine bW _ (vZ h0) ?_
  refine go ?_
  refine bL (fun (h:_=43)=>by omega) (fun _=>?_)
  refine go ?_
  refine bL (fun (h:_=45)=>by omega) (fun _=>?_)
  refine go ?_
  refine bL (fun (h:_=105)=>by omega) (fun _=>?_)
  refine go ?_
  refine bL (fun (h:_=73)=>by omega) (fun _=>?_)
  refine go ?_
  refine bL (fun (h:_=110)=>by omega) (fun _=>?_)
  refine go ?_
  refine bL (fun (h:_=78)=>by omega) (fun _=>?_)
  refine go ?_
  exact hk
 ·have h0:s[0]?=some 45:=by rw [hs];rfl
  refine bW _ (vZ h0) ?_
  refine go ?_
  refine bW _ (vZ h0) ?_
  refine go ?_
  refine cN hl ?_
  have e:s.drop 1=c :: r:=by rw [hs];rfl
  rw [e]
  refine go ?_
  refine aPg (c:=c) rfl hc ?_
  refine go ?_
  exact hk
theorem aUL:bA Tryz.prog 268 143 [.tmp 2,.tmp 3,.tmp 4] (aM Tryz.f268):=fq Tryz.f268
theorem aUp (b:Bool):IntKind.u64.wrap (Int.ofNat b.toNat * 2 ^ min 63 IntKind.u64.bits)=Int.ofNat (sgN b):=by cases b <;> kernel_rfl
theorem aSA (b:Bool):sgN b=0 ∨ sgN b=2 ^ 63:=by cases b;exact .inl rfl;exact .inr rfl
theorem aQl {i:Nat}(h:i < 696):∃ hi lo,Pinned.pow10Rows[i]?=some (hi,lo):=by
 have hlen:Pinned.pow10Rows.length=696:=by kernel_rfl
 exact ⟨_,_,List.getElem?_eq_getElem (by rw [hlen];exact h)⟩
open Fp in
theorem aHA {s sg D tl F ex E:List UInt8}(hs:s=sg ++ (D ++ tl) ++ ex)(hD:Dec (sg ++ (D ++ tl)) sg D tl F)(hex:(ex=[]∧E=[]) ∨ (ex=101 :: 45 :: E∧E ≠ []))(hE:E.all oY=true)(hE4:E.length ≤ 4)(hlen:s.length ≤ 2000)
  (hsg:sg=[] ∨ sg=[45]) {f r i w:Nat} (hfit:((cG (D ++ tl)).mant=0∧w=0) ∨ (Fit f r i (cG (D ++ tl)).mant (cG (D ++ tl)).tr∧kY (D ++ tl) E=(i:Int) - 348∧w=f+r * 2 ^ 52))
  {S:St} (hT:FT S) {k:V→St→Prop} (hk:k (.tup [.float .f64 (sgN (decide (sg=[45]))+w),.int .i64 (.ofNat s.length),.nilIface]) S):RC Tryz.prog 268 [.str s] S k:=by
 obtain ⟨e1,l1,h11⟩:=hT.opt
 obtain ⟨e18,h18⟩:=hT.pow
 obtain ⟨c,D',hc⟩:∃ c D',D=c :: D':=List.exists_cons_of_ne_nil hD.d0
 have hcD:oY c=true:=List.all_eq_true.1 hD.d c (by rw [hc];simp)
 refine RC.run mixed aV (aH aUL ?_)
 refine enter ?_
 refine go ?_
 refine aGU (sg:=sg) (c:=c) (r:=D' ++ tl ++ ex) (by rw [hs,hc];simp) hsg hcD ?_
 refine go ?_
 refine aDd hs hD hex hE hE4 hlen ?_
 unfold rfV
 generalize kY (D ++ tl) E=x at *
 generalize (cG (D ++ tl)).mant=m at *
 generalize (cG (D ++ tl)).tr=tr at *
 generalize decide (sg=[45])=neg at *
 generalize s.length=n at *
 refine go ?_
 refine aA h11 ?_
 refine go ?_
 refine wA ?_
 obtain ⟨z,hz⟩:∃ z,sgN neg=z:=⟨_,rfl⟩
 have hz':z=0 ∨ z=2 ^ 63:=hz ▸ aSA neg
 rw [hz] at hk
 refine aIi (fun Q hQ=>by (conv=>whnf);exact hQ) ?_
 refine aNr rfl (fun A B h=>by (conv=>whnf);exact h) (fun Q hQ=>by (conv=>whnf);exact hQ) (fun Q hQ=>by (conv=>whnf);exact hQ) ((aUp neg).trans (congrArg Int.ofNat hz)) ?_
 refine go ?_
 refine bL (fun (h:m=0)=>?_) (fun (h:m ≠ 0)=>?_)
 ·have hw:w=0:=by
   rcases hfit with ⟨_,h1⟩|⟨h1,_⟩
   ·exact h1
   ·have:=h1.m0;omega
  rw [hw] at hk
  refine go ?_
  refine dH z ((aDb (a:=z) (b:=0) om om).trans (congrArg Int.ofNat (Nat.or_zero z))) ?_
  refine go ?_
  refine qX ?_
  refine go ?_
  exact hk
 ·obtain ⟨hf,hx,hw⟩:=hfit.resolve_left fun h1=>h h1.1
  have h3:=hf.i_lo
  have h6:=hf.i_hi
  have h0:=hf.m0
  have h19:=hf.m19
  obtain ⟨hi,lo,hrow⟩:=aQl (i:=i) om
  rw [hw] at hk
  refine go ?_
  refine jH (by rw [bH];exact decide_eq_false om) ?_
  refine go ?_
  refine jH (by rw [bH];exact decide_eq_false om) ?_
  refine go ?_
  have pf:∀ {k:V→St→Prop},k (.tup [.float .f64 (z+(f+r * 2 ^ 52)),.nilIface]) S→RC Tryz.prog 298 [.int .u64 (.ofNat m),.int .i64 x,.int .u64 (.ofNat z)] S k:=fun hk=>by
   rw [hx]
   exact aCc hz' hrow hf.rep hf.r45 hf.near h18 hk
  obtain ⟨u,hu⟩:∃ u,z+(f+r * 2 ^ 52)=u:=⟨_,rfl⟩
  rw [hu] at hk pf
  cases tr with
  | false =>
    refine go ?_
    refine aHx h0 om om om hT (fun h1=>?_) (fun h1 h2=>?_) (fun j h1 h2 h4 h5=>⟨u,?_,?_⟩) (fun h1 h2 v=>?_) (fun h1=>?_)
    ·refine go ?_
     refine pf ?_
     refine go ?_
     exact hk
    ·have e:sgN neg+fB0 m=u:=by
      have hi:i=348:=by omega
      subst hi
      rw [hz,hf.ex0 h1,hu]
     rw [e]
     refine go ?_
     exact hk
    ·obtain ⟨_,_,he⟩:=hf.ex h1
     rw [← hu,← hz]
     exact aUH neg h0 om om hf.rep hf.r45 (by rw [show j=348 - i by omega];exact he)
    ·refine go ?_
     exact hk
    ·refine go ?_
     refine pf ?_
     refine go ?_
     exact hk
    ·obtain ⟨_,_,_⟩:=hf.ex h1
     omega
  | true =>
    obtain ⟨m1,hm1⟩:∃ m1,m1=m+1:=⟨_,rfl⟩
    have pf1:∀ {k:V→St→Prop},k (.tup [.float .f64 u,.nilIface]) S→RC Tryz.prog 298 [.int .u64 (.ofNat m1),.int .i64 x,.int .u64 (.ofNat z)] S k:=fun hk=>by
     rw [hx,hm1]
     exact aCc hz' hrow hf.rep hf.r45 hf.near1 h18 (by rw [hu];exact hk)
    refine go ?_
    refine pf ?_
    refine go ?_
    refine aY m1 (by rw [hm1];rfl) (by show m1 ≤ 18446744073709551615;omega) ?_
    refine go ?_
    refine pf1 ?_
    refine go ?_
    refine iI (by have:=aIn neg hf.rep hf.r45;rw [hz,hu] at this;show (Ieee.double.order u u == some Ordering.eq)=true;rw [this];rfl) ?_
    refine go ?_
    exact hk
theorem aTC:bA Tryz.prog 243 27 [.tmp 4,.tmp 5,.tmp 6] (aM Tryz.f243):=fq Tryz.f243
theorem aTp:bA Tryz.prog 220 23 [.tmp 4,.tmp 5] (aM Tryz.f220):=fq Tryz.f220
theorem aTJ:bA Tryz.prog 180 22 [.tmp 4,.tmp 5] (aM Tryz.f180):=fq Tryz.f180
structure Txt (s:List UInt8)(neg:Bool)(w:Nat):Prop where
 ex:∃ sg D tl F ex E f r i,s=sg ++ (D ++ tl) ++ ex∧Dec (sg ++ (D ++ tl)) sg D tl F∧((ex=[]∧E=[]) ∨ (ex=101 :: 45 :: E∧E ≠ []))∧E.all oY=true∧E.length ≤ 4∧s.length ≤ 2000∧decide (sg=[45])=neg ∧
  (((cG (D ++ tl)).mant=0∧w=0) ∨ (Fit f r i (cG (D ++ tl)).mant (cG (D ++ tl)).tr∧kY (D ++ tl) E=(i:Int) - 348∧w=f+r * 2 ^ 52))
theorem Txt.len {s:List UInt8}{neg:Bool}{w:Nat}(h:Txt s neg w):s.length ≤ 2000:=by
 obtain ⟨sg,D,tl,F,ex,E,f,r,i,h1,h2,h3,h4,h5,h6,h7,h8⟩:=h.ex
 exact h6
theorem aQg {s:List UInt8}{neg:Bool}{w:Nat}(h:Txt s neg w){S:St}(hT:FT S){k:V→St→Prop}(hk:k (.tup [.float .f64 (sgN neg+w),.int .i64 (.ofNat s.length),.nilIface]) S):RC Tryz.prog 243 [.str s,.int .i64 64] S k:=by
 obtain ⟨sg,D,tl,F,ex,E,f,r,i,h1,h2,h3,h4,h5,h6,h7,h8⟩:=h.ex
 refine RC.run mixed aV (aH aTC ?_)
 refine enter ?_
 refine go ?_
 refine aHA h1 h2 h3 h4 h5 h6 h2.sg' h8 hT ?_
 rw [h7]
 generalize sgN neg+w=u at *
 generalize s.length=n at *
 refine go ?_
 exact hk
theorem aPN {s:List UInt8}{neg:Bool}{w:Nat}(h:Txt s neg w){S:St}(hT:FT S){k:V→St→Prop}(hk:k (.tup [.float .f64 (sgN neg+w),.nilIface]) S):RC Tryz.prog 220 [.str s,.int .i64 64] S k:=by
 refine RC.run mixed aV (aH aTp ?_)
 refine enter ?_
 refine go ?_
 refine aQg h hT ?_
 generalize sgN neg+w=u at *
 refine go ?_
 refine bL (fun _=>?_) (fun h=>absurd (aL s).symm h)
 refine go ?_
 exact hk
theorem aQq {s:List UInt8}{neg:Bool}{w:Nat}(h:Txt s neg w){S:St}(hT:FT S){k:V→St→Prop}(hk:k (.tup [.float .f64 (sgN neg+w),.nilIface]) S):RC Tryz.prog 180 [.str s,.int .i64 64] S k:=by
 refine RC.run mixed aV (aH aTJ ?_)
 refine enter ?_
 refine go ?_
 refine aPN h hT ?_
 generalize sgN neg+w=u at *
 refine go ?_
 exact hk
theorem aPp:∃ fn,Tryz.prog.funcs[182]?=some fn∧fn.body=none:=⟨Tryz.f182,by kernel_rfl,by kernel_rfl⟩
theorem aKH {b:Nat}{S:St}{k:V→St→Prop}(hk:k (.int .u64 (.ofNat b)) S):RC Tryz.prog 182 [.float .f64 b] S k:=by
 refine RC.run mixed aV (lT aPp ?_)
 conv=>whnf
 exact hk
structure RI (st:RS)(val:Nat):Prop where
 lo:st.mant * 10 ^ (st.nd - st.nm) ≤ val
 hi:val < (st.mant+1) * 10 ^ (st.nd - st.nm)
 ex:st.tr=false→val=st.mant * 10 ^ (st.nd - st.nm)
 nm:st.nm=min st.nd 19
 z:st.nd=0→st.mant=0
 nz:0 < st.nd→10 ^ (st.nm - 1) ≤ st.mant
 t:st.tr=true→19 ≤ st.nd
theorem RI.zero:RI rs0 0:=⟨by decide,by decide,fun _=>rfl,rfl,fun _=>rfl,fun h=>absurd h dc,fun h=>by cases h⟩
theorem RI.dig {st:RS}{val d:Nat}(h:RI st val)(hd:d < 10):RI (st.dig d) (val * 10+d):=by
 obtain ⟨h1,h2,h3,h4,h5,h6,h7⟩:=h
 unfold RS.dig
 by_cases h0:d=0∧st.nd=0
 ·rw [if_pos h0]
  obtain ⟨rfl,hn⟩:=h0
  have hm:=h5 hn
  rw [hm,hn] at h1 h2 h3
  have hv:val=0:=by
   rw [Nat.zero_sub,Nat.pow_zero] at h2
   omega
  subst hv
  refine ⟨?_,?_,fun _=>?_,h4,h5,h6,h7⟩
  ·show st.mant * 10 ^ (st.nd - st.nm) ≤ _
   rw [hm,Nat.zero_mul];exact Nat.zero_le _
  ·show _ < (st.mant+1) * 10 ^ (st.nd - st.nm)
   rw [hm,hn];simp
  ·show _=st.mant * 10 ^ (st.nd - st.nm)
   rw [hm];simp
 ·rw [if_neg h0]
  by_cases h9:st.nm < 19
  ·rw [if_pos h9]
   have hnn:st.nd=st.nm:=by omega
   rw [hnn,Nat.sub_self,Nat.pow_zero,Nat.mul_one] at h1 h2
   have hv:val=st.mant:=by omega
   subst hv
   refine ⟨?_,?_,fun _=>?_,?_,fun h=>?_,fun _=>?_,fun h=>?_⟩
   ·show (st.mant * 10+d) * 10 ^ (st.nd+1 - (st.nm+1)) ≤ _
    rw [hnn,Nat.sub_self,Nat.pow_zero,Nat.mul_one];exact Nat.le_refl _
   ·show _ < (st.mant * 10+d+1) * 10 ^ (st.nd+1 - (st.nm+1))
    rw [hnn,Nat.sub_self,Nat.pow_zero,Nat.mul_one];exact Nat.lt_succ_self _
   ·show _=(st.mant * 10+d) * 10 ^ (st.nd+1 - (st.nm+1))
    rw [hnn,Nat.sub_self,Nat.pow_zero,Nat.mul_one]
   ·show st.nm+1=min (st.nd+1) 19
    omega
   ·exact absurd h (Nat.succ_ne_zero _)
   ·show 10 ^ (st.nm+1 - 1) ≤ st.mant * 10+d
    rw [Nat.add_sub_cancel]
    by_cases hn0:st.nm=0
    ·rw [hn0,Nat.pow_zero]
     have:d ≠ 0:=fun e=>h0 ⟨e,by omega⟩
     omega
    ·have:=h6 om
     have e:(10:Nat) ^ st.nm=10 ^ (st.nm - 1) * 10:=by rw [← Nat.pow_succ];congr 1;omega
     omega
   ·have:=h7 h
    omega
  ·rw [if_neg h9]
   have e:st.nd+1 - st.nm=st.nd - st.nm+1:=by omega
   refine ⟨?_,?_,fun h=>?_,?_,fun h=>absurd h (Nat.succ_ne_zero _),fun _=>h6 om,fun _=>?_⟩
   ·show st.mant * 10 ^ (st.nd+1 - st.nm) ≤ _
    rw [e,Nat.pow_succ,← Nat.mul_assoc];omega
   ·show _ < (st.mant+1) * 10 ^ (st.nd+1 - st.nm)
    rw [e,Nat.pow_succ,← Nat.mul_assoc];omega
   ·have h':(st.tr || !(decide (d=0)))=false:=h
    rw [Bool.or_eq_false_iff] at h'
    have hd0:d=0:=by simpa using h'.2
    show _=st.mant * 10 ^ (st.nd+1 - st.nm)
    rw [e,Nat.pow_succ,← Nat.mul_assoc,← h3 h'.1,hd0,Nat.add_zero]
   ·show st.nm=min (st.nd+1) 19
    omega
   ·show 19 ≤ st.nd+1
    omega
theorem aRP (st:RS)(d:Nat):(st.dig d).dp - (st.dig d).nd=st.dp - st.nd - 1:=by
 unfold RS.dig
 split
 ·show st.dp - 1 - (st.nd:Int)=_
  omega
 ·split
  ·show st.dp - ((st.nd+1:Nat):Int)=_
   omega
  ·show st.dp - ((st.nd+1:Nat):Int)=_
   omega
theorem aOx {st:RS}{c:UInt8}(h:oY c=true):st.step c=st.dig (c.toNat - 48):=by
 unfold RS.step
 rw [if_neg]
 intro e
 have:=dI.1 h
 rw [e] at this
 exact absurd this.1 dc
def vE (n:Nat)(l:List UInt8):Nat:=l.foldl (fun e c=>e * 10+(c.toNat - 48)) n
theorem RI.fold:∀ {l:List UInt8} {st:RS} {val:Nat},RI st val→l.all oY=true→RI (l.foldl RS.step st) (vE val l)∧(l.foldl RS.step st).dp - (l.foldl RS.step st).nd=st.dp - st.nd - l.length∧(l.foldl RS.step st).saw=st.saw
 | [],st,val,h,_=>⟨h,by simp,rfl⟩
 | c :: l,st,val,h,hl=>by
   rw [List.all_cons,Bool.and_eq_true] at hl
   have hc:=dI.1 hl.1
   obtain ⟨a1,a2,a3⟩:=RI.fold (l:=l) (h.dig (d:=c.toNat - 48) om) hl.2
   rw [List.foldl_cons,aOx hl.1]
   refine ⟨a1,?_,?_⟩
   ·rw [a2,aRP,List.length_cons]
    omega
   ·rw [a3]
    unfold RS.dig
    split <;> (try split) <;> rfl
theorem zL (n:Nat)(a b:List UInt8):vE n (a ++ b)=vE (vE n a) b:=List.foldl_append
theorem aOq {D tl F:List UInt8}(hD:D.all oY=true)(hF:F.all oY=true)(ht:(tl=[]∧F=[]) ∨ tl=46 :: F) :
  RI (cG (D ++ tl)) (vE 0 (D ++ F))∧(if (cG (D ++ tl)).saw=true then (cG (D ++ tl)).dp else ((cG (D ++ tl)).nd:Int))=((cG (D ++ tl)).nd:Int) - F.length:=by
 obtain ⟨a1,a2,a3⟩:=RI.fold RI.zero hD
 unfold cG
 rw [List.foldl_append]
 rcases ht with ⟨rfl,rfl⟩|rfl
 ·rw [List.append_nil]
  refine ⟨a1,?_⟩
  rw [List.foldl_nil,a3,if_neg dc]
  simp
 ·rw [List.foldl_cons]
  have hst:RI ((D.foldl RS.step rs0).step 46) (vE 0 D):=by
   obtain ⟨h1,h2,h3,h4,h5,h6,h7⟩:=a1
   unfold RS.step
   rw [if_pos rfl]
   exact ⟨h1,h2,h3,h4,h5,h6,h7⟩
  obtain ⟨b1,b2,b3⟩:=RI.fold hst hF
  rw [zL]
  refine ⟨b1,?_⟩
  have hs:((D.foldl RS.step rs0).step 46).saw=true:=by unfold RS.step;rw [if_pos rfl]
  have hd:((D.foldl RS.step rs0).step 46).dp - ((D.foldl RS.step rs0).step 46).nd=0:=by
   unfold RS.step;rw [if_pos rfl]
   show (((D.foldl RS.step rs0).nd:Nat):Int) - ((D.foldl RS.step rs0).nd:Int)=0
   omega
  rw [b3,hs,if_pos rfl]
  omega
end Go.Am
namespace Go.Am
open Fp Go.Proofs
attribute [local irreducible] fN fI fB bX eR evCode evOps rX kOp aAv wW uM wX kGc aKT aKS kDr kMg drOps eN kT sl
theorem aSF {a b x y i:Nat}(h:a * 10 ^ x ≤ b * 10 ^ y)(hi:(x:Int) - y=(i:Int) - 348):a * tenN i ≤ b * tenD i:=by
 unfold tenN tenD
 by_cases h3:348 ≤ i
 ·rw [show 348 - i=0 by omega,Nat.pow_zero,Nat.mul_one]
  rw [show x=(i - 348)+y by omega,Nat.pow_add,← Nat.mul_assoc] at h
  exact Nat.le_of_mul_le_mul_right h (Nat.pow_pos dc)
 ·rw [show i - 348=0 by omega,Nat.pow_zero,Nat.mul_one]
  rw [show y=(348 - i)+x by omega,Nat.pow_add,← Nat.mul_assoc] at h
  exact Nat.le_of_mul_le_mul_right h (Nat.pow_pos dc)
theorem aSE {a b x y i:Nat}(h:b * 10 ^ y ≤ a * 10 ^ x)(hi:(x:Int) - y=(i:Int) - 348):b * tenD i ≤ a * tenN i:=by
 unfold tenN tenD
 by_cases h3:348 ≤ i
 ·rw [show 348 - i=0 by omega,Nat.pow_zero,Nat.mul_one]
  rw [show x=(i - 348)+y by omega,Nat.pow_add,← Nat.mul_assoc] at h
  exact Nat.le_of_mul_le_mul_right h (Nat.pow_pos dc)
 ·rw [show i - 348=0 by omega,Nat.pow_zero,Nat.mul_one]
  rw [show y=(348 - i)+x by omega,Nat.pow_add,← Nat.mul_assoc] at h
  exact Nat.le_of_mul_le_mul_right h (Nat.pow_pos dc)
theorem aOT:A74 ≤ 10 ^ 324:=by
 rw [aAR]
 exact Nat.le_of_ble_eq_true (by kernel_rfl)
theorem RI.pos {st:RS}{val:Nat}(h:RI st val)(hv:0 < val):0 < st.mant:=by
 apply Nat.pos_of_ne_zero
 intro e
 have h1:st.nd=0:=by
  apply Nat.eq_zero_of_not_pos
  intro hp
  have:=h.nz hp
  rw [e] at this
  have:=Nat.pow_pos (a:=10) (n:=st.nm - 1) dc
  omega
 have h2:=h.hi
 rw [e,h1,Nat.zero_sub] at h2
 simp at h2
 omega
theorem RI.zero' {st:RS}(h:RI st 0):st.mant=0:=by
 have h1:=h.lo
 have hp:0 < 10 ^ (st.nd - st.nm):=Nat.pow_pos dc
 apply Nat.eq_zero_of_not_pos
 intro hm
 have:=Nat.mul_pos hm hp
 omega
theorem aGX {s sg D tl F ex E:List UInt8}(hs:s=sg ++ (D ++ tl) ++ ex)(hD:Dec (sg ++ (D ++ tl)) sg D tl F)(hex:(ex=[]∧E=[]) ∨ (ex=101 :: 45 :: E∧E ≠ []))(hE:E.all oY=true)(hE4:E.length ≤ 4)(hlen:s.length ≤ 2000)
  (hv:vE 0 (D ++ F)=0):Txt s (decide (sg=[45])) 0:=by
 obtain ⟨hR,_⟩:=aOq hD.d hD.f hD.tl'
 rw [hv] at hR
 exact ⟨sg,D,tl,F,ex,E,0,0,0,hs,hD,hex,hE,hE4,hlen,rfl,.inl ⟨hR.zero',rfl⟩⟩
theorem aOE {s sg D tl F ex E : List UInt8}{f r : Nat}(hs : s = sg ++ (D ++ tl) ++ ex)(hD : Dec (sg ++ (D ++ tl)) sg D tl F)(hex : (ex = [] ∧ E = []) ∨ (ex = 101 :: 45 :: E ∧ E ≠ []))(hE : E.all oY = true)(hE4 : E.length ≤ 4)(hlen : s.length ≤ 2000)
    (P : Rep f r) (hr : r ≤ 2045) (hv : f * 2 ^ r * 10 ^ (F.length + oX E) = vE 0 (D ++ F) * A74) : Txt s (decide (sg = [45])) (f + r * 2 ^ 52) := by
  obtain ⟨hR, hdp⟩ := aOq hD.d hD.f hD.tl'
  have hB : ∀ c ∈ D ++ tl, oY c = true ∨ c = 46 := fun c hc => by
    rcases List.mem_append.1 hc with h | h
    · exact .inl (List.all_eq_true.1 hD.d c h)
    · rcases hD.tl' with ⟨rfl, _⟩ | rfl
      · simp at h
      · rcases List.mem_cons.1 h with rfl | h
        · exact .inr rfl
        · exact .inl (List.all_eq_true.1 hD.f c h)
  have hin := aFg hB (j := (D ++ tl).length) (Nat.le_refl _)
  rw [List.take_length] at hin
  have hm19 := hin.mant64
  have hp10 : ∀ n, 0 < 10 ^ n := fun n => Nat.pow_pos dc
  have hf1 : 1 ≤ f * 2 ^ r := Nat.mul_pos P.f0 (Nat.two_pow_pos r)
  have hval : 0 < vE 0 (D ++ F) := by
    apply Nat.pos_of_ne_zero
    intro e
    rw [e, Nat.zero_mul] at hv
    have := Nat.mul_pos hf1 (hp10 (F.length + oX E))
    omega
  have hm0 := hR.pos hval
  have hexp : kY (D ++ tl) E = ((cG (D ++ tl)).nd : Int) - F.length - oX E - (cG (D ++ tl)).nm := by
    unfold kY oU
    rw [if_neg om]
    show (if (cG (D ++ tl)).saw = true then (cG (D ++ tl)).dp else ((cG (D ++ tl)).nd : Int)) - (oX E : Int) - ((cG (D ++ tl)).nm : Int) = _
    rw [hdp]
  obtain ⟨p, hp⟩ : ∃ p, p = F.length + oX E := ⟨_, rfl⟩
  rw [← hp] at hv
  generalize hst : cG (D ++ tl) = st at *
  generalize vE 0 (D ++ F) = val at *
  obtain ⟨x, hx⟩ : ∃ x, x = st.nd - st.nm := ⟨_, rfl⟩
  have hnm := hR.nm
  have hlo := hR.lo
  have hhi := hR.hi
  rw [← hx] at hlo hhi
  have hpb : p < x + 343 := by
    apply Nat.lt_of_not_le
    intro hc
    have h1 : 10 ^ p ≤ val * A74 := by
      rw [← hv]
      calc 10 ^ p = 1 * 10 ^ p := (Nat.one_mul _).symm
        _ ≤ f * 2 ^ r * 10 ^ p := Nat.mul_le_mul_right _ hf1
    have h2 : val * A74 < (10 ^ 19 * 10 ^ x) * A74 := by
      apply Nat.mul_lt_mul_of_pos_right _ a74pos
      exact Nat.lt_of_lt_of_le hhi (Nat.mul_le_mul_right _ om)
    have h3 : (10 ^ 19 * 10 ^ x) * A74 ≤ 10 ^ (x + 343) := by
      have h5 := Nat.mul_le_mul_left (10 ^ 19 * 10 ^ x) aOT
      obtain ⟨K, hK⟩ : ∃ K, K = 324 := ⟨_, rfl⟩
      rw [← hK] at h5
      have h6 : 10 ^ 19 * 10 ^ x * 10 ^ K = 10 ^ (x + 343) := by rw [← Nat.pow_add, ← Nat.pow_add, show 19 + x + K = x + 343 by omega]
      rwa [h6] at h5
    have h4 : 10 ^ (x + 343) ≤ 10 ^ p := Nat.pow_le_pow_right dc hc
    omega
  obtain ⟨i, hi⟩ : ∃ i : Nat, (x : Int) - p = (i : Int) - 348 := ⟨((x : Int) - p + 348).toNat, by omega⟩
  have hi' : kY (D ++ tl) E = (i : Int) - 348 := by rw [hexp]; omega
  refine ⟨sg, D, tl, F, ex, E, f, r, i, hs, hD, hex, hE, hE4, hlen, rfl, .inr ⟨?_, hi', rfl⟩⟩
  have hmain : Fit f r i st.mant st.tr := by
    refine ⟨P, hr, ?_, ?_, fun ht => ?_, by omega, fun hs => ?_⟩
    · have : st.mant * A74 * 10 ^ x ≤ f * 2 ^ r * 10 ^ p := by
        rw [hv, Nat.mul_right_comm]
        exact Nat.mul_le_mul_right _ hlo
      have := aSF this hi
      rw [Nat.mul_comm (tenN i), ← Nat.mul_assoc]
      exact this
    · have : f * 2 ^ r * 10 ^ p ≤ (st.mant + st.tr.toNat) * A74 * 10 ^ x := by
        rw [hv, Nat.mul_right_comm]
        refine Nat.mul_le_mul_right _ ?_
        cases ht : st.tr with
        | false =>
          have := hR.ex ht
          rw [← hx] at this
          rw [this]
          exact Nat.le_refl _
        | true => exact Nat.le_of_lt hhi
      have := aSE this hi
      rw [Nat.mul_comm (tenN i), ← Nat.mul_assoc]
      exact this
    · have h1 := hR.t ht
      have h2 := hR.nz om
      rw [show st.nm = 19 by omega] at h2
      exact h2
    · by_cases h19 : st.nm = 19
      · have h2 := hR.nz om
        rw [h19] at h2
        have : (10 : Nat) ^ (19 - 1) = 10 ^ 18 := rfl
        omega
      · omega
  rw [hst]; exact hmain
theorem tH (n:Nat):∀ l:List UInt8,vE n l=n * 10 ^ l.length+vE 0 l
 | []=>by simp [vE]
 | c :: l=>by
   have h1:=tH (n * 10+(c.toNat - 48)) l
   have h2:=tH (0 * 10+(c.toNat - 48)) l
   have e1:vE n (c :: l)=vE (n * 10+(c.toNat - 48)) l:=rfl
   have e2:vE 0 (c :: l)=vE (0 * 10+(c.toNat - 48)) l:=rfl
   rw [e1,e2,h1,h2,List.length_cons,Nat.pow_succ,Nat.add_mul,Nat.add_mul,Nat.zero_mul,Nat.mul_assoc n 10,Nat.mul_comm 10]
   omega
theorem aCJ:∀ {l:List UInt8},l.all (sF 48)=true→vE 0 l=0
 | [],_=>rfl
 | c :: l,h=>by
   rw [List.all_cons,Bool.and_eq_true] at h
   have hc:c=48:=by simpa [sF] using h.1
   subst hc
   exact aCJ (l:=l) h.2
theorem aMO {ds:List Nat}(h:oE ds):(dB ds).all oY=true:=by
 rw [List.all_eq_true]
 intro c hc
 obtain ⟨d,hd,rfl⟩:=List.mem_map.1 hc
 have:=h d hd
 rw [dI,UInt8.toNat_ofNat']
 omega
theorem aRr:∀ {ds:List Nat},oE ds→vE 0 (dB ds)=fO ds
 | [],_=>rfl
 | d :: ds,h=>by
   have hd:d < 10:=h d sm
   have ih:=aRr (ds:=ds) fun x hx=>h x (by simp [hx])
   have e:vE 0 (dB (d :: ds))=vE (0 * 10+((UInt8.ofNat (48+d)).toNat - 48)) (dB ds):=rfl
   rw [e,tH,ih,iW,UInt8.toNat_ofNat',show 0 * 10+((48+d) % 2 ^ 8 - 48)=d by omega]
   rfl
theorem aJZ (l:List UInt8):vE 0 (lz l)=vE 0 l:=by
 unfold lz
 conv=>rhs;rw [← List.take_append_drop (nE (sF 48) l) l]
 rw [zL,aCJ (aFi (sF 48) l)]
theorem aAy {l m:List UInt8}(h:m.all oY=true)(hs:∀ c ∈ l,c ∈ m):l.all oY=true:=by
 rw [List.all_eq_true] at h ⊢
 exact fun c hc=>h c (hs c hc)
def inW (v:Nat):List UInt8:=dB ((cH v).1.take ((cH v).1.length - (cH v).2))
def inF (v:Nat):List UInt8:=dB ((cH v).1.drop ((cH v).1.length - (cH v).2))
theorem vK (v:Nat):(inF v).length=(cH v).2:=by
 have:=(lN v).2
 unfold inF
 rw [iW,List.length_drop];omega
theorem aPL (v:Nat):(inW v).all oY=true:=aMO fun d hd=>(lN v).1 d (List.mem_of_mem_take hd)
theorem aPK (v:Nat):(inF v).all oY=true:=aMO fun d hd=>(lN v).1 d (List.mem_of_mem_drop hd)
theorem aSk (v:Nat):vE 0 (inW v ++ inF v)=fO (cH v).1:=by
 have:inW v ++ inF v=dB (cH v).1:=by
  unfold inW inF dB
  rw [← List.map_append,List.take_append_drop]
 rw [this,aRr (lN v).1]
theorem aLS (v:Nat):vE 0 (cQ v)=vE 0 (inW v):=by
 unfold cQ
 show vE 0 (if lz (inW v)=[] then [48] else lz (inW v))=_
 split
 ·rename_i h
  rw [← aJZ (inW v),h];rfl
 ·exact aJZ _
theorem fX (v:Nat):Dec (bV v) (uW v) (cQ v) (iH v) (cE v):=by
 refine ⟨rfl,?_,?_,?_,?_,?_⟩
 ·unfold uW;split
  ·exact .inr rfl
  ·exact .inl rfl
 ·unfold cQ;split
  ·simp
  ·assumption
 ·unfold cQ;split
  ·decide
  ·exact aAy (aPL v) fun c hc=>aIf hc
 ·obtain ⟨n,_,h,_⟩:=aAL (inF v)
  show (rz (inF v)).all oY=true
  rw [h]
  exact aAy (aPK v) fun c hc=>List.mem_of_mem_take hc
 ·unfold iH;split
  ·exact .inl ⟨rfl,by assumption⟩
  ·exact .inr rfl
theorem aJm (v:Nat):(cE v).length ≤ (cH v).2:=by rw [← vK];exact aEc _
theorem yK (v:Nat):vE 0 (cQ v ++ cE v) * 10 ^ ((cH v).2 - (cE v).length)=fO (cH v).1:=by
 obtain ⟨n,hn,h,hz,_⟩:=aAL (inF v)
 have hF:cE v=(inF v).take n:=h
 have hl:(cE v).length=n:=by rw [hF,List.length_take];omega
 rw [← aSk,zL,aLS,tH _ (cE v),zL,tH _ (inF v)]
 have e:inF v=cE v ++ (inF v).drop n:=by rw [hF,List.take_append_drop]
 have hv:vE 0 (inF v)=vE 0 (cE v) * 10 ^ ((inF v).length - n):=by
  conv=>lhs;rw [e]
  rw [zL,tH,aCJ hz,Nat.add_zero,List.length_drop]
 rw [hv,vK,hl,Nat.add_mul,Nat.mul_assoc,← Nat.pow_add]
 rw [vK] at hn
 rw [show n+((cH v).2 - n)=(cH v).2 by omega]
theorem aEJ (v:Nat):1 ≤ jR v:=by unfold jR;split <;> omega
theorem pw2 {a b c:Nat}(h:a+b=c):(2:Nat) ^ a * 2 ^ b=2 ^ c:=by rw [← Nat.pow_add,h]
theorem aMq {v:Nat}(h0:0 < cV v):cV v * 2 ^ (jR v - 1) * 10 ^ (cH v).2=fO (cH v).1 * A74:=by
 have h1:=aEJ v
 rw [aAR]
 unfold cH
 split
 ·show cV v * 2 ^ (jR v - 1) * 10 ^ 0=fO (itD (dl (cV v)) (jR v - 1075)) * 2 ^ 1074
  rw [aES,uI,Nat.pow_zero,Nat.mul_one,Nat.mul_assoc,pw2 (by omega:jR v - 1075+1074=jR v - 1)]
 ·have h:=aET (dl (cV v)) (1075 - jR v)
  rw [uI] at h
  generalize uU (dl (cV v)) (1075 - jR v)=q at *
  rw [← pw2 (by omega:(1075 - jR v)+(jR v - 1)=1074),← Nat.mul_assoc,h,Nat.mul_assoc,Nat.mul_assoc,Nat.mul_comm (10 ^ _)]
theorem aDC {v:Nat}(h0:0 < cV v):cV v * 2 ^ (jR v - 1) * 10 ^ (cE v).length=vE 0 (cQ v ++ cE v) * A74:=by
 have h:=aMq h0
 rw [← yK v] at h
 have hle:=aJm v
 rw [show (cH v).2=(cE v).length+((cH v).2 - (cE v).length) by omega,Nat.pow_add,← Nat.mul_assoc] at h
 rw [show (cE v).length+((cH v).2 - (cE v).length) - (cE v).length=(cH v).2 - (cE v).length by omega,Nat.mul_right_comm (vE 0 _)] at h
 exact Nat.eq_of_mul_eq_mul_right (Nat.pow_pos dc) h
theorem aBt {v:Nat}(h0:cV v=0):vE 0 (cQ v ++ cE v)=0:=by
 have h:=yK v
 have he:jR v=1:=by
  unfold cV at h0
  unfold jR
  split at h0
  ·rename_i h;rw [if_pos h]
  ·omega
 have hv:fO (cH v).1=0:=by
  unfold cH
  rw [he,if_neg dc,if_neg om,h0]
  exact uI 0
 rw [hv] at h
 rcases Nat.mul_eq_zero.1 h with h|h
 ·exact h
 ·exact absurd h (Nat.pos_iff_ne_zero.1 (Nat.pow_pos dc))
theorem aJl {v:Nat}(hv:v < 2 ^ 64)(he:dG v ≤ 2046):(0 < cV v→Rep (cV v) (jR v - 1))∧jR v - 1 ≤ 2045∧cV v+(jR v - 1) * 2 ^ 52=v % 2 ^ 63∧sgN (decide (uW v=[45]))+v % 2 ^ 63=v:=by
 have hf:kE v < 2 ^ 52:=Nat.mod_lt _ dc
 have hfr:kE v=v % 2 ^ 52:=rfl
 have hex:dG v=v / 2 ^ 52 % 2048:=rfl
 refine ⟨fun h0=>⟨h0,?_,?_⟩,?_,?_,?_⟩
 ·unfold cV;split <;> omega
 ·unfold cV jR
  by_cases h:dG v=0
  ·right;rw [if_pos h]
  ·left;rw [if_neg h];omega
 ·unfold jR;split <;> omega
 ·unfold cV jR
  by_cases h:dG v=0
  ·rw [if_pos h,if_pos h];omega
  ·rw [if_neg h,if_neg h];omega
 ·unfold uW sgN
  by_cases h:2 ^ 63 ≤ v
  ·rw [if_pos h]
   simp only [decide_true,if_true]
   omega
  ·rw [if_neg h]
   simp only [List.nil_eq,decide_false,reduceCtorEq,if_false]
   have:v % 2 ^ 63=v:=Nat.mod_eq_of_lt om
   simp [this]
theorem aUg {u:Nat}(hu:u < 2 ^ 64):(dl u).length ≤ 20:=by
 by_cases h:u=0
 ·subst h;unfold dl;rw [Lib.decDigits];simp
 ·rw [tQ];exact mA om om
theorem aFG {v:Nat}(he:dG v ≤ 2046):(cH v).1.length ≤ 1094∧(cH v).2 ≤ 1074:=by
 have hs:cV v < 2 ^ 64:=by
  have hf:kE v < 2 ^ 52:=Nat.mod_lt _ dc
  unfold cV;split <;> omega
 have hx:jR v ≤ 2046:=by unfold jR;split <;> omega
 have h1:=aEJ v
 have hn:=aUg hs
 unfold cH
 split
 ·have:=lW (dl (cV v)) (jR v - 1075)
  exact ⟨by show (itD _ _).length ≤ _;omega,Nat.zero_le _⟩
 ·split
  ·have:=oR (dl (cV v)) (1075 - jR v)
   exact ⟨by omega,by omega⟩
  ·exact ⟨by show (dl _).length ≤ _;omega,Nat.zero_le _⟩
theorem nM {v:Nat}(he:dG v ≤ 2046):(bV v).length ≤ 1100:=by
 obtain ⟨h1,h2⟩:=aFG he
 have h3:=(lN v).2
 have hw:(cQ v).length ≤ (cH v).1.length - (cH v).2+1:=by
  unfold cQ
  split
  ·simp
  ·have:=yR (inW v)
   have e:(inW v).length ≤ (cH v).1.length - (cH v).2:=by unfold inW;rw [iW,List.length_take];omega
   show (lz (inW v)).length ≤ _
   omega
 have hf:=aJm v
 have hsg:(uW v).length ≤ 1:=by unfold uW;split <;> simp
 have ht:(iH v).length ≤ (cE v).length+1:=by unfold iH;split <;> simp
 unfold bV
 rw [List.length_append,List.length_append]
 omega
theorem aVr {s n:Nat}(hs:s < 2 ^ 53)(hn:n ≤ 1074):s * 5 ^ n < 10 ^ 768:=by
 have h1:s * 5 ^ n ≤ 2 ^ 53 * 5 ^ 1074:=by
  obtain ⟨K,hK⟩:∃ K,K=1074:=⟨_,rfl⟩
  rw [← hK] at hn ⊢
  exact Nat.mul_le_mul (by omega) (Nat.pow_le_pow_right (by decide) hn)
 have h2:Nat.blt (2 ^ 53 * 5 ^ 1074) (10 ^ 768)=true:=by kernel_rfl
 have h3:2 ^ 53 * 5 ^ 1074 < 10 ^ 768:=sL h2
 omega
theorem aTV {s n:Nat}(hs:s < 2 ^ 53)(hn:n ≤ 971):s * 2 ^ n < 10 ^ 768:=by
 have h1:s * 2 ^ n ≤ 2 ^ 53 * 2 ^ 971:=by
  obtain ⟨K,hK⟩:∃ K,K=971:=⟨_,rfl⟩
  rw [← hK] at hn ⊢
  exact Nat.mul_le_mul (by omega) (Nat.pow_le_pow_right (by decide) hn)
 have h2:Nat.blt (2 ^ 53 * 2 ^ 971) (10 ^ 768)=true:=by kernel_rfl
 have h3:2 ^ 53 * 2 ^ 971 < 10 ^ 768:=sL h2
 omega
theorem aKE {v:Nat}(he:dG v ≤ 2046):vE 0 (cQ v ++ cE v) < 10 ^ 768:=by
 have hs:cV v < 2 ^ 53:=by
  have hf:kE v < 2 ^ 52:=Nat.mod_lt _ (by decide)
  unfold cV;split <;> omega
 have hx:jR v ≤ 2046:=by unfold jR;split <;> omega
 have h1:=aEJ v
 have hle:vE 0 (cQ v ++ cE v) ≤ fO (cH v).1:=by
  rw [← yK v]
  exact Nat.le_mul_of_pos_right _ (Nat.pow_pos (by decide))
 refine Nat.lt_of_le_of_lt hle ?_
 unfold cH
 split
 ·show fO (itD (dl (cV v)) (jR v - 1075)) < _
  rw [aES,uI]
  exact aTV hs (by omega)
 ·split
  ·have h:=aET (dl (cV v)) (1075 - jR v)
   have hl:=(oR (dl (cV v)) (1075 - jR v)).2
   rw [uI] at h
   generalize uU (dl (cV v)) (1075 - jR v)=q at *
   have h2:fO q.1 * 2 ^ (1075 - jR v) ≤ cV v * 5 ^ (1075 - jR v) * 2 ^ (1075 - jR v):=by
    rw [h,Nat.mul_assoc,← Nat.mul_pow]
    exact Nat.mul_le_mul_left _ (Nat.pow_le_pow_right (by decide) hl)
   exact Nat.lt_of_le_of_lt (Nat.le_of_mul_le_mul_right h2 (Nat.two_pow_pos _)) (aVr hs (by omega))
  ·show fO (dl (cV v)) < _
   rw [uI]
   have:=aTV hs (n:=0) (by decide)
   rw [Nat.pow_zero,Nat.mul_one] at this
   exact this
theorem aSr {l:List UInt8}{n:Nat}(h:l.all oY=true)(hv:vE 0 l < 10 ^ n):(lz l).length ≤ n:=by
 apply Nat.le_of_not_lt
 intro hc
 rw [← aJZ] at hv
 have hd:(lz l).all oY=true:=aAy h fun c hc=>aIf hc
 have hz:∀ c,(lz l).head?=some c→c ≠ 48:=fun c hc=>aRd hc
 cases hl:lz l with
 | nil=>rw [hl] at hc;simp at hc
 | cons c r =>
   rw [hl] at hv hd hz hc
   have h48:=hz c rfl
   rw [List.all_cons,Bool.and_eq_true] at hd
   have hcd:=dI.1 hd.1
   have hne:c.toNat ≠ 48:=fun e=>h48 (UInt8.toNat_inj.1 (by rw [e];rfl))
   have e:vE 0 (c :: r)=vE (0 * 10+(c.toNat - 48)) r:=rfl
   rw [e,tH] at hv
   have h1:10 ^ n ≤ 10 ^ r.length:=Nat.pow_le_pow_right dc (by rw [List.length_cons] at hc;omega)
   have h2:1 * 10 ^ r.length ≤ (0 * 10+(c.toNat - 48)) * 10 ^ r.length:=Nat.mul_le_mul_right _ om
   omega
def tD (v:Nat):List UInt8:=lz (cQ v ++ cE v)
theorem aOI (v:Nat):(cQ v ++ cE v).all oY=true:=by
 rw [List.all_append,(fX v).d,(fX v).f];rfl
theorem aCt {v:Nat}(he:dG v ≤ 2046):(tD v).length ≤ 768:=aSr (aOI v) (aKE he)
theorem aLR {v:Nat}(he:dG v ≤ 2046):cQ v=[48] ∨ (cQ v).length+(cE v).length ≤ 768:=by
 by_cases h:cQ v=[48]
 ·exact .inl h
 ·right
  have hs:=aCt he
  have hw:cQ v=lz (inW v):=by
   unfold cQ at h ⊢
   split
   ·rename_i h1;rw [if_pos h1] at h;exact absurd rfl h
   ·rfl
  cases hl:cQ v with
  | nil=>exact absurd hl (fX v).d0
  | cons c r =>
    have h48:c ≠ 48:=aRd (l:=inW v) (by rw [← hw,hl];rfl)
    have e:tD v=cQ v ++ cE v:=by
     unfold tD lz
     rw [hl,List.cons_append]
     have hb:sF 48 c=false:=by unfold sF;exact decide_eq_false h48
     simp [nE,List.takeWhile,hb]
    rw [e,List.length_append,hl] at hs
    exact hs
theorem aBT {v:Nat}(he:dG v ≤ 2046)(h:780 < (bV v).length):cQ v=[48]∧iH v=46 :: cE v∧776 < (cE v).length:=by
 have hsg:(uW v).length ≤ 1:=by unfold uW;split <;> simp
 have hl:(bV v).length=(uW v).length+((cQ v).length+(iH v).length):=by simp [bV]
 rcases aLR he with hw|hw
 ·rw [hw] at hl
  unfold iH at hl ⊢
  split at hl
  ·simp at hl;omega
  ·rename_i hf
   rw [if_neg hf]
   simp only [List.length_cons,List.length_nil] at hl
   exact ⟨hw,rfl,by omega⟩
 ·exfalso
  have ht:(iH v).length ≤ (cE v).length+1:=by unfold iH;split <;> simp
  omega
def aCs (v:Nat):List UInt8:=if (bV v).length ≤ 780 then bV v else uW v ++ ([48] ++ 46 :: tD v) ++ 101 :: 45 :: Lib.decDigits ((cE v).length - (tD v).length)
end Go.Am
namespace Go.Am
open Go.Proofs
attribute [local irreducible] fN fI fB bX eR evCode evOps rX kOp aAv wW uM wX kGc aKT aKS kDr kMg drOps eN kT sl
theorem aQo {v:Nat}(hf:cE v ≠ []):tD v ≠ []:=by
 intro h
 have hz:(cQ v ++ cE v).all (sF 48)=true:=by
  have h1:(cQ v ++ cE v).length ≤ nE (sF 48) (cQ v ++ cE v):=by
   have:=congrArg List.length h
   unfold tD lz at this
   rw [List.length_drop,List.length_nil] at this
   omega
  have h2:=aFi (sF 48) (cQ v ++ cE v)
  rw [List.take_of_length_le h1] at h2
  exact h2
 rw [List.all_append,Bool.and_eq_true] at hz
 obtain ⟨n,hn,h1,_,h3⟩:=aAL (inF v)
 have hF:cE v=(inF v).take n:=h1
 have hl:0 < (cE v).length:=List.length_pos_iff.2 hf
 rw [hF,List.length_take] at hl
 have h4:=h3 om om
 have h5:=List.all_eq_true.1 hz.2 ((inF v)[n - 1]'(by omega)) (by
  rw [hF]
  exact List.mem_take_iff_getElem.2 ⟨n - 1,by omega,rfl⟩)
 rw [h4] at h5
 cases h5
theorem aDn {s:List UInt8}(h:∀ c ∈ s,oY c=true ∨ c=46):aEv aEK s=.int .i64 (.negSucc 0):=by
 have hp:∀ c ∈ s,(!aEK c.toNat)=true:=fun c hc=>by
  rcases h c hc with h|h
  ·have:=dI.1 h
   unfold aEK
   simp only [aEz]
   have h1:c.toNat ≠ 101:=by omega
   have h2:c.toNat ≠ 69:=by omega
   simp [h1,h2]
  ·subst h;decide
 have:nE (fun c=>!aEK c.toNat) s=s.length:=by
  have hle:=aIJ (fun c:UInt8=>!aEK c.toNat) s
  by_cases hlt:nE (fun c:UInt8=>!aEK c.toNat) s < s.length
  ·have h1:=aFj (fun c:UInt8=>!aEK c.toNat) s hlt
   have h2:=hp _ (List.getElem_mem hlt)
   rw [h1] at h2
   cases h2
  ·omega
 unfold aEv
 rw [this,if_neg (Nat.lt_irrefl _)]
theorem aPy:bA Tryz.prog 181 84 [.tmp 2] (aM Tryz.f181):=fq Tryz.f181
theorem aLB {v:Nat}(he:dG v ≤ 2046){S:St}(h10:jF S){k:V→St→Prop}(hk:k (.str (aCs v)) S):RC Tryz.prog 181 [.str (bV v)] S k:=by
 obtain ⟨e,hgb⟩:=qB h10
 refine RC.pureG mixed aPy _ hgb hk ?_
 have hel:=nM he
 refine build ?_
 refine enter ?_
 unfold aCs
 by_cases hlen:(bV v).length ≤ 780
 ·rw [if_pos hlen]
  refine go ?_
  refine aZ (fun (h:780 < _)=>absurd h (by rw [aL];omega)) (fun _=>?_)
  refine go ?_
  rfl
 ·rw [if_neg hlen]
  obtain ⟨hw,ht,hfl⟩:=aBT he om
  have hsig:=aCt he
  have hne:=aQo (v:=v) (by intro h;rw [h] at hfl;simp at hfl)
  have hFd:=(fX v).f
  have hF2:(cE v).length ≤ 1100:=by
   have:(bV v).length=(uW v).length+((cQ v).length+(iH v).length):=by simp [bV]
   rw [ht] at this
   simp only [List.length_cons] at this
   omega
  have hsg:=(fX v).sg'
  have hS:tD v=(([48] ++ cE v).drop (nE (sF 48) ([48] ++ cE v))):=by unfold tD lz;rw [hw]
  unfold bV at hlen ⊢
  rw [hw,ht] at hlen ⊢
  generalize uW v=sg at *
  generalize tD v=D at *
  generalize cE v=F at *
  have hc:∀ c ∈ ([48] ++ 46 :: F:List UInt8),oY c=true ∨ c=46:=fun c hc=>by
   rcases List.mem_append.1 hc with h|h
   ·exact .inl (by rw [List.mem_singleton] at h;subst h;decide)
   ·rcases List.mem_cons.1 h with h|h
    ·exact .inr h
    ·exact .inl (List.all_eq_true.1 hFd c h)
  rcases hsg with rfl|rfl
  ·rw [List.nil_append] at hlen
   rw [List.nil_append]
   refine go ?_
   refine aZ (fun (h:780 < _)=>?_) (fun (h:_ ≤ 780)=>absurd h (by rw [aL];exact hlen))
   refine go ?_
   refine aFK (by simp;omega) (fun c hc'=>by
    rcases hc c hc' with h|h
    ·have:=dI.1 h;omega
    ·subst h;decide) ?_
   rw [aDn hc]
   refine go ?_
   refine aED (c:=46) (by simp;omega) (.inl ⟨[48],F,rfl,by decide,rfl⟩) ?_
   refine go ?_
   refine fV (by simp;omega) ?_
   refine go ?_
   refine pU (c:=48) dc ?_
   rw [← hS]
   refine go ?_
   refine fE (fun h=>absurd h hne) (fun _=>?_)
   refine go ?_
   refine bF D.length ?_ (by show ((dD D:Nat):Int)+0=(D.length:Int);rw [aL];omega) om
   refine go ?_
   obtain ⟨w,hwy⟩:∃ w,w=F.length - D.length:=⟨_,rfl⟩
   obtain ⟨y,hy⟩:∃ y:Int,y=-(w:Int):=⟨_,rfl⟩
   rw [← hwy]
   refine gV y (by show (D.length:Int) - ((dD F:Nat):Int)=y;rw [aL];omega) ?_ om om
   refine go ?_
   refine aZ (fun (h:780 < _)=>absurd h (by rw [aL];omega)) (fun _=>?_)
   refine go ?_
   refine fV (x:=[48,46]) (by simp;omega) ?_
   refine go ?_
   refine fV (y:=[101]) (by simp;omega) ?_
   refine go ?_
   refine aBK (u:=w) om om hy ⟨e,rfl⟩ ?_
   refine go ?_
   have hdw:(Lib.decDigits w).length ≤ 20:=by rw [Lib.decDigits_length];exact mA om om
   refine fV (by simp;omega) ?_
   refine go ?_
   show V.str _=V.str _
   simp
  ·refine go ?_
   refine aZ (fun (h:780 < _)=>?_) (fun (h:_ ≤ 780)=>absurd h (by rw [aL];exact hlen))
   refine go ?_
   refine iM ?_
   refine aP (v:=.str ([45] ++ ([48] ++ 46 :: F))) rfl (by intro Q hQ;(conv=>whnf);exact hQ) ?_
   refine aP (v:=.str [45]) rfl (by intro Q hQ;(conv=>whnf);refine lD (s:=[45] ++ ([48] ++ 46 :: F)) (h:=1) sm ?_;exact hQ) ?_
   refine aP (v:=.str ([45] ++ ([48] ++ 46 :: F))) rfl (by intro Q hQ;(conv=>whnf);exact hQ) ?_
   refine aP (v:=.str ([48] ++ 46 :: F)) rfl (by intro Q hQ;(conv=>whnf);refine cN (s:=[45] ++ ([48] ++ 46 :: F)) (l:=1) sm ?_;exact hQ) ?_
   refine xX ?_
   refine go ?_
   refine aFK (by simp;omega) (fun c hc'=>by
    rcases hc c hc' with h|h
    ·have:=dI.1 h;omega
    ·subst h;decide) ?_
   rw [aDn hc]
   refine go ?_
   refine aED (c:=46) (by simp;omega) (.inl ⟨[48],F,rfl,by decide,rfl⟩) ?_
   refine go ?_
   refine fV (by simp;omega) ?_
   refine go ?_
   refine pU (c:=48) dc ?_
   rw [← hS]
   refine go ?_
   refine fE (fun h=>absurd h hne) (fun _=>?_)
   refine go ?_
   refine bF D.length ?_ (by show ((dD D:Nat):Int)+0=(D.length:Int);rw [aL];omega) om
   refine go ?_
   obtain ⟨w,hwy⟩:∃ w,w=F.length - D.length:=⟨_,rfl⟩
   obtain ⟨y,hy⟩:∃ y:Int,y=-(w:Int):=⟨_,rfl⟩
   rw [← hwy]
   refine gV y (by show (D.length:Int) - ((dD F:Nat):Int)=y;rw [aL];omega) ?_ om om
   refine go ?_
   refine aZ (fun (h:780 < _)=>absurd h (by rw [aL];omega)) (fun _=>?_)
   refine go ?_
   refine fV (x:=[45,48,46]) (by simp;omega) ?_
   refine go ?_
   refine fV (y:=[101]) (by simp;omega) ?_
   refine go ?_
   refine aBK (u:=w) om om hy ⟨e,rfl⟩ ?_
   refine go ?_
   have hdw:(Lib.decDigits w).length ≤ 20:=by rw [Lib.decDigits_length];exact mA om om
   refine fV (by simp;omega) ?_
   refine go ?_
   show V.str _=V.str _
   simp
end Go.Am
namespace Go.Am
open Fp Go.Proofs
attribute [local irreducible] fN fI fB bX eR evCode evOps rX kOp aAv wW uM wX kGc aKT aKS kDr kMg drOps eN kT sl
theorem aEF {k:Nat}:∀ {u:Nat},u < 10 ^ (k+1)→(Lib.decDigits u).length ≤ k+1:=by
 induction k with
 | zero =>
   intro u hu
   rw [Lib.decDigits]
   rw [dif_pos (by simpa using hu)]
   simp
 | succ k ih =>
   intro u hu
   rw [Lib.decDigits]
   split
   ·simp
   ·rw [List.length_append]
    have:=ih (u:=u / 10) (by rw [Nat.pow_succ] at hu;omega)
    simp only [List.length_singleton]
    omega
theorem aCK (u:Nat):vE 0 (Lib.decDigits u)=u:=by
 induction u using Nat.strongRecOn with
 | _ u ih =>
   rw [Lib.decDigits]
   split
   ·rename_i h
    show 0 * 10+((UInt8.ofNat _).toNat - 48)=u
    rw [UInt8.toNat_ofNat'];omega
   ·rename_i h
    rw [zL,ih (u / 10) om]
    show u / 10 * 10+((UInt8.ofNat _).toNat - 48)=u
    rw [UInt8.toNat_ofNat'];omega
theorem wF (u:Nat):(Lib.decDigits u).all oY=true:=by
 rw [List.all_eq_true]
 intro b hb
 exact dI.2 (aEE u b hb)
theorem aLC {v:Nat}(hv:v < 2 ^ 64)(he:dG v ≤ 2046):Txt (aCs v) (decide (uW v=[45])) (v % 2 ^ 63):=by
 obtain ⟨hR,hr,hw,_⟩:=aJl hv he
 have hel:=nM he
 unfold aCs
 by_cases hlen:(bV v).length ≤ 780
 ·rw [if_pos hlen]
  have hs:bV v=uW v ++ (cQ v ++ iH v) ++ []:=(List.append_nil _).symm
  have hD:Dec (uW v ++ (cQ v ++ iH v)) (uW v) (cQ v) (iH v) (cE v):=fX v
  by_cases h0:cV v=0
  ·have hz:v % 2 ^ 63=0:=by
    have he:jR v=1:=by
     unfold cV at h0
     unfold jR
     split at h0
     ·rename_i h;rw [if_pos h]
     ·omega
    rw [← hw,h0,he]
   rw [hz]
   exact aGX hs hD (.inl ⟨rfl,rfl⟩) rfl dc om (aBt h0)
  ·rw [← hw]
   exact aOE hs hD (.inl ⟨rfl,rfl⟩) rfl dc om (hR om) hr (aDC om)
 ·rw [if_neg hlen]
  obtain ⟨hwh,ht,hfl⟩:=aBT he om
  have hsig:=aCt he
  have hF2:(cE v).length ≤ 1100:=by
   have:(bV v).length=(uW v).length+((cQ v).length+(iH v).length):=by simp [bV]
   rw [ht] at this
   simp only [List.length_cons] at this
   omega
  have hsg1:(uW v).length ≤ 1:=by unfold uW;split <;> simp
  obtain ⟨w,hwy⟩:∃ w,w=(cE v).length - (tD v).length:=⟨_,rfl⟩
  rw [← hwy]
  have hE4:(Lib.decDigits w).length ≤ 4:=aEF (k:=3) om
  have hE0:Lib.decDigits w ≠ []:=by
   rw [Lib.decDigits]
   split <;> simp
  have hD:Dec (uW v ++ ([48] ++ 46 :: tD v)) (uW v) [48] (46 :: tD v) (tD v) :=
   ⟨rfl,(fX v).sg',by simp,by decide,aAy (aOI v) fun c hc=>aIf hc,.inr rfl⟩
  have hval:vE 0 ([48] ++ tD v)=vE 0 (cQ v ++ cE v):=aJZ _
  have hEv:oX (Lib.decDigits w)=w:=aCK w
  have hlen2:(uW v ++ ([48] ++ 46 :: tD v) ++ 101 :: 45 :: Lib.decDigits w).length ≤ 2000:=by simp;omega
  by_cases h0:cV v=0
  ·have hz:v % 2 ^ 63=0:=by
    have he:jR v=1:=by
     unfold cV at h0
     unfold jR
     split at h0
     ·rename_i h;rw [if_pos h]
     ·omega
    rw [← hw,h0,he]
   rw [hz]
   exact aGX rfl hD (.inr ⟨rfl,hE0⟩) (wF w) hE4 hlen2 (by rw [hval];exact aBt h0)
  ·rw [← hw]
   refine aOE rfl hD (.inr ⟨rfl,hE0⟩) (wF w) hE4 hlen2 (hR om) hr ?_
   rw [hEv,show (tD v).length+w=(cE v).length by omega,hval]
   exact aDC om
end Go.Am
namespace Go.Am
open Go.Proofs
attribute [local irreducible] fN fI fB bX eR evCode evOps rX kOp aAv wW uM wX kGc aKT aKS kDr kMg drOps eN kT sl
theorem aPv:bA Tryz.prog 130 28 [.tmp 2,.tmp 3] (aM Tryz.f130):=fq Tryz.f130
theorem aBs (v:Nat):∃ c r,oY c=true∧(bV v=c :: r ∨ bV v=45 :: c :: r):=by
 obtain ⟨c,r,h1,h2,_⟩:=(fX v).head
 refine ⟨c,r ++ iH v,h2,?_⟩
 unfold bV
 rw [h1]
 rcases (fX v).sg' with h|h
 ·rw [h];exact .inl rfl
 ·rw [h];exact .inr rfl
theorem aGx {v:Nat}(hv:v < 2 ^ 64)(he:dG v ≤ 2046){S:St}(h10:jF S)(hT:FT S){k:V→St→Prop}(hk:k (.tup [.int .u64 (.ofNat v),.int .i64 0]) S):RC Tryz.prog 130 [.str (bV v)] S k:=by
 have hel:=nM he
 have hx:=aLC hv he
 obtain ⟨_,_,_,hsum⟩:=aJl hv he
 obtain ⟨c,r,hc,hcr⟩:=aBs v
 have hcd:=dI.1 hc
 have hne:∀ d:UInt8,d.toNat ≠ c.toNat→∀ l:List UInt8,bV v ≠ d :: l ∨ d=45:=fun d hd l=>by
  by_cases h45:d=45
  ·exact .inr h45
  ·left
   rcases hcr with h|h
   ·rw [h];intro e;cases e;exact hd rfl
   ·rw [h];intro e;cases e;exact h45 rfl
 have n1:bV v ≠ [73,110,102]:=(hne 73 (by show 73 ≠ _;omega) _).resolve_right dc
 have n2:bV v ≠ [43,73,110,102]:=(hne 43 (by show 43 ≠ _;omega) _).resolve_right dc
 have n4:bV v ≠ [78,97,78]:=(hne 78 (by show 78 ≠ _;omega) _).resolve_right dc
 have n3:bV v ≠ [45,73,110,102]:=by
  rcases hcr with h|h
  ·rw [h];intro e;cases e;exact absurd hcd.1 dc
  ·rw [h];intro e;cases e;exact absurd hcd.2 dc
 have hdec:=fX v
 refine RC.run mixed aV (aH aPv ?_)
 refine enter ?_
 have hshort:=fun (k:V→St→Prop)=>aLB (k:=k) (S:=S) he h10
 generalize aCs v=sh at *
 generalize hTx:bV v=T at *
 generalize uW v=sg at *
 refine go ?_
 refine aZ (fun (h:1200 < _)=>absurd h (by rw [aL];omega)) (fun _=>?_)
 refine go ?_
 refine fE (fun h=>absurd h n1) (fun _=>?_)
 refine go ?_
 refine fE (fun h=>absurd h n2) (fun _=>?_)
 refine go ?_
 refine fE (fun h=>absurd h n3) (fun _=>?_)
 refine go ?_
 refine fE (fun h=>absurd h n4) (fun _=>?_)
 refine go ?_
 refine aLx hdec om ?_
 refine go ?_
 refine hshort _ ?_
 refine go ?_
 refine aQq hx hT ?_
 rw [hsum]
 refine go ?_
 refine aKH ?_
 refine go ?_
 exact hk
theorem aHQ {S:St}{k:V→St→Prop}(hk:k (.str [43,73,110,102]) S):RC Tryz.prog 65 [.int .u64 (.ofNat 9218868437227405312)] S k:=RC.kern 60 kr hk
theorem aHP {S:St}{k:V→St→Prop}(hk:k (.str [45,73,110,102]) S):RC Tryz.prog 65 [.int .u64 (.ofNat 18442240474082181120)] S k:=RC.kern 60 kr hk
theorem aIs {S:St}{k:V→St→Prop}(hk:k (.tup [.int .u64 (.ofNat 9218868437227405312),.int .i64 0]) S):RC Tryz.prog 130 [.str [43,73,110,102]] S k:=RC.kern 60 kr hk
theorem aIr {S:St}{k:V→St→Prop}(hk:k (.tup [.int .u64 (.ofNat 18442240474082181120),.int .i64 0]) S):RC Tryz.prog 130 [.str [45,73,110,102]] S k:=RC.kern 60 kr hk
def lG (v:Nat):List UInt8:=if dG v ≤ 2046 then bV v else if 2 ^ 63 ≤ v then [45,73,110,102] else [43,73,110,102]
theorem aNz {v:Nat}(hv:v < 2 ^ 64)(hk4:jJ v ≠ 4)(he:¬ dG v ≤ 2046):(2 ^ 63 ≤ v→v=18442240474082181120)∧(¬ 2 ^ 63 ≤ v→v=9218868437227405312):=by
 have hex:dG v=v / 2 ^ 52 % 2048:=rfl
 have hfr:kE v=v % 2 ^ 52:=rfl
 have h47:dG v=2047:=by omega
 have hf0:kE v=0:=by
  unfold jJ at hk4
  rw [if_pos h47] at hk4
  by_cases h:kE v=0
  ·exact h
  ·rw [if_neg h] at hk4;exact absurd rfl hk4
 constructor <;> intro h <;> omega
theorem aLk {v:Nat}(hv:v < 2 ^ 64)(hk4:jJ v ≠ 4){S:St}(h10:jF S)(hT:FT S){k:V→St→Prop}(hk:k (.tup [.int .u64 (.ofNat v),.int .i64 0]) S):RC Tryz.prog 130 [.str (lG v)] S k:=by
 unfold lG
 by_cases he:dG v ≤ 2046
 ·rw [if_pos he];exact aGx hv he h10 hT hk
 ·rw [if_neg he]
  obtain ⟨h1,h2⟩:=aNz hv hk4 he
  by_cases h:2 ^ 63 ≤ v
  ·rw [if_pos h];rw [h1 h] at hk;exact aIr hk
  ·rw [if_neg h];rw [h2 h] at hk;exact aIs hk
theorem aLj {v:Nat}(hv:v < 2 ^ 64)(hk4:jJ v ≠ 4){S:St}(h10:jF S){k:V→St→Prop}(hk:k (.str (lG v)) S):RC Tryz.prog 65 [.int .u64 (.ofNat v)] S k:=by
 unfold lG at hk
 by_cases he:dG v ≤ 2046
 ·rw [if_pos he] at hk
  refine aKF om ⟨fun h3=>?_,hk4⟩ h10 hk
  unfold jJ at h3
  rw [if_neg om] at h3
  split at h3 <;> (try split at h3) <;> cases h3
 ·rw [if_neg he] at hk
  obtain ⟨h1,h2⟩:=aNz hv hk4 he
  by_cases h:2 ^ 63 ≤ v
  ·rw [if_pos h] at hk;rw [h1 h];exact aHP hk
  ·rw [if_neg h] at hk;rw [h2 h];exact aHQ hk
theorem pK (v:Nat):(lG v).length ≤ 1100:=by
 unfold lG
 by_cases he:dG v ≤ 2046
 ·rw [if_pos he];exact nM he
 ·rw [if_neg he];split <;> decide
theorem aHO {v:Nat}{c:UInt8}(h:c ∈ bV v):c=45 ∨ c=46 ∨ oY c=true:=by
 have hd:=fX v
 unfold bV at h
 rcases List.mem_append.1 h with h|h
 ·rcases hd.sg' with e|e
  ·rw [e] at h;cases h
  ·rw [e,List.mem_singleton] at h;exact .inl h
 ·rcases List.mem_append.1 h with h|h
  ·exact .inr (.inr (List.all_eq_true.1 hd.d c h))
  ·rcases hd.tl' with ⟨e,_⟩|e
   ·rw [e] at h;cases h
   ·rw [e] at h
    rcases List.mem_cons.1 h with h|h
    ·exact .inr (.inl h)
    ·exact .inr (.inr (List.all_eq_true.1 hd.f c h))
theorem xD {v:Nat}{c:UInt8}(h:c ∈ lG v):43 ≤ c.toNat∧c.toNat ≤ 110:=by
 unfold lG at h
 by_cases he:dG v ≤ 2046
 ·rw [if_pos he] at h
  rcases aHO h with e|e|e
  ·subst e;decide
  ·subst e;decide
  ·have:=dI.1 e;omega
 ·rw [if_neg he] at h
  split at h
  ·simp only [List.mem_cons,List.not_mem_nil,or_false] at h
   rcases h with e|e|e|e <;> subst e <;> decide
  ·simp only [List.mem_cons,List.not_mem_nil,or_false] at h
   rcases h with e|e|e|e <;> subst e <;> decide
theorem aPZ (v:Nat):lG v ≠ []:=by
 unfold lG
 split
 ·obtain ⟨c,r,_,h|h⟩:=aBs v
  ·rw [h];simp
  ·rw [h];simp
 ·split <;> simp
end Go.Am
namespace Go.Proofs
open Go.Shelf
def Tryz.laysC172_ren:Go.Shelf.Ren:=⟨fun|172=>183|244=>223|245=>221|247=>248|279=>244|280=>245|281=>246|282=>247|287=>271|316=>269|171=>66|205=>270|321=>299|322=>300|243=>104|246=>152|283=>191|284=>192|285=>193|286=>194|129=>116|317=>226|318=>227|319=>228|320=>229|337=>250|338=>251|n=>n,fun|9=>9|3=>3|75=>80|76=>81|4=>4|5=>5|167=>354|37=>75|0=>0|85=>358|2=>2|168=>355|53=>41|175=>380|46=>141|210=>378|127=>127|145=>433|143=>431|21=>21|171=>284|173=>286|212=>325|51=>194|20=>20|213=>326|232=>382|233=>383|80=>83|n=>n,fun|15=>6|16=>7|17=>4|18=>8|19=>9|n=>n⟩
theorem Tryz.laysC172:Go.Proofs.LaysC.n172 Tryz.prog Tryz.laysC172_ren:={
 mixed:=by kernel_rfl
 f129:=Tryz.func116.trans (congrArg some (by kernel_rfl))
 f171:=Tryz.func66.trans (congrArg some (by kernel_rfl))
 f172:=Tryz.func183.trans (congrArg some (by kernel_rfl))
 f205:=Tryz.func270.trans (congrArg some (by kernel_rfl))
 f243:=Tryz.func104.trans (congrArg some (by kernel_rfl))
 f244:=Tryz.func223.trans (congrArg some (by kernel_rfl))
 f245:=Tryz.func221.trans (congrArg some (by kernel_rfl))
 f246:=Tryz.func152.trans (congrArg some (by kernel_rfl))
 f247:=Tryz.func248.trans (congrArg some (by kernel_rfl))
 f279:=Tryz.func244.trans (congrArg some (by kernel_rfl))
 f280:=Tryz.func245.trans (congrArg some (by kernel_rfl))
 f281:=Tryz.func246.trans (congrArg some (by kernel_rfl))
 f282:=Tryz.func247.trans (congrArg some (by kernel_rfl))
 f283:=Tryz.func191.trans (congrArg some (by kernel_rfl))
 f284:=Tryz.func192.trans (congrArg some (by kernel_rfl))
 f285:=Tryz.func193.trans (congrArg some (by kernel_rfl))
 f286:=Tryz.func194.trans (congrArg some (by kernel_rfl))
 f287:=Tryz.func271.trans (congrArg some (by kernel_rfl))
 f316:=Tryz.func269.trans (congrArg some (by kernel_rfl))
 f317:=Tryz.func226.trans (congrArg some (by kernel_rfl))
 f318:=Tryz.func227.trans (congrArg some (by kernel_rfl))
 f319:=Tryz.func228.trans (congrArg some (by kernel_rfl))
 f320:=Tryz.func229.trans (congrArg some (by kernel_rfl))
 f321:=Tryz.func299.trans (congrArg some (by kernel_rfl))
 f322:=Tryz.func300.trans (congrArg some (by kernel_rfl))
 f337:=Tryz.func250.trans (congrArg some (by kernel_rfl))
 f338:=Tryz.func251.trans (congrArg some (by kernel_rfl))
 t0:=Tryz.underlying0
 a0:=Tryz.isAgg0
 z0:=Tryz.sizeOf0
 v0:=Tryz.zeroValue0
 t2:=Tryz.underlying2
 a2:=Tryz.isAgg2
 z2:=Tryz.sizeOf2
 v2:=Tryz.zeroValue2
 t3:=Tryz.underlying3
 a3:=Tryz.isAgg3
 z3:=Tryz.sizeOf3
 v3:=Tryz.zeroValue3
 t4:=Tryz.underlying4
 a4:=Tryz.isAgg4
 z4:=Tryz.sizeOf4
 v4:=Tryz.zeroValue4
 t5:=Tryz.underlying5
 a5:=Tryz.isAgg5
 z5:=Tryz.sizeOf5
 v5:=Tryz.zeroValue5
 t9:=Tryz.underlying9
 a9:=Tryz.isAgg9
 z9:=Tryz.sizeOf9
 v9:=Tryz.zeroValue9
 t20:=Tryz.underlying20
 a20:=Tryz.isAgg20
 z20:=Tryz.sizeOf20
 v20:=Tryz.zeroValue20
 t21:=Tryz.underlying21
 a21:=Tryz.isAgg21
 z21:=Tryz.sizeOf21
 v21:=Tryz.zeroValue21
 t37:=Tryz.underlying75
 a37:=Tryz.isAgg75
 z37:=Tryz.sizeOf75
 v37:=Tryz.zeroValue75
 t46:=Tryz.underlying141
 a46:=Tryz.isAgg141
 z46:=Tryz.sizeOf141
 v46:=Tryz.zeroValue141
 t51:=Tryz.underlying194
 a51:=Tryz.isAgg194
 z51:=Tryz.sizeOf194
 v51:=Tryz.zeroValue194
 t53:=Tryz.underlying41
 a53:=Tryz.isAgg41
 z53:=Tryz.sizeOf41
 v53:=Tryz.zeroValue41
 t75:=Tryz.underlying80
 a75:=Tryz.isAgg80
 z75:=Tryz.sizeOf80
 v75:=Tryz.zeroValue80
 t76:=Tryz.underlying81
 a76:=Tryz.isAgg81
 z76:=Tryz.sizeOf81
 v76:=Tryz.zeroValue81
 t85:=Tryz.underlying358
 a85:=Tryz.isAgg358
 z85:=Tryz.sizeOf358
 v85:=Tryz.zeroValue358
 t127:=Tryz.underlying127
 a127:=Tryz.isAgg127
 z127:=Tryz.sizeOf127
 v127:=Tryz.zeroValue127
 t143:=Tryz.underlying431
 a143:=Tryz.isAgg431
 z143:=Tryz.sizeOf431
 v143:=Tryz.zeroValue431
 t145:=Tryz.underlying433
 a145:=Tryz.isAgg433
 z145:=Tryz.sizeOf433
 v145:=Tryz.zeroValue433
 t167:=Tryz.underlying354
 a167:=Tryz.isAgg354
 z167:=Tryz.sizeOf354
 v167:=Tryz.zeroValue354
 t168:=Tryz.underlying355
 a168:=Tryz.isAgg355
 z168:=Tryz.sizeOf355
 v168:=Tryz.zeroValue355
 t171:=Tryz.underlying284
 a171:=Tryz.isAgg284
 z171:=Tryz.sizeOf284
 v171:=Tryz.zeroValue284
 t173:=Tryz.underlying286
 a173:=Tryz.isAgg286
 z173:=Tryz.sizeOf286
 v173:=Tryz.zeroValue286
 t175:=Tryz.underlying380
 a175:=Tryz.isAgg380
 z175:=Tryz.sizeOf380
 v175:=Tryz.zeroValue380
 t210:=Tryz.underlying378
 a210:=Tryz.isAgg378
 z210:=Tryz.sizeOf378
 v210:=Tryz.zeroValue378
 t212:=Tryz.underlying325
 a212:=Tryz.isAgg325
 z212:=Tryz.sizeOf325
 v212:=Tryz.zeroValue325
 t213:=Tryz.underlying326
 a213:=Tryz.isAgg326
 z213:=Tryz.sizeOf326
 t232:=Tryz.underlying382
 a232:=Tryz.isAgg382
 z232:=Tryz.sizeOf382
 v232:=Tryz.zeroValue382
 t233:=Tryz.underlying383
 a233:=Tryz.isAgg383
 z233:=Tryz.sizeOf383
 v233:=Tryz.zeroValue383
 g15:=by kernel_rfl
 g16:=by kernel_rfl
 g17:=by kernel_rfl
 g18:=by kernel_rfl
 g19:=by kernel_rfl
 t80:=Tryz.underlying83
 a80:=Tryz.isAgg83
 z80:=Tryz.sizeOf83
 v80:=Tryz.zeroValue83
 i0:=by kernel_rfl
 i2:=by kernel_rfl
 i3:=by kernel_rfl
 i4:=by kernel_rfl
 i5:=by kernel_rfl
 i9:=by kernel_rfl
 i20:=by kernel_rfl
 i21:=by kernel_rfl
 i37:=by kernel_rfl
 i46:=by kernel_rfl
 i51:=by kernel_rfl
 i53:=by kernel_rfl
 i75:=by kernel_rfl
 i76:=by kernel_rfl
 i80:=by kernel_rfl
 i85:=by kernel_rfl
 i127:=by kernel_rfl
 i143:=by kernel_rfl
 i145:=by kernel_rfl
 i167:=by kernel_rfl
 i168:=by kernel_rfl
 i171:=by kernel_rfl
 i173:=by kernel_rfl
 i175:=by kernel_rfl
 i210:=by kernel_rfl
 i212:=by kernel_rfl
 i232:=by kernel_rfl
 i233:=by kernel_rfl
 m15:=by kernel_rfl
 m16:=by kernel_rfl
 m17:=by kernel_rfl
 m18:=by kernel_rfl
 m19:=by kernel_rfl
 c0:=by kernel_rfl
 c2:=by kernel_rfl
 c3:=by kernel_rfl
 c4:=by kernel_rfl
 c5:=by kernel_rfl
 c9:=by kernel_rfl
 c20:=by kernel_rfl
 c21:=by kernel_rfl
 c37:=by kernel_rfl
 c46:=by kernel_rfl
 c51:=by kernel_rfl
 c53:=by kernel_rfl
 c75:=by kernel_rfl
 c76:=by kernel_rfl
 c80:=by kernel_rfl
 c85:=by kernel_rfl
 c127:=by kernel_rfl
 c143:=by kernel_rfl
 c145:=by kernel_rfl
 c167:=by kernel_rfl
 c168:=by kernel_rfl
 c171:=by kernel_rfl
 c173:=by kernel_rfl
 c175:=by kernel_rfl
 c210:=by kernel_rfl
 c212:=by kernel_rfl
 c213:=by kernel_rfl
 c232:=by kernel_rfl
 c233:=by kernel_rfl }
open Go.RowKit in
theorem Tryz.strconv_Atoi_ok (s:ByteArray)(hmax:s.size ≤ 9223372036854775806)(v:Int)(h:Lib.atoiAll s.data.toList=.ok v)(w:World) :
  Calls Tryz.prog 183 #[.string s] w fun e w'=>e=.returned (.tuple #[.int .i64 v,.nilIface])∧(w'=w ∨ ∃ t,w'=Lib.bytesWorld w 5 t):=Any.strconv_Atoi_ok Tryz.laysC172 s hmax v h w
end Go.Proofs
namespace Go.Am
open Go.Proofs
attribute [local irreducible] fN fI fB bX eR evCode evOps rX kOp aAv wW uM wX kGc aKT aKS kDr kMg drOps eN kT sl
theorem aGr {α:Type}(xs:Array α)(o:α)(f:α→α):(xs.push o).modify xs.size f=xs ++ #[f o]:=by
 apply Array.ext
 ·simp
 ·intro i h1 h2
  rw [Array.getElem_modify]
  by_cases h:xs.size=i
  ·subst h;simp
  ·rw [if_neg h]
   have:i < xs.size:=by simp at h1;omega
   rw [Array.getElem_push_lt this,Array.getElem_append_left this]
theorem aHC (w:World)(e:TypeId)(s:ByteArray):∃ os,Lib.bytesWorld w e s=Go.Sort.grow w.drew os:=by
 unfold Lib.bytesWorld World.freeze
 rw [if_neg dc]
 have key:∀ (o:Obj) (f:Obj→Obj),∃ os,({ (w.drew.alloc o) with heap:=(w.drew.alloc o).heap.modify w.heap.size f }:World)=Go.Sort.grow w.drew os:=fun o f=>⟨#[f o],by
  have hh:(w.drew.alloc o).heap.modify w.heap.size f=w.drew.heap ++ #[f o]:=aGr w.drew.heap o f
  rw [hh]
  rfl⟩
 exact key _ _
theorem aRW:bA Tryz.prog 183 18 [.tmp 2,.tmp 3] (aM Tryz.f183):=fq Tryz.f183
theorem aME {s:List UInt8}{v:Int}(hs:s.length ≤ 9223372036854775806)(h:Lib.atoiAll s=.ok v){S:St}{k:V→St→Prop}(hk:k (.tup [.int .i64 v,.nilIface]) S):RC Tryz.prog 183 [.str s] S k :=
 RC.ofCalls aRW (fun ρ w l' _ hsim hl=>by
  cases hl with
  | cons h1 hl =>
    cases h1;cases hl
    exact (Tryz.strconv_Atoi_ok ⟨s.toArray⟩ (by simpa [ByteArray.size] using hs) v (by simpa using h) w).mono fun e w' ⟨he,hw⟩=>by
     rcases hw with hw|⟨t,hw⟩
     ·subst hw
      exact ⟨_,ρ,he,.tup (.cons (.int _ _) (.cons .nilIface .nil)),hsim,Ext.refl _ _ _⟩
     ·obtain ⟨os,ho⟩:=aHC w 5 t
      rw [ho] at hw
      subst hw
      exact ⟨_,ρ,he,.tup (.cons (.int _ _) (.cons .nilIface .nil)),hsim.drew.grow os,(Ext.drew ρ S.hs w).trans (Ext.grow ρ S.hs w.drew os)⟩) hk
theorem aUu (n:Nat)(l:List UInt8):n ≤ vE n l:=by
 rw [tH]
 exact Nat.le_trans (Nat.le_mul_of_pos_right n (Nat.pow_pos dc)) (Nat.le_add_right _ _)
theorem aUl:∀ {l:List UInt8} {acc:Nat},l.all oY=true→vE acc l < 18446744073709551616→Lib.parseUint10 acc l=.ok (vE acc l)
 | [],acc,_,_=>rfl
 | c :: r,acc,h,hv=>by
   rw [List.all_cons,Bool.and_eq_true] at h
   have hc:=dI.1 h.1
   have e:vE acc (c :: r)=vE (acc * 10+(c.toNat - 48)) r:=rfl
   rw [e] at hv ⊢
   have hge:=aUu (acc * 10+(c.toNat - 48)) r
   rw [Lib.parseUint10,if_pos hc,if_neg om,if_neg om]
   exact aUl h.2 hv
theorem aHG (u:Nat):Lib.decDigits u ≠ []:=by
 rw [Lib.decDigits]
 split <;> simp
theorem aOj {u:Nat}(hu:u < 18446744073709551616):Lib.parseMag (Lib.decDigits u)=.ok u:=by
 unfold Lib.parseMag
 rw [if_neg (aHG u),aUl (wF u) (by rw [aCK];exact hu),aCK]
theorem aMD {u:Nat}(hu:u < 9223372036854775808):Lib.atoiAll (Lib.decDigits u)=.ok (u:Int):=by
 have h:=aOj (u:=u) om
 obtain ⟨c,r,hcr⟩:=List.exists_cons_of_ne_nil (aHG u)
 have hd:=wF u
 rw [hcr,List.all_cons,Bool.and_eq_true] at hd
 have hc:=dI.1 hd.1
 rw [hcr] at h ⊢
 rw [Lib.atoiAll_plain c r om om,h]
 show (if 9223372036854775808 ≤ u then Lib.NumEnd.range else Lib.NumEnd.ok (u:Int))=_
 rw [if_neg om]
theorem aMC {u:Nat}(hu:u ≤ 9223372036854775808):Lib.atoiAll (45 :: Lib.decDigits u)=.ok (-(u:Int)):=by
 rw [Lib.atoiAll_minus,aOj om]
 show (if 9223372036854775808 < u then Lib.NumEnd.range else Lib.NumEnd.ok (-(u:Int)))=_
 rw [if_neg om]
def vL:Int→List UInt8
 | .ofNat u=>Lib.decDigits u
 | .negSucc n=>45 :: Lib.decDigits (n+1)
theorem aKo {x:Int}(h1:-9223372036854775808 ≤ x)(h2:x ≤ 9223372036854775807):Lib.atoiAll (vL x)=.ok x:=by
 cases x with
 | ofNat u=>exact aMD (by have:((u:Nat):Int) ≤ 9223372036854775807:=h2;omega)
 | negSucc n =>
   have:Int.negSucc n=-((n+1:Nat):Int):=rfl
   rw [this] at h1
   exact aMC (u:=n+1) om
theorem pH {x:Int}(h1:-9223372036854775808 ≤ x)(h2:x ≤ 9223372036854775807):(vL x).length ≤ 20:=by
 cases x with
 | ofNat u=>exact Nat.le_trans (aEF (k:=18) (by have:((u:Nat):Int) ≤ 9223372036854775807:=h2;omega)) dc
 | negSucc n =>
   have e:Int.negSucc n=-((n+1:Nat):Int):=rfl
   rw [e] at h1
   have:=aEF (k:=18) (u:=n+1) om
   show (45 :: Lib.decDigits (n+1)).length ≤ 20
   rw [List.length_cons];omega
theorem aGk {x:Int}(h1:-9223372036854775808 ≤ x)(h2:x ≤ 9223372036854775807){S:St}(h10:jF S){k:V→St→Prop}(hk:k (.str (vL x)) S):RC Tryz.prog 66 [.int .i64 x] S k:=by
 cases x with
 | ofNat u=>exact aNC (by have:((u:Nat):Int) ≤ 9223372036854775807:=h2;omega) h10 hk
 | negSucc n =>
   have e:Int.negSucc n=-((n+1:Nat):Int):=rfl
   rw [e] at h1
   exact aBK (u:=n+1) om om e h10 hk
theorem aTz:bA Tryz.prog 131 20 [.tmp 2,.tmp 3] (aM Tryz.f131):=fq Tryz.f131
theorem aIk {x:Int}(h1:-9223372036854775808 ≤ x)(h2:x ≤ 9223372036854775807){S:St}(h10:jF S){k:V→St→Prop}(hk:k (.tup [.int .i64 x,.bool true]) S):RC Tryz.prog 131 [.str (vL x)] S k:=by
 have hl:=pH h1 h2
 have ha:=aKo h1 h2
 have hit:=fun (k:V→St→Prop)=>aGk (k:=k) (S:=S) h1 h2 h10
 generalize vL x=s at *
 refine RC.run mixed aV (aH aTz ?_)
 refine enter ?_
 refine go ?_
 refine aME om ha ?_
 refine go ?_
 refine hit _ ?_
 refine go ?_
 refine fE (fun _=>?_) (fun h=>absurd rfl h)
 refine go ?_
 exact hk
structure jT (S:St)(p:Nat)(s:List UInt8):Prop where
 at':∃ e fl,fl ≠ .ro∧S.hs.get p=some (.cells [.str s] e fl)
 lt:p < room
theorem jT.step {S S':St}{p:Nat}{s t:List UInt8}(h:jT S p s){e:TypeId}{fl:Fl}(hfl:fl ≠ .ro)(hS:S'.hs=S.hs.put p (some (.cells [.str t] e fl))):jT S' p t:=⟨⟨e,fl,hfl,aT hS⟩,h.lt⟩
theorem aNi:bA Tryz.prog 126 27 [.tmp 4] (aM Tryz.f126):=fq Tryz.f126
theorem aMK {p:Nat}{c:UInt8}{s:List UInt8}{S:St}(h:jT S p (c :: s)){k:V→St→Prop}(hk:∀ S' e fl,fl ≠ .ro→S'.hs=S.hs.put p (some (.cells [.str s] e fl))→k (.bool true) S'):RC Tryz.prog 126 [.ptr p 0,.int .u8 (.ofNat c.toNat)] S k:=by
 obtain ⟨e,fl,hfl,hS⟩:=h.at'
 refine RC.run mixed aV (aH aNi ?_)
 refine enter ?_
 refine go ?_
 refine aA hS ?_
 refine go ?_
 refine aA hS ?_
 refine go ?_
 refine bL (fun _=>?_) (fun h=>absurd rfl h)
 refine go ?_
 refine aA hS ?_
 refine go ?_
 refine cN (s:=c :: s) (l:=1) sm ?_
 refine go ?_
 refine aA hS ?_
 refine aX (v:=.str s) rfl hfl kr rfl (Nat.zero_lt_one) ?_
 refine aD h.lt fun S2 hS2=>?_
 refine go ?_
 exact hk S2 e fl hfl hS2
theorem aNh:bA Tryz.prog 125 10 [] (aM Tryz.f125):=fq Tryz.f125
theorem aBe {p:Nat}{s:List UInt8}{S:St}(h:jT S p s){k:V→St→Prop}(hk:∀ S' e fl,fl ≠ .ro→S'.hs=S.hs.put p (some (.cells [.str (s.drop (nE (fun c=>dO c.toNat) s))] e fl))→k (.tup []) S'):RC Tryz.prog 125 [.ptr p 0] S k:=by
 obtain ⟨e,fl,hfl,hS⟩:=h.at'
 refine RC.run mixed aV (aH aNh ?_)
 refine enter ?_
 refine go ?_
 refine aA hS ?_
 refine go ?_
 refine aDh ?_
 generalize s.drop (nE (fun c=>dO c.toNat) s)=t at *
 refine go ?_
 refine aA hS ?_
 refine aX (v:=.str t) rfl hfl kr rfl (Nat.zero_lt_one) ?_
 refine aD h.lt fun S2 hS2=>?_
 refine go ?_
 exact hk S2 e fl hfl hS2
theorem aSf:bA Tryz.prog 127 33 [.tmp 2] (aM Tryz.f127):=fq Tryz.f127
theorem aOJ {p:Nat}{s:List UInt8}(hs:s.length < 9223372036854775807)(hasc:∀ c ∈ s,c.toNat < 128){S:St}(h:jT S p s){k:V→St→Prop}
  (hk:∀ S' e fl,fl ≠ .ro→S'.hs=S.hs.put p (some (.cells [.str (s.drop (nE (fun c=>!dO c.toNat) s))] e fl))→k (.str (s.take (nE (fun c=>!dO c.toNat) s))) S'):RC Tryz.prog 127 [.ptr p 0] S k:=by
 obtain ⟨e,fl,hfl,hS⟩:=h.at'
 refine RC.run mixed aV (aH aSf ?_)
 refine enter ?_
 refine go ?_
 refine aA hS ?_
 refine go ?_
 refine aEu hs hasc ?_
 unfold aEv
 have hle:=aIJ (fun c=>!dO c.toNat) s
 generalize nE (fun c=>!dO c.toNat) s=n at *
 by_cases hn:n < s.length
 ·rw [if_pos hn]
  refine go ?_
  refine aA hS ?_
  refine go ?_
  refine lD hle ?_
  generalize s.take n=a at *
  refine go ?_
  refine aA hS ?_
  refine go ?_
  refine cN hle ?_
  generalize s.drop n=b at *
  refine go ?_
  refine aA hS ?_
  refine aX (v:=.str b) rfl hfl kr rfl (Nat.zero_lt_one) ?_
  refine aD h.lt fun S2 hS2=>?_
  refine go ?_
  exact hk S2 e fl hfl hS2
 ·rw [if_neg hn]
  have hn2:dD s=n:=by rw [aL];omega
  refine go ?_
  refine aA hS ?_
  refine go ?_
  refine aA hS ?_
  rw [hn2]
  refine go ?_
  refine lD hle ?_
  generalize s.take n=a at *
  refine go ?_
  refine aA hS ?_
  refine go ?_
  refine cN hle ?_
  generalize s.drop n=b at *
  refine go ?_
  refine aA hS ?_
  refine aX (v:=.str b) rfl hfl kr rfl (Nat.zero_lt_one) ?_
  refine aD h.lt fun S2 hS2=>?_
  refine go ?_
  exact hk S2 e fl hfl hS2
def nmB (x:UInt8)(c:UInt8):Bool:=decide ((97 ≤ c.toNat∧c.toNat ≤ 122) ∨ (65 ≤ c.toNat∧c.toNat ≤ 90) ∨ (48 ≤ c.toNat∧c.toNat ≤ 57) ∨ c.toNat=95 ∨ c.toNat=x.toNat)
theorem aSa:bA Tryz.prog 128 71 [.tmp 4] (aM Tryz.f128):=fq Tryz.f128
theorem aNR {p:Nat}{x:UInt8}{s:List UInt8}(hs:s.length < 9223372036854775807){S:St}(h:jT S p s){k:V→St→Prop}
  (hk:∀ S' e fl,fl ≠ .ro→S'.hs=S.hs.put p (some (.cells [.str (s.drop (nE (nmB x) s))] e fl))→k (.str (s.take (nE (nmB x) s))) S'):RC Tryz.prog 128 [.ptr p 0,.int .u8 (.ofNat x.toNat)] S k:=by
 obtain ⟨e,fl,hfl,hS⟩:=h.at'
 refine RC.run mixed aV (aH aSa ?_)
 refine enter ?_
 refine go ?_
 refine LP.induct0 s.length (fun j E=>j ≤ s.length∧(s.take j).all (nmB x)=true∧Kn E 71 [(0,.ptr p 0),(1,.int .u8 (.ofNat x.toNat)),(5,.int .i64 (.ofNat j))]) ⟨Nat.zero_le _,by simp,rfl,rfl,rfl,rfl,trivial⟩ ?_
 intro j E ⟨hj,ha,hf⟩ ih
 refine LP.kn mixed hf ?_
 refine go ?_
 refine aA hS ?_
 refine go ?_
 have hend:(∀ h:j < s.length,nmB x s[j]=false)→nE (nmB x) s=j:=fun h=>tG ha h hj
 refine aZ (fun hlt=>?_) (fun hge=>?_)
 ·rw [aL] at hlt
  refine go ?_
  refine aA hS ?_
  refine go ?_
  refine bW _ (rD hlt) ?_
  refine go ?_
  repeat' (first
   | (refine aZ (fun (h97:_ < 97)=>?_) (fun (h97:97 ≤ _)=>?_) <;> refine go ?_)
   | (refine aZ (fun (h122:122 < _)=>?_) (fun (h122:_ ≤ 122)=>?_) <;> refine go ?_)
   | (refine aZ (fun (h65:_ < 65)=>?_) (fun (h65:65 ≤ _)=>?_) <;> refine go ?_)
   | (refine aZ (fun (h90:90 < _)=>?_) (fun (h90:_ ≤ 90)=>?_) <;> refine go ?_)
   | (refine aZ (fun (h48:_ < 48)=>?_) (fun (h48:48 ≤ _)=>?_) <;> refine go ?_)
   | (refine aZ (fun (h57:57 < _)=>?_) (fun (h57:_ ≤ 57)=>?_) <;> refine go ?_)
   | (refine bL (fun (h95:_=95)=>?_) (fun (h95:_ ≠ 95)=>?_) <;> refine go ?_)
   | (refine bL (fun hx=>?_) (fun hx=>?_) <;> refine go ?_))
  all_goals first
   | (refine bF (j+1) ?_;refine go ?_;refine ih _ hlt ⟨hlt,pV ha hlt (decide_eq_true om),rfl,rfl,rfl,rfl,trivial⟩)
   | (have hE:=hend fun _=>decide_eq_false om;rw [hE] at hk;refine aA hS ?_;refine go ?_;refine lD hj ?_;generalize s.take j=a at *;refine go ?_;refine aA hS ?_;refine go ?_;refine cN hj ?_;generalize s.drop j=b at *;refine go ?_;refine aA hS ?_;refine aX (v:=.str b) rfl hfl kr rfl (Nat.zero_lt_one) ?_;refine aD h.lt fun S2 hS2=>?_;refine go ?_;exact hk S2 e fl hfl hS2)
 ·have hE:=hend fun hlt=>absurd hlt (by rw [aL] at hge;omega)
  refine go ?_
  rw [hE] at hk
  refine aA hS ?_
  refine go ?_
  refine lD hj ?_
  generalize s.take j=a at *
  refine go ?_
  refine aA hS ?_
  refine go ?_
  refine cN hj ?_
  generalize s.drop j=b at *
  refine go ?_
  refine aA hS ?_
  refine aX (v:=.str b) rfl hfl kr rfl (Nat.zero_lt_one) ?_
  refine aD h.lt fun S2 hS2=>?_
  refine go ?_
  exact hk S2 e fl hfl hS2
structure aMe (l:List bB):Prop where
 few:l.length ≤ 64
 one:∀ q ∈ l,∀ (S:St) (k:V→St→Prop),k (.int .i64 0) S→RC Tryz.prog 31 [jK q] S k
 full:∀ q ∈ l,q.2 ≠ []
 asc:∀ (j:Nat) (h:j+1 < l.length),kI (l[j]'(by omega)).1 l[j+1].1=true
theorem f74:bA Tryz.prog 74 46 [.tmp 2,.tmp 3] (aM Tryz.f74):=fq Tryz.f74
set_option maxHeartbeats 2000000 in
theorem aKx (i c:Nat)(ex:Bool)(l:List bB)(rest:List V)(hl:aMe l){S:St}(fl:Fl)(e:TypeId)(hrow:S.hs.get i=some (.cells (cellsOf l ++ rest) e fl))(hc:l.length ≤ c){k:V→St→Prop}(hk:k (.tup [.int .i64 (.negSucc 0),.int .i64 0]) S) :
  RC Tryz.prog 74 [.slice i 0 l.length c 2 ex] S k:=by
 obtain ⟨i40,hi40,hs40⟩:=nC
 refine RC.read mixed f74 (l:=[.slice aN 0 l.length l.length 2 false]) [i] [.cells (cellsOf l ++ rest) e fl] [.cells (cellsOf l) e .ro] [] (v2:=.tup [.int .i64 (.negSucc 0),.int .i64 0]) ?_ rfl rfl ?_ ?_ ?_ sm ?_ hk
 ·rintro (_|a) o h
  ·simp at h;subst h;rfl
  ·simp at h
 ·rintro (_|a) j o h1 h2
  ·simp at h1 h2;subst h1;subst h2;exact hrow
  ·simp at h1
 ·rintro (_|a) o1 o2 h1 h2
  ·simp at h1 h2;subst h1;subst h2;exact .part (aG l)
  ·simp at h1
 ·exact .cons (.slice _ _ _ _ _ _ _ (jC.at (a:=0) rfl sm) (.inr (Nat.le_refl _)) hc sm) .nil
 ·refine build ?_
  refine enter ?_
  refine goB ?_
  refine jH (by have:=hl.few;rw [bH];simp;omega) ?_
  refine goB ?_
  refine LP.induct0 l.length (fun j E=>j ≤ l.length∧Kn E 46 [(0,.slice aN 0 l.length l.length 2 false),(10,.slice aN 0 l.length l.length 2 false),(11,.int .i64 (.ofNat l.length)),(12,.int .i64 (.ofNat j))]) ⟨Nat.zero_le _,kq⟩ ?_
  intro j E ⟨hjl,hf⟩ ih
  refine LP.kng mixed hf ?_
  refine goB ?_
  refine dP (fun hb=>?_) (fun hb=>?_)
  ·have hlt:j < l.length:=by rw [bH] at hb;simpa using hb
   refine goB ?_
   refine cC (fun _=>?_) (fun h=>absurd (h.symm.trans hb) sm)
   refine goB ?_
   refine eS agg40 hi40 hs40 (j:=j) (List.getElem?_eq_getElem hlt) (show 0+j * 2=2 * j by omega) ?_
   refine goB ?_
   refine hl.one l[j] (List.getElem_mem hlt) _ _ ?_
   refine goB ?_
   have hv:oK l[j].2 []=false:=by
    have:=hl.full l[j] (List.getElem_mem hlt)
    rw [dA];simpa using this
   cases hj0:uA 0 (Int.ofNat j)
   ·
    refine godB ?_
    refine godB ?_
    refine godB ?_
    refine goB ?_
    refine aY (j+1) rfl (by have:=hl.few;show j+1 ≤ 9223372036854775807;omega) ?_
    refine goB ?_
    refine ⟨_,⟨Nat.le_refl _,?_⟩,rfl,ih _ hlt ⟨by omega,kq⟩⟩
    repeat' (first
     | exact trivial
     | exact Nat.le_of_ble_eq_true rfl
     | exact ⟨_,rfl,.cells (aG _) (.inl rfl)⟩
     | apply And.intro)
   ·obtain ⟨m,rfl⟩:∃ m,j=m+1:=by
     rw [bH] at hj0
     simp at hj0
     exact ⟨j - 1,by omega⟩
    have hm:Nat.blt m l.length=true:=Nat.ble_eq_true_of_le om
    refine godB ?_
    refine aP rfl (by
     intro Q hQ
     conv=>whnf
     refine aY m (by show Int.subNatNat (m+1) 1=_;rw [Int.subNatNat_of_le om];rfl) (by have:=hl.few;show m ≤ 9223372036854775807;omega) ?_
     exact hQ) ?_
    refine godB ?_
    refine aP rfl (by
     intro Q hQ
     conv=>whnf
     refine cC (fun _=>?_) (fun h=>absurd (h.symm.trans hm) sm)
     conv=>whnf
     (repeat (first|exact hQ|(refine iI (by first|rfl|assumption) ?_;conv=>whnf)|(refine jH (by first|rfl|assumption) ?_;conv=>whnf)|(refine aI ?_;conv=>whnf)|(refine bK ?_;conv=>whnf)|(unfold bX;conv=>whnf)))) ?_
    refine godB ?_
    refine d_readH rfl (by
     intro Q hQ
     conv=>whnf
     refine aE aAr (2 * m) (show 0+m * 2+0=2 * m by omega) (lR om).1 ?_
     exact hQ) ?_
    intro _
    have hlt1:=hl.asc m hlt
    have hlt2:=aLb hlt1
    have hlt3:oK l[m+1].1 l[m].1=false:=aBq (Ne.symm (vN hlt1))
    refine godB ?_
    refine godB ?_
    refine godB ?_
    refine goB ?_
    refine aY (m+1+1) rfl (by have:=hl.few;show m+1+1 ≤ 9223372036854775807;omega) ?_
    refine goB ?_
    refine ⟨_,⟨Nat.le_refl _,?_⟩,rfl,ih _ hlt ⟨by omega,kq⟩⟩
    repeat' (first
     | exact trivial
     | exact Nat.le_of_ble_eq_true rfl
     | exact ⟨_,rfl,.cells (aG _) (.inl rfl)⟩
     | apply And.intro)
  ·have hge:l.length ≤ j:=by rw [bH] at hb;simpa using hb
   refine goB ?_
   exact ⟨[],List.nodup_nil,by simp,.tup (.cons (.int _ _) (.cons (.int _ _) .nil)),trivial,trivial⟩
end Go.Am
namespace Go.Am
open Go.Proofs
def LV (S:St)(v:V)(l:List bB):Prop :=
 (v=.nilSlice∧l=[]) ∨ ∃ i c ex rest e fl,v=.slice i 0 l.length c 2 ex∧l.length ≤ c∧S.hs.get i=some (.cells (cellsOf l ++ rest) e fl)
theorem RC.lab {P:Program}(hm:P.follows .mixedOrders=true){c:FuncId}{n:Nat}{rs:List ResultVar}{code:Code}(hf:bA P c n rs code){l:List bB}{v:V}{S:St}(h:LV S v l){more:List V}(hmore:∀ R,oG R more more)(news:List O)
  (hwn:∀ (a:Nat) (o:O),news[a]?=some o→o.wr=true) {v2:V} {k:V→St→Prop}
  (h0:l=[]→dY (pO aN []) ⟨.nil,aN+0⟩ (vQ P n rs code (.nilSlice :: more) (aAm 0 [] (aN+0) S.next [] news v2)))
  (h1:∀ e i,dY (pO aN [.cells (cellsOf l) e .ro]) ⟨.nil,aN+1⟩ (vQ P n rs code (.slice aN 0 l.length l.length 2 false :: more) (aAm 1 [i] (aN+1) S.next [] news v2)))
  (hk:jL news S (k v2)):RC P c (v :: more) S k:=by
 rcases h with ⟨rfl,rfl⟩|⟨i,cap,ex,rest,e,fl,rfl,hc,hrow⟩
 ·exact RC.read hm hf [] [] [] news sm rfl rfl sm sm (.cons .nilSlice (hmore _)) hwn (h0 rfl) hk
 ·refine RC.read hm hf [i] [.cells (cellsOf l ++ rest) e fl] [.cells (cellsOf l) e .ro] news ?_ rfl rfl ?_ ?_ (.cons ?_ (hmore _)) hwn (h1 e i) hk
  ·rintro (_|a) o h
   ·simp at h;subst h;rfl
   ·simp at h
  ·rintro (_|a) j o h1 h2
   ·simp at h1 h2;subst h1;subst h2;exact hrow
   ·simp at h1
  ·rintro (_|a) o1 o2 h1 h2
   ·simp at h1 h2;subst h1;subst h2;exact .part (aG l)
   ·simp at h1
  ·exact .slice _ _ _ _ _ _ _ (jC.at (a:=0) rfl sm) (.inr (Nat.le_refl _)) hc sm
end Go.Am
namespace Go.Am
open Go.Proofs
attribute [local irreducible] fN fI fB bX eR evCode evOps rX kOp aAv wW uM wX kGc aKT aKS kDr kMg drOps eN kT sl
theorem f64:bA Tryz.prog 64 20 [.tmp 4] (aM Tryz.f64):=fq Tryz.f64
set_option maxHeartbeats 2000000 in
theorem jS {l:List bB}{v:V}{S:St}(h:LV S v l)(hlen:l.length < 9223372036854775807)(s:List UInt8){k:V→St→Prop}(hk:k (.str (getL s l)) S):RC Tryz.prog 64 [v,.str s] S k:=by
 obtain ⟨i40,hi40,hs40⟩:=nC
 refine RC.lab mixed f64 h (fun _=>.cons (.str _) .nil) [] sm (v2:=.str (getL s l)) ?_ ?_ hk
 ·rintro rfl
  refine build ?_
  refine enter ?_
  refine goB ?_
  refine LP.one mixed ?_
  refine goB ?_
  exact ⟨[],List.nodup_nil,by simp,.str _,trivial,trivial⟩
 ·intro e i
  refine build ?_
  refine enter ?_
  refine goB ?_
  refine LP.induct0 l.length (fun j E=>j ≤ l.length∧(∀ q ∈ l.take j,q.1 ≠ s)∧Kn E 20 [(0,.slice aN 0 l.length l.length 2 false),(1,.str s),(7,.slice aN 0 l.length l.length 2 false),(8,.int .i64 (.ofNat l.length)),(9,.int .i64 (.ofNat j))]) ⟨Nat.zero_le _,by simp,kq⟩ ?_
  intro j E ⟨hjl,hno,hf⟩ ih
  refine LP.kng mixed hf ?_
  refine goB ?_
  refine dP (fun hb=>?_) (fun hb=>?_)
  ·have hlt:j < l.length:=by rw [bH] at hb;simpa using hb
   refine goB ?_
   refine cC (fun _=>?_) (fun h=>absurd (h.symm.trans hb) sm)
   refine goB ?_
   refine eS agg40 hi40 hs40 (j:=j) (List.getElem?_eq_getElem hlt) (show 0+j * 2=2 * j by omega) ?_
   refine goB ?_
   refine dP (fun hb=>?_) (fun hb=>?_)
   ·rw [dA] at hb
    have hname:l[j].1=s:=eq_of_beq hb
    refine goB ?_
    rw [aJr hlt hno hname]
    exact ⟨[],List.nodup_nil,by simp,.str _,trivial,trivial⟩
   ·rw [dA] at hb
    have hname:l[j].1 ≠ s:=fun h=>by rw [h] at hb;simp at hb
    refine goB ?_
    refine aY (j+1) rfl (by show j+1 ≤ 9223372036854775807;omega) ?_
    refine goB ?_
    refine ⟨_,⟨Nat.le_refl _,?_⟩,rfl,ih _ hlt ⟨by omega,fun q hq=>?_,kq⟩⟩
    ·
     repeat' (first
      | exact trivial
      | exact Nat.le_of_ble_eq_true rfl
      | exact ⟨_,rfl,.cells (aG _) (.inl rfl)⟩
      | apply And.intro)
    ·rw [List.take_succ_eq_append_getElem hlt] at hq
     rcases List.mem_append.1 hq with hq|hq
     ·exact hno q hq
     ·simp at hq;rw [hq];exact hname
  ·have hge:l.length ≤ j:=by rw [bH] at hb;simpa using hb
   refine goB ?_
   rw [tU (fun q hq=>hno q (by rw [List.take_of_length_le hge];exact hq))]
   exact ⟨[],List.nodup_nil,by simp,.str _,trivial,trivial⟩
def bT:List (List UInt8):=[[97],[98],[99],[106,111,98],[105,110,115,116,97,110,99,101],[95,95,110,97,109,101,95,95],[95,95,97,100,100,114,101,115,115,95,95],[95,95,109,101,116,97,95,120],[101,120,112,111,114,116,101,100,95,97],[101,120,112,111,114,116,101,100,95,98],[101,120,112,111,114,116,101,100,95,106,111,98],[101,120,112,111,114,116,101,100,95,101,120,112,111,114,116,101,100,95,97],[108,101],[65],[95],[120,57]]
def aIj:List (List UInt8):=[[101,120,112,111,114,116,101,100,95,97],[101,120,112,111,114,116,101,100,95,98],[101,120,112,111,114,116,101,100,95,99],[101,120,112,111,114,116,101,100,95,106,111,98],[101,120,112,111,114,116,101,100,95,105,110,115,116,97,110,99,101],[101,120,112,111,114,116,101,100,95,95,95,110,97,109,101,95,95],[101,120,112,111,114,116,101,100,95,95,95,97,100,100,114,101,115,115,95,95],[101,120,112,111,114,116,101,100,95,95,95,109,101,116,97,95,120],[101,120,112,111,114,116,101,100,95,101,120,112,111,114,116,101,100,95,97],[101,120,112,111,114,116,101,100,95,101,120,112,111,114,116,101,100,95,98],[101,120,112,111,114,116,101,100,95,101,120,112,111,114,116,101,100,95,106,111,98],[101,120,112,111,114,116,101,100,95,101,120,112,111,114,116,101,100,95,101,120,112,111,114,116,101,100,95,97],[101,120,112,111,114,116,101,100,95,108,101],[101,120,112,111,114,116,101,100,95,65],[101,120,112,111,114,116,101,100,95,95],[101,120,112,111,114,116,101,100,95,120,57]]
def eL:List (List UInt8):=bT ++ aIj
def gT:List (List UInt8):=[[],[49],[50],[195,169],[117,112],[97,32,98],[10],[57]]
def iO:List (List UInt8):=[[117,112],[97],[104,116,116,112,95,116,111,116,97,108],[97,58,98],[120],[108,101],[95],[122,57]]
def lM:List (List UInt8):=gT ++ iO
noncomputable def aOr (n:Nat):aMg:=oL Tryz.prog xts (fun _=>none) (cW Tryz.prog) n
theorem aOs (n:Nat):eH Tryz.prog (aOr n).call:=(tS aV (fun _ _ h=>by cases h) (fun _ _ hc hd=>evDraw_ok mixed hc hd) n).1
theorem RC.closed (n:Nat){g:FuncId}{l:List V}{S:St}{v:V}{k:V→St→Prop}(h:∀ K:V→St→Prop,(aOr n).call g l S K=K v S)(hk:k v S):RC Tryz.prog g l S k:=by
 have h1:(aOr n).call g l S (fun r S'=>r=v∧S'=S):=by rw [h];exact ⟨rfl,rfl⟩
 obtain ⟨r,S',⟨rfl,rfl⟩,h2⟩:=aOs n _ _ _ _ h1
 exact .mk _ _ h2 hk
theorem aJC {s:List UInt8}(h:s ∈ eL){S:St}{k:V→St→Prop}(hk:k (.bool true) S):RC Tryz.prog 67 [.str s] S k:=by
 refine RC.closed 90 (fun K=>?_) hk
 simp only [eL,bT,aIj,List.cons_append,List.nil_append,List.mem_cons,List.mem_nil_iff,or_false] at h
 rcases h with rfl|rfl|rfl|rfl|rfl|rfl|rfl|rfl|rfl|rfl|rfl|rfl|rfl|rfl|rfl|rfl|rfl|rfl|rfl|rfl|rfl|rfl|rfl|rfl|rfl|rfl|rfl|rfl|rfl|rfl|rfl|rfl <;> kernel_rfl
theorem aUw {s:List UInt8}(h:s ∈ lM){S:St}{k:V→St→Prop}(hk:k (.bool true) S):RC Tryz.prog 68 [.str s] S k:=by
 refine RC.closed 60 (fun K=>?_) hk
 simp only [lM,gT,iO,List.cons_append,List.nil_append,List.mem_cons,List.mem_nil_iff,or_false] at h
 rcases h with rfl|rfl|rfl|rfl|rfl|rfl|rfl|rfl|rfl|rfl|rfl|rfl|rfl|rfl|rfl|rfl <;> kernel_rfl
theorem aLd {s:List UInt8}(h:s ∈ iO){S:St}{k:V→St→Prop}(hk:k (.bool true) S):RC Tryz.prog 89 [.str s] S k:=by
 refine RC.closed 60 (fun K=>?_) hk
 simp only [iO,List.mem_cons,List.mem_nil_iff,or_false] at h
 rcases h with rfl|rfl|rfl|rfl|rfl|rfl|rfl|rfl <;> kernel_rfl
noncomputable def fD (s:List UInt8):Bool:=match s with|a :: b :: _=>Nat.beq a.toNat 95 && Nat.beq b.toNat 95|_=>false
theorem aUb {s:List UInt8}(h:s ∈ eL){S:St}{k:V→St→Prop}(hk:k (.bool (fD s)) S):RC Tryz.prog 41 [.str s,.str [95,95]] S k:=by
 refine RC.closed 60 (fun K=>?_) hk
 simp only [eL,bT,aIj,List.cons_append,List.nil_append,List.mem_cons,List.mem_nil_iff,or_false] at h
 rcases h with rfl|rfl|rfl|rfl|rfl|rfl|rfl|rfl|rfl|rfl|rfl|rfl|rfl|rfl|rfl|rfl|rfl|rfl|rfl|rfl|rfl|rfl|rfl|rfl|rfl|rfl|rfl|rfl|rfl|rfl|rfl|rfl <;> kernel_rfl
theorem f31:bA Tryz.prog 31 13 [.tmp 2] (aM Tryz.f31):=fq Tryz.f31
set_option maxHeartbeats 2000000 in
theorem aAJ {q:bB}(hn:q.1 ∈ eL)(hv:q.2 ∈ lM){S:St}{k:V→St→Prop}(hk:k (.int .i64 0) S):RC Tryz.prog 31 [jK q] S k:=by
 refine RC.read mixed f31 (l:=[jK q]) [] [] [] [] (v2:=.int .i64 0) sm rfl rfl sm sm (.cons (.agg (.cons (.str _) (.cons (.str _) .nil))) .nil) sm ?_ hk
 unfold jK
 refine build ?_
 refine enter ?_
 refine goB ?_
 refine aJC hn ?_
 refine goB ?_
 refine aUw hv ?_
 refine goB ?_
 exact ⟨[],List.nodup_nil,by simp,.int _ _,trivial,trivial⟩
structure nH (l:List bB):Prop where
 name:∀ q ∈ l,q.1 ∈ eL
 val:∀ q ∈ l,q.2 ∈ lM
 full:∀ q ∈ l,q.2 ≠ []
 asc:l.Pairwise fun p q=>kI p.1 q.1=true
theorem rN:∀ {a b:List (List UInt8)},a.Nodup→(∀ x ∈ a,x ∈ b)→a.length ≤ b.length
 | [],_,_,_=>Nat.zero_le _
 | x :: a,b,hn,hs=>by
   have hx:x ∈ b:=hs x sm
   have hn':=List.nodup_cons.1 hn
   have:=rN (a:=a) (b:=b.erase x) hn'.2 fun y hy=>(List.mem_erase_of_ne (fun e=>hn'.1 (by rw [← e];exact hy))).2 (hs y (by simp [hy]))
   rw [List.length_erase_of_mem hx] at this
   have:0 < b.length:=List.length_pos_of_mem hx
   simp;omega
theorem nH.nodup {l:List bB}(h:nH l):(l.map (·.1)).Nodup:=by
 rw [List.Nodup,List.pairwise_map]
 exact h.asc.imp fun h=>vN h
theorem nH.few {l:List bB}(h:nH l):l.length ≤ 32:=by
 have:=rN h.nodup (b:=eL) fun x hx=>by
  obtain ⟨q,hq,rfl⟩:=List.mem_map.1 hx
  exact h.name q hq
 have h2:eL.length=32:=rfl
 rw [h2] at this
 simpa using this
theorem nH.right {l:List bB}(h:nH l):aMe l where
 few:=Nat.le_trans h.few om
 one:=fun q hq S k hk=>aAJ (h.name q hq) (h.val q hq) hk
 full:=h.full
 asc:=fun j hj=>List.pairwise_iff_getElem.1 h.asc j (j+1) om hj om
theorem nH.lt {l:List bB}(h:nH l):l.length < 9223372036854775807:=by have:=h.few;omega
theorem LV.mk {S:St}{i c:Nat}{ex:Bool}{l:List bB}{e:TypeId}{fl:Fl}(h:S.hs.get i=some (.cells (cellsOf l) e fl))(hc:l.length ≤ c):LV S (.slice i 0 l.length c 2 ex) l :=
 .inr ⟨i,c,ex,[],e,fl,rfl,hc,by rw [List.append_nil];exact h⟩
theorem LV.nil (S:St):LV S .nilSlice []:=.inl ⟨rfl,rfl⟩
set_option maxHeartbeats 2000000 in
theorem aDv {S:St}{k:V→St→Prop}(hk:k (.tup [.int .i64 (.negSucc 0),.int .i64 0]) S):RC Tryz.prog 74 [.nilSlice] S k:=by
 refine RC.read mixed f74 (l:=[.nilSlice]) [] [] [] [] (v2:=.tup [.int .i64 (.negSucc 0),.int .i64 0]) sm rfl rfl sm sm (.cons .nilSlice .nil) sm ?_ hk
 refine build ?_
 refine enter ?_
 refine goB ?_
 refine LP.one mixed ?_
 refine goB ?_
 exact ⟨[],List.nodup_nil,by simp,.tup (.cons (.int _ _) (.cons (.int _ _) .nil)),trivial,trivial⟩
theorem aML {l:List bB}{v:V}{S:St}(h:LV S v l)(ok:nH l){k:V→St→Prop}(hk:k (.tup [.int .i64 (.negSucc 0),.int .i64 0]) S):RC Tryz.prog 74 [v] S k:=by
 rcases h with ⟨rfl,rfl⟩|⟨i,cap,ex,rest,e,fl,rfl,hc,hrow⟩
 ·exact aDv hk
 ·exact aKx i cap ex l rest ok.right fl e hrow hc hk
theorem f42:bA Tryz.prog 42 12 [.tmp 2] (aM Tryz.f42):=fq Tryz.f42
set_option maxHeartbeats 2000000 in
theorem dR {l:List bB}{v:V}{S:St}(h:LV S v l)(ok:nH l){k:V→St→Prop}(hk:k (.bool true) S):RC Tryz.prog 42 [v] S k:=by
 refine RC.lab mixed f42 h (fun _=>.nil) [] sm (v2:=.bool true) ?_ ?_ hk
 ·rintro rfl
  refine build ?_
  refine enter ?_
  refine goB ?_
  refine aDv ?_
  refine goB ?_
  exact ⟨[],List.nodup_nil,by simp,.bool _,trivial,trivial⟩
 ·intro e i
  refine build ?_
  refine enter ?_
  refine goB ?_
  refine aML (LV.mk (e:=e) (fl:=.ro) rfl (Nat.le_refl _)) ok ?_
  refine goB ?_
  exact ⟨[],List.nodup_nil,by simp,.bool _,trivial,trivial⟩
theorem f59:bA Tryz.prog 59 23 [] (aM Tryz.f59):=fq Tryz.f59
set_option maxHeartbeats 2000000 in
theorem uE {l:List bB}{v:V}{S:St}(h:LV S v l)(hlen:l.length < 9223372036854775807)(hfull:∀ q ∈ l,q.2 ≠ []){m:Nat}{t:iE}{c:Nat}(hm:S.hs.get m=some (.map (cT t) c)){k:V→St→Prop}
  (hk:bI m (some (.map (cT (l.foldl cJ (t,c)).1) (l.foldl cJ (t,c)).2)) S fun S=>k (.tup []) S):RC Tryz.prog 59 [.map m,v] S k:=by
 obtain ⟨i40,hi40,hs40⟩:=nC
 rcases h with ⟨rfl,rfl⟩|⟨i,cap,ex,rest,e,fl,rfl,hc,hrow⟩
 ·refine RC.small mixed f59 (l:=[.map aN,.nilSlice]) 0 [m] [.map (cT t) c] [.map (cT t) c] [.map (cT t) c] [] (v2:=.tup []) ?_ sm rfl rfl rfl ?_ ?_ (.cons (.map (jC.at (a:=0) rfl sm)) (.cons .nilSlice .nil)) ?_ sm ?_ hk
  ·rintro (_|a) (_|b) x _ h1 h2 <;> simp at h1 h2 ⊢
  ·rintro (_|a) j o h1 h2
   ·simp at h1 h2;subst h1;subst h2;exact hm
   ·simp at h1
  ·rintro (_|a) o1 o2 h1 h2
   ·simp at h1 h2;subst h1;subst h2;exact .map (gN t)
   ·simp at h1
  ·rintro (_|a) o h
   ·simp at h;subst h;rfl
   ·simp at h
  ·refine build ?_
   refine enter ?_
   refine goB ?_
   refine LP.one mixed ?_
   refine goB ?_
   exact ⟨[],List.nodup_nil,by simp,.tup .nil,⟨⟨_,rfl,.map (gN t)⟩,trivial⟩,trivial⟩
 ·refine RC.small mixed f59 (l:=[.map (aN+1),.slice aN 0 l.length l.length 2 false]) 1 [i,m] [.cells (cellsOf l ++ rest) e fl,.map (cT t) c] [.cells (cellsOf l) e .ro,.map (cT t) c] [.map (cT (l.foldl cJ (t,c)).1) (l.foldl cJ (t,c)).2] [] (v2:=.tup []) ?_ ?_ rfl rfl rfl ?_ ?_
   (.cons (.map (jC.at (a:=1) rfl sm)) (.cons (.slice _ _ _ _ _ _ _ (jC.at (a:=0) rfl sm) (.inr (Nat.le_refl _)) hc sm) .nil)) ?_ sm ?_ hk
  ·have hne:i ≠ m:=fun e=>by rw [e,hm] at hrow;cases hrow
   rintro (_|_|a) (_|_|b) x h0 h1 h2 <;> simp at h0 h1 h2 ⊢
   exact hne (h2.trans h1.symm)
  ·rintro (_|a) o h1 h2
   ·simp at h2;subst h2;rfl
   ·omega
  ·rintro (_|_|a) j o h1 h2
   ·simp at h1 h2;subst h1;subst h2;exact hrow
   ·simp at h1 h2;subst h1;subst h2;exact hm
   ·simp at h1
  ·rintro (_|_|a) o1 o2 h1 h2
   ·simp at h1 h2;subst h1;subst h2;exact .part (aG l)
   ·simp at h1 h2;subst h1;subst h2;exact .map (gN t)
   ·simp at h1
  ·rintro (_|a) o h
   ·simp at h;subst h;rfl
   ·simp at h
  ·refine build ?_
   refine enter ?_
   refine goB ?_
   refine LP.induct l.length (fun j E S'=>j ≤ l.length∧S'=rY [(aN,.cells (cellsOf l) e .ro),(aN+1,.map (cT ((l.take j).foldl cJ (t,c)).1) ((l.take j).foldl cJ (t,c)).2)] (aN+2)∧Kn E 23 [(0,.map (aN+1)),(1,.slice aN 0 l.length l.length 2 false),(6,.slice aN 0 l.length l.length 2 false),(7,.int .i64 (.ofNat l.length)),(8,.int .i64 (.ofNat j))]) ⟨Nat.zero_le _,by kernel_rfl,kq⟩ ?_
   intro j E S' ⟨hjl,hS',hf⟩ ih
   subst hS'
   refine LP.kng mixed hf ?_
   refine goB ?_
   refine dP (fun hb=>?_) (fun hb=>?_)
   ·have hlt:j < l.length:=by rw [bH] at hb;simpa using hb
    have hv:oK l[j].2 []=false:=aBq (hfull l[j] (List.getElem_mem hlt))
    refine goB ?_
    refine cC (fun _=>?_) (fun h=>absurd (h.symm.trans hb) sm)
    refine goB ?_
    refine eS agg40 hi40 hs40 (j:=j) (List.getElem?_eq_getElem hlt) (show 0+j * 2=2 * j by omega) ?_
    refine goB ?_
    refine aJz (q:=l[j]) ?_
    refine goB ?_
    refine aY (j+1) rfl (by show j+1 ≤ 9223372036854775807;omega) ?_
    refine goB ?_
    have htk:(l.take (j+1)).foldl cJ (t,c)=cJ ((l.take j).foldl cJ (t,c)) l[j]:=by
     rw [List.take_succ_eq_append_getElem hlt,List.foldl_append];rfl
    refine ⟨rY [(aN,.cells (cellsOf l) e .ro),(aN+1,.map (cT ((l.take (j+1)).foldl cJ (t,c)).1) ((l.take (j+1)).foldl cJ (t,c)).2)] (aN+2),⟨Nat.le_refl _,?_⟩,rfl,ih _ _ hlt ⟨by omega,rfl,kq⟩⟩
    repeat' (first
     | exact trivial
     | exact Nat.le_of_ble_eq_true rfl
     | exact ⟨_,rfl,.cells (aG _) (.inl rfl)⟩
     | exact ⟨_,rfl,by rw [htk];exact .map (gN _)⟩
     | apply And.intro)
   ·have hge:l.length ≤ j:=by rw [bH] at hb;simpa using hb
    refine goB ?_
    refine ⟨[],List.nodup_nil,by simp,.tup .nil,⟨⟨_,rfl,?_⟩,trivial⟩,trivial⟩
    rw [List.take_of_length_le hge]
    exact .map (gN _)
end Go.Am
namespace Go.Am
def wJ (c:UInt8):List UInt8:=if c=92 then [92,92] else if c=10 then [92,110] else if c=34 then [92,34] else [c]
def iF:List UInt8→List UInt8
 | []=>[]
 | c :: s=>wJ c ++ iF s
def jN:List (List UInt8):=[[49],[50],[195,169],[117,112],[97,32,98],[10],[57]]
theorem aOG {v:List UInt8}(h:v ∈ gT)(hn:v ≠ []):v ∈ jN:=by
 simp only [gT,List.mem_cons,List.not_mem_nil,or_false] at h
 rcases h with rfl|rfl|rfl|rfl|rfl|rfl|rfl|rfl
 ·exact absurd rfl hn
 all_goals (unfold jN;simp)
theorem aHb {v:List UInt8}(h:v ∈ jN):v ∈ gT∧v ≠ []:=by
 simp only [jN,List.mem_cons,List.not_mem_nil,or_false] at h
 rcases h with rfl|rfl|rfl|rfl|rfl|rfl|rfl <;> (unfold gT;simp)
def nD (v:List UInt8):List UInt8:=34 :: (iF v ++ [34])
def pA (q:bB):List UInt8:=q.1 ++ 61 :: nD q.2
def gW:List bB→List UInt8
 | []=>[]
 | [q]=>pA q
 | q :: r :: l=>pA q ++ 44 :: gW (r :: l)
theorem aCi {v:List UInt8}(h:v ∈ jN):(nD v).length ≤ 5:=by
 simp only [jN,List.mem_cons,List.not_mem_nil,or_false] at h
 rcases h with rfl|rfl|rfl|rfl|rfl|rfl|rfl <;> decide
theorem xB {s:List UInt8}(h:s ∈ bT):s.all (nmB 95)=true∧s ≠ []∧s.length ≤ 19:=by
 simp only [bT,List.mem_cons,List.not_mem_nil,or_false] at h
 rcases h with rfl|rfl|rfl|rfl|rfl|rfl|rfl|rfl|rfl|rfl|rfl|rfl|rfl|rfl|rfl|rfl <;> decide
theorem nP {s:List UInt8}(h:s ∈ iO):s.all (nmB 58)=true∧s ≠ []∧s.length ≤ 10:=by
 simp only [iO,List.mem_cons,List.not_mem_nil,or_false] at h
 rcases h with rfl|rfl|rfl|rfl|rfl|rfl|rfl|rfl <;> decide
theorem aBP {q:bB}(hn:q.1 ∈ bT)(hv:q.2 ∈ jN):(pA q).length ≤ 25:=by
 have h1:=(xB hn).2.2
 have h2:=aCi hv
 unfold pA
 simp only [List.length_append,List.length_cons]
 omega
theorem tW:∀ {l:List bB},(∀ q ∈ l,q.1 ∈ bT∧q.2 ∈ jN)→(gW l).length ≤ 26 * l.length
 | [],_=>by simp [gW]
 | [q],h=>by
   have:=aBP (h q sm).1 (h q sm).2
   show (pA q).length ≤ 26
   omega
 | q :: r :: l,h=>by
   have:=aBP (h q sm).1 (h q sm).2
   have:=tW (l:=r :: l) fun x hx=>h x (List.mem_cons_of_mem _ hx)
   show (pA q ++ 44 :: gW (r :: l)).length ≤ _
   simp only [List.length_append,List.length_cons] at *
   omega
end Go.Am
namespace Go.Am
open Go.Proofs
attribute [local irreducible] fN fI fB bX eR evCode evOps rX kOp aAv wW uM wX kGc aKT aKS kDr kMg drOps eN kT sl
section
structure Bld (b:Nat)(S:St)(p:Nat)(bs:List UInt8):Prop where
 hi:p < room
 old:p < S.next
 at':∃ a buf,(a=.nilPtr ∨ a=.ptr p 0)∧S.hs.get p=some (.cells [a,buf] 77 .ex)∧((bs=[]∧buf=.nilSlice) ∨ ∃ m rest,buf=.slice m 0 bs.length (bs.length+List.length rest) 1 false∧b ≤ m∧m < room∧m < S.next∧m ≠ p∧0 < bs.length+List.length rest∧S.hs.get m=some (.cells (bC bs ++ rest) 5 .rw))
theorem Bld.keep {b p:Nat}{S S':St}{bs:List UInt8}(h:Bld b S p bs)(hk:∀ id,id < S.next→S'.hs.get id=S.hs.get id)(hn:S.next ≤ S'.next):Bld b S' p bs:=by
 obtain ⟨a,buf,h2,h3,h4⟩:=h.at'
 refine ⟨h.hi,by have:=h.old;omega,a,buf,h2,by rw [hk p h.old];exact h3,?_⟩
 rcases h4 with h4|⟨m,rest,x1,x2,x3,x4,x5,x7,x6⟩
 ·exact .inl h4
 ·exact .inr ⟨m,rest,x1,x2,x3,by omega,x5,x7,by rw [hk m x4];exact x6⟩
theorem aVc:∃ fn,Tryz.prog.funcs[95]?=some fn∧fn.body=none:=⟨Tryz.f95,by kernel_rfl,by kernel_rfl⟩
theorem xC {v:V}{S:St}{k:V→St→Prop}(hk:k v S):RC Tryz.prog 95 [v] S k:=by
 refine RC.run mixed aV (lT aVc ?_)
 conv=>whnf
 exact hk
theorem aPl {P:Program}{c:Bool}{t e:TypeId}{i o n:Nat}(hn:(P.info? e).map (fun f=>f.size)=some (n+1)):eqD P c t (.pointer e) (.ptr i o) (.ptr i o)=some true:=by
 cases h:P.info? e with
 | none=>rw [h] at hn;cases hn
 | some f =>
   rw [h] at hn
   have hs:f.size=n+1:=Option.some.inj hn
   show (match P.info? e with|some f=>if f.size=0 then none else if i=i then some (o == o) else none|none=>none)=some true
   rw [h]
   show (if f.size=0 then none else if i=i then some (o == o) else none)=some true
   rw [if_neg om,if_pos rfl]
   simp
theorem aTd:bA Tryz.prog 57 20 [] (aM Tryz.f57):=fq Tryz.f57
theorem uR {b p:Nat}{bs:List UInt8}{S:St}(h:Bld b S p bs){k:V→St→Prop}(hk:∀ S',Abv p b S S' 0→Bld b S' p bs→k (.tup []) S'):RC Tryz.prog 57 [.ptr p 0] S k:=by
 obtain ⟨a,buf,ha,hS,hb⟩:=h.at'
 refine RC.run mixed aV (aH aTd ?_)
 refine enter ?_
 refine go ?_
 refine aA hS ?_
 refine go ?_
 rcases ha with rfl|rfl
 ·refine go ?_
  refine aA hS ?_
  refine go ?_
  refine xC ?_
  refine go ?_
  refine aA hS ?_
  conv=>whnf
  refine ifK_intro kr ?_
  refine go ?_
  refine aA hS ?_
  refine aX (v:=.ptr p 0) rfl sm kr rfl sm ?_
  refine aD h.hi fun S2 hS2=>?_
  refine go ?_
  have hS':S2.hs.get p=some (.cells [.ptr p 0,buf] 77 .ex):=aT hS2
  refine hk S2 ((Abv.refl p b S 0).put hS2 (.inl rfl)) ⟨h.hi,by rw [aJ hS2];exact h.old,_,buf,.inr rfl,hS',?_⟩
  rcases hb with hb|⟨m,rest,x1,x2,x3,x4,x5,x7,x6⟩
  ·exact .inl hb
  ·exact .inr ⟨m,rest,x1,x2,x3,by rw [aJ hS2];exact x4,x5,x7,by rw [aB hS2 x5];exact x6⟩
 ·refine go ?_
  refine aA hS ?_
  refine go ?_
  refine bW true (aPl (n:=1) kr) ?_
  refine go ?_
  exact hk S (.refl ..) h
theorem tM (a b:List UInt8):bC (a ++ b)=bC a ++ bC b:=by simp [bC]
theorem aBc:∀ s:List UInt8,cX (bC s)=true
 | []=>rfl
 | c :: s=>by
   show Bool.rec (motive:=fun _=>Bool) false (cX (bC s)) (V.one (.int .u8 (.ofNat c.toNat)))=true
   rw [aBc s];rfl
theorem aOc {xs mid post:List V}(hm:mid.length=xs.length):∀ {pre:List V} {off:Nat} {k:List V→Prop},off=pre.length→k (pre ++ (xs ++ post))→fR xs off (pre ++ (mid ++ post)) k
 | [],off,k,ho,h=>by
   subst ho
   show fR xs 0 (mid ++ post) k
   exact overA0 hm h
 | x :: pre,off,k,ho,h=>by
   subst ho
   show fR xs pre.length (pre ++ (mid ++ post)) fun r=>k (x :: r)
   exact aOc hm rfl h
theorem aMw {s:List UInt8}{S:St}{k:V→St→Prop}(hs:s.length ≤ 1000000)(h0:s=[]→k .nilSlice S)(h1:s ≠ []→bR (.cells (bC s) 5 .rw) S fun id S'=>k (.slice id 0 s.length s.length 1 false) S'):aU Tryz.prog #[75,9] .nilSlice (.str s) S k:=by
 conv=>whnf
 refine iV ?_
 conv=>whnf
 cases s with
 | nil=>exact h0 rfl
 | cons c s =>
   have h:=h1 sm
   rw [aL]
   refine ifK_intro (Nat.ble_eq_true_of_le ?_) h
   show ((c :: s).length * 2) ≤ 70368744177664
   omega
theorem aMx {bs s:List UInt8}{rest:List V}{m:Nat}{S:St}{k:V→St→Prop}(hb:bs.length+s.length ≤ 1000000)(hm:S.hs.get m=some (.cells (bC bs ++ rest) 5 .rw))
  (h0:s.length ≤ rest.length→bI m (some (.cells (bC (bs ++ s) ++ rest.drop s.length) 5 .rw)) S fun S'=>k (.slice m 0 (bs ++ s).length (bs.length+rest.length) 1 false) S')
  (h00:s=[]→k (.slice m 0 bs.length (bs.length+rest.length) 1 false) S)
  (h1:rest.length < s.length→bI m none S fun S'=>bR (.cells (bC (bs ++ s)) 5 .rw) S' fun id S''=>k (.slice id 0 (bs ++ s).length (bs ++ s).length 1 false) S'') :
  aU Tryz.prog #[75,9] (.slice m 0 bs.length (bs.length+rest.length) 1 false) (.str s) S k:=by
 rw [List.length_append] at h0 h1
 conv=>whnf
 refine iV ?_
 conv=>whnf
 rw [aL]
 refine aI ?_
 conv=>whnf
 refine cC (fun h=>?_) (fun h=>?_)
 ·have hle:s.length ≤ rest.length:=by have h':bs.length+s.length ≤ bs.length+rest.length:=Nat.le_of_ble_eq_true h;omega
  cases s with
  | nil=>exact h00 rfl
  | cons c s =>
    conv=>whnf
    refine aA hm ?_
    conv=>whnf
    refine ifK_intro (aBc _) ?_
    have e:bC bs ++ rest=bC bs ++ (rest.take (c :: s).length ++ rest.drop (c :: s).length):=by rw [List.take_append_drop]
    rw [e]
    refine aOc (by rw [cS,List.length_take];omega) (by rw [cS];show 0+bs.length * 1=_;omega) ?_
    have h:=h0 hle
    rw [tM,List.append_assoc] at h
    exact h
 ·have h:=h1 (by rcases Nat.lt_or_ge rest.length s.length with h'|h';exact h';exact absurd ((Nat.ble_eq_true_of_le (by show bs.length+s.length ≤ bs.length+rest.length;omega)).symm.trans h) sm)
  refine ifK_intro (Nat.ble_eq_true_of_le (by show (bs.length+s.length) * 2 ≤ _;omega)) ?_
  refine aA hm ?_
  refine cD (Nat.zero_le _) ?_
  refine bJ (by show bs.length * 1 ≤ _;simp [cS]) ?_
  refine bZ ?_
  have e:(((bC bs ++ rest).drop 0).take (bs.length * 1)) ++ bC s=bC (bs ++ s):=by
   rw [tM,List.drop_zero,Nat.mul_one,List.take_left' (cS bs)]
  show cZ (cX (bC s)) (bI m none S fun S=>bR (.cells ((((bC bs ++ rest).drop 0).take (bs.length * 1)) ++ bC s) 5 .rw) S fun id S=>k (.slice id 0 (bs.length+s.length) (bs.length+s.length) 1 false) S)
  rw [e]
  refine ifK_intro (aBc _) ?_
  exact h
attribute [local irreducible] aU
theorem aVp:bA Tryz.prog 25 19 [.tmp 4,.tmp 5] (aM Tryz.f25):=fq Tryz.f25
theorem aFp {b p:Nat}{bs s:List UInt8}{S:St}(h:Bld b S p bs)(hb:b ≤ S.next)(hl:bs.length+s.length ≤ 1000000)(hn:S.next+1 < room){k:V→St→Prop}(hk:∀ S',Abv p b S S' 1→Bld b S' p (bs ++ s)→k (.tup [.int .i64 (.ofNat s.length),.nilIface]) S'):RC Tryz.prog 25 [.ptr p 0,.str s] S k:=by
 refine RC.run mixed aV (aH aVp ?_)
 refine enter ?_
 refine go ?_
 refine uR h fun S1 hA1 h1=>?_
 have hn1:=hA1.hi
 have hn2:=hA1.lo
 obtain ⟨a,buf,ha,hS,hB⟩:=h1.at'
 refine go ?_
 refine aA hS ?_
 refine go ?_
 rcases hB with ⟨rfl,rfl⟩|⟨m,rest,rfl,x2,x3,x4,x5,x7,x6⟩
 ·refine go ?_
  refine aMw om (fun h0=>?_) (fun hne=>?_)
  ·subst h0
   refine go ?_
   refine aA hS ?_
   refine aX (v:=.nilSlice) rfl sm kr rfl sm ?_
   refine aD h.hi fun S2 hS2=>?_
   refine go ?_
   exact hk S2 ((hA1.put hS2 (.inl rfl)).le om) ⟨h.hi,by rw [aJ hS2];have:=h.old;omega,_,_,ha,aT hS2,.inl ⟨rfl,rfl⟩⟩
  ·refine aF om fun S2 hS2=>?_
   refine go ?_
   have hpn:p ≠ S1.next:=by have:=h1.old;omega
   refine aA (by rw [aC hS2 hpn];exact hS) ?_
   refine aX (v:=.slice S1.next 0 s.length s.length 1 false) rfl sm kr rfl sm ?_
   refine aD h.hi fun S3 hS3=>?_
   refine go ?_
   rw [aL]
   refine go ?_
   have hA3:Abv p b S S3 1:=(Abv.new hA1 hS2 hb om).put hS3 (.inl rfl)
   refine hk S3 hA3 ⟨h.hi,by have:=h.old;have:=hA3.lo;omega,_,_,ha,aT hS3,.inr ⟨S1.next,[],by simp,by omega,by omega,by rw [aJ hS3,aK hS2];omega,Ne.symm hpn,by have:=List.length_pos_iff.2 hne;simpa using this,?_⟩⟩
   rw [aB hS3 (Ne.symm hpn),List.append_nil]
   exact aS hS2
 ·refine go ?_
  refine aMx hl x6 (fun hle=>?_) (fun h0=>?_) (fun hgt=>?_)
  ·refine aD x3 fun S2 hS2=>?_
   refine go ?_
   refine aA (by rw [aB hS2 (Ne.symm x5)];exact hS) ?_
   refine aX (v:=.slice m 0 (bs ++ s).length (bs.length+rest.length) 1 false) rfl sm kr rfl sm ?_
   refine aD h.hi fun S3 hS3=>?_
   refine go ?_
   rw [aL]
   refine go ?_
   have hA3:Abv p b S S3 1:=((hA1.put hS2 (.inr x2)).put hS3 (.inl rfl)).le om
   refine hk S3 hA3 ⟨h.hi,by have:=h.old;have:=hA3.lo;omega,_,_,ha,aT hS3,.inr ⟨m,rest.drop s.length,by simp;omega,x2,x3,by rw [aJ hS3,aJ hS2];omega,x5,by simp;omega,?_⟩⟩
   rw [aB hS3 x5]
   exact aT hS2
  ·subst h0
   refine go ?_
   refine aA hS ?_
   refine aX (v:=.slice m 0 bs.length (bs.length+rest.length) 1 false) rfl sm kr rfl sm ?_
   refine aD h.hi fun S3 hS3=>?_
   refine go ?_
   have hA3:Abv p b S S3 1:=(hA1.put hS3 (.inl rfl)).le om
   refine hk S3 hA3 ⟨h.hi,by have:=h.old;have:=hA3.lo;omega,_,_,ha,aT hS3,.inr ⟨m,rest,by simp,x2,x3,by rw [aJ hS3];omega,x5,by simpa using x7,?_⟩⟩
   rw [aB hS3 x5,List.append_nil]
   exact x6
  ·refine aD x3 fun S2 hS2=>?_
   refine aF (by rw [aJ hS2];omega) fun S3 hS3=>?_
   refine go ?_
   have hn3:S2.next=S1.next:=aJ hS2
   have hpn:p ≠ S2.next:=by have:=h1.old;omega
   refine aA (by rw [aC hS3 hpn,aB hS2 (Ne.symm x5)];exact hS) ?_
   refine aX (v:=.slice S2.next 0 (bs ++ s).length (bs ++ s).length 1 false) rfl sm kr rfl sm ?_
   refine aD h.hi fun S4 hS4=>?_
   refine go ?_
   rw [aL]
   refine go ?_
   have hA3:Abv p b S S4 1:=(Abv.new (hA1.put hS2 (.inr x2)) hS3 hb om).put hS4 (.inl rfl)
   refine hk S4 hA3 ⟨h.hi,by have:=h.old;have:=hA3.lo;omega,_,_,ha,aT hS4,.inr ⟨S2.next,[],by simp,by omega,by omega,by rw [aJ hS4,aK hS3];omega,Ne.symm hpn,by simp;omega,?_⟩⟩
   rw [aB hS4 (Ne.symm hpn),List.append_nil]
   exact aS hS3
end
section
theorem aKm {c:UInt8}{i2:Nat}{e2:TypeId}{fl2:Fl}{S:St}{k:V→St→Prop}(hx:S.hs.get i2=some (.cells (bC [c]) e2 fl2))(h1:bR (.cells (bC [c]) 5 .rw) S fun id S'=>k (.slice id 0 1 1 1 false) S'):aU Tryz.prog #[75,75] .nilSlice (.slice i2 0 1 1 1 true) S k:=by
 conv=>whnf
 refine aA hx ?_
 conv=>whnf
 exact h1
theorem aKn {bs:List UInt8}{c:UInt8}{rest:List V}{m i2:Nat}{e2:TypeId}{fl2:Fl}{S:St}{k:V→St→Prop}(hx:S.hs.get i2=some (.cells (bC [c]) e2 fl2))(hb:bs.length ≤ 1000000)(hm:S.hs.get m=some (.cells (bC bs ++ rest) 5 .rw))
  (h0:1 ≤ rest.length→bI m (some (.cells (bC (bs ++ [c]) ++ rest.drop 1) 5 .rw)) S fun S'=>k (.slice m 0 (bs ++ [c]).length (bs.length+rest.length) 1 false) S')
  (h1:bI m none S fun S'=>bR (.cells (bC (bs ++ [c])) 5 .rw) S' fun id S''=>k (.slice id 0 (bs ++ [c]).length (bs ++ [c]).length 1 false) S'') :
  aU Tryz.prog #[75,75] (.slice m 0 bs.length (bs.length+rest.length) 1 false) (.slice i2 0 1 1 1 true) S k:=by
 rw [List.length_append] at h0 h1
 conv=>whnf
 refine aA hx ?_
 conv=>whnf
 refine aI ?_
 conv=>whnf
 refine cC (fun h=>?_) (fun h=>?_)
 ·have hle:1 ≤ rest.length:=by have h':bs.length+1 ≤ bs.length+rest.length:=Nat.le_of_ble_eq_true h;omega
  conv=>whnf
  refine aA hm ?_
  conv=>whnf
  refine ifK_intro (aBc [c]) ?_
  have e:bC bs ++ rest=bC bs ++ (rest.take 1 ++ rest.drop 1):=by rw [List.take_append_drop]
  rw [e]
  refine aOc (xs:=bC [c]) (by rw [cS,List.length_take];show _=1;omega) (by rw [cS];show 0+bs.length * 1=_;omega) ?_
  have h:=h0 hle
  rw [tM,List.append_assoc] at h
  exact h
 ·have h:=h1
  refine ifK_intro (Nat.ble_eq_true_of_le (by show (bs.length+1) * 2 ≤ _;omega)) ?_
  refine aA hm ?_
  refine cD (Nat.zero_le _) ?_
  refine bJ (by show bs.length * 1 ≤ _;simp [cS]) ?_
  refine bZ ?_
  have e:(((bC bs ++ rest).drop 0).take (bs.length * 1)) ++ bC [c]=bC (bs ++ [c]):=by
   rw [tM,List.drop_zero,Nat.mul_one,List.take_left' (cS bs)]
  show cZ (cX (bC [c])) (bI m none S fun S=>bR (.cells ((((bC bs ++ rest).drop 0).take (bs.length * 1)) ++ bC [c]) 5 .rw) S fun id S=>k (.slice id 0 (bs.length+1) (bs.length+1) 1 false) S)
  rw [e]
  refine ifK_intro (aBc _) ?_
  exact h
attribute [local irreducible] aU bR eG bI
theorem aVn:bA Tryz.prog 190 17 [.tmp 4] (aM Tryz.f190):=fq Tryz.f190
theorem aOH {b p:Nat}{bs:List UInt8}{c:UInt8}{S:St}(h:Bld b S p bs)(hb:b ≤ S.next)(hl:bs.length ≤ 1000000)(hn:S.next+2 < room){k:V→St→Prop}(hk:∀ S',Abv p b S S' 2→Bld b S' p (bs ++ [c])→k .nilIface S'):RC Tryz.prog 190 [.ptr p 0,.int .u8 (.ofNat c.toNat)] S k:=by
 refine RC.run mixed aV (aH aVn ?_)
 refine enter ?_
 refine go ?_
 refine uR h fun S1 hA1 h1=>?_
 have hn1:=hA1.hi
 have hn2:=hA1.lo
 have hold:=h1.old
 obtain ⟨a,buf,ha,hS,hB⟩:=h1.at'
 refine go ?_
 refine aA hS ?_
 refine go ?_
 refine aF (S:=S1) (o:=.cells (bC [c]) 5 .ex) om fun Sx hSx=>?_
 refine go ?_
 have hA2:Abv p b S Sx 1:=Abv.new hA1 hSx hb om
 have hnx:=aK hSx
 have hx:Sx.hs.get S1.next=some (.cells (bC [c]) 5 .ex):=aS hSx
 have hpx:p ≠ S1.next:=by omega
 have hSp:Sx.hs.get p=some (.cells [a,buf] 77 .ex):=by rw [aC hSx hpx];exact hS
 rcases hB with ⟨rfl,rfl⟩|⟨m,rest,rfl,x2,x3,x4,x5,x7,x6⟩
 ·refine aKm hx ?_
  refine aF om fun S2 hS2=>?_
  refine go ?_
  have hpn:p ≠ Sx.next:=by omega
  refine aA (by rw [aC hS2 hpn];exact hSp) ?_
  refine aX (v:=.slice Sx.next 0 1 1 1 false) rfl sm kr rfl sm ?_
  refine aD h.hi fun S3 hS3=>?_
  refine go ?_
  have hA3:Abv p b S S3 2:=(Abv.new hA2 hS2 hb om).put hS3 (.inl rfl)
  refine hk S3 hA3 ⟨h.hi,by have:=h.old;have:=hA3.lo;omega,_,_,ha,aT hS3,.inr ⟨Sx.next,[],by simp,by omega,by omega,by rw [aJ hS3,aK hS2];omega,Ne.symm hpn,by simp,?_⟩⟩
  rw [aB hS3 (Ne.symm hpn),List.append_nil]
  exact aS hS2
 ·have hm:Sx.hs.get m=some (.cells (bC bs ++ rest) 5 .rw):=by rw [aC hSx om];exact x6
  refine aKn hx hl hm (fun hle=>?_) ?_
  ·refine aD x3 fun S2 hS2=>?_
   refine go ?_
   refine aA (by rw [aB hS2 (Ne.symm x5)];exact hSp) ?_
   refine aX (v:=.slice m 0 (bs ++ [c]).length (bs.length+rest.length) 1 false) rfl sm kr rfl sm ?_
   refine aD h.hi fun S3 hS3=>?_
   refine go ?_
   have hA3:Abv p b S S3 2:=((hA2.put hS2 (.inr x2)).put hS3 (.inl rfl)).le om
   refine hk S3 hA3 ⟨h.hi,by have:=h.old;have:=hA3.lo;omega,_,_,ha,aT hS3,.inr ⟨m,rest.drop 1,by simp;omega,x2,x3,by rw [aJ hS3,aJ hS2];omega,x5,by simp;omega,?_⟩⟩
   rw [aB hS3 x5]
   exact aT hS2
  ·refine aD x3 fun S2 hS2=>?_
   have hn3:S2.next=Sx.next:=aJ hS2
   refine aF om fun S3 hS3=>?_
   refine go ?_
   have hpn:p ≠ S2.next:=by omega
   refine aA (by rw [aC hS3 hpn,aB hS2 (Ne.symm x5)];exact hSp) ?_
   refine aX (v:=.slice S2.next 0 (bs ++ [c]).length (bs ++ [c]).length 1 false) rfl sm kr rfl sm ?_
   refine aD h.hi fun S4 hS4=>?_
   refine go ?_
   have hA3:Abv p b S S4 2:=(Abv.new (hA2.put hS2 (.inr x2)) hS3 hb om).put hS4 (.inl rfl)
   refine hk S4 hA3 ⟨h.hi,by have:=h.old;have:=hA3.lo;omega,_,_,ha,aT hS4,.inr ⟨S2.next,[],by simp,by omega,by omega,by rw [aJ hS4,aK hS3];omega,Ne.symm hpn,by simp,?_⟩⟩
   rw [aB hS4 (Ne.symm hpn),List.append_nil]
   exact aS hS3
theorem aTv:bA Tryz.prog 30 8 [.tmp 2] (aM Tryz.f30):=fq Tryz.f30
theorem aBf {b p:Nat}{bs:List UInt8}{S:St}(h:Bld b S p bs){k:V→St→Prop}(hk:k (.int .i64 (.ofNat bs.length)) S):RC Tryz.prog 30 [.ptr p 0] S k:=by
 obtain ⟨a,buf,ha,hS,hB⟩:=h.at'
 refine RC.run mixed aV (aH aTv ?_)
 refine enter ?_
 refine go ?_
 refine aA hS ?_
 rcases hB with ⟨rfl,rfl⟩|⟨m,rest,rfl,x2,x3,x4,x5,x7,x6⟩
 ·refine go ?_
  exact hk
 ·refine go ?_
  exact hk
theorem aTL:bA Tryz.prog 26 14 [.tmp 2] (aM Tryz.f26):=fq Tryz.f26
theorem wC {b p:Nat}{bs:List UInt8}{S:St}(h:Bld b S p bs)(hl:bs.length ≤ 1000000){k:V→St→Prop}(hk:∀ S',Abv p b S S' 12→k (.str bs) S'):RC Tryz.prog 26 [.ptr p 0] S k:=by
 obtain ⟨a,buf,ha,hS,hB⟩:=h.at'
 refine RC.run mixed aV (aH aTL ?_)
 refine enter ?_
 refine go ?_
 refine xX ?_
 refine cA (v:=buf) rfl (fun Q hQ=>aA hS (aE kr _ rfl rfl hQ)) ?_
 rcases hB with ⟨rfl,rfl⟩|⟨m,rest,rfl,x2,x3,x4,x5,x7,x6⟩
 ·refine xX ?_
  refine cA (v:=.nilSlice) rfl (fun Q hQ=>aA hS (aE kr _ rfl rfl hQ)) ?_
  refine xX ?_
  refine cI (A:=fun Q=>Q (.str []) ⟨S.hp,Nat.add S.next 12⟩) (pe':=[]) rfl (fun Q hQ=>by (conv=>whnf);exact hQ) (fun Q hQ=>by (conv=>whnf);exact hQ) ?_
  refine n_dopA ?_
  refine xX ?_
  refine cM (.inl kr) (.inr fun Q hQ=>by (conv=>whnf);exact hQ) rfl ?_
  refine cM (.inl kr) (.inr fun Q hQ=>aA (S:=⟨S.hp,_⟩) hS (aE kr _ rfl rfl hQ)) rfl ?_
  refine cM (.inl kr) (.inr fun Q hQ=>by (conv=>whnf);exact hQ) rfl ?_
  refine cM (.inl kr) (.inr fun Q hQ=>aA (S:=⟨S.hp,_⟩) hS (aE kr _ rfl rfl hQ)) rfl ?_
  refine xX ?_
  refine go ?_
  exact hk _ ⟨fun _ _ _=>rfl,Nat.le_add_right _ _,Nat.le_refl _⟩
 ·have h0:Nat.blt 0 (bs.length+rest.length)=true:=Nat.ble_eq_true_of_le x7
  refine xX ?_
  refine cA (v:=.ptr m 0) rfl (fun Q hQ=>by (conv=>whnf);exact ifK_intro h0 hQ) ?_
  refine xX ?_
  refine cA (v:=.slice m 0 bs.length (bs.length+rest.length) 1 false) rfl (fun Q hQ=>aA hS (aE kr _ rfl rfl hQ)) ?_
  refine xX ?_
  have hS':(⟨S.hp,Nat.add S.next 12⟩:St).hs.get p=some (.cells [a,.slice m 0 bs.length (bs.length+rest.length) 1 false] 77 .ex):=hS
  have x6':(⟨S.hp,Nat.add S.next 12⟩:St).hs.get m=some (.cells (bC bs ++ rest) 5 .rw):=x6
  cases bs with
  | nil =>
    refine cI (A:=fun Q=>Q (.str []) ⟨S.hp,Nat.add S.next 12⟩) (pe':=[]) rfl (fun Q hQ=>by (conv=>whnf);exact hQ) (fun Q hQ=>by (conv=>whnf);exact hQ) ?_
    refine n_dopA ?_
    refine xX ?_
    refine cM (.inl kr) (.inr fun Q hQ=>by (conv=>whnf);exact hQ) rfl ?_
    refine cM (.inl kr) (.inr fun Q hQ=>aA (S:=⟨S.hp,_⟩) hS (aE kr _ rfl rfl hQ)) (dN _ _ _ _ _ _) ?_
    refine cM (.inl kr) (.inr fun Q hQ=>by (conv=>whnf);exact ifK_intro h0 hQ) (aAD _ _) ?_
    refine cM (.inl kr) (.inr fun Q hQ=>aA (S:=⟨S.hp,_⟩) hS (aE kr _ rfl rfl hQ)) (dN _ _ _ _ _ _) ?_
    refine xX ?_
    refine go ?_
    exact hk _ ⟨fun _ _ _=>rfl,Nat.le_add_right _ _,Nat.le_refl _⟩
  | cons c0 bs0 =>
    have hle:(c0 :: bs0).length ≤ 9223372036854775807:=by omega
    have htk:((bC (c0 :: bs0) ++ rest).drop 0).take (c0 :: bs0).length=bC (c0 :: bs0):=by rw [List.drop_zero,List.take_left' (cS _)]
    refine cI (A:=fun Q=>bI m (some (.cells (bC (c0 :: bs0) ++ rest) 5 .ro)) ⟨S.hp,Nat.add S.next 12⟩ fun S'=>Q (.str (c0 :: bs0)) S') (pe':=[]) rfl (fun Q hQ=>by (conv=>whnf);exact hQ) (fun Q hQ=>by
     (conv=>whnf)
     refine ifK_intro (Nat.ble_eq_true_of_le hle) ?_
     (conv=>whnf)
     refine aA x6' ?_
     refine ifK_intro kr (ifK_intro kr ?_)
     refine (show ∀ {q:Prop},q→wrK .rw q from fun h=>h) ?_
     refine cD (Nat.zero_le _) ?_
     refine bJ (by simp [bC]) ?_
     rw [htk]
     exact fG hQ) ?_
    refine aD x3 fun S2 hS2=>?_
    refine n_dopA ?_
    refine xX ?_
    refine cM (.inl kr) (.inr fun Q hQ=>by (conv=>whnf);exact hQ) (eI _ _) ?_
    refine cM (.inl kr) (.inr fun Q hQ=>aA (S:=⟨S.hp,_⟩) hS (aE kr _ rfl rfl hQ)) (dN _ _ _ _ _ _) ?_
    refine cM (.inl kr) (.inr fun Q hQ=>by (conv=>whnf);exact ifK_intro h0 hQ) (aAD _ _) ?_
    refine cM (.inl kr) (.inr fun Q hQ=>aA (S:=⟨S.hp,_⟩) hS (aE kr _ rfl rfl hQ)) (dN _ _ _ _ _ _) ?_
    refine xX ?_
    refine go ?_
    have hn2:S2.next=S.next+12:=aJ hS2
    exact hk _ ⟨fun id h1 _=>by rw [aB hS2 om];rfl,by omega,by omega⟩
end
section
attribute [local irreducible] aU bR eG bI
theorem aLv {v:List UInt8}(h:v ∈ jN){S:St}{k:V→St→Prop}(hk:k (.tup [.str (nD v),.int .i64 0]) S):RC Tryz.prog 63 [.str v] S k:=by
 simp only [jN,List.mem_cons,List.not_mem_nil,or_false] at h
 rcases h with rfl|rfl|rfl|rfl|rfl|rfl|rfl
 all_goals exact RC.kern 60 kr hk
def aDV:List V:=[.int .u8 92,.int .u8 92,.int .u8 10,.int .u8 110,.int .u8 34,.int .u8 34]
theorem aLo {S:St}{k:V→St→Prop}(hk:k (.agg aDV) S):RC Tryz.prog 188 [] S k:=RC.kern 10 kr hk
theorem aSc:bA Tryz.prog 184 76 [.tmp 6,.tmp 7,.tmp 8] (aM Tryz.f184):=fq Tryz.f184
theorem aDA:∀ (v:List UInt8) (j:Nat) (hj:j < v.length),∃ r,iF v=iF (v.take j) ++ (wJ v[j] ++ r)
 | c :: v,0,_=>⟨iF v,rfl⟩
 | c :: v,j+1,hj=>by
   obtain ⟨r,h⟩:=aDA v j (by simpa using hj)
   exact ⟨r,by simp only [iF,List.take_succ_cons,List.getElem_cons_succ];rw [h,List.append_assoc]⟩
theorem aGb (c:UInt8):0 < (wJ c).length:=by unfold wJ;split <;> (try split) <;> (try split) <;> simp
theorem zV:∀ a b:List UInt8,iF (a ++ b)=iF a ++ iF b
 | [],_=>rfl
 | c :: a,b=>by simp [iF,zV a b]
theorem aBr:∀ v:List UInt8,(iF v).length ≤ 2 * v.length
 | []=>Nat.le_refl _
 | c :: v=>by
   have h:=aBr v
   have:(wJ c).length ≤ 2:=by unfold wJ;split <;> (try split) <;> (try split) <;> simp
   simp only [iF,List.length_append,List.length_cons];omega
theorem vP {S1 S2 S3 S4:St}{o:O}{o':Option O}(h2:S2.hs=S1.hs.new o)(h3:S3.hs=S2.hs.put S1.next o')(h4:S4=⟨S3.hp,Nat.add S3.next 6⟩):(∀ id,id < S1.next→S4.hs.get id=S1.hs.get id)∧S4.next=S1.next+7:=by
 have h5:=aK h2
 have h6:=aJ h3
 subst h4
 refine ⟨fun id h=>?_,by show S3.next+6=_;omega⟩
 show S3.hs.get id=_
 rw [aB h3 om,aC h2 om]
theorem aOo {v r:List UInt8}(hv:∀ c ∈ v,c.toNat ≠ 34∧c.toNat ≠ 92)(hvl:v.length ≤ 100)(hr:r.length ≤ 100000){S:St}{k:V→St→Prop}(hk:k (.tup [.str v,.int .i64 (.ofNat (iF v).length),.int .i64 0]) S):RC Tryz.prog 184 [.str (iF v ++ 34 :: r),.int .i64 3,.bool true] S k:=by
 refine RC.pure mixed aSc (v:=.tup [.str v,.int .i64 (.ofNat (iF v).length),.int .i64 0]) hk ?_
 clear hk
 have hn0:(⟨.nil,aN⟩:St).next=1000:=rfl
 generalize (⟨.nil,aN⟩:St)=S0 at *
 have hroom:room=4096:=rfl
 refine enter ?_
 refine go ?_
 refine aF om fun S1 hS1=>?_
 refine go ?_
 refine aLo ?_
 refine go ?_
 have hn1:=aK hS1
 refine aF om fun S2 hS2=>?_
 have hn2:=aK hS2
 refine go ?_
 refine aA (aS hS2) ?_
 refine go ?_
 conv=>whnf
 refine aD om fun S3 hS3=>?_
 have hn3:=aJ hS3
 have hA0:S3.hs.get S1.next=some (.cells aDV 279 .ex):=aT hS3
 have hB0:Bld 1002 S3 1000 []:=⟨by omega,by omega,.nilPtr,.nilSlice,.inl rfl,by rw [aB hS3 om,aC hS2 om,← hn0];exact aS hS1,.inl ⟨rfl,rfl⟩⟩
 rw [show S1.next=1001 by omega] at hA0 ⊢
 rw [show S0.next=1000 by omega]
 have hnx:S3.next=1002:=by omega
 clear hS1 hS2 hS3 hn0 hn1 hn2 hn3
 clear S0 S1 S2
 refine go ?_
 have hs10:∀ j,j ≤ v.length→(iF (v.take j)).length ≤ 2 * j:=fun j hj=>Nat.le_trans (aBr _) (by rw [List.length_take];omega)
 have hsl:(iF v ++ 34 :: r).length ≤ 100300:=by have:=aBr v;simp only [List.length_append,List.length_cons];omega
 have hat:∀ (j:Nat) (hj:j < v.length),(iF v ++ 34 :: r)[(iF (v.take j)).length]?=(wJ v[j])[0]?∧(wJ v[j]).length+(iF (v.take j)).length < (iF v ++ 34 :: r).length∧(1 < (wJ v[j]).length→(iF v ++ 34 :: r)[(iF (v.take j)).length+1]?=(wJ v[j])[1]?)∧(iF (v.take (j+1))).length=(iF (v.take j)).length+(wJ v[j]).length:=fun j hj=>by
  obtain ⟨x,h⟩:=aDA v j hj
  have h0:=aGb v[j]
  refine ⟨?_,?_,fun h1=>?_,?_⟩
  ·rw [h,List.append_assoc,List.getElem?_append_right (Nat.le_refl _),Nat.sub_self,List.append_assoc,List.getElem?_append_left h0]
  ·rw [h];simp only [List.length_append,List.length_cons];omega
  ·rw [h,List.append_assoc,List.getElem?_append_right om,Nat.add_sub_cancel_left,List.append_assoc,List.getElem?_append_left h1]
  ·rw [List.take_succ_eq_append_getElem hj,zV,List.length_append];simp [iF]
 have hend:(iF v ++ 34 :: r)[(iF v).length]?=some 34:=by simp
 generalize hs:iF v ++ 34 :: r=s at *
 refine LP.induct v.length (fun j E S'=>j ≤ v.length∧Kn E 76 [(0,.str s),(1,.int .i64 3),(2,.bool true),(9,.ptr 1000 0),(10,.ptr 1001 0),(11,.int .i64 (.ofNat (iF (v.take j)).length)),(12,.int .i64 222)]∧Bld 1002 S' 1000 (v.take j)∧S'.hs.get 1001=some (.cells aDV 279 .ex)∧1002 ≤ S'.next∧S'.next ≤ 1002+30 * j)
  ⟨Nat.zero_le _,kq,hB0,hA0,by omega,by omega⟩ ?_
 rintro j E S1 ⟨hj,hf,hB,hA,hn1,hn2⟩ ih
 refine LP.kn mixed hf ?_
 have hi2:=hs10 j hj
 by_cases hjl:j < v.length
 ·obtain ⟨e1,e2,e3,e4⟩:=hat j hjl
  have hc:=hv v[j] (List.getElem_mem hjl)
  have etk:v.take (j+1)=v.take j ++ [v[j]]:=List.take_succ_eq_append_getElem hjl
  rw [e4,etk] at ih
  generalize (iF (v.take j)).length=i at *
  have hwl:(v.take j).length ≤ 100:=by rw [List.length_take];omega
  generalize v.take j=w at *
  generalize v[j]=c at *
  have e0:=aGb c
  refine go ?_
  refine aZ (fun _=>?_) (fun h=>absurd h (by rw [aL];omega))
  refine go ?_
  by_cases h10:c=10
  ·subst h10
   have e5:s[i+1]?=some 110:=e3 dc
   have e6:(wJ 10).length=2:=rfl
   rw [e6] at ih e2
   refine bW _ (vZ e1) ?_
   refine go ?_
   refine bF (i+1) ?_
   refine go ?_
   refine bL (fun h=>absurd h (by rw [aL];omega)) (fun _=>?_)
   refine go ?_
   refine aA hA ?_
   conv=>whnf
   refine go ?_
   refine LP.one mixed ?_
   refine go ?_
   refine aA hA ?_
   unfold bX
   conv=>whnf
   refine go ?_
   refine aF om fun S1a hS1a=>?_
   refine go ?_
   refine aA (aS hS1a) ?_
   conv=>whnf
   refine aD om fun S1b hS1b=>?_
   have pS1b:=aT hS1b
   refine go ?_
   refine iM ?_
   refine aP rfl (by intro Q hQ;(conv=>whnf);exact hQ) ?_
   refine aP rfl (by intro Q hQ;(conv=>whnf);exact hQ) ?_
   refine aP (v:=.int .u8 (.ofNat 110)) rfl (fun Q hQ=>by (conv=>whnf);exact bW _ (vZ e5) (by (conv=>whnf);exact aI hQ)) ?_
   refine aP rfl (by intro Q hQ;(conv=>whnf);exact aI hQ) ?_
   refine cA (v:=.int .u8 92) rfl (fun Q hQ=>aA (S:=⟨S1b.hp,_⟩) pS1b (aE kr _ rfl rfl hQ)) ?_
   refine aP (v:=.bool false) rfl (fun Q hQ=>by (conv=>whnf);exact aBu hQ) ?_
   refine mO ?_
   refine sV ?_
   refine eC sm (by intro Q hQ;exact aA (S:=⟨S1b.hp,_⟩) pS1b (aE kr _ rfl rfl hQ)) (eI _ _) (.inl rfl) ?_
   refine iS ?_
   refine gO ?_
   refine vO (S1:=⟨S1b.hp,Nat.add S1b.next 6⟩) (fun Q hQ=>by (conv=>whnf);exact hQ) ?_
   obtain ⟨kS1c,qS1c⟩:=vP hS1a hS1b rfl
   have pS1c:(⟨S1b.hp,Nat.add S1b.next 6⟩:St).hs.get S1.next=_:=pS1b
   generalize (⟨S1b.hp,Nat.add S1b.next 6⟩:St)=S1c at *
   have AS1c:S1c.hs.get 1001=some (.cells aDV 279 .ex):=by rw [kS1c 1001 om];exact hA
   have BS1c:=hB.keep kS1c om
   refine go ?_
   refine bF 1 ?_
   refine go ?_
   refine LP.one mixed ?_
   refine go ?_
   refine aA AS1c ?_
   unfold bX
   conv=>whnf
   refine go ?_
   refine aF om fun S1ca hS1ca=>?_
   refine go ?_
   refine aA (aS hS1ca) ?_
   conv=>whnf
   refine aD om fun S1cb hS1cb=>?_
   have pS1cb:=aT hS1cb
   refine go ?_
   refine iM ?_
   refine aP rfl (by intro Q hQ;(conv=>whnf);exact hQ) ?_
   refine aP rfl (by intro Q hQ;(conv=>whnf);exact hQ) ?_
   refine aP (v:=.int .u8 (.ofNat 110)) rfl (fun Q hQ=>by (conv=>whnf);exact bW _ (vZ e5) (by (conv=>whnf);exact aI hQ)) ?_
   refine aP rfl (by intro Q hQ;(conv=>whnf);exact aI hQ) ?_
   refine cA (v:=.int .u8 110) rfl (fun Q hQ=>aA (S:=⟨S1cb.hp,_⟩) pS1cb (aE kr _ rfl rfl hQ)) ?_
   refine aP (v:=.bool true) rfl (fun Q hQ=>by (conv=>whnf);exact aBu hQ) ?_
   refine mO ?_
   refine sV ?_
   refine eC sm (by intro Q hQ;exact aA (S:=⟨S1cb.hp,_⟩) pS1cb (aE kr _ rfl rfl hQ)) (eI _ _) (.inl rfl) ?_
   refine iS ?_
   refine gO ?_
   refine vO (S1:=⟨S1cb.hp,Nat.add S1cb.next 6⟩) (fun Q hQ=>by (conv=>whnf);exact hQ) ?_
   obtain ⟨kS1cc,qS1cc⟩:=vP hS1ca hS1cb rfl
   have pS1cc:(⟨S1cb.hp,Nat.add S1cb.next 6⟩:St).hs.get S1c.next=_:=pS1cb
   generalize (⟨S1cb.hp,Nat.add S1cb.next 6⟩:St)=S1cc at *
   have AS1cc:S1cc.hs.get 1001=some (.cells aDV 279 .ex):=by rw [kS1cc 1001 om];exact AS1c
   have BS1cc:=BS1c.keep kS1cc om
   refine go ?_
   refine aA pS1cc ?_
   refine go ?_
   refine aOH (c:=10) BS1cc om om om fun S1cd hS1cd BS1cd=>?_
   have l1S1c:=hS1cd.lo
   have l2S1c:=hS1cd.hi
   have AS1cd:=hS1cd.at AS1cc om om
   refine go ?_
   refine bF 2 ?_
   refine go ?_
   refine LP.one mixed ?_
   refine go ?_
   refine aA AS1cd ?_
   unfold bX
   conv=>whnf
   refine go ?_
   refine aF om fun S1cda hS1cda=>?_
   refine go ?_
   refine aA (aS hS1cda) ?_
   conv=>whnf
   refine aD om fun S1cdb hS1cdb=>?_
   have pS1cdb:=aT hS1cdb
   refine go ?_
   refine iM ?_
   refine aP rfl (by intro Q hQ;(conv=>whnf);exact hQ) ?_
   refine aP rfl (by intro Q hQ;(conv=>whnf);exact hQ) ?_
   refine aP (v:=.int .u8 (.ofNat 110)) rfl (fun Q hQ=>by (conv=>whnf);exact bW _ (vZ e5) (by (conv=>whnf);exact aI hQ)) ?_
   refine aP rfl (by intro Q hQ;(conv=>whnf);exact aI hQ) ?_
   refine cA (v:=.int .u8 34) rfl (fun Q hQ=>aA (S:=⟨S1cdb.hp,_⟩) pS1cdb (aE kr _ rfl rfl hQ)) ?_
   refine aP (v:=.bool false) rfl (fun Q hQ=>by (conv=>whnf);exact aBu hQ) ?_
   refine mO ?_
   refine sV ?_
   refine eC sm (by intro Q hQ;exact aA (S:=⟨S1cdb.hp,_⟩) pS1cdb (aE kr _ rfl rfl hQ)) (eI _ _) (.inl rfl) ?_
   refine iS ?_
   refine gO ?_
   refine vO (S1:=⟨S1cdb.hp,Nat.add S1cdb.next 6⟩) (fun Q hQ=>by (conv=>whnf);exact hQ) ?_
   obtain ⟨kS1cdc,qS1cdc⟩:=vP hS1cda hS1cdb rfl
   have pS1cdc:(⟨S1cdb.hp,Nat.add S1cdb.next 6⟩:St).hs.get S1cd.next=_:=pS1cdb
   generalize (⟨S1cdb.hp,Nat.add S1cdb.next 6⟩:St)=S1cdc at *
   have AS1cdc:S1cdc.hs.get 1001=some (.cells aDV 279 .ex):=by rw [kS1cdc 1001 om];exact AS1cd
   have BS1cdc:=BS1cd.keep kS1cdc om
   refine go ?_
   refine bF 3 ?_
   refine go ?_
   refine LP.one mixed ?_
   refine go ?_
   refine bF (i+2) ?_
   refine go ?_
   exact ih _ _ hjl ⟨hjl,kq,BS1cdc,AS1cdc,by omega,by omega⟩
  ·have hb:wJ c=[c]:=by
    unfold wJ
    rw [if_neg (fun h=>hc.2 (by rw [h];rfl)),if_neg h10,if_neg (fun h=>hc.1 (by rw [h];rfl))]
   rw [hb] at e1 e2 e3 e4 ih
   refine bW _ (vZ e1) ?_
   refine go ?_
   refine bL (fun h=>absurd (UInt8.toNat_inj.1 h) h10) (fun _=>?_)
   refine go ?_
   refine bL (fun h=>absurd h hc.1) (fun _=>?_)
   refine go ?_
   refine bL (fun h=>absurd h hc.2) (fun _=>?_)
   refine go ?_
   refine aOH hB om (by have:=hwl;omega) om fun S2 hA2 hB2=>?_
   refine go ?_
   refine bF (i+1) ?_
   refine go ?_
   have:=hA2.lo
   have:=hA2.hi
   exact ih _ _ hjl ⟨hjl,kq,hB2,hA2.at hA om om,by omega,by omega⟩
 ·have hje:j=v.length:=by omega
  subst hje
  rw [List.take_length] at hf hB ⊢
  refine go ?_
  refine aZ (fun _=>?_) (fun h=>absurd h (by have:=(List.getElem?_eq_some_iff.1 hend).1;rw [aL];omega))
  refine go ?_
  refine bW _ (vZ hend) ?_
  refine go ?_
  refine wC hB om fun S2 hA2=>?_
  refine go ?_
  exact rfl
theorem aAj {v:List UInt8}(h:v ∈ jN):(∀ c ∈ v,c.toNat ≠ 34∧c.toNat ≠ 92)∧v.length ≤ 100:=by
 simp only [jN,List.mem_cons,List.not_mem_nil,or_false] at h
 rcases h with rfl|rfl|rfl|rfl|rfl|rfl|rfl <;> decide
theorem aVi:bA Tryz.prog 217 52 [.tmp 4,.tmp 5,.tmp 6] (aM Tryz.f217):=fq Tryz.f217
theorem aDe {v r:List UInt8}(h:v ∈ jN)(hr:r.length ≤ 65000){S:St}{k:V→St→Prop}(hk:k (.tup [.str v,.int .i64 (.ofNat (nD v).length),.int .i64 0]) S):RC Tryz.prog 217 [.str (nD v ++ r),.int .i64 0] S k:=by
 have hl:=aCi h
 have hread:=fun (k:V→St→Prop) hk=>aOo (r:=r) (k:=k) (S:=S) (aAj h).1 (aAj h).2 om hk
 have e1:nD v ++ r=34 :: (iF v ++ 34 :: r):=by simp [nD]
 have e2:(nD v).length=(iF v).length+2:=by simp [nD]
 have e3:(iF v ++ 34 :: r).length ≤ 65100:=by simp only [nD,List.length_cons,List.length_append,List.length_nil] at hl ⊢;omega
 rw [e1]
 rw [e2] at hk
 generalize iF v ++ 34 :: r=t at *
 have hn:(iF v).length ≤ 5:=by omega
 generalize (iF v).length=n at *
 refine RC.run mixed aV (aH aVi ?_)
 refine enter ?_
 refine go ?_
 refine aZ (fun h=>absurd h (by rw [aL,List.length_cons];show ¬ 65536 < _;omega)) (fun _=>?_)
 refine go ?_
 refine bL (a:=0) (fun h=>absurd h (by rw [aL,List.length_cons];omega)) (fun _=>?_)
 refine go ?_
 refine bF 1 ?_
 refine go ?_
 refine cN (s:=34 :: t) (l:=1) sm ?_
 refine go ?_
 refine hread _ ?_
 refine go ?_
 refine bF 1 ?_
 refine go ?_
 refine bF (1+n) ?_
 refine go ?_
 refine bF (1+n+1) ?_
 refine go ?_
 rw [show 1+n+1=n+2 by omega]
 exact hk
end
theorem aQA {f:UInt8→Bool}:∀ {s:List UInt8},(∀ c r,s=c :: r→f c=false)→nE f s=0
 | [],_=>rfl
 | c :: r,h=>tG (j:=0) sm (fun _=>h c r rfl) (Nat.zero_le _)
theorem aIK {f:UInt8→Bool}{w r:List UInt8}{d:UInt8}(hw:w.all f=true)(hd:f d=false):nE f (w ++ d :: r)=w.length :=
 tG (by rw [List.take_left];exact hw) (fun _=>by rw [List.getElem_append_right (Nat.le_refl _)];simpa using hd) sm
theorem aSH {f:UInt8→Bool}{w:List UInt8}(hw:w.all f=true):nE f w=w.length :=
 tG (by rw [List.take_length];exact hw) (fun h=>absurd h (Nat.lt_irrefl _)) (Nat.le_refl _)
theorem gZ {p:Nat}{s:List UInt8}{S:St}(h:jT S p s)(h0:∀ c r,s=c :: r→dO c.toNat=false){k:V→St→Prop}(hk:∀ S',Grew S S' p 0→jT S' p s→k (.tup []) S'):RC Tryz.prog 125 [.ptr p 0] S k :=
 aBe h fun S' e fl hfl hS=>by
  rw [aQA h0,List.drop_zero] at hS
  exact hk S' ((Grew.refl S p 0).put hS (.inl rfl)) (h.step hfl hS)
theorem zE {p:Nat}{s:List UInt8}{S:St}(h:jT S p (32 :: s))(h0:∀ c r,s=c :: r→dO c.toNat=false){k:V→St→Prop}(hk:∀ S',Grew S S' p 0→jT S' p s→k (.tup []) S'):RC Tryz.prog 125 [.ptr p 0] S k :=
 aBe h fun S' e fl hfl hS=>by
  have:nE (fun c=>dO c.toNat) (32 :: s)=1:=tG (p:=fun c=>dO c.toNat) (s:=32 :: s) (j:=1) (by simp;rfl) (fun h1=>by
   cases s with
   | nil=>simp at h1
   | cons c r=>exact h0 c r rfl) sm
  rw [this] at hS
  exact hk S' ((Grew.refl S p 0).put hS (.inl rfl)) (h.step hfl hS)
theorem xS {p:Nat}{c:UInt8}{s:List UInt8}{S:St}(h:jT S p (c :: s)){k:V→St→Prop}(hk:∀ S',Grew S S' p 0→jT S' p s→k (.bool true) S'):RC Tryz.prog 126 [.ptr p 0,.int .u8 (.ofNat c.toNat)] S k :=
 aMK h fun S' e fl hfl hS=>hk S' ((Grew.refl S p 0).put hS (.inl rfl)) (h.step hfl hS)
theorem aAO {p:Nat}{c:UInt8}{s:List UInt8}{S:St}(h:jT S p s)(hn:∀ d r,s=d :: r→d.toNat ≠ c.toNat){k:V→St→Prop}(hk:k (.bool false) S):RC Tryz.prog 126 [.ptr p 0,.int .u8 (.ofNat c.toNat)] S k:=by
 obtain ⟨e,fl,hfl,hS⟩:=h.at'
 refine RC.run mixed aV (aH aNi ?_)
 refine enter ?_
 refine go ?_
 refine aA hS ?_
 refine go ?_
 cases s with
 | nil =>
   refine go ?_
   exact hk
 | cons d r =>
   refine go ?_
   refine aA hS ?_
   refine go ?_
   refine bL (fun h=>absurd h (hn d r rfl)) (fun _=>?_)
   refine go ?_
   exact hk
theorem aJD {p:Nat}{x d:UInt8}{w r:List UInt8}{S:St}(h:jT S p (w ++ d :: r))(hw:w.all (nmB x)=true)(hd:nmB x d=false)(hl:(w ++ d :: r).length < 9223372036854775807){k:V→St→Prop}(hk:∀ S',Grew S S' p 0→jT S' p (d :: r)→k (.str w) S'):RC Tryz.prog 128 [.ptr p 0,.int .u8 (.ofNat x.toNat)] S k :=
 aNR hl h fun S' e fl hfl hS=>by
  rw [aIK hw hd,List.drop_left] at hS
  rw [aIK hw hd,List.take_left]
  exact hk S' ((Grew.refl S p 0).put hS (.inl rfl)) (h.step hfl hS)
theorem aKc {p:Nat}{w r:List UInt8}{S:St}(h:jT S p (w ++ r))(hw:w.all (fun c=>!dO c.toNat)=true)(hr:r=[] ∨ ∃ r',r=32 :: r')(hl:(w ++ r).length < 9223372036854775807)(ha:∀ c ∈ w ++ r,c.toNat < 128){k:V→St→Prop}(hk:∀ S',Grew S S' p 0→jT S' p r→k (.str w) S'):RC Tryz.prog 127 [.ptr p 0] S k :=
 aOJ hl ha h fun S' e fl hfl hS=>by
  have:nE (fun c=>!dO c.toNat) (w ++ r)=w.length:=by
   rcases hr with rfl|⟨r',rfl⟩
   ·rw [List.append_nil];exact aSH hw
   ·exact aIK hw rfl
  rw [this,List.drop_left] at hS
  rw [this,List.take_left]
  exact hk S' ((Grew.refl S p 0).put hS (.inl rfl)) (h.step hfl hS)
theorem aNk:bA Tryz.prog 176 33 [.tmp 2,.tmp 3] (aM Tryz.f176):=fq Tryz.f176
theorem aIx {p:Nat}{v r:List UInt8}{S:St}(h:jT S p (nD v ++ r))(hv:v ∈ jN)(hr:r.length ≤ 65000){k:V→St→Prop}(hk:∀ S',Grew S S' p 0→jT S' p r→k (.tup [.str v,.bool true]) S'):RC Tryz.prog 176 [.ptr p 0] S k:=by
 obtain ⟨e,fl,hfl,hS⟩:=h.at'
 have hX:v ∈ lM:=List.mem_append.2 (.inl (aHb hv).1)
 have hrd:=fun (k:V→St→Prop) hk=>aDe (k:=k) (S:=S) hv hr hk
 have hd:(nD v ++ r).drop (nD v).length=r:=List.drop_left
 have hlen:(nD v).length ≤ (nD v ++ r).length:=by simp
 generalize nD v ++ r=s at *
 generalize (nD v).length=n at *
 refine RC.run mixed aV (aH aNk ?_)
 refine enter ?_
 refine go ?_
 refine aA hS ?_
 refine go ?_
 refine hrd _ ?_
 refine go ?_
 refine aUw hX ?_
 refine go ?_
 refine aA hS ?_
 refine go ?_
 refine cN hlen ?_
 rw [hd]
 refine go ?_
 refine aA hS ?_
 refine aX (v:=.str r) rfl hfl kr rfl (Nat.zero_lt_one) ?_
 refine aD h.lt fun S2 hS2=>?_
 refine go ?_
 exact hk S2 ((Grew.refl S p 0).put hS2 (.inl rfl)) (h.step hfl hS2)
theorem f35:bA Tryz.prog 35 8 [.tmp 2,.tmp 3] (aM Tryz.f35):=fq Tryz.f35
set_option maxHeartbeats 2000000 in
theorem pX (i o n c es:Nat)(ex:Bool){S:St}{k:V→St→Prop}(h:n ≤ 64)(hk:k (.tup [.slice i o n c es ex,.int .i64 0]) S):RC Tryz.prog 35 [.slice i o n c es ex] S k:=by
 refine RC.run mixed aV (aH f35 ?_)
 generalize hK:k=K
 refine enter ?_
 refine goB ?_
 refine jH (by rw [bH];simp;omega) ?_
 refine goB ?_
 rw [← hK];exact hk
def LS (S:St)(v:V)(l:List bB):Prop:=∃ i c ex rest e fl,v=.slice i 0 l.length c 2 ex∧l.length ≤ c∧S.hs.get i=some (.cells (cellsOf l ++ rest) e fl)
theorem LS.lv {S:St}{v:V}{l:List bB}(h:LS S v l):LV S v l:=.inr h
theorem LS.mk {S:St}{i c:Nat}{ex:Bool}{l:List bB}{e:TypeId}{fl:Fl}(h:S.hs.get i=some (.cells (cellsOf l) e fl))(hc:l.length ≤ c):LS S (.slice i 0 l.length c 2 ex) l :=
 ⟨i,c,ex,[],e,fl,rfl,hc,by rw [List.append_nil];exact h⟩
theorem RC.lab2 {P:Program}(hm:P.follows .mixedOrders=true){c:FuncId}{n:Nat}{rs:List ResultVar}{code:Code}(hf:bA P c n rs code){l l':List bB}{v v':V}{S:St}(h:LV S v l)(h':LS S v' l')(news:List O)
  (hwn:∀ (a:Nat) (o:O),news[a]?=some o→o.wr=true) {v2:V} {k:V→St→Prop}
  (h0:l=[]→∀ e i,dY (pO aN [.cells (cellsOf l') e .ro]) ⟨.nil,aN+1⟩ (vQ P n rs code [.nilSlice,.slice aN 0 l'.length l'.length 2 false] (aAm 1 [i] (aN+1) S.next [] news v2)))
  (h1:∀ e e' i i',dY (pO aN [.cells (cellsOf l') e' .ro,.cells (cellsOf l) e .ro]) ⟨.nil,aN+2⟩ (vQ P n rs code [.slice (aN+1) 0 l.length l.length 2 false,.slice aN 0 l'.length l'.length 2 false] (aAm 2 [i',i] (aN+2) S.next [] news v2)))
  (hk:jL news S (k v2)):RC P c [v,v'] S k:=by
 obtain ⟨i',cap',ex',rest',e',fl',rfl,hc',hrow'⟩:=h'
 rcases h with ⟨rfl,rfl⟩|⟨i,cap,ex,rest,e,fl,rfl,hc,hrow⟩
 ·refine RC.read hm hf [i'] [.cells (cellsOf l' ++ rest') e' fl'] [.cells (cellsOf l') e' .ro] news ?_ rfl rfl ?_ ?_ (.cons .nilSlice (.cons ?_ .nil)) hwn (h0 rfl e' i') hk
  ·rintro (_|a) o h
   ·simp at h;subst h;rfl
   ·simp at h
  ·rintro (_|a) j o h1 h2
   ·simp at h1 h2;subst h1;subst h2;exact hrow'
   ·simp at h1
  ·rintro (_|a) o1 o2 h1 h2
   ·simp at h1 h2;subst h1;subst h2;exact .part (aG l')
   ·simp at h1
  ·exact .slice _ _ _ _ _ _ _ (jC.at (a:=0) rfl sm) (.inr (Nat.le_refl _)) hc' sm
 ·refine RC.read hm hf [i',i] [.cells (cellsOf l' ++ rest') e' fl',.cells (cellsOf l ++ rest) e fl] [.cells (cellsOf l') e' .ro,.cells (cellsOf l) e .ro] news ?_ rfl rfl ?_ ?_ (.cons ?_ (.cons ?_ .nil)) hwn (h1 e e' i i') hk
  ·rintro (_|_|a) o h
   ·simp at h;subst h;rfl
   ·simp at h;subst h;rfl
   ·simp at h
  ·rintro (_|_|a) j o h1 h2
   ·simp at h1 h2;subst h1;subst h2;exact hrow'
   ·simp at h1 h2;subst h1;subst h2;exact hrow
   ·simp at h1
  ·rintro (_|_|a) o1 o2 h1 h2
   ·simp at h1 h2;subst h1;subst h2;exact .part (aG l')
   ·simp at h1 h2;subst h1;subst h2;exact .part (aG l)
   ·simp at h1
  ·exact .slice _ _ _ _ _ _ _ (jC.at (a:=1) rfl sm) (.inr (Nat.le_refl _)) hc sm
  ·exact .slice _ _ _ _ _ _ _ (jC.at (a:=0) rfl sm) (.inr (Nat.le_refl _)) hc' sm
theorem qY (hL:kR Tryz.prog 60 85){m:Nat}{S:St}{x:iE × Nat}{k:V→St→Prop}(hm:S.hs.get m=some (.map (cT x.1) x.2))(ok:kS x)(hn:x.1 ≠ [])(hl:x.1.length ≤ 4096)
  (hk:bR (.cells (cellsOf (eU x)) 85 .rw) S fun id S=>k (.slice id 0 (eU x).length (eU x).length 2 false) S):RC Tryz.prog 60 [.map m] S k :=
 hL.rc (aCY hm ok.stamps ok.dist hn hl (by rw [← mV];exact hk))
theorem f27:bA Tryz.prog 27 37 [.tmp 4,.tmp 5] (aM Tryz.f27):=fq Tryz.f27
theorem kK {o:O}{S:St}{K:Nat→St→Prop}(h:bR o S K):jL [o] S (K S.next):=by cases S;exact h
set_option maxHeartbeats 4000000 in
theorem xM (hL:kR Tryz.prog 60 85){l l':List bB}{v v':V}{S:St}(h:LV S v l)(ok:nH l)(h':LS S v' l')(hlen':l'.length < 9223372036854775807)(hn':∀ q ∈ l',q.1 ∈ eL)(hv':∀ q ∈ l',q.2 ∈ lM)(hf':∀ q ∈ l',q.2 ≠ [])
  (hne:(l'.foldl cJ (l.foldl cJ ([],0))).1 ≠ []) (hR:(eU (l'.foldl cJ (l.foldl cJ ([],0)))).length ≤ 64) {k:V→St→Prop}
  (hk:bR (.cells (cellsOf (eU (l'.foldl cJ (l.foldl cJ ([],0))))) 85 .rw) S fun id S'=>k (.tup [.slice id 0 (eU (l'.foldl cJ (l.foldl cJ ([],0)))).length (eU (l'.foldl cJ (l.foldl cJ ([],0)))).length 2 false,.int .i64 0]) S'):RC Tryz.prog 27 [v,v'] S k:=by
 obtain ⟨i40,hi40,hs40⟩:=nC
 refine RC.lab2 mixed f27 h h' [.cells (cellsOf (eU (l'.foldl cJ (l.foldl cJ ([],0))))) 85 .rw] ?_ ?_ ?_ (kK hk)
 ·rintro (_|a) o h
  ·simp at h;subst h;rfl
  ·simp at h
 ·rintro rfl e i
  refine build ?_
  refine enter ?_
  refine goB ?_
  refine dR (LV.nil _) ok ?_
  refine goB ?_
  refine LP.induct0 l'.length (fun j E=>j ≤ l'.length∧Kn E 37 [(0,.nilSlice),(1,.slice aN 0 l'.length l'.length 2 false),(13,.slice aN 0 l'.length l'.length 2 false),(14,.int .i64 (.ofNat l'.length)),(15,.int .i64 (.ofNat j))]) ⟨Nat.zero_le _,kq⟩ ?_
  intro j E ⟨hjl,hf⟩ ih
  refine LP.kng mixed hf ?_
  refine goB ?_
  refine dP (fun hb=>?_) (fun hb=>?_)
  ·have hlt:j < l'.length:=by rw [bH] at hb;simpa using hb
   refine goB ?_
   refine cC (fun _=>?_) (fun h=>absurd (h.symm.trans hb) sm)
   refine goB ?_
   refine eS agg40 hi40 hs40 (j:=j) (List.getElem?_eq_getElem hlt) (show 0+j * 2=2 * j by omega) ?_
   refine goB ?_
   refine aAJ (hn' _ (List.getElem_mem hlt)) (hv' _ (List.getElem_mem hlt)) ?_
   refine goB ?_
   refine aY (j+1) rfl (by show j+1 ≤ 9223372036854775807;omega) ?_
   refine goB ?_
   refine ⟨_,⟨Nat.le_refl _,?_⟩,rfl,ih _ hlt ⟨by omega,kq⟩⟩
   repeat' (first
    | exact trivial
    | exact Nat.le_of_ble_eq_true rfl
    | exact ⟨_,rfl,.cells (aG _) (.inl rfl)⟩
    | apply And.intro)
  ·conv=>whnf
   refine goB ?_
   refine uE (LV.nil _) sm ok.full (t:=[]) (c:=0) rfl ?_
   refine goB ?_
   refine uE (LV.mk (e:=e) (fl:=.ro) rfl (Nat.le_refl _)) hlen' hf' (t:=([].foldl cJ ([],0)).1) (c:=([].foldl cJ ([],0)).2) rfl ?_
   refine goB ?_
   refine qY hL (x:=l'.foldl cJ ([].foldl cJ ([],0))) rfl (.puts _ (.puts _ .nil)) (by simpa using hne) (by have:=mV (l'.foldl cJ ([].foldl cJ ([],0)));omega) ?_
   refine goB ?_
   refine pX _ _ _ _ _ _ hR ?_
   refine goB ?_
   refine ⟨[_],dJ _,?_,.tup (.cons (.slice _ _ _ _ _ _ _ (sE.new (a:=0) rfl (Nat.le_of_ble_eq_true rfl) sm) (.inr (Nat.le_refl _)) (Nat.le_refl _) sm) (.cons (.int _ _) .nil)),trivial,⟨⟨_,rfl,.cells (aG _) (.inl rfl)⟩,trivial⟩⟩
   intro g hg
   rw [List.mem_singleton] at hg
   subst hg
   exact Nat.le_of_ble_eq_true rfl
 ·intro e e' i i'
  refine build ?_
  refine enter ?_
  refine goB ?_
  refine dR (LV.mk (e:=e) (fl:=.ro) rfl (Nat.le_refl _)) ok ?_
  refine goB ?_
  refine LP.induct0 l'.length (fun j E=>j ≤ l'.length∧Kn E 37 [(0,.slice (aN+1) 0 l.length l.length 2 false),(1,.slice aN 0 l'.length l'.length 2 false),(13,.slice aN 0 l'.length l'.length 2 false),(14,.int .i64 (.ofNat l'.length)),(15,.int .i64 (.ofNat j))]) ⟨Nat.zero_le _,kq⟩ ?_
  intro j E ⟨hjl,hf⟩ ih
  refine LP.kng mixed hf ?_
  refine goB ?_
  refine dP (fun hb=>?_) (fun hb=>?_)
  ·have hlt:j < l'.length:=by rw [bH] at hb;simpa using hb
   refine goB ?_
   refine cC (fun _=>?_) (fun h=>absurd (h.symm.trans hb) sm)
   refine goB ?_
   refine eS agg40 hi40 hs40 (j:=j) (List.getElem?_eq_getElem hlt) (show 0+j * 2=2 * j by omega) ?_
   refine goB ?_
   refine aAJ (hn' _ (List.getElem_mem hlt)) (hv' _ (List.getElem_mem hlt)) ?_
   refine goB ?_
   refine aY (j+1) rfl (by show j+1 ≤ 9223372036854775807;omega) ?_
   refine goB ?_
   refine ⟨_,⟨Nat.le_refl _,?_⟩,rfl,ih _ hlt ⟨by omega,kq⟩⟩
   repeat' (first
    | exact trivial
    | exact Nat.le_of_ble_eq_true rfl
    | exact ⟨_,rfl,.cells (aG _) (.inl rfl)⟩
    | apply And.intro)
  ·conv=>whnf
   refine goB ?_
   refine uE (LV.mk (e:=e) (fl:=.ro) rfl (Nat.le_refl _)) ok.lt ok.full (t:=[]) (c:=0) rfl ?_
   refine goB ?_
   refine uE (LV.mk (e:=e') (fl:=.ro) rfl (Nat.le_refl _)) hlen' hf' (t:=(l.foldl cJ ([],0)).1) (c:=(l.foldl cJ ([],0)).2) rfl ?_
   refine goB ?_
   refine qY hL (x:=l'.foldl cJ (l.foldl cJ ([],0))) rfl (.puts _ (.puts _ .nil)) (by simpa using hne) (by have:=mV (l'.foldl cJ (l.foldl cJ ([],0)));omega) ?_
   refine goB ?_
   refine pX _ _ _ _ _ _ hR ?_
   refine goB ?_
   refine ⟨[_],dJ _,?_,.tup (.cons (.slice _ _ _ _ _ _ _ (sE.new (a:=0) rfl (Nat.le_of_ble_eq_true rfl) sm) (.inr (Nat.le_refl _)) (Nat.le_refl _) sm) (.cons (.int _ _) .nil)),trivial,⟨⟨_,rfl,.cells (aG _) (.inl rfl)⟩,trivial⟩⟩
   intro g hg
   rw [List.mem_singleton] at hg
   subst hg
   exact Nat.le_of_ble_eq_true rfl
end Go.Am
namespace Go.Am
open Go.Proofs
section
theorem fW:∀ (a b:List bB),cellsOf (a ++ b)=cellsOf a ++ cellsOf b
 | [],_=>rfl
 | q :: a,b=>by simp [cellsOf,fW a b]
attribute [local irreducible] fN hC oZ eG bR bI
theorem aIW {S:St}{id2:Nat}{q:bB}{e2:TypeId}{fl2:Fl}(hx:S.hs.get id2=some (.cells (cellsOf [q]) e2 fl2)){k:V→St→Prop}
  (hk:bR (.cells (cellsOf [q]) 85 .rw) S fun id S=>k (.slice id 0 1 1 2 false) S):aU Tryz.prog #[29,29] .nilSlice (.slice id2 0 1 1 2 true) S k:=by
 conv=>whnf
 refine aA hx ?_
 conv=>whnf
 refine bJ (n:=2) (by simp [cellsOf]) ?_
 conv=>whnf
 exact hk
set_option maxHeartbeats 1000000 in
theorem aIV {S:St}{id id2:Nat}{o:List bB}{q:bB}{e2:TypeId}{fl2:Fl}(ho:S.hs.get id=some (.cells (cellsOf o) 85 .rw))(hx:S.hs.get id2=some (.cells (cellsOf [q]) e2 fl2))(hlen:o.length < 4096){k:V→St→Prop}
  (hk:bI id none S fun S=>bR (.cells (cellsOf (o ++ [q])) 85 .rw) S fun id S=>k (.slice id 0 (o.length+1) (o.length+1) 2 false) S):aU Tryz.prog #[29,29] (.slice id 0 o.length o.length 2 false) (.slice id2 0 1 1 2 true) S k:=by
 rw [fW] at hk
 conv=>whnf
 refine aA hx ?_
 conv=>whnf
 refine bJ (n:=2) (by simp [cellsOf]) ?_
 conv=>whnf
 refine aI ?_
 conv=>whnf
 refine cC (fun h=>?_) (fun _=>?_)
 ·have:o.length+1 ≤ o.length:=Nat.le_of_ble_eq_true h
  omega
 conv=>whnf
 refine cC (fun _=>?_) (fun h=>?_)
 ·refine aA ho ?_
  conv=>whnf
  refine bJ (by rw [bD];show o.length * 2 ≤ 2 * o.length;omega) ?_
  conv=>whnf
  refine bZ ?_
  conv=>whnf
  rw [List.take_of_length_le (by rw [bD];show 2 * o.length ≤ o.length * 2;omega)]
  exact hk
 ·have h1:Nat.ble ((o.length+1) * 33) 70368744177664=true:=Nat.ble_eq_true_of_le om
  exact absurd (h.symm.trans h1) sm
end
end Go.Am
namespace Go.Am
open Go.Proofs
attribute [local irreducible] fN fI fB bX eR aU evCode evOps rX kOp aAv wW uM wX kGc aKT aKS kDr kMg drOps eN kT sl
theorem f40:bA Tryz.prog 40 8 [.tmp 3] (aM Tryz.f40):=fq Tryz.f40
set_option maxHeartbeats 2000000 in
theorem aFo {s:List UInt8}(hs:s ∈ eL){S:St}{p:Nat}{e:TypeId}{fl:Fl}(hp:S.hs.get p=some (.cells [.str [95,95]] e fl)){k:V→St→Prop}(hk:k (.bool (!fD s)) S):RC Tryz.prog 40 [.str s,.ptr p 0] S k:=by
 refine RC.read mixed f40 (l:=[.str s,.ptr aN 0]) [p] [.cells [.str [95,95]] e fl] [.cells [.str [95,95]] e .ro] [] (v2:=.bool (!fD s)) ?_ rfl rfl ?_ ?_ (.cons (.str _) (.cons (.ptr _ (jC.at (a:=0) rfl sm)) .nil)) sm ?_ hk
 ·rintro (_|a) o h
  ·simp at h;subst h;rfl
  ·simp at h
 ·rintro (_|a) j o h1 h2
  ·simp at h1 h2;subst h1;subst h2;exact hp
  ·simp at h1
 ·rintro (_|a) o1 o2 h1 h2
  ·simp at h1 h2;subst h1;subst h2;exact .cells (.cons (.str _) .nil) (.inr (.inr rfl))
  ·simp at h1
 ·refine build ?_
  refine enter ?_
  refine goB ?_
  refine aUb hs ?_
  refine goB ?_
  refine dP (fun hb=>?_) (fun hb=>?_)
  ·conv=>whnf
   refine goB ?_
   rw [hb]
   exact ⟨[],List.nodup_nil,by simp,.bool _,trivial,trivial⟩
  ·conv=>whnf
   refine goB ?_
   rw [hb]
   exact ⟨[],List.nodup_nil,by simp,.bool _,trivial,trivial⟩
def lI (o:List bB)(m:Nat):V:=match o with|[]=>.nilSlice|q :: o=>.slice m 0 (q :: o).length (q :: o).length 2 false
def lH (o:List bB):List O:=match o with|[]=>[]|q :: o=>[.cells (cellsOf (q :: o)) 85 .rw]
noncomputable def aOb (o l:List bB)(e e2:TypeId):St:=match o with
 | []=>rY [(aN,.cells (cellsOf l) e .ro),(aN+1,.cells [.str [95,95]] e2 .ro)] (aN+2)
 | q :: o=>rY [(aN,.cells (cellsOf l) e .ro),(aN+1,.cells [.str [95,95]] e2 .ro),(aN+2,.cells (cellsOf (q :: o)) 85 .rw)] (aN+3)
theorem rG {o:List bB}:∀ (a:Nat) (x:O),(lH o)[a]?=some x→x.wr=true:=by
 cases o with
 | nil=>simp [lH]
 | cons q o =>
   rintro (_|a) x h
   ·simp [lH] at h;subst h;rfl
   ·simp [lH] at h
theorem LPB.lp' {P:Program}(b:Nat){c:Code}{E:Env}{S:St}{k:KT}(hb:S.next=b)(h:LPB b P c E S k):LP P none c E [] S k:=by subst hb;exact h.lp
theorem f39:bA Tryz.prog 39 28 [.tmp 4,.tmp 5] (aM Tryz.f39):=fq Tryz.f39
set_option maxHeartbeats 4000000 in
theorem vG {l:List bB}{v:V}{S:St}(h:LV S v l)(ok:nH l){p:Nat}{e2:TypeId}{fl2:Fl}(hp:S.hs.get p=some (.cells [.str [95,95]] e2 fl2)){k:V→St→Prop}
  (hk:jL (lH (l.filter (fun q=>!fD q.1))) S (k (.tup [lI (l.filter (fun q=>!fD q.1)) S.next,.int .i64 0]))):RC Tryz.prog 39 [v,.func (.func 40) [] [.ptr p 0]] S k:=by
 obtain ⟨i40,hi40,hs40⟩:=nC
 rcases h with ⟨rfl,rfl⟩|⟨i,cap,ex,rest,e,fl,rfl,hc,hrow⟩
 ·refine RC.read mixed f39 (l:=[.nilSlice,.func (.func 40) [] [.ptr aN 0]]) [p] [.cells [.str [95,95]] e2 fl2] [.cells [.str [95,95]] e2 .ro] [] (v2:=.tup [.nilSlice,.int .i64 0]) ?_ rfl rfl ?_ ?_ (.cons .nilSlice (.cons (.func _ .nil (.cons (.ptr _ (jC.at (a:=0) rfl sm)) .nil)) .nil)) sm ?_ hk
  ·rintro (_|a) o h
   ·simp at h;subst h;rfl
   ·simp at h
  ·rintro (_|a) j o h1 h2
   ·simp at h1 h2;subst h1;subst h2;exact hp
   ·simp at h1
  ·rintro (_|a) o1 o2 h1 h2
   ·simp at h1 h2;subst h1;subst h2;exact .cells (.cons (.str _) .nil) (.inr (.inr rfl))
   ·simp at h1
  ·refine build ?_
   refine enter ?_
   refine goB ?_
   refine dR (LV.nil _) ok ?_
   refine goB ?_
   refine LP.one mixed ?_
   refine goB ?_
   exact ⟨[],List.nodup_nil,by simp,.tup (.cons .nilSlice (.cons (.int _ _) .nil)),trivial,trivial⟩
 ·refine RC.read mixed f39 (l:=[.slice aN 0 l.length l.length 2 false,.func (.func 40) [] [.ptr (aN+1) 0]]) [i,p] [.cells (cellsOf l ++ rest) e fl,.cells [.str [95,95]] e2 fl2] [.cells (cellsOf l) e .ro,.cells [.str [95,95]] e2 .ro] (lH (l.filter (fun q=>!fD q.1))) (v2:=.tup [lI (l.filter (fun q=>!fD q.1)) S.next,.int .i64 0]) ?_ rfl rfl ?_ ?_
   (.cons (.slice _ _ _ _ _ _ _ (jC.at (a:=0) rfl sm) (.inr (Nat.le_refl _)) hc sm) (.cons (.func _ .nil (.cons (.ptr _ (jC.at (a:=1) rfl sm)) .nil)) .nil)) rG ?_ hk
  ·rintro (_|_|a) o h
   ·simp at h;subst h;rfl
   ·simp at h;subst h;rfl
   ·simp at h
  ·rintro (_|_|a) j o h1 h2
   ·simp at h1 h2;subst h1;subst h2;exact hrow
   ·simp at h1 h2;subst h1;subst h2;exact hp
   ·simp at h1
  ·rintro (_|_|a) o1 o2 h1 h2
   ·simp at h1 h2;subst h1;subst h2;exact .part (aG l)
   ·simp at h1 h2;subst h1;subst h2;exact .cells (.cons (.str _) .nil) (.inr (.inr rfl))
   ·simp at h1
  ·refine build ?_
   refine enter ?_
   refine goB ?_
   refine dR (LV.mk (e:=e) (fl:=.ro) rfl (Nat.le_refl _)) ok ?_
   refine goB ?_
   refine LPB.lp' (aN+2) rfl (LPB.induct l.length (fun j E S'=>j ≤ l.length∧S'=aOb ((l.take j).filter (fun q=>!fD q.1)) l e e2∧Kn E 28 [(0,.slice aN 0 l.length l.length 2 false),(1,.func (.func 40) [] [.ptr (aN+1) 0]),(6,lI ((l.take j).filter (fun q=>!fD q.1)) (aN+2)),(12,.slice aN 0 l.length l.length 2 false),(13,.int .i64 (.ofNat l.length)),(14,.int .i64 (.ofNat j))]) ⟨Nat.zero_le _,by kernel_rfl,kq⟩ ?_)
   intro j E S' ⟨hjl,hS',hf⟩ ih
   subst hS'
   generalize hout:(l.take j).filter (fun q=>!fD q.1)=out at *
   cases out with
   | nil =>
     refine LPB.kn mixed (Nat.le_of_ble_eq_true rfl) (Nat.le_of_ble_eq_true rfl) hf ?_
     refine goB ?_
     refine dP (fun hb=>?_) (fun hb=>?_)
     ·have hlt:j < l.length:=by rw [bH] at hb;simpa using hb
      have hnext:∀ b,fD l[j].1=b→(l.take (j+1)).filter (fun q=>!fD q.1)=[] ++ (if b=true then [] else [l[j]]):=fun b hb=>by
       rw [List.take_succ_eq_append_getElem hlt,List.filter_append,hout]
       cases b <;> simp [hb]
      refine goB ?_
      refine cC (fun _=>?_) (fun h=>absurd (h.symm.trans hb) sm)
      refine goB ?_
      refine eS agg40 hi40 hs40 (j:=j) (List.getElem?_eq_getElem hlt) (show 0+j * 2=2 * j by omega) ?_
      refine goB ?_
      cases hh:fD l[j].1
      ·have hn:=hnext false hh
       rw [if_neg sm] at hn
       rw [List.nil_append] at hn
       simp only [hn] at ih
       refine aFo (ok.name _ (List.getElem_mem hlt)) (e:=e2) (fl:=.ro) rfl ?_
       rw [hh]
       refine goB ?_
       refine aIW rfl ?_
       refine goB ?_
       refine aY (j+1) rfl (by have:=ok.few;show j+1 ≤ 9223372036854775807;omega) ?_
       refine goB ?_
       refine ⟨[aN+4],aOb [l[j]] l e e2,⟨rfl,dJ _,fun g hg=>by rw [List.mem_singleton] at hg;subst hg;exact Nat.le_of_ble_eq_true rfl,?_⟩,rfl,ih _ _ hlt ⟨by omega,rfl,kq⟩⟩
       repeat' (first
        | exact trivial
        | exact ⟨_,_,.inl ⟨Nat.le_of_ble_eq_true rfl,rfl⟩,rfl,.cells (aG _) (.inl rfl)⟩
        | exact ⟨_,_,.inl ⟨Nat.le_of_ble_eq_true rfl,rfl⟩,rfl,.cells (.cons (.str _) .nil) (.inl rfl)⟩
        | exact ⟨_,_,.inr ⟨Nat.le_of_ble_eq_true rfl,Nat.le_of_ble_eq_true rfl,rfl⟩,rfl,.cells (aG _) (.inl rfl)⟩
        | apply And.intro)
      ·have hn:=hnext true hh
       rw [if_pos rfl,List.append_nil] at hn
       simp only [hn] at ih
       refine aFo (ok.name _ (List.getElem_mem hlt)) (e:=e2) (fl:=.ro) rfl ?_
       rw [hh]
       refine goB ?_
       refine aY (j+1) rfl (by have:=ok.few;show j+1 ≤ 9223372036854775807;omega) ?_
       refine goB ?_
       refine ⟨[],aOb [] l e e2,⟨rfl,List.nodup_nil,by simp,?_⟩,rfl,ih _ _ hlt ⟨by omega,rfl,kq⟩⟩
       repeat' (first
        | exact trivial
        | exact ⟨_,_,.inl ⟨Nat.le_of_ble_eq_true rfl,rfl⟩,rfl,.cells (aG _) (.inl rfl)⟩
        | exact ⟨_,_,.inl ⟨Nat.le_of_ble_eq_true rfl,rfl⟩,rfl,.cells (.cons (.str _) .nil) (.inl rfl)⟩
        | exact ⟨_,_,.inr ⟨Nat.le_of_ble_eq_true rfl,Nat.le_of_ble_eq_true rfl,rfl⟩,rfl,.cells (aG _) (.inl rfl)⟩
        | apply And.intro)
     ·have hge:l.length ≤ j:=by rw [bH] at hb;simpa using hb
      rw [List.take_of_length_le hge] at hout
      refine goB ?_
      rw [hout]
      exact ⟨[],List.nodup_nil,by simp,.tup (.cons .nilSlice (.cons (.int _ _) .nil)),trivial,trivial⟩
   | cons q0 o0 =>
     have hol:(q0 :: o0).length ≤ l.length:=by
      have:=List.length_filter_le (fun q:bB=>!fD q.1) (l.take j)
      rw [hout,List.length_take] at this
      omega
     refine LPB.kn mixed (Nat.le_of_ble_eq_true rfl) (Nat.le_of_ble_eq_true rfl) hf ?_
     refine goB ?_
     refine dP (fun hb=>?_) (fun hb=>?_)
     ·have hlt:j < l.length:=by rw [bH] at hb;simpa using hb
      have hnext:∀ b,fD l[j].1=b→(l.take (j+1)).filter (fun q=>!fD q.1)=(q0 :: o0) ++ (if b=true then [] else [l[j]]):=fun b hb=>by
       rw [List.take_succ_eq_append_getElem hlt,List.filter_append,hout]
       cases b <;> simp [hb]
      refine goB ?_
      refine cC (fun _=>?_) (fun h=>absurd (h.symm.trans hb) sm)
      refine goB ?_
      refine eS agg40 hi40 hs40 (j:=j) (List.getElem?_eq_getElem hlt) (show 0+j * 2=2 * j by omega) ?_
      refine goB ?_
      cases hh:fD l[j].1
      ·have hn:=hnext false hh
       rw [if_neg sm] at hn
       skip
       simp only [hn] at ih
       refine aFo (ok.name _ (List.getElem_mem hlt)) (e:=e2) (fl:=.ro) rfl ?_
       rw [hh]
       refine goB ?_
       refine aIV rfl rfl (by have:=ok.few;omega) ?_
       refine goB ?_
       refine aY (j+1) rfl (by have:=ok.few;show j+1 ≤ 9223372036854775807;omega) ?_
       refine goB ?_
       have hov:lI (q0 :: o0 ++ [l[j]]) (aN+2)=.slice (aN+2) 0 ((q0 :: o0).length+1) ((q0 :: o0).length+1) 2 false:=by
         show V.slice _ 0 (q0 :: o0 ++ [l[j]]).length (q0 :: o0 ++ [l[j]]).length 2 false=_
         rw [List.length_append];rfl
       refine ⟨[aN+5],aOb ((q0 :: o0) ++ [l[j]]) l e e2,⟨rfl,dJ _,fun g hg=>by rw [List.mem_singleton] at hg;subst hg;exact Nat.le_of_ble_eq_true rfl,?_⟩,rfl,ih _ _ hlt ⟨by omega,rfl,⟨rfl,rfl,rfl,by rw [hov];rfl,rfl,rfl,rfl,trivial⟩⟩⟩
       repeat' (first
        | exact trivial
        | exact ⟨_,_,.inl ⟨Nat.le_of_ble_eq_true rfl,rfl⟩,rfl,.cells (aG _) (.inl rfl)⟩
        | exact ⟨_,_,.inl ⟨Nat.le_of_ble_eq_true rfl,rfl⟩,rfl,.cells (.cons (.str _) .nil) (.inl rfl)⟩
        | exact ⟨_,_,.inr ⟨Nat.le_of_ble_eq_true rfl,Nat.le_of_ble_eq_true rfl,rfl⟩,rfl,.cells (aG _) (.inl rfl)⟩
        | apply And.intro)
      ·have hn:=hnext true hh
       rw [if_pos rfl,List.append_nil] at hn
       simp only [hn] at ih
       refine aFo (ok.name _ (List.getElem_mem hlt)) (e:=e2) (fl:=.ro) rfl ?_
       rw [hh]
       refine goB ?_
       refine aY (j+1) rfl (by have:=ok.few;show j+1 ≤ 9223372036854775807;omega) ?_
       refine goB ?_
       refine ⟨[aN+2],aOb (q0 :: o0) l e e2,⟨rfl,dJ _,fun g hg=>by rw [List.mem_singleton] at hg;subst hg;exact Nat.le_of_ble_eq_true rfl,?_⟩,rfl,ih _ _ hlt ⟨by omega,rfl,kq⟩⟩
       repeat' (first
        | exact trivial
        | exact ⟨_,_,.inl ⟨Nat.le_of_ble_eq_true rfl,rfl⟩,rfl,.cells (aG _) (.inl rfl)⟩
        | exact ⟨_,_,.inl ⟨Nat.le_of_ble_eq_true rfl,rfl⟩,rfl,.cells (.cons (.str _) .nil) (.inl rfl)⟩
        | exact ⟨_,_,.inr ⟨Nat.le_of_ble_eq_true rfl,Nat.le_of_ble_eq_true rfl,rfl⟩,rfl,.cells (aG _) (.inl rfl)⟩
        | apply And.intro)
     ·have hge:l.length ≤ j:=by rw [bH] at hb;simpa using hb
      rw [List.take_of_length_le hge] at hout
      refine goB ?_
      rw [hout]
      exact ⟨[aN+2],dJ _,fun g hg=>by rw [List.mem_singleton] at hg;subst hg;exact Nat.le_of_ble_eq_true rfl,.tup (.cons (.slice _ _ _ _ _ _ _ (sE.new (a:=0) rfl (Nat.le_of_ble_eq_true rfl) (by simp [lH])) (.inl rfl) (Nat.le_refl _) (fun h=>⟨h,rfl⟩)) (.cons (.int _ _) .nil)),trivial,⟨⟨_,rfl,.cells (aG _) (.inl rfl)⟩,trivial⟩⟩
end Go.Am
namespace Go.Am
open Go.Proofs
attribute [local irreducible] fN fI fB bX eR evCode evOps rX kOp aAv wW uM wX kGc aKT aKS kDr kMg drOps eN kT sl
theorem f16:bA Tryz.prog 16 11 [.tmp 4,.tmp 5] (aM Tryz.f16):=fq Tryz.f16
set_option maxHeartbeats 2000000 in
theorem mY {l:List bB}{v:V}{S:St}(h:LV S v l)(ok:nH l){k:V→St→Prop}(hk:jL (lH (l.filter (fun q=>!fD q.1))) S (k (.tup [lI (l.filter (fun q=>!fD q.1)) S.next,.int .i64 0]))):RC Tryz.prog 16 [v,.str [95,95]] S k:=by
 refine RC.lab mixed f16 h (fun _=>.cons (.str _) .nil) (lH (l.filter (fun q=>!fD q.1))) rG (v2:=.tup [lI (l.filter (fun q=>!fD q.1)) S.next,.int .i64 0]) ?_ ?_ hk
 ·rintro rfl
  refine build ?_
  refine enter ?_
  refine goB ?_
  refine vG (LV.nil _) ok (e2:=9) (fl2:=.ex) rfl ?_
  refine goB ?_
  exact ⟨[],List.nodup_nil,by simp,.tup (.cons .nilSlice (.cons (.int _ _) .nil)),trivial,trivial⟩
 ·intro e i
  cases hout:l.filter (fun q=>!fD q.1) with
  | nil =>
    refine build ?_
    refine enter ?_
    refine goB ?_
    refine vG (LV.mk (e:=e) (fl:=.ro) rfl (Nat.le_refl _)) ok (e2:=9) (fl2:=.ex) rfl ?_
    rw [hout]
    refine goB ?_
    exact ⟨[],List.nodup_nil,by simp,.tup (.cons .nilSlice (.cons (.int _ _) .nil)),trivial,trivial⟩
  | cons q0 o0 =>
    refine build ?_
    refine enter ?_
    refine goB ?_
    refine vG (LV.mk (e:=e) (fl:=.ro) rfl (Nat.le_refl _)) ok (e2:=9) (fl2:=.ex) rfl ?_
    rw [hout]
    refine goB ?_
    exact ⟨[_],dJ _,fun g hg=>by rw [List.mem_singleton] at hg;subst hg;exact Nat.le_of_ble_eq_true rfl,.tup (.cons (.slice _ _ _ _ _ _ _ (sE.new (a:=0) rfl (Nat.le_of_ble_eq_true rfl) (by simp [lH])) (.inl rfl) (Nat.le_refl _) (fun h=>⟨h,rfl⟩)) (.cons (.int _ _) .nil)),trivial,⟨⟨_,rfl,.cells (aG _) (.inl rfl)⟩,trivial⟩⟩
end Go.Am
