/- Part 3 of the proof that BodyWrong returns true, and leaves its arguments as they were, for every input, over a start where the listed variables hold what the program lays: the statement Rows.BodyWrongCardSaid. -/
import Derived.Test.YtigihhfdlgjhbaaGreatDoorWAb
import Derived.KernelRfl
import Derived.Test.YtigihhfdlgjhbaaGreatDoorCheckedLc
set_option linter.unusedVariables false
set_option linter.unusedSimpArgs false
set_option maxRecDepth 100000
set_option maxHeartbeats 400000000
namespace Go.Am
open Classical
variable {P:Program}
structure StepAnc (ops:Array Oper)(n:Nat)(R:Nat->uE)(o:Oper)(own anc dw:Nat):Prop where
 lt:∀ j,aU anc j=true->j < n
 edge:∀ e ∈ o.after.toList,kX e=true->e.on < n
 back:∀ j,aU anc j=true->∃ e ∈ o.after.toList,kX e=true∧(e.on=j ∨ aU (R e.on).anc j=true)
 trans:∀ j k,aU anc j=true->aU (R j).anc k=true->aU anc k=true
 dw:∀ t,aU dw t=true->∃ k o,aU anc k=true∧ops[k]?=some o∧o.dst=some t
 reads:∀ t,tT ops o t->aU own t=true∧∀ k ok,k < n->ops[k]?=some ok->ok.dst=some t->aU anc k=true
section
variable {ops:Array Oper} {base:Nat} {E0:Env} {H0:Hs} {n:Nat} {ancs:List (Nat × Nat × Nat × Nat)} {wr seen:Nat} {d:Dr} {R:Nat->uE} {o:Oper}
theorem dstOf_some {j:Nat}{t:Tmp}(h:qX ops.toList j=some t):∃ o,ops[j]?=some o∧o.dst=some t:=by
 unfold qX at h;rw [nth_eq] at h
 have e:ops.toList[j]?=ops[j]?:=by simp
 rw [e] at h
 cases ho:ops[j]? with
 | none=>rw [ho] at h;cases h
 | some o'=>rw [ho] at h;exact ⟨o',rfl,h⟩
theorem stepAnc (hI:Inv P ops base E0 H0 n ancs wr seen d R){anc dw own wr' seen':Nat}(h:kD ops.toList n ancs wr seen o=.ok anc dw own wr' seen') :
  StepAnc ops n R o own anc dw∧aIg n ancs anc wr own seen o.dst=true∧wr'=Nat.lor wr (dV o.dst)∧seen'=Nat.lor seen own:=by
 unfold kD at h;obtain ⟨anc1,dw1,h1,a2,a3,a4,a5⟩:=xO (by rw [h];simp);rw [h1] at h;obtain ⟨s1,h2,_,b2⟩:=oE (by rw [h];simp);rw [h2] at h
 have fin:∀ own1,Bool.rec (motive:=fun _=>Sx) .bad (fS (Nat.lor wr (dV o.dst)) fun wr=>fS (Nat.lor seen own1) fun seen=>.ok anc1 dw1 own1 wr seen) (aIg n ancs anc1 wr own1 seen o.dst)=.ok anc dw own wr' seen' ->
   anc1=anc∧dw1=dw∧own1=own∧aIg n ancs anc wr own seen o.dst=true∧wr'=Nat.lor wr (dV o.dst)∧seen'=Nat.lor seen own:=fun own1 h=>by
  cases hd:aIg n ancs anc1 wr own1 seen o.dst with
  | false=>rw [hd] at h;cases h
  | true =>
    rw [hd] at h;have h':(fS (Nat.lor wr (dV o.dst)) fun wr=>fS (Nat.lor seen own1) fun seen=>Sx.ok anc1 dw1 own1 wr seen)=.ok anc dw own wr' seen':=h;rw [aDn,aDn] at h';cases h';exact ⟨rfl,rfl,rfl,hd,rfl,rfl⟩
 have eq:∀ e ∈ o.after.toList,kX e=true->∀ q,nth ancs (n - 1 - e.on)=some q->q.1=(R e.on).anc∧q.2.1=(R e.on).dw∧∃ o',ops[e.on]?=some o'∧q.2.2.1=dV o'.dst:=fun e he hb q hq=>by
  obtain ⟨o',_,ho',hn,_⟩:=hI.ancs e.on (a2 e he hb).1;rw [hq] at hn;cases hn;exact ⟨rfl,rfl,o',ho',rfl⟩
 have inc:∀ e ∈ o.after.toList,kX e=true->aU anc1 e.on=true∧∀ j,aU (R e.on).anc j=true->aU anc1 j=true:=fun e he hb=>by
  obtain ⟨_,c2,q,c3,c4⟩:=a2 e he hb;exact ⟨c2,fun j hj=>c4 j (by rw [(eq e he hb q c3).1];exact hj)⟩
 have back:∀ j,aU anc1 j=true->∃ e ∈ o.after.toList,kX e=true∧(e.on=j ∨ aU (R e.on).anc j=true):=fun j hj=>by
  rcases a4 j hj with h0|⟨e,he,hb,hc⟩
  ·rw [lE] at h0;cases h0
  ·refine ⟨e,he,hb,?_⟩
   rcases hc with hc|⟨q,hq,hc⟩
   ·exact .inl hc
   ·exact .inr (by rw [<- (eq e he hb q hq).1];exact hc)
 have lt:∀ j,aU anc1 j=true->j < n:=fun j hj=>by
  obtain ⟨e,he,hb,hc⟩:=back j hj;have hl:=(a2 e he hb).1
  rcases hc with rfl|hc
  ·exact hl
  ·have:=hI.lt _ _ hl hc;omega
 have hdw:∀ t,aU dw1 t=true->∃ k o,aU anc1 k=true∧ops[k]?=some o∧o.dst=some t:=fun t ht=>by
  rcases a5 t ht with h0|⟨e,he,hb,q,hq,hc⟩
  ·rw [lE] at h0;cases h0
  ·obtain ⟨e1,e2,o',e3,e4⟩:=eq e he hb q hq;obtain ⟨i1,i2⟩:=inc e he hb
   rcases hc with hc|hc
   ·rw [e2] at hc;obtain ⟨k,ok,c1,c2,c3⟩:=hI.dw _ _ (a2 e he hb).1 hc;exact ⟨k,ok,i2 k c1,c2,c3⟩
   ·rw [e4,aDa] at hc;exact ⟨e.on,o',i1,e3,hc⟩
 have rd1:∀ t,Operand.tmp t ∈ o.op.operands.toList->aU s1 t=true∧∀ k ok,k < n->ops[k]?=some ok->ok.dst=some t->aU anc1 k=true:=fun t ht=>by
  obtain ⟨c1,c2⟩:=b2 t ht;refine ⟨c1,fun k ok hk hok hd=>?_⟩;obtain ⟨k',ok',e1,e2,e3⟩:=hdw t (c2 (hI.wr k ok t hk hok hd));have:=hI.dst k ok k' ok' t hk (lt _ e1) hok e2 hd e3;rw [this];exact e1
 have trans:∀ j k,aU anc1 j=true->aU (R j).anc k=true->aU anc1 k=true:=fun j k hj hk=>by
  obtain ⟨e,he,hb,hc⟩:=back j hj;obtain ⟨i1,i2⟩:=inc e he hb
  rcases hc with rfl|hc
  ·exact i2 k hk
  ·exact i2 k (hI.trans _ _ _ (a2 e he hb).1 hc hk)
 have edge:∀ e ∈ o.after.toList,kX e=true->e.on < n:=fun e he hb=>(a2 e he hb).1
 cases hg:o.guard with
 | none =>
   rw [hg] at h;obtain ⟨e1,e2,e3,e4,e5,e6⟩:=fin s1 h;subst e1 e2 e3;refine ⟨⟨lt,edge,back,trans,hdw,fun t ht=>?_⟩,e4,e5,e6⟩
   rcases ht with ht|⟨q,hq,_⟩
   ·exact rd1 t ht
   ·rw [hg] at hq;cases hq
 | some q =>
   rw [hg] at h;have h':Option.rec (motive:=fun _=>Sx) .bad (fun t=>Bool.rec (motive:=fun _=>Sx) .bad (fS (pV s1 t) fun own=>Bool.rec (motive:=fun _=>Sx) .bad (fS (Nat.lor wr (dV o.dst)) fun wr=>fS (Nat.lor seen own) fun seen=>.ok anc1 dw1 own wr seen) (aIg n ancs anc1 wr own seen o.dst)) (aU anc1 q.1)) (qX ops.toList q.1)=.ok anc dw own wr' seen':=h
   cases h3:qX ops.toList q.1 with
   | none=>rw [h3] at h';cases h'
   | some t0 =>
   rw [h3] at h'
   cases h5:aU anc1 q.1 with
   | false=>rw [h5] at h';cases h'
   | true =>
   rw [h5] at h';have h6:=(aDn _ _).symm.trans h';obtain ⟨e1,e2,e3,e4,e5,e6⟩:=fin (pV s1 t0) h6;subst e1 e2 e3;refine ⟨⟨lt,edge,back,trans,hdw,fun t ht=>?_⟩,e4,e5,e6⟩
   rcases ht with ht|⟨q',hq,ht⟩
   ·exact ⟨by rw [lD,(rd1 t ht).1];rfl,(rd1 t ht).2⟩
   ·rw [hg] at hq;cases hq;rw [h3] at ht;cases ht;refine ⟨by rw [lD];simp,fun k ok hk hok hd=>?_⟩;obtain ⟨oq,g1,g2⟩:=dstOf_some h3;have:=hI.dst k ok q.1 oq t0 hk (lt _ h5) hok g1 hd g2;rw [this];exact h5
theorem Kind.mono {d1:Dr}{i:Nat}{o':Oper}{r:uE}(h:Kind P ops base d i o' r)(hi:i < n)(h1:∀ x ∈ d.rds,x ∈ d1.rds)(h2:∀ x ∈ d.als,x ∈ d1.als)(h3:∀ c ∈ d.chs,c ∈ d1.chs)(h4:∀ c ∈ d1.chs,c ∈ d.chs ∨ c.idx=n):Kind P ops base d1 i o' r:=by
 have hn:(∀ c ∈ d.chs,c.idx ≠ i)->∀ c ∈ d1.chs,c.idx ≠ i:=fun hn c hc=>by
  rcases h4 c hc with hc|hc
  ·exact hn c hc
  ·omega
 cases h with
 | skip g hv ha n=>exact .skip g hv ha (hn n)
 | pure g hd h ha n=>exact .pure g hd h ha (hn n)
 | read g hd sel h ha n=>exact .read g hd sel (h1 _ h) ha (hn n)
 | alloc g hd ob mk ha h hv hm n=>exact .alloc g hd ob mk ha h hv (h2 _ hm) (hn n)
 | chain g hd c hc hi ha=>exact .chain g hd c (h3 _ hc) hi ha
structure OpNext (P:Program)(ops:Array Oper)(base:Nat)(H0:Hs)(n:Nat)(R:Nat->uE)(o:Oper)(r:uE)(d d1:Dr):Prop where
 env:d1.env=d.env
 self:Kind P ops base d1 n o r
 rds:∀ x ∈ d.rds,x ∈ d1.rds
 als:∀ x ∈ d.als,x ∈ d1.als
 chs:∀ c ∈ d.chs,c ∈ d1.chs
 new:∀ c ∈ d1.chs,c ∈ d.chs ∨ c.idx=n
 chain:∀ later c earlier,d1.chs=later ++ c :: earlier->aAB P ops base (tR R n r) d1.st.hs later c earlier
 start:kQ d1.chs d1.st.hs=H0
 rsel:∀ x ∈ d1.rds,∀ q ∈ x.sel,q.2.1=base+q.1∧(tR R n r q.1).al=some q.2.2∧aU x.anc q.1=true
 pend1:∀ q ∈ d1.pend,q.2.1=base+q.1∧(tR R n r q.1).al=some q.2.2
 pend2:∀ i,(tR R n r i).al.isSome->((∃ q ∈ d1.pend,q.1=i) ↔ aU (cO d1.chs) i=false)
theorem Inv.chain_lt (hI:Inv P ops base E0 H0 n ancs wr seen d R){c:Ch}(hc:c ∈ d.chs):c.anc=(R c.idx).anc∧c.idx < n∧∀ j,aU c.anc j=true->j < c.idx:=by
 obtain ⟨l,e,hle⟩:=List.append_of_mem hc;have h:=hI.chain l c e hle;have hlt:=hI.chlt c hc;exact ⟨h.1,hlt,fun j hj=>hI.lt _ _ hlt (by rw [<- h.1];exact hj)⟩
theorem Inv.al_lt (hI:Inv P ops base E0 H0 n ancs wr seen d R){q:Nat × Nat × O}(hq:q ∈ d.pend):q.1 < n:=by
 rcases Nat.lt_or_ge q.1 n with h|h
 ·exact h
 ·have:=(hI.pend1 q hq).2;rw [hI.out _ h] at this;cases this
theorem Inv.prev_lt (hI:Inv P ops base E0 H0 n ancs wr seen d R){i:Nat}(h:aU (cO d.chs) i=true):i < n:=by
 unfold cO at h
 split at h
 ·rw [lE] at h;cases h
 ·rename_i c l hc
  obtain ⟨_,h2,h3⟩:=hI.chain_lt (c:=c) (by rw [hc];simp);have:=h3 _ h;omega
theorem Inv.rsel_lt (hI:Inv P ops base E0 H0 n ancs wr seen d R){r:uE}{x:Rd}(hx:x ∈ d.rds){q:Nat × Nat × O}(hq:q ∈ x.sel):q.2.1=base+q.1∧(tR R n r q.1).al=some q.2.2∧aU x.anc q.1=true:=by
 obtain ⟨h1,h2,h3⟩:=hI.rsel x hx q hq
 have hlt:q.1 < n:=by
  rcases Nat.lt_or_ge q.1 n with h|h
  ·exact h
  ·rw [hI.out _ h] at h2;cases h2
 exact ⟨h1,by rw [lW R n r _ hlt];exact h2,h3⟩
theorem Inv.still (hI:Inv P ops base E0 H0 n ancs wr seen d R){r:uE}{d1:Dr}(h1:d1.env=d.env)(h2:d1.chs=d.chs)(h3:d1.st=d.st)(h4:d1.pend=d.pend)(h5:d1.als=d.als)(h6:∀ x ∈ d.rds,x ∈ d1.rds)
  (ha:r.al=none) (hk:Kind P ops base d1 n o r) (h7:∀ x ∈ d1.rds,x ∈ d.rds ∨ ∀ q ∈ x.sel,q ∈ d.pend∧aU x.anc q.1=true:=by exact fun _ h=>.inl h):OpNext P ops base H0 n R o r d d1 where
 env:=h1
 self:=hk
 rds:=h6
 als:=by rw [h5];exact fun _ h=>h
 rsel x hx q hq:=by
  rcases h7 x hx with h|h
  ·exact hI.rsel_lt h hq
  ·obtain ⟨a,b⟩:=h q hq;refine ⟨(hI.pend1 q a).1,?_,b⟩;rw [lW R n r _ (hI.al_lt a)];exact (hI.pend1 q a).2
 chs:=by rw [h2];exact fun _ h=>h
 new:=by rw [h2];exact fun _ h=>.inl h
 chain later c earlier hs:=by
  rw [h2] at hs;rw [h3]
  have hc:c ∈ d.chs:=by rw [hs];simp
  exact (hI.chain later c earlier hs).congr (hI.chlt c hc) (lW R n r) (hI.chain_lt hc).2.2
 start:=by rw [h2,h3];exact hI.start
 pend1 q hq:=by
  rw [h4] at hq;rw [lW R n r _ (hI.al_lt hq)];exact hI.pend1 q hq
 pend2 i hi:=by
  rw [h4,h2];by_cases e:i=n
  ·subst e;rw [jT,ha] at hi;cases hi
  ·rw [sJ R r e] at hi;exact hI.pend2 i hi
theorem drOp_spec {rc:cG}{rd:bQ}(hc:dN P rc)(hd:dW P rd){anc dw own:Nat}(hI:Inv P ops base E0 H0 n ancs wr seen d R)(ho:ops[n]?=some o)(hA:StepAnc ops n R o own anc dw)(hg:Gd ops d.env o true){k:V->Dr->Prop}
  (h:aCC P rc rd base n anc o.op d k):∃ v d1 al,k v d1∧OpNext P ops base H0 n R o ⟨anc,dw,d.env,v,al⟩ d d1:=by
 have hnot:∀ c ∈ d.chs,c.idx ≠ n:=fun c hc=>by have:=hI.chlt c hc;omega
 have hdf:∀ c,o.op=.defer c->False:=fun c e=>by
  rw [e] at h;obtain ⟨_,h⟩:=aT (show dD _ _ from h);obtain ⟨_,_,h,_⟩:=oS (al:=fun i=>(R i).al) hI.pend1 h;exact h
 have hs:=aDf (P:=P) o.op;unfold aCC at h
 cases hcl:rM P o.op with
 | pure f =>
   rw [hcl] at h hs;obtain ⟨v,h1,h2⟩:=hs _ _ h;exact ⟨v,d,none,h1,hI.still rfl rfl rfl rfl rfl (fun _ h=>h) rfl (.pure hg (fun c e=>hdf c e) h2 rfl hnot)⟩
 | read f =>
   rw [hcl] at h hs;obtain ⟨S1,h,_,_⟩:=qN h;obtain ⟨v,h1,h2⟩:=hs _ _ _ h
   exact ⟨v,_,none,h1,hI.still rfl rfl rfl rfl rfl (fun _ h=>List.mem_cons_of_mem _ h) rfl (.read hg (fun c e=>hdf c e) (iY anc d.pend) (by simp) rfl hnot) fun x hx=>by
    rcases List.mem_cons.1 hx with rfl|hx
    ·exact .inr fun q hq=>uK hq
    ·exact .inl hx⟩
 | alloc f =>
   rw [hcl] at h hs;obtain ⟨ob,mk,h1,h2⟩:=hs _ _ h;have h3:=bV h1;refine ⟨_,_,some ob,h3,rfl,.alloc hg (fun c e=>hdf c e) ob mk rfl h2 rfl (by show _ ∈ (_,_) :: _;simp) hnot,fun _ h=>h,fun _ h=>List.mem_cons_of_mem _ h,fun _ h=>h,fun _ h=>.inl h,fun later c earlier hs=>?_,hI.start,fun x hx q hq=>hI.rsel_lt hx hq,fun q hq=>?_,fun i hi=>?_⟩
   ·have hc:c ∈ d.chs:=by rw [hs];simp
    exact (hI.chain later c earlier hs).congr (hI.chlt c hc) (lW R n _) (hI.chain_lt hc).2.2
   ·rcases List.mem_cons.1 hq with rfl|hq
    ·exact ⟨rfl,by rw [jT]⟩
    ·rw [lW R n _ _ (hI.al_lt hq)];exact hI.pend1 q hq
   ·show (∃ q ∈ (n,base+n,ob) :: d.pend,q.1=i) ↔ aU (cO d.chs) i=false;by_cases e:i=n
    ·subst e;refine ⟨fun _=>?_,fun _=>⟨(i,base+i,ob),by simp,rfl⟩⟩
     cases hb:aU (cO d.chs) i with
     | false=>rfl
     | true=>have:=hI.prev_lt hb;omega
    ·rw [sJ R _ e] at hi;rw [<- hI.pend2 i hi];refine ⟨fun ⟨q,hq,hqi⟩=>?_,fun ⟨q,hq,hqi⟩=>⟨q,by simp [hq],hqi⟩⟩
     rcases List.mem_cons.1 hq with rfl|hq
     ·exact absurd hqi.symm e
     ·exact ⟨q,hq,hqi⟩
 | chain f =>
   rw [hcl] at h hs;obtain ⟨ht,h1⟩:=aT h;obtain ⟨pend,S1,h2,h3,h4⟩:=oS (al:=fun i=>(R i).al) hI.pend1 h1;obtain ⟨_,v,S2,h5,h6⟩:=hs _ _ hc hd _ _ _ h2
   have hall:∀ e ∈ d.chs,aU anc e.idx=true:=fun e he=>by
    cases hch:d.chs with
    | nil=>rw [hch] at he;cases he
    | cons c l =>
      rw [hch] at ht he;have ht':aU anc c.idx=true:=ht
      rcases List.mem_cons.1 he with rfl|he
      ·exact ht'
      ·have hf:=hI.chain [] c l (by rw [hch];rfl);exact hA.trans _ _ ht' (by rw [<- hf.1];exact hf.2.1 e he)
   have hprev:∀ i,aU (cO d.chs) i=true->aU anc i=true:=fun i hi=>by
    cases hch:d.chs with
    | nil=>rw [hch] at hi;exact absurd hi (by show ¬ aU 0 i=true;rw [lE];simp)
    | cons c l =>
      rw [hch] at hi
      have hcm:c ∈ d.chs:=by rw [hch];simp
      exact hA.trans _ _ (hall c hcm) (by rw [<- (hI.chain_lt hcm).1];exact hi)
   have hS1:S1.hs=lay base (fun i=>(tR R n ⟨anc,dw,d.env,v,none⟩ i).al) (fun i=>aU anc i=true∧aU (cO d.chs) i=false) d.st.hs:=by
    rw [h4];refine jY _ fun i=>?_;by_cases e:i=n
    ·subst e;have hn:(R i).al=none:=hI.out i (Nat.le_refl _);refine ⟨⟨fun ⟨_,hs⟩=>?_,fun ⟨_,hs⟩=>?_⟩,fun _ hs=>?_⟩
     ·rw [hn] at hs;cases hs
     ·rw [jT] at hs;cases hs
     ·rw [hn] at hs;cases hs
    ·rw [sJ R _ e];exact ⟨⟨fun ⟨⟨a,b⟩,hs⟩=>⟨⟨b,(hI.pend2 i hs).1 a⟩,hs⟩,fun ⟨⟨b,a⟩,hs⟩=>⟨⟨(hI.pend2 i hs).2 a,b⟩,hs⟩⟩,fun _ _=>rfl⟩
   refine ⟨v,_,none,h5,rfl,.chain hg (fun c e=>hdf c e) ⟨n,anc,d.st⟩ (by simp) rfl rfl,fun _ h=>h,fun _ h=>h,fun _ h=>List.mem_cons_of_mem _ h,fun c hcm=>?_,fun later c earlier hs=>?_,?_,fun x hx q hq=>hI.rsel_lt hx hq,fun q hq=>?_,fun i hi=>?_⟩
   ·rcases List.mem_cons.1 hcm with rfl|hcm
    ·exact .inr rfl
    ·exact .inl hcm
   ·cases later with
    | nil =>
      have hs':(⟨n,anc,d.st⟩:Ch) :: d.chs=c :: earlier:=hs;cases hs';refine ⟨by rw [jT],hall,?_⟩;refine ⟨o,ho,?_⟩;show OpW P o.op (tR R n _ n).env (lay base _ _ d.st.hs) (tR R n _ n).val (kQ [] S2.hs);rw [jT,<- hS1];exact h6
    | cons c' later' =>
      have hs':(⟨n,anc,d.st⟩:Ch) :: d.chs=c' :: (later' ++ c :: earlier):=hs;have hc':c'=⟨n,anc,d.st⟩:=(List.cons.inj hs').1.symm;have hs2:d.chs=later' ++ c :: earlier:=(List.cons.inj hs').2;subst hc'
      have hcm:c ∈ d.chs:=by rw [hs2];simp
      have:=(hI.chain later' c earlier hs2).congr (hI.chlt c hcm) (lW R n ⟨anc,dw,d.env,v,none⟩) (hI.chain_lt hcm).2.2;obtain ⟨f1,f2,o',f3,f4⟩:=this;refine ⟨f1,f2,o',f3,?_⟩;rw [tK];exact f4
   ·show kQ (_ :: d.chs) S2.hs=H0;rw [tK];exact hI.start
   ·obtain ⟨hq,hqb⟩:=(h3 q).1 hq;rw [lW R n _ _ (hI.al_lt hq)];exact hI.pend1 q hq
   ·show (∃ q ∈ pend,q.1=i) ↔ aU anc i=false;by_cases e:i=n
    ·subst e;rw [jT] at hi;cases hi
    ·rw [sJ R _ e] at hi
     constructor
     ·rintro ⟨q,hq,rfl⟩;exact ((h3 q).1 hq).2
     ·intro hb
      have hb2:aU (cO d.chs) i=false:=by
       cases hx:aU (cO d.chs) i with
       | false=>rfl
       | true=>rw [hprev i hx] at hb;cases hb
      obtain ⟨q,hq,rfl⟩:=(hI.pend2 i hi).2 hb2;exact ⟨q,(h3 q).2 ⟨hq,hb⟩,rfl⟩
end
end Go.Am
namespace Go.Am
open Classical
section
variable {P:Program} {ops:Array Oper} {base:Nat} {E0:Env} {H0:Hs} {n:Nat} {ancs:List (Nat × Nat × Nat × Nat)} {wr seen:Nat} {d:Dr} {R:Nat->uE} {o:Oper}
theorem Inv.next (hI:Inv P ops base E0 H0 n ancs wr seen d R)(ho:ops[n]?=some o){own anc dw:Nat}(hA:StepAnc ops n R o own anc dw)(hf:∀ t,o.dst=some t->aU wr t=false∧aU own t=false∧∀ j oj,j < n->ops[j]?=some oj->tT ops oj t->aU anc j=true)
  {v:V} {al:Option O} {d1:Dr} (hN:OpNext P ops base H0 n R o ⟨anc,dw,d.env,v,al⟩ d d1) {E':Env} (hE:vB ops E0 (tR R n ⟨anc,dw,d.env,v,al⟩) (n+1) E') (hs:∀ t,o.dst=some t->(tget E0 t).isSome) :
  Inv P ops base E0 H0 (n+1) ((anc,dw,dV o.dst,own) :: ancs) (Nat.lor wr (dV o.dst)) (Nat.lor seen own) ⟨E',d1.st,d1.pend,d1.chs,d1.rds,d1.als⟩ (tR R n ⟨anc,dw,d.env,v,al⟩):=by
 have hR:=lW R n (⟨anc,dw,d.env,v,al⟩:uE);have hRn:tR R n (⟨anc,dw,d.env,v,al⟩:uE) n=⟨anc,dw,d.env,v,al⟩:=jT _ _ _
 have two:∀ {i:Nat},i < n+1->i < n ∨ i=n:=fun h=>by omega
 have same:∀ {o':Oper},ops[n]?=some o'->o'=o:=fun h=>by rw [ho] at h;cases h;rfl
 refine { out:=fun i hi=>?_,alen:=by simp [hI.alen],ancs:=fun j hj=>?_,wr:=fun k o' t hk hok hd=>?_,seen:=fun k o' t hk hok hd=>?_,dw:=fun i t hi ht=>?_,lt:=fun i j hi hj=>?_,edge:=fun i o' e hi hoi he hb=>?_,back:=fun i o' j hi hoi hj=>?_,
          trans:=fun i j k hi hj hk=>?_,reads:=fun i o' t k ok hi hk hoi hr hok hd=>?_,dst:=fun i oi k ok t hi hk hoi hok hdi hdk=>?_,slot:=fun i o' t hi hoi hd=>?_,envs:=fun i hi=>?_,env:=hE,kind:=fun i o' hi hoi=>?_,chlt:=fun c hc=>?_,
          chain:=hN.chain,start:=hN.start,rsel:=hN.rsel,pend1:=hN.pend1,pend2:=hN.pend2 }
 ·rw [sJ R _ om];exact hI.out i om
 ·rcases two hj with hj|rfl
  ·obtain ⟨o',aRj,h1,h2,h3⟩:=hI.ancs j hj;refine ⟨o',aRj,h1,?_,h3⟩;rw [hR j hj,<- h2];have e:n+1 - 1 - j=(n - 1 - j)+1:=om;rw [e];rfl
  ·refine ⟨o,own,ho,?_,fun t ht=>(hA.reads t ht).1⟩;rw [hRn];have e:j+1 - 1 - j=0:=om;rw [e];rfl
 ·rw [kL]
  rcases two hk with hk|rfl
  ·rw [hI.wr k o' t hk hok hd];rfl
  ·rw [same hok] at hd;rw [(aDa _ _).2 hd];simp
 ·rw [kL]
  rcases two hk with hk|rfl
  ·rw [hI.seen k o' t hk hok hd];rfl
  ·rw [same hok] at hd;rw [(hA.reads t hd).1];simp
 ·rcases two hi with hi|rfl
  ·rw [hR i hi] at ht ⊢;exact hI.dw i t hi ht
  ·rw [hRn] at ht ⊢;exact hA.dw t ht
 ·rcases two hi with hi|rfl
  ·rw [hR i hi] at hj;exact hI.lt i j hi hj
  ·rw [hRn] at hj;exact hA.lt j hj
 ·rcases two hi with hi|rfl
  ·exact hI.edge i o' e hi hoi he hb
  ·rw [same hoi] at he;exact hA.edge e he hb
 ·rcases two hi with hi|rfl
  ·rw [hR i hi] at hj;obtain ⟨e,h1,h2,h3⟩:=hI.back i o' j hi hoi hj;have hlt:=hI.edge i o' e hi hoi h1 h2;exact ⟨e,h1,h2,by rw [hR e.on om];exact h3⟩
  ·rw [hRn] at hj;rw [same hoi];obtain ⟨e,h1,h2,h3⟩:=hA.back j hj;have hlt:=hA.edge e h1 h2;exact ⟨e,h1,h2,by rw [hR e.on hlt];exact h3⟩
 ·rcases two hi with hi|rfl
  ·rw [hR i hi] at hj ⊢;have:=hI.lt i j hi hj;rw [hR j om] at hk;exact hI.trans i j k hi hj hk
  ·rw [hRn] at hj ⊢;rw [hR j (hA.lt j hj)] at hk;exact hA.trans j k hj hk
 ·rcases two hi with hi|rfl
  ·rw [hR i hi]
   rcases two hk with hk|rfl
   ·rw [hR k hk];exact hI.reads i o' t k ok hi hk hoi hr hok hd
   ·rw [same hok] at hd;rw [hRn];exact .inr ((hf t hd).2.2 i o' hi hoi hr)
  ·rw [hRn];rw [same hoi] at hr
   rcases two hk with hk|rfl
   ·exact .inl ((hA.reads t hr).2 k ok hk hok hd)
   ·rw [same hok] at hd;have h1:=(hA.reads t hr).1;rw [(hf t hd).2.1] at h1;cases h1
 ·rcases two hi with hi|rfl
  ·rcases two hk with hk|rfl
   ·exact hI.dst i oi k ok t hi hk hoi hok hdi hdk
   ·rw [same hok] at hdk;have h1:=hI.wr i oi t hi hoi hdi;rw [(hf t hdk).1] at h1;cases h1
  ·rcases two hk with hk|rfl
   ·rw [same hoi] at hdi;have h1:=hI.wr k ok t hk hok hdk;rw [(hf t hdi).1] at h1;cases h1
   ·rfl
 ·rcases two hi with hi|rfl
  ·exact hI.slot i o' t hi hoi hd
  ·rw [same hoi] at hd;exact hs t hd
 ·rcases two hi with hi|rfl
  ·rw [hR i hi];exact (hI.envs i hi).congr fun k hk=>hR k om
  ·rw [hRn];exact hI.env.congr fun k hk=>hR k hk
 ·rcases two hi with hi|rfl
  ·rw [hR i hi];exact (hI.kind i o' hi hoi).mono hi hN.rds hN.als hN.chs hN.new
  ·rw [hRn,same hoi];exact hN.self.mono (n:=i+1) om (fun _ h=>h) (fun _ h=>h) (fun _ h=>h) (fun _ h=>.inl h)
 ·rcases hN.new c hc with h|h
  ·have:=hI.chlt c h;omega
  ·omega
theorem aBb {rc:cG}{rd:bQ}(hc:dN P rc)(hd:dW P rd):∀ (l:List Oper) (n:Nat) (ancs:List (Nat × Nat × Nat × Nat)) (wr seen:Nat) (d:Dr) (R:Nat->uE) (k:Dr->Prop),ops.toList.drop n=l->n <= ops.size ->
  Inv P ops base E0 H0 n ancs wr seen d R->drOps P rc rd base ops.toList l n ancs wr seen d k->∃ d' R' ancs' wr' seen',k d'∧Inv P ops base E0 H0 ops.size ancs' wr' seen' d' R'
 | [],n,ancs,wr,seen,d,R,k,hl,hn,hI,h=>by
   have:n=ops.size:=by
    have h1:=List.drop_eq_nil_iff.1 hl;simp at h1;omega
   subst this;exact ⟨d,R,ancs,wr,seen,h,hI⟩
 | o :: l,n,ancs,wr,seen,d,R,k,hl,hn,hI,h=>by
   have ho:ops[n]?=some o:=by
    have:(ops.toList.drop n)[0]?=some o:=by rw [hl];rfl
    rw [List.getElem?_drop] at this;simpa using this
   have hlt:n < ops.size:=(Array.getElem?_eq_some_iff.1 ho).1
   have hl':ops.toList.drop (n+1)=l:=by
    have:=congrArg (List.drop 1) hl;rw [List.drop_drop] at this;simpa [Nat.add_comm] using this
   have h0:Sx.rec (motive:=fun _=>Prop) (fun anc dw own wr seen =>
    dL d.env ops.toList o.guard (aCC P rc rd base n anc o.op d fun v d=>tW d o.dst v fun d=>drOps P rc rd base ops.toList l (Nat.succ n) ((anc,dw,dV o.dst,own) :: ancs) wr seen d k)
       (tW d o.dst undefV fun d=>drOps P rc rd base ops.toList l (Nat.succ n) ((anc,dw,dV o.dst,own) :: ancs) wr seen d k)) False (kD ops.toList n ancs wr seen o):=h
   cases hst:kD ops.toList n ancs wr seen o with
   | bad=>rw [hst] at h0;exact h0.elim
   | ok anc dw own wr' seen' =>
   rw [hst] at h0;obtain ⟨hA,h2,rfl,rfl⟩:=stepAnc hI hst
   have h5:dL d.env ops.toList o.guard (aCC P rc rd base n anc o.op d fun v d=>tW d o.dst v fun d=>drOps P rc rd base ops.toList l (Nat.succ n) ((anc,dw,dV o.dst,own) :: ancs) (Nat.lor wr (dV o.dst)) (Nat.lor seen own) d k)
          (tW d o.dst undefV fun d=>drOps P rc rd base ops.toList l (Nat.succ n) ((anc,dw,dV o.dst,own) :: ancs) (Nat.lor wr (dV o.dst)) (Nat.lor seen own) d k):=h0
   have hf:∀ t,o.dst=some t->aU wr t=false∧aU own t=false∧∀ j oj,j < n->ops[j]?=some oj->tT ops oj t->aU anc j=true:=fun t ht=>by
    obtain ⟨q1,q2,q3⟩:=aLl h2 ht;refine ⟨q1,q2,fun j oj hj hoj hr=>?_⟩
    rcases q3 with q3|q3
    ·have:=hI.seen j oj t hj hoj hr;rw [q3] at this;cases this
    ·obtain ⟨o',aRj,e1,e2,e3⟩:=hI.ancs j hj;rw [hoj] at e1;cases e1;exact aBs hI.alen q3 j _ hj e2 (e3 t hr)
   have fin:∀ {v:V} {al:Option O} {d1:Dr},OpNext P ops base H0 n R o ⟨anc,dw,d.env,v,al⟩ d d1->(tW d1 o.dst v fun d=>drOps P rc rd base ops.toList l (Nat.succ n) ((anc,dw,dV o.dst,own) :: ancs) (Nat.lor wr (dV o.dst)) (Nat.lor seen own) d k) ->
     ∃ d' R' ancs' wr' seen',k d'∧Inv P ops base E0 H0 ops.size ancs' wr' seen' d' R':=fun {v al d1} hN hp=>by
    unfold tW at hp;rw [hN.env] at hp;obtain ⟨E',h7,h8,h9⟩:=hI.env.put (lW R n ⟨anc,dw,d.env,v,al⟩) ho (by rw [jT]) hp;exact aBb hc hd l (n+1) _ _ _ _ _ k hl' om (hI.next ho hA hf hN h8 h9) h7
   rcases aLv h5 with ⟨h6,hg⟩|⟨h6,hg⟩
   ·obtain ⟨v,d1,al,h7,hN⟩:=drOp_spec hc hd hI ho hA hg h6;exact fin hN h7
   ·exact fin (hI.still rfl rfl rfl rfl rfl (fun _ h=>h) rfl (.skip hg rfl rfl fun c hc=>by have:=hI.chlt c hc;omega)) h6
def aCQ (P:Program)(r:Rd)(prev:Nat)(H:Hs):Prop:=∃ H1,oN P r.op r.env H1 r.val∧H1.next=H.next∧∀ id o,H1.get id=some o->H.get id=some o ∨ ∃ q ∈ r.sel,aU prev q.1=false∧q.2.1=id∧q.2.2=o
theorem aIY {r:Rd}:∀ {chs:List Ch} {S:St} {nxt:Option Nat} {k:Prop},aDJ P r chs nxt S k->k∧∀ later earlier,chs=later ++ earlier->aU (cO earlier) r.idx=true ∨
  (match later.getLast? with|some c=>aU r.anc c.idx=true|none=>∃ n,nxt=some n∧aU r.anc n=true) ∨ aCQ P r (cO earlier) (kQ later S.hs):=by
 have one:∀ {prev:Nat} {S:St} {nxt:Option Nat} {k:Prop},uR P r prev nxt S k->k∧(aU prev r.idx=true ∨ (∃ n,nxt=some n∧aU r.anc n=true) ∨ aCQ P r prev S.hs):=fun {prev S nxt k} h=>by
  unfold uR at h
  cases hb:aU prev r.idx with
  | true=>rw [hb] at h;exact ⟨h,.inl rfl⟩
  | false =>
    rw [hb] at h
    have rest:(gZ prev r.sel S fun S=>gJ P r.op r.env S (fun v=>dD (vA 8 r.val v) k))->k∧((false=true) ∨ (∃ n,nxt=some n∧aU r.anc n=true) ∨ aCQ P r prev S.hs):=fun h=>by
     obtain ⟨S1,h,hn,hsub⟩:=qN h;obtain ⟨v,h1,h2⟩:=aBR h;obtain ⟨h3,h4⟩:=aT h1;rw [<- aFY h3] at h2;exact ⟨h4,.inr (.inr ⟨_,h2,hn,hsub⟩)⟩
    cases nxt with
    | none=>exact rest h
    | some m =>
      have h':Bool.rec (motive:=fun _=>Prop) (gZ prev r.sel S fun S=>gJ P r.op r.env S fun v=>dD (vA 8 r.val v) k) k (aU r.anc m):=h
      cases hm:aU r.anc m with
      | true=>rw [hm] at h';exact ⟨h',.inr (.inl ⟨m,rfl,hm⟩)⟩
      | false=>rw [hm] at h';exact rest h'
 intro chs
 induction chs with
 | nil =>
   intro S nxt k h;obtain ⟨h1,h2⟩:=one (show uR P r 0 nxt S k from h);refine ⟨h1,fun later earlier hs=>?_⟩;obtain ⟨rfl,rfl⟩:=List.append_eq_nil_iff.1 hs.symm;exact h2
 | cons c l ih =>
   intro S nxt k h;obtain ⟨h1,h2⟩:=one (show uR P r c.anc nxt S (aDJ P r l (some c.idx) c.st k) from h);obtain ⟨h3,h4⟩:=ih h1;refine ⟨h3,fun later earlier hs=>?_⟩
   cases later with
   | nil=>cases hs;exact h2
   | cons c' later' =>
     have hc:c=c':=(List.cons.inj hs).1;subst hc;have hs2:l=later' ++ earlier:=(List.cons.inj hs).2;rw [tK]
     rcases h4 later' earlier hs2 with h5|h5|h5
     ·exact .inl h5
     ·refine .inr (.inl ?_)
      cases later' with
      | nil =>
        obtain ⟨m,hm,hb⟩:=h5;cases hm;exact hb
      | cons c2 l2=>rw [List.getLast?_cons_cons];exact h5
     ·exact .inr (.inr h5)
theorem zV {chs:List Ch}{S:St}:∀ {l:List Rd} {k:Prop},fU P chs S l k->k∧∀ r ∈ l,∀ later earlier,chs=later ++ earlier->aU (cO earlier) r.idx=true ∨
  (match later.getLast? with|some c=>aU r.anc c.idx=true|none=>False) ∨ aCQ P r (cO earlier) (kQ later S.hs)
 | [],k,h=>⟨h,sm⟩
 | r :: l,k,h=>by
   obtain ⟨h1,h2⟩:=aIY (show aDJ P r chs none S (fU P chs S l k) from h);obtain ⟨h3,h4⟩:=zV h1;refine ⟨h3,fun x hx later earlier hs=>?_⟩
   rcases av.1 hx with rfl|hx
   ·rcases h2 later earlier hs with h5|h5|h5
    ·exact .inl h5
    ·refine .inr (.inl ?_)
     cases hl:later.getLast? with
     | none=>rw [hl] at h5;obtain ⟨m,hm,_⟩:=h5;cases hm
     | some c=>rw [hl] at h5;exact h5
    ·exact .inr (.inr h5)
   ·exact h4 x hx later earlier hs
theorem aHO {i id:Nat}:∀ {chs:List Ch} {S:St} {k:Prop},aJw i id chs S k->k∧∀ later earlier,chs=later ++ earlier->aU (cO earlier) i=true ∨ (kQ later S.hs).get id=none:=by
 have one:∀ {prev:Nat} {S:St} {k:Prop},zR i id prev S k->k∧(aU prev i=true ∨ S.hs.get id=none):=fun {prev S k} h=>by
  unfold zR at h
  cases hb:aU prev i with
  | true=>rw [hb] at h;exact ⟨h,.inl rfl⟩
  | false =>
    rw [hb] at h;have h':Option.rec (motive:=fun _=>Prop) k (fun _=>False) (T.get fA id S.hp):=h
    cases hg:T.get fA id S.hp with
    | none=>rw [hg] at h';exact ⟨h',.inr hg⟩
    | some x=>rw [hg] at h';exact h'.elim
 intro chs
 induction chs with
 | nil =>
   intro S k h;obtain ⟨h1,h2⟩:=one (show zR i id 0 S k from h);refine ⟨h1,fun later earlier hs=>?_⟩;obtain ⟨rfl,rfl⟩:=List.append_eq_nil_iff.1 hs.symm;exact h2
 | cons c l ih =>
   intro S k h;obtain ⟨h1,h2⟩:=one (show zR i id c.anc S (aJw i id l c.st k) from h);obtain ⟨h3,h4⟩:=ih h1;refine ⟨h3,fun later earlier hs=>?_⟩
   cases later with
   | nil=>cases hs;exact h2
   | cons c' later' =>
     have hc:c=c':=(List.cons.inj hs).1;subst hc;rw [tK];exact h4 later' earlier (List.cons.inj hs).2
theorem zE {chs:List Ch}{S:St}:∀ {l:List (Nat × Nat)} {k:Prop},kK chs S l k->k∧∀ q ∈ l,∀ later earlier,chs=later ++ earlier->aU (cO earlier) q.1=true ∨ (kQ later S.hs).get q.2=none
 | [],k,h=>⟨h,sm⟩
 | q :: l,k,h=>by
   obtain ⟨h1,h2⟩:=aHO (show aJw q.1 q.2 chs S (kK chs S l k) from h);obtain ⟨h3,h4⟩:=zE h1;refine ⟨h3,fun x hx=>?_⟩
   rcases av.1 hx with rfl|hx
   ·exact h2
   ·exact h4 x hx
end
end Go.Am
namespace Go.Am
open Classical
variable {P:Program}
theorem Ext.comp {ρ ρ1 ρ2:Rho}{S S1 S2:Hs}{w w1 w2:World}(h:Ext ρ S w ρ1 S1 w1)(rho:∀ id,id < S.next->ρ2 id=ρ1 id)(next:S1.next <= S2.next)(size:w1.heap.size <= w2.heap.size)
  (keep:∀ b,b < w1.heap.size->¬ Own ρ1 S1 b->w2.heap[b]?=w1.heap[b]?) (own:∀ b,Own ρ2 S2 b->w1.heap.size <= b ∨ Own ρ1 S1 b) (has:∀ b,Has ρ2 S2 b->w1.heap.size <= b ∨ Has ρ1 S1 b)
  (tape:w2.tape=w1.tape) (os:w2.os=w1.os) (output:w2.output=w1.output) (drawn:w1.drawn <= w2.drawn):Ext ρ S w ρ2 S2 w2 where
 rho id eP:=by rw [rho id eP,h.rho id eP]
 next:=Nat.le_trans h.next next
 size:=Nat.le_trans h.size size
 keep b hb hn:=by
  rw [keep b (Nat.lt_of_lt_of_le hb h.size) (fun ho=>by
   rcases h.own b ho with h'|h'
   ·omega
   ·exact hn h'),h.keep b hb hn]
 own b hb:=by
  rcases own b hb with h'|h'
  ·exact .inl (Nat.le_trans h.size h')
  ·exact h.own b h'
 has b hb:=by
  rcases has b hb with h'|h'
  ·exact .inl (Nat.le_trans h.size h')
  ·exact h.has b h'
 tape:=tape.trans h.tape
 os:=os.trans h.os
 output:=output.trans h.output
 drawn:=Nat.le_trans h.drawn drawn
theorem Ext.frame {ρ ρ':Rho}{H A A' H':Hs}{B:Nat->Option O}{w w':World}(hA:∀ id o,A.get id=some o->H.get id=some o)(hB:∀ id o,B id=some o->H.get id=some o)
  (hnx:A.next=H.next) (hlt:∀ id,(B id).isSome->id < A.next) (hx:Ext ρ A w ρ' A' w') (hn':H'.next=A'.next) (hH':∀ id o,H'.get id=some o->A'.get id=some o ∨ B id=some o):Ext ρ H w ρ' H' w' where
 rho id eP:=hx.rho id (by rw [hnx];exact eP)
 next:=by rw [hn',<- hnx];exact hx.next
 size:=hx.size
 keep b hb hn:=hx.keep b hb fun ⟨id,l,h1,h2,h3,h4⟩=>by
  obtain ⟨o,ho⟩:=Option.isSome_iff_exists.1 h1;exact hn ⟨id,l,by rw [hA id o ho];rfl,h2,h3,h4⟩
 own b:=fun ⟨id,l,h1,h2,h3,h4⟩=>by
  obtain ⟨o,ho⟩:=Option.isSome_iff_exists.1 h1
  rcases hH' id o ho with h|h
  ·rcases hx.own b ⟨id,l,by rw [h];rfl,h2,h3,h4⟩ with h5|⟨id2,l2,k1,k2,k3,k4⟩
   ·exact .inl h5
   ·obtain ⟨o2,ho2⟩:=Option.isSome_iff_exists.1 k1;exact .inr ⟨id2,l2,by rw [hA id2 o2 ho2];rfl,k2,k3,k4⟩
  ·rw [hx.rho id (hlt id (by rw [h];rfl))] at h2;exact .inr ⟨id,l,by rw [hB id o h];rfl,h2,h3,h4⟩
 has b:=fun ⟨id,l,h1,h2,h4⟩=>by
  obtain ⟨o,ho⟩:=Option.isSome_iff_exists.1 h1
  rcases hH' id o ho with h|h
  ·rcases hx.has b ⟨id,l,by rw [h];rfl,h2,h4⟩ with h5|⟨id2,l2,k1,k2,k4⟩
   ·exact .inl h5
   ·obtain ⟨o2,ho2⟩:=Option.isSome_iff_exists.1 k1;exact .inr ⟨id2,l2,by rw [hA id2 o2 ho2];rfl,k2,k4⟩
  ·rw [hx.rho id (hlt id (by rw [h];rfl))] at h2;exact .inr ⟨id,l,by rw [hB id o h];rfl,h2,h4⟩
 tape:=hx.tape
 os:=hx.os
 output:=hx.output
 drawn:=hx.drawn
theorem lay_in {base:Nat}{al:Nat->Option O}{p:Nat->Prop}{H:Hs}{i:Nat}{ob:O}(ha:al i=some ob)(hp:p i):(lay base al p H).get (base+i)=some ob:=by
 show (if _ then _ else _)=_;rw [if_pos ⟨by omega,by rw [Nat.add_sub_cancel_left];exact hp,by rw [Nat.add_sub_cancel_left,ha];rfl⟩,Nat.add_sub_cancel_left,ha]
theorem lay_cases {base:Nat}{al:Nat->Option O}(p:Nat->Prop)(H:Hs)(id:Nat):(∃ i ob,id=base+i∧p i∧al i=some ob∧(lay base al p H).get id=some ob) ∨ ((∀ i ob,id=base+i->p i->al i=some ob->False)∧(lay base al p H).get id=H.get id):=by
 by_cases h:base <= id∧p (id - base)∧(al (id - base)).isSome
 ·obtain ⟨h1,h2,h3⟩:=h;obtain ⟨ob,hob⟩:=Option.isSome_iff_exists.1 h3;refine .inl ⟨id - base,ob,by omega,h2,hob,?_⟩;have:=lay_in (H:=H) (base:=base) hob h2;rwa [show base+(id - base)=id by omega] at this
 ·refine .inr ⟨fun i ob hi hp ha=>?_,?_⟩
  ·subst hi;exact h ⟨by omega,by rw [Nat.add_sub_cancel_left];exact hp,by rw [Nat.add_sub_cancel_left,ha];rfl⟩
  ·show (if _ then _ else _)=_;rw [if_neg h]
section
variable {ops:Array Oper} {base:Nat} {E0:Env} {H0 Hb:Hs} {ancs:List (Nat × Nat × Nat × Nat)} {wr seen:Nat} {d:Dr} {R:Nat->uE} {ρ0:Rho} {w0:World} {D:List Df} {ro:Option Nat} {Q:Exit->Act->World->Prop}
noncomputable abbrev heapL (base:Nat)(d:Dr)(R:Nat->uE)(later earlier:List Ch)(L:Nat->Prop):Hs:=lay base (fun i=>(R i).al) (fun i=>L i∧aU (cO earlier) i=false) (kQ later d.st.hs)
structure At (ops:Array Oper)(base:Nat)(E0:Env)(d:Dr)(R:Nat->uE)(ρ0:Rho)(Hb:Hs)(w0:World)(D:List Df)(later earlier:List Ch)(L:Nat->Prop)(ρ:Rho)(a:Act)(w:World):Prop where
 split:d.chs=later ++ earlier
 ear:∀ c ∈ earlier,L c.idx
 lat:∀ c ∈ later,¬ L c.idx
 closed:∀ i j,L i->aU (R i).anc j=true->L j
 size:∀ i,L i->i < ops.size
 done:∀ k o t,L k->ops[k]?=some o->o.dst=some t->∃ v',a.tmps[t]?=some v'∧VR ρ (R k).val v'
 rest:∀ t v,(∀ k o,L k->ops[k]?=some o->o.dst ≠ some t)->tget E0 t=some v->∃ v',a.tmps[t]?=some v'∧VR ρ v v'
 slots:∀ t,(tget E0 t).isSome->t < a.tmps.size
 dr:DR ρ D a.defers
 gl:dZ ρ
 sim:cP ρ (heapL base d R later earlier L) w
 ext:Ext ρ0 Hb w0 ρ (heapL base d R later earlier L) w
 nx:base+ops.size <= (kQ later d.st.hs).next
 free:∀ i,¬ L i->i < ops.size->ρ (base+i)=none
theorem At.ers {later earlier:List Ch}{L:Nat->Prop}{ρ:Rho}{a:Act}{w:World}(hI:Inv P ops base E0 H0 ops.size ancs wr seen d R)(hat:At ops base E0 d R ρ0 Hb w0 D later earlier L ρ a w)
  {i:Nat} {o:Oper} (ho:ops[i]?=some o) (hi:i < ops.size) (hnL:¬ L i) (hL:∀ j,aU (R i).anc j=true->L j):ERs ρ (R i).env a.tmps (tT ops o):=fun t v hr hv=>by
 obtain ⟨h0,h1⟩:=hI.envs i hi t v hv
 rcases h1 with ⟨k,ok,hk,hok,hd,rfl⟩|⟨hno,hv0⟩
 ·refine hat.done k ok t (hL k ?_) hok hd
  rcases hI.reads i o t k ok hi (by omega) ho hr hok hd with h|h
  ·exact h
  ·have:=hI.lt k i (by omega) h;omega
 ·refine hat.rest t v (fun k ok hk hok hd=>?_) hv0;have hks:=hat.size k hk
  rcases hI.reads i o t k ok hi hks ho hr hok hd with hb|hb
  ·exact hno k ok (hI.lt i k hi hb) hok hd
  ·exact hnL (hat.closed k i hk hb)
theorem At.put {later earlier:List Ch}{L:Nat->Prop}{ρ ρ':Rho}{a:Act}{w:World}(hI:Inv P ops base E0 H0 ops.size ancs wr seen d R)(hat:At ops base E0 d R ρ0 Hb w0 D later earlier L ρ a w)
  {i:Nat} {o:Oper} (ho:ops[i]?=some o) (hi:i < ops.size) (hle:ρ.le ρ') {v':Value} (hv:VR ρ' (R i).val v') :
  (∀ k ok t,(k=i ∨ L k)->ops[k]?=some ok->ok.dst=some t->∃ u,(a.put o.dst v').tmps[t]?=some u∧VR ρ' (R k).val u) ∧
  (∀ t u,(∀ k ok,(k=i ∨ L k)->ops[k]?=some ok->ok.dst ≠ some t)->tget E0 t=some u->∃ u',(a.put o.dst v').tmps[t]?=some u'∧VR ρ' u u') ∧
  (∀ t,(tget E0 t).isSome->t < (a.put o.dst v').tmps.size)∧DR ρ' D (a.put o.dst v').defers:=by
 have old:∀ t,o.dst ≠ some t->(a.put o.dst v').tmps[t]?=a.tmps[t]?:=fun t ht=>by
  cases hd:o.dst with
  | none=>rfl
  | some s =>
    have:s ≠ t:=fun e=>ht (by rw [hd,e]);show (a.tmps.setIfInBounds s v')[t]?=_;rw [Array.getElem?_setIfInBounds_ne this]
 have new:∀ t,o.dst=some t->(a.put o.dst v').tmps[t]?=some v':=fun t ht=>by
  have hlt:=hat.slots t (hI.slot i o t hi ho ht);rw [ht];show (a.tmps.setIfInBounds t v')[t]?=_;simp [hlt]
 refine ⟨fun k ok t hk hok hd=>?_,fun t u hno hu=>?_,fun t ht=>?_,?_⟩
 ·by_cases e:k=i
  ·subst e;rw [ho] at hok;cases hok;exact ⟨v',new t hd,hv⟩
  ·have hk':L k:=hk.resolve_left e;have hne:o.dst ≠ some t:=fun h=>e (hI.dst k ok i o t (hat.size k hk') hi hok ho hd h);obtain ⟨u,h1,h2⟩:=hat.done k ok t hk' hok hd;exact ⟨u,by rw [old t hne];exact h1,h2.mono hle⟩
 ·have hne:o.dst ≠ some t:=hno i o (.inl rfl) ho;obtain ⟨u',h1,h2⟩:=hat.rest t u (fun k ok hk=>hno k ok (.inr hk)) hu;exact ⟨u',by rw [old t hne];exact h1,h2.mono hle⟩
 ·have:=hat.slots t ht
  cases hd:o.dst with
  | none=>exact this
  | some s=>show t < (a.tmps.setIfInBounds s v').size;simpa using this
 ·have:(a.put o.dst v').defers=a.defers:=by cases o.dst <;> rfl
  rw [this];exact hat.dr.mono hle
theorem wpOpIn_nx {i:Nat}{o:Oper}{ρ:Rho}{H H':Hs}{v:V}{a:Act}{w:World}{K:Act->World->Prop}(hi:ops[i]?=some o)(hw:Region.wanted o (yielded ops a.tmps)=true)(hnd:∀ c,o.op ≠ .defer c)
  (h:Nx P ρ H w v H' ((execOp a.eval o).run P w)) (hk:∀ v' w' ρ',VR ρ' v v'->cP ρ' H' w'->Ext ρ H w ρ' H' w'->K (a.put o.dst v') w'):wpOpIn (W ro) 0 P ops Q i K a w:=by
 unfold wpOpIn;simp only [hi,hw,if_true];refine ⟨fun f _=>trivial,?_⟩;rw [Oper.semAt_eq _ _ _ hnd];exact h.upon hk
theorem wpOpIn_val {i:Nat}{o:Oper}{a:Act}{w w':World}{v':Value}{K:Act->World->Prop}(hi:ops[i]?=some o)(hw:Region.wanted o (yielded ops a.tmps)=true)(hnd:∀ c,o.op ≠ .defer c)
  (h:(execOp a.eval o).run P w=.ok (.value v') w') (hk:K (a.put o.dst v') w'):wpOpIn (W ro) 0 P ops Q i K a w:=by
 unfold wpOpIn;simp only [hi,hw,if_true];refine ⟨fun f _=>trivial,?_⟩;rw [Oper.semAt_eq _ _ _ hnd,h];exact hk
end
end Go.Am
namespace Go.Am
open Classical
variable {P:Program} {ops:Array Oper} {base:Nat} {E0:Env} {H0 Hb:Hs} {ancs:List (Nat × Nat × Nat × Nat)} {wr seen:Nat} {d:Dr} {R:Nat->uE} {ρ0:Rho} {w0:World} {D:List Df} {ro:Option Nat} {Q:Exit->Act->World->Prop}
def RdFact (P:Program)(d:Dr):Prop:=∀ r ∈ d.rds,∀ later earlier,d.chs=later ++ earlier->aU (cO earlier) r.idx=true ∨ (match later.getLast? with|some c=>aU r.anc c.idx=true|none=>False) ∨ aCQ P r (cO earlier) (kQ later d.st.hs)
def AlFact (d:Dr):Prop:=∀ q ∈ d.als,∀ later earlier,d.chs=later ++ earlier->aU (cO earlier) q.1=true ∨ (kQ later d.st.hs).get q.2=none
theorem Inv.alFact (hI:Inv P ops base E0 H0 ops.size ancs wr seen d R)(hAl:AlFact d){i:Nat}{ob:O}(h:(R i).al=some ob){later earlier:List Ch}(hs:d.chs=later ++ earlier) :
  i < ops.size∧(aU (cO earlier) i=true ∨ (kQ later d.st.hs).get (base+i)=none):=by
 have hlt:i < ops.size:=by
  rcases Nat.lt_or_ge i ops.size with h'|h'
  ·exact h'
  ·rw [hI.out i h'] at h;cases h
 refine ⟨hlt,?_⟩;have hk:=hI.kind i ops[i] hlt (by simp [hlt])
 cases hk with
 | alloc g hd ob mk ha h hv hm n=>exact hAl _ hm later earlier hs
 | skip g hv ha n=>rw [h] at ha;cases ha
 | pure g hd h2 ha n=>rw [h] at ha;cases ha
 | read g hd _ h2 ha n=>rw [h] at ha;cases ha
 | chain g hd c hc hi ha=>rw [h] at ha;cases ha
section
variable {later earlier:List Ch} {L:Nat->Prop} {ρ:Rho} {a:Act} {w:World}
theorem At.prev (hI:Inv P ops base E0 H0 ops.size ancs wr seen d R)(hat:At ops base E0 d R ρ0 Hb w0 D later earlier L ρ a w){i:Nat}(h:aU (cO earlier) i=true):L i:=by
 cases he:earlier with
 | nil=>rw [he] at h;exact absurd h (by show ¬ aU 0 i=true;rw [lE];simp)
 | cons c l =>
   rw [he] at h
   have hc:c ∈ d.chs:=by rw [hat.split,he];simp
   exact hat.closed c.idx i (hat.ear c (by rw [he];simp)) (by rw [<- (hI.chain_lt hc).1];exact h)
theorem At.still (hI:Inv P ops base E0 H0 ops.size ancs wr seen d R)(hat:At ops base E0 d R ρ0 Hb w0 D later earlier L ρ a w){i:Nat}{o:Oper}(ho:ops[i]?=some o)(hi:i < ops.size)(hL:∀ j,aU (R i).anc j=true->L j)
  (ha:(R i).al=none) (hn:∀ c ∈ d.chs,c.idx ≠ i) {v':Value} (hv:VR ρ (R i).val v'):At ops base E0 d R ρ0 Hb w0 D later earlier (fun k=>k=i ∨ L k) ρ (a.put o.dst v') w:=by
 obtain ⟨p1,p2,p3,p4⟩:=hat.put hI ho hi (Rho.le_refl ρ) hv
 have hH:heapL base d R later earlier (fun k=>k=i ∨ L k)=heapL base d R later earlier L:=jY _ fun j=>⟨⟨fun ⟨⟨x,y⟩,z⟩=>by
   rcases x with rfl|x
   ·rw [ha] at z;cases z
   ·exact ⟨⟨x,y⟩,z⟩,fun ⟨⟨x,y⟩,z⟩=>⟨⟨.inr x,y⟩,z⟩⟩,fun _ _=>rfl⟩
 exact { split:=hat.split,ear:=fun c hc=>.inr (hat.ear c hc),lat:=fun c hc h=>h.elim (fun e=>hn c (by rw [hat.split];simp [hc]) e) (hat.lat c hc),
         closed:=fun x j hx hj=>.inr (hx.elim (fun e=>hL j (by rw [<- e];exact hj)) (fun hx=>hat.closed x j hx hj)),size:=fun x hx=>hx.elim (fun e=>by rw [e];exact hi) (hat.size x),
         done:=p1,rest:=p2,slots:=p3,dr:=p4,gl:=hat.gl,sim:=by rw [hH];exact hat.sim,ext:=by rw [hH];exact hat.ext,nx:=hat.nx,free:=fun x hx hlt=>hat.free x (fun h=>hx (.inr h)) hlt }
theorem At.step (hI:Inv P ops base E0 H0 ops.size ancs wr seen d R)(hRd:RdFact P d)(hAl:AlFact d)(hbase:Hb.next=base)(hat:At ops base E0 d R ρ0 Hb w0 D later earlier L ρ a w){i:Nat}{o:Oper}(ho:ops[i]?=some o)(hnL:¬ L i)
  (hready:∀ e ∈ o.after.toList,kX e=true->L e.on) {K:Act->World->Prop}
  (hK:∀ later' earlier' ρ' a' w',At ops base E0 d R ρ0 Hb w0 D later' earlier' (fun k=>k=i ∨ L k) ρ' a' w'->K a' w'):wpOpIn (W ro) 0 P ops Q i K a w:=by
 have hi:i < ops.size:=(Array.getElem?_eq_some_iff.1 ho).1
 have hL:∀ j,aU (R i).anc j=true->L j:=fun j hj=>by
  obtain ⟨e,he,hb,hc⟩:=hI.back i o j hi ho hj
  rcases hc with rfl|hc
  ·exact hready e he hb
  ·exact hat.closed _ _ (hready e he hb) hc
 have hers:=hat.ers hI ho hi hnL hL
 have hev:vC ρ (R i).env a.eval o.op.operands.toList:=by
  rw [nP];exact vC.of_ERs hers hat.gl fun t ht=>.inl ht
 have hnp:aU (cO earlier) i=false:=by
  cases hb:aU (cO earlier) i with
  | false=>rfl
  | true=>exact absurd (hat.prev hI hb) hnL
 -- the heap is more than that of the acting operations alone
 have hsub:∀ id ob,(kQ later d.st.hs).get id=some ob->(heapL base d R later earlier L).get id=some ob:=fun id ob h=>by
  rcases lay_cases (base:=base) (al:=fun i=>(R i).al) (fun i=>L i∧aU (cO earlier) i=false) (kQ later d.st.hs) id with ⟨j,ob',rfl,⟨h1,h2⟩,h3,h4⟩|⟨h1,h2⟩
  ·rcases (hI.alFact hAl h3 hat.split).2 with h5|h5
   ·rw [h2] at h5;cases h5
   ·rw [h] at h5;cases h5
  ·rw [h2];exact h
 have hsimS:cP ρ (kQ later d.st.hs) w:=hat.sim.restrict hsub (Nat.le_refl _);have hk:=hI.kind i o hi ho
 cases hk with
 | skip g hv ha hn =>
   unfold wpOpIn;simp only [ho,g ρ a.tmps hers,Bool.false_eq_true,if_false];exact ⟨fun f _=>trivial,hK later earlier ρ _ w (hat.still hI ho hi hL ha hn (by rw [hv];exact VR.undef ρ))⟩
 | pure g hd h ha hn =>
   obtain ⟨v',h1,h2⟩:=h ρ a.eval o w rfl hev;exact wpOpIn_val ho (g ρ a.tmps hers) hd h1 (hK later earlier ρ _ w (hat.still hI ho hi hL ha hn h2))
 | read g hd sel h ha hn =>
   have hr:aCQ P ⟨o.op,i,(R i).anc,(R i).env,(R i).val,sel⟩ (cO earlier) (kQ later d.st.hs):=by
    rcases hRd _ h later earlier hat.split with h1|h1|h1
    ·exact absurd (hat.prev hI h1) hnL
    ·cases hl:later.getLast? with
     | none=>rw [hl] at h1;exact h1.elim
     | some c =>
       rw [hl] at h1;exact absurd (hL _ h1) (hat.lat c (List.mem_of_getLast? hl))
    ·exact h1
   obtain ⟨H1,hr,hnx,hsub1⟩:=hr
   have hsim1:cP ρ H1 w:=hat.sim.restrict (fun id ob eP=>by
    rcases hsub1 id ob eP with h1|⟨q,hq,h1,rfl,rfl⟩
    ·exact hsub id ob h1
    ·obtain ⟨q1,q2,q3⟩:=hI.rsel _ h q hq;rw [q1]
     exact lay_in q2 ⟨hL _ q3,h1⟩) (by rw [hnx];exact Nat.le_refl _)
   obtain ⟨v',h1,h2⟩:=hr ρ a.eval o w rfl hev hsim1;exact wpOpIn_val ho (g ρ a.tmps hers) hd h1 (hK later earlier ρ _ w (hat.still hI ho hi hL ha hn h2))
 | alloc g hd ob mk ha h hv hm hn =>
   have h0:ρ (base+i)=none:=hat.free i hnL hi;obtain ⟨v',co,csz,h1,h2,h3⟩:=h ρ a.eval o w (base+i) rfl hev h0;refine wpOpIn_val ho (g ρ a.tmps hers) hd h1 (hK later earlier (ρ.put (base+i) ⟨w.heap.size,0,csz,true⟩) _ _ ?_);have hle:ρ.le (ρ.put (base+i) ⟨w.heap.size,0,csz,true⟩):=Rho.le_put h0 _;obtain ⟨p1,p2,p3,p4⟩:=hat.put hI ho hi hle (v':=v') (by rw [hv];exact h2)
   have hH:heapL base d R later earlier (fun k=>k=i ∨ L k)=(heapL base d R later earlier L).put (base+i) (some ob):=by
    rw [aQV _ ha];refine jY _ fun j=>⟨⟨fun ⟨⟨x,y⟩,z⟩=>⟨x.elim .inl fun x=>.inr ⟨x,y⟩,z⟩,fun ⟨x,z⟩=>⟨?_,z⟩⟩,fun _ _=>rfl⟩
    rcases x with rfl|⟨x,y⟩
    ·exact ⟨.inl rfl,hnp⟩
    ·exact ⟨.inr x,y⟩
   have hg:∀ id,(heapL base d R later earlier (fun k=>k=i ∨ L k)).get id=if id=base+i then some ob else (heapL base d R later earlier L).get id:=fun id=>by rw [hH];rfl
   have hlt:base+i < (heapL base d R later earlier L).next:=Nat.lt_of_lt_of_le (by omega) hat.nx;have hsim':cP (ρ.put (base+i) ⟨w.heap.size,0,csz,true⟩) (heapL base d R later earlier (fun k=>k=i ∨ L k)) (w.alloc co):=hat.sim.alloc_at (Nat.le_refl _) hlt h0 hg (.inl hlt) h3
   exact { split:=hat.split,ear:=fun c hc=>.inr (hat.ear c hc),lat:=fun c hc h=>h.elim (fun e=>hn c (by rw [hat.split];simp [hc]) e) (hat.lat c hc),
           closed:=fun x j hx hj=>.inr (hx.elim (fun e=>hL j (by rw [<- e];exact hj)) (fun hx=>hat.closed x j hx hj)),size:=fun x hx=>hx.elim (fun e=>by rw [e];exact hi) (hat.size x),
           done:=p1,rest:=p2,slots:=p3,dr:=p4,gl:=hat.gl.mono hle,sim:=hsim',nx:=hat.nx,
           free:=fun x hx hlt=>by
            rw [Rho.put_ne _ _ (fun e=>hx (.inl (by omega)))];exact hat.free x (fun h=>hx (.inr h)) hlt
           ext:=by
            refine hat.ext.comp (fun id eP=>Rho.put_ne _ _ (by omega)) (Nat.le_refl _) (by simp) (fun b hb _=>by first|exact heap_alloc_old w co b hb|exact heap_alloc_old w co hb) (fun b=>?_) (fun b=>?_) rfl rfl rfl (Nat.le_refl _)
            ·rintro ⟨id,l,q1,q2,q3,q4⟩;rw [hg] at q1;by_cases e:id=base+i
             ·subst e;rw [Rho.put_self] at q2;cases q2;exact .inl (Nat.le_of_eq q4)
             ·rw [if_neg e] at q1;rw [Rho.put_ne _ _ e] at q2;exact .inr ⟨id,l,q1,q2,q3,q4⟩
            ·rintro ⟨id,l,q1,q2,q4⟩;rw [hg] at q1;by_cases e:id=base+i
             ·subst e;rw [Rho.put_self] at q2;cases q2;exact .inl (Nat.le_of_eq q4)
             ·rw [if_neg e] at q1;rw [Rho.put_ne _ _ e] at q2
              exact .inr ⟨id,l,q1,q2,q4⟩ }
 | chain g hd c hc hci ha =>
   -- the last one of those to come
   have hcl:c ∈ later:=by
    have:c ∈ later ++ earlier:=by rw [<- hat.split];exact hc
    rcases List.mem_append.1 this with h|h
    ·exact h
    ·exact absurd (by rw [<- hci];exact hat.ear c h) hnL
   obtain ⟨l,rfl⟩:∃ l,later=l ++ [c]:=by
    rcases List.eq_nil_or_concat later with rfl|⟨l,e,rfl⟩
    ·cases hcl
    ·refine ⟨l,?_⟩;rw [List.concat_eq_append] at hcl ⊢
     rcases List.mem_append.1 hcl with h|h
     ·obtain ⟨l1,l2,rfl⟩:=List.append_of_mem h
      have hs:d.chs=l1 ++ c :: (l2 ++ [e] ++ earlier):=by rw [hat.split];simp
      have hf:=hI.chain _ _ _ hs;have hb:=hf.2.1 e (by simp);rw [hf.1,hci] at hb;exact absurd (hL _ hb) (hat.lat e (by simp))
     ·simp at h;rw [h]
   have hs:d.chs=l ++ c :: earlier:=by rw [hat.split];simp
   obtain ⟨f1,f2,o',f3,f4⟩:=hI.chain _ _ _ hs;rw [hci] at f1 f3 f4;rw [ho] at f3;cases f3;have hst:kQ (l ++ [c]) d.st.hs=c.st.hs:=aMz _ _ _;have hidx:∀ j,aU c.anc j=true->L j:=fun j hj=>hL j (by rw [<- f1];exact hj)
   have hpc:∀ j,aU (cO earlier) j=true->aU c.anc j=true:=fun j hj=>by
    cases he:earlier with
    | nil=>rw [he] at hj;exact absurd hj (by show ¬ aU 0 j=true;rw [lE];simp)
    | cons e l' =>
      rw [he] at hj
      have hem:e ∈ d.chs:=by rw [hs,he];simp
      have h1:=f2 e (by rw [he];simp);rw [f1] at h1 ⊢;exact hI.trans i e.idx j hi h1 (by rw [<- (hI.chain_lt hem).1];exact hj)
   generalize hAeq:lay base (fun i=>(R i).al) (fun i=>aU c.anc i=true∧aU (cO earlier) i=false) c.st.hs=A at f4
   -- what the operation sees is part of what there is
   have hA:∀ id ob,A.get id=some ob->(heapL base d R (l ++ [c]) earlier L).get id=some ob:=fun id ob h=>by
    rw [<- hAeq] at h
    rcases lay_cases (base:=base) (al:=fun i=>(R i).al) (fun i=>aU c.anc i=true∧aU (cO earlier) i=false) c.st.hs id with ⟨j,ob',rfl,⟨h1,h2⟩,h3,h4⟩|⟨h1,h2⟩
    ·rw [h4] at h;cases h;exact lay_in h3 ⟨hidx j h1,h2⟩
    ·rw [h2] at h;exact hsub id ob (by rw [hst];exact h)
   have hAn:A.next=(heapL base d R (l ++ [c]) earlier L).next:=by
    rw [<- hAeq];show c.st.hs.next=(kQ (l ++ [c]) d.st.hs).next;rw [hst]
   have hsA:cP ρ A w:=hat.sim.restrict hA (Nat.le_of_eq hAn.symm);refine wpOpIn_nx ho (g ρ a.tmps hers) hd (f4 ρ a.eval o w rfl hev hat.gl hsA) fun v' w' ρ' hv hs' hx=>?_;have hle:=hx.le hsA;obtain ⟨p1,p2,p3,p4⟩:=hat.put hI ho hi hle hv
   let B:Nat->Option O:=fun id=>if base <= id∧(L (id - base)∧aU c.anc (id - base)=false)∧((R (id - base)).al).isSome then (R (id - base)).al else none
   have hBs:∀ id ob,B id=some ob->∃ j,id=base+j∧L j∧aU c.anc j=false∧(R j).al=some ob:=fun id ob h=>by
    by_cases hb:base <= id∧(L (id - base)∧aU c.anc (id - base)=false)∧((R (id - base)).al).isSome
    ·have h':(if base <= id∧(L (id - base)∧aU c.anc (id - base)=false)∧((R (id - base)).al).isSome then (R (id - base)).al else none)=some ob:=h;rw [if_pos hb] at h';exact ⟨id - base,by omega,hb.2.1.1,hb.2.1.2,h'⟩
    ·have h':(if base <= id∧(L (id - base)∧aU c.anc (id - base)=false)∧((R (id - base)).al).isSome then (R (id - base)).al else none)=some ob:=h;rw [if_neg hb] at h';cases h'
   have hBi:∀ j ob,L j->aU c.anc j=false->(R j).al=some ob->B (base+j)=some ob:=fun j ob h1 h2 h3=>by
    show (if base <= base+j∧(L (base+j - base)∧aU c.anc (base+j - base)=false)∧((R (base+j - base)).al).isSome then (R (base+j - base)).al else none)=some ob;rw [Nat.add_sub_cancel_left,if_pos ⟨by omega,⟨h1,h2⟩,by rw [h3];rfl⟩];exact h3
   have hpf:∀ j,aU c.anc j=false->aU (cO earlier) j=false:=fun j hj=>by
    cases hb:aU (cO earlier) j with
    | false=>rfl
    | true=>rw [hpc j hb] at hj;cases hj
   have hB:∀ id ob,B id=some ob->(heapL base d R (l ++ [c]) earlier L).get id=some ob:=fun id ob h=>by
    obtain ⟨j,rfl,h1,h2,h3⟩:=hBs id ob h;exact lay_in h3 ⟨h1,hpf j h2⟩
   have hdis:∀ id,(B id).isSome->A.get id=none:=fun id h=>by
    obtain ⟨ob,hob⟩:=Option.isSome_iff_exists.1 h;obtain ⟨j,rfl,h1,h2,h3⟩:=hBs id ob hob;rw [<- hAeq]
    rcases lay_cases (base:=base) (al:=fun i=>(R i).al) (fun i=>aU c.anc i=true∧aU (cO earlier) i=false) c.st.hs (base+j) with ⟨j',ob',hj,⟨q1,q2⟩,q3,q4⟩|⟨q1,q2⟩
    ·have:j'=j:=by omega
     subst this;rw [h2] at q1;cases q1
    ·rw [q2]
     rcases (hI.alFact hAl h3 hat.split).2 with h5|h5
     ·rw [hpf j h2] at h5;cases h5
     ·rw [hst] at h5;exact h5
   have hlt:∀ id,(B id).isSome->id < A.next:=fun id h=>by
    obtain ⟨ob,hob⟩:=Option.isSome_iff_exists.1 h;obtain ⟨j,rfl,h1,h2,h3⟩:=hBs id ob hob;rw [hAn];have:=hat.size j h1;exact Nat.lt_of_lt_of_le (by omega) hat.nx
   have hH':∀ id ob,(heapL base d R l (c :: earlier) (fun k=>k=i ∨ L k)).get id=some ob->(kQ l d.st.hs).get id=some ob ∨ B id=some ob:=fun id ob h=>by
    rcases lay_cases (base:=base) (al:=fun i=>(R i).al) (fun k=>(k=i ∨ L k)∧aU (cO (c :: earlier)) k=false) (kQ l d.st.hs) id with ⟨j,ob',rfl,⟨h1,h2⟩,h3,h4⟩|⟨h1,h2⟩
    ·rw [h4] at h;cases h
     rcases h1 with rfl|h1
     ·rw [ha] at h3;cases h3
     ·exact .inr (hBi j _ h1 h2 h3)
    ·rw [h2] at h;exact .inl h
   have hsim':cP ρ' (heapL base d R l (c :: earlier) (fun k=>k=i ∨ L k)) w':=hat.sim.frame hA hB (Nat.le_of_eq hAn.symm) hdis hlt hx hs' rfl hH';have hext':Ext ρ (heapL base d R (l ++ [c]) earlier L) w ρ' (heapL base d R l (c :: earlier) (fun k=>k=i ∨ L k)) w':=Ext.frame hA hB hAn hlt hx rfl hH';have hnx':base+ops.size <= (kQ l d.st.hs).next:=Nat.le_trans hat.nx (Nat.le_trans (Nat.le_of_eq hAn.symm) hx.next);refine hK l (c :: earlier) ρ' _ w' ?_
   exact { split:=hs,ear:=fun e he=>by
            rcases List.mem_cons.1 he with rfl|he
            ·exact .inl hci
            ·exact .inr (hat.ear e he)
           lat:=fun e he h=>by
            rcases h with h|h
            ·-- two acting operations with one number
             obtain ⟨l1,l2,rfl⟩:=List.append_of_mem he
             have hs2:d.chs=l1 ++ e :: (l2 ++ c :: earlier):=by rw [hs];simp
             have hf:=hI.chain _ _ _ hs2;have hb:=hf.2.1 c (by simp)
             have hem:e ∈ d.chs:=by rw [hs2];simp
             have:=(hI.chain_lt hem).2.2 _ hb;omega
            ·exact hat.lat e (by simp [he]) h
           closed:=fun x j hx hj=>.inr (hx.elim (fun e=>hL j (by rw [<- e];exact hj)) (fun hx=>hat.closed x j hx hj)),size:=fun x hx=>hx.elim (fun e=>by rw [e];exact hi) (hat.size x),
           done:=p1,rest:=p2,slots:=p3,dr:=p4,gl:=hat.gl.mono hle,sim:=hsim',ext:=hat.ext.trans hext',nx:=hnx',
           free:=fun x hx' hlt'=>by
            rw [hx.rho (base+x) (by rw [hAn];exact Nat.lt_of_lt_of_le (by omega) hat.nx)]
            exact hat.free x (fun h=>hx' (.inr h)) hlt' }
end
theorem countP_lt {α:Type}{p p':α->Bool}:∀ {l:List α},(∀ x,p' x=true->p x=true)->∀ {x:α},x ∈ l->p x=true->p' x=false->l.countP p'+1 <= l.countP p
 | [],_,x,h,_,_=>by cases h
 | y :: l,hp,x,h,h1,h2=>by
   rw [List.countP_cons,List.countP_cons];have mono:l.countP p' <= l.countP p:=List.countP_mono_left fun z _=>hp z
   rcases List.mem_cons.1 h with rfl|h
   ·rw [h1,h2];simp;omega
   ·have ih:=countP_lt hp h h1 h2
    have:(if p' y=true then 1 else 0) <= (if p y=true then 1 else 0):=by
     by_cases hy:p' y=true
     ·rw [if_pos hy,if_pos (hp y hy)];exact Nat.le_refl _
     ·rw [if_neg hy];omega
    omega
def Lof (listed:Array Bool):Nat->Prop:=fun i=>listed.getD i false=true
theorem binds_any (e:Edge):Region.binds .any e=kX e:=by
 unfold Region.binds kX;cases e.ground <;> rfl
theorem At.all (hI:Inv P ops base E0 H0 ops.size ancs wr seen d R)(hRd:RdFact P d)(hAl:AlFact d)(hbase:Hb.next=base)
  (hQ:∀ a w ρ,At ops base E0 d R ρ0 Hb w0 D [] d.chs (fun i=>i < ops.size) ρ a w->Q .normal a w):∀ (fuel:Nat) (listed:Array Bool) (later earlier:List Ch) (ρ:Rho) (a:Act) (w:World),listed.size=ops.size ->
   (List.range ops.size).countP (fun k=>!listed.getD k false) <= fuel->At ops base E0 d R ρ0 Hb w0 D later earlier (Lof listed) ρ a w->wpAnyIn (W ro) 0 P .any ops Q fuel listed a w:=by
 have ready:∀ (listed:Array Bool) (j:Nat),j ∈ Region.ready .any ops listed->listed.size=ops.size->¬ Lof listed j∧∃ o,ops[j]?=some o∧∀ e ∈ o.after.toList,kX e=true->Lof listed e.on:=fun listed j hj hsz=>by
  obtain ⟨h1,o,ho,h2⟩:=mem_ready.1 hj
  have hlt:j < listed.size:=by rw [hsz];exact (Array.getElem?_eq_some_iff.1 ho).1
  refine ⟨fun h=>?_,o,ho,fun e he hb=>h2 e (by simpa using he) (by rw [binds_any];exact hb)⟩;unfold Lof at h;simp [hlt] at h h1;rw [h1] at h;cases h
 have endAt:∀ (listed:Array Bool) (later earlier:List Ch) (ρ:Rho) (a:Act) (w:World),listed.size=ops.size->Region.ready .any ops listed=[]->At ops base E0 d R ρ0 Hb w0 D later earlier (Lof listed) ρ a w->Q .normal a w:=fun listed later earlier ρ a w hsz hr hat=>by
  have hall:∀ i,i < ops.size->Lof listed i:=fun i=>by
   induction i using Nat.strongRecOn with
   | ind i ih =>
     intro hi;by_cases hl:Lof listed i
     ·exact hl
     ·have:i ∈ Region.ready .any ops listed:=mem_ready.2 ⟨by
        have hlt:i < listed.size:=by omega
        unfold Lof at hl
        simp [hlt] at hl ⊢;exact hl,ops[i],by simp [hi],fun e he hb=>by
        have hlt:=hI.edge i ops[i] e hi (by simp [hi]) (by simpa using he) (by rw [<- binds_any];exact hb)
        exact ih e.on hlt (by omega)⟩
      rw [hr] at this;cases this
  have hLe:Lof listed=fun i=>i < ops.size:=funext fun i=>propext ⟨fun h=>hat.size i h,hall i⟩
  have hlater:later=[]:=by
   cases hl:later with
   | nil=>rfl
   | cons c l =>
     have hc:c ∈ later:=by rw [hl];simp
     have hcm:c ∈ d.chs:=by rw [hat.split];simp [hc]
     exact absurd (hall _ (hI.chlt c hcm)) (hat.lat c hc)
  subst hlater;have he:earlier=d.chs:=hat.split.symm;subst he;rw [hLe] at hat;exact hQ a w ρ hat
 intro fuel
 induction fuel with
 | zero =>
   intro listed later earlier ρ a w hsz hcnt hat
   have hr:Region.ready .any ops listed=[]:=by
    cases hr:Region.ready .any ops listed with
    | nil=>rfl
    | cons j js =>
      obtain ⟨h1,o,ho,_⟩:=ready listed j (by rw [hr];simp) hsz;have hlt:j < ops.size:=(Array.getElem?_eq_some_iff.1 ho).1
      have h0:(List.range ops.size).countP (fun k=>!listed.getD k false)=0:=by omega
      have:=List.countP_eq_zero.1 h0 j (by simp [hlt]);exact absurd (show Lof listed j by unfold Lof;simpa using this) h1
   exact ⟨hr,endAt listed later earlier ρ a w hsz hr hat⟩
 | succ fuel ih =>
   intro listed later earlier ρ a w hsz hcnt hat;refine ⟨fun hr=>endAt listed later earlier ρ a w hsz hr hat,fun i hri=>?_⟩;obtain ⟨h1,o,ho,h2⟩:=ready listed i hri hsz;have hlt:i < ops.size:=(Array.getElem?_eq_some_iff.1 ho).1
   have hset:Lof (listed.setIfInBounds i true)=fun k=>k=i ∨ Lof listed k:=funext fun k=>propext (by
    unfold Lof;by_cases e:i=k
    ·subst e
     have:i < listed.size:=by omega
     simp [this]
    ·rw [getD_set_ne false e]
     exact ⟨.inr,fun h=>h.resolve_left (fun h=>e h.symm)⟩)
   refine hat.step hI hRd hAl hbase ho h1 h2 fun later' earlier' ρ' a' w' hat'=>ih _ later' earlier' ρ' a' w' (by simpa using hsz) ?_ (by rw [hset];exact hat');have hc:=countP_lt (l:=List.range ops.size) (p:=fun k=>!listed.getD k false) (p':=fun k=>!(listed.setIfInBounds i true).getD k false) (fun x hx=>?_) (x:=i) (by simp [hlt]) ?_ ?_
   ·omega
   ·by_cases e:i=x
    ·subst e
     have:i < listed.size:=by omega
     simp [this] at hx
    ·rw [getD_set_ne false e] at hx;exact hx
   ·have:¬ listed.getD i false=true:=h1;simpa using this
   ·have:i < listed.size:=by omega
    simp [this]
theorem evDraw_ok (hm:P.follows .mixedOrders=true){rc:cG}{rd:bQ}(hc:dN P rc)(hd:dW P rd):DrawOk P (cZ P rc rd):=by
 intro ops E S k h
 have h1:=bV (k:=fun nx=>drOps P rc rd S.next ops.toList ops.toList 0 [] 0 0 ⟨E,⟨S.hp,nx⟩,[],[],[],[]⟩ fun d =>
  fU P d.chs d.st d.rds (kK d.chs d.st d.als (nX d.pend d.st fun S=>k d.env S))) h
 generalize hnx:Nat.add S.next (dH ops.toList)=nx at h1;rw [aM] at hnx
 have hnx':S.next+ops.size=nx:=by rw [<- hnx];simp
 have hI0:Inv P ops S.next E (St.hs ⟨S.hp,nx⟩) 0 [] 0 0 ⟨E,⟨S.hp,nx⟩,[],[],[],[]⟩ (fun _=>⟨0,0,E,undefV,none⟩) :=
  { out:=fun _ _=>rfl,alen:=rfl,ancs:=fun j hj=>absurd hj (by omega),wr:=fun k o t hk=>absurd hk (by omega),seen:=fun k o t hk=>absurd hk (by omega),dw:=fun i t hi=>absurd hi (by omega),lt:=fun i j hi=>absurd hi (by omega),
    edge:=fun i o e hi=>absurd hi (by omega),back:=fun i o j hi=>absurd hi (by omega),trans:=fun i j k hi=>absurd hi (by omega),reads:=fun i o t k ok hi=>absurd hi (by omega),dst:=fun i o k ok t hi=>absurd hi (by omega),
    slot:=fun i o t hi=>absurd hi (by omega),envs:=fun i hi=>absurd hi (by omega),env:=fun t v ht=>⟨by rw [ht];rfl,.inr ⟨fun k o hk=>absurd hk (by omega),ht⟩⟩,kind:=fun i o hi=>absurd hi (by omega),
    chlt:=fun c hc=>(by cases hc),chain:=fun l c e he=>absurd he (by simp),start:=rfl,rsel:=fun r hr=>(by cases hr),pend1:=fun q hq=>(by cases hq),pend2:=fun i hi=>(by cases hi) }
 obtain ⟨d,R,ancs,wr,seen,h2,hI⟩:=aBb hc hd ops.toList 0 [] 0 0 _ _ _ (by simp) (by omega) hI0 h1;obtain ⟨h3,hRd⟩:=zV h2;obtain ⟨h4,hAl⟩:=zE h3;obtain ⟨S',h5,h6⟩:=uA (al:=fun i=>(R i).al) hI.pend1 h4;refine ⟨d.env,S',h5,fun id r ρ D a w Q hE hD hg hs hq=>?_⟩;refine wpIn_region_any hm ?_;have hs0:cP ρ (St.hs ⟨S.hp,nx⟩) w.drew:=hs.drew.restrict (fun _ _ h=>h) (by show S.next <= nx;omega)
 have hlof:Lof (Array.replicate ops.size false)=fun _=>False:=funext fun i=>propext ⟨fun h=>by
  unfold Lof at h;rw [Array.getD_eq_getD_getElem?] at h;rw [Array.getElem?_replicate] at h
  split at h <;> simp at h,fun h=>h.elim⟩
 have hst:kQ d.chs d.st.hs=St.hs ⟨S.hp,nx⟩:=hI.start
 have hheap:heapL S.next d R d.chs [] (Lof (Array.replicate ops.size false))=St.hs ⟨S.hp,nx⟩:=by
  rw [hlof];show lay _ _ _ _=_;rw [yE _ (fun i h _=>h.1),hst]
 have hslots:∀ t,(tget E t).isSome->t < a.tmps.size:=fun t ht=>by
  obtain ⟨v,hv⟩:=Option.isSome_iff_exists.1 ht;obtain ⟨v',h',_⟩:=hE t v hv;exact (Array.getElem?_eq_some_iff.1 h').1
 have hat0:At ops S.next E d R ρ S.hs w D d.chs [] (Lof (Array.replicate ops.size false)) ρ a w.drew:=by
  refine { split:=by simp,ear:=fun c hc=>(by cases hc),lat:=fun c _ h=>(by rw [hlof] at h;exact h),closed:=fun i j h=>(by rw [hlof] at h;exact h.elim),size:=fun i h=>(by rw [hlof] at h;exact h.elim),
           done:=fun k o t h=>(by rw [hlof] at h;exact h.elim),rest:=fun t v _ hv=>hE t v hv,slots:=hslots,dr:=hD,gl:=hg,sim:=by rw [hheap];exact hs0,ext:=?_,nx:=by rw [hst];exact Nat.le_of_eq hnx',
           free:=fun i _ _=>hs.fresh _ (by show S.next <= S.next+i;omega) }
  rw [hheap];have:=Ext.drew ρ S.hs w;exact { rho:=this.rho,next:=by show S.next <= nx;omega,size:=this.size,keep:=this.keep,own:=this.own,has:=this.has,tape:=this.tape,os:=this.os,output:=this.output,drawn:=this.drawn }
 refine At.all hI hRd hAl rfl (fun a' w' ρ' hat=>?_) ops.size _ d.chs [] ρ a w.drew (by simp) ?_ hat0
 ·refine hq a' w' ⟨ρ',fun t v ht=>?_,hat.dr,?_,?_⟩
  ·obtain ⟨h0,h1⟩:=hI.env t v ht
   rcases h1 with ⟨k,o,hk,hok,hd',rfl⟩|⟨hno,hv⟩
   ·exact hat.done k o t hk hok hd'
   ·exact hat.rest t v (fun k o hk=>hno k o hk) hv
  all_goals
   have hfin:heapL S.next d R [] d.chs (fun i=>i < ops.size)=S'.hs:=by
    rw [h6];refine jY _ fun i=>⟨⟨fun ⟨⟨x,y⟩,z⟩=>⟨(hI.pend2 i z).2 y,z⟩,fun ⟨x,z⟩=>⟨⟨?_,(hI.pend2 i z).1 x⟩,z⟩⟩,fun _ _=>rfl⟩
    rcases Nat.lt_or_ge i ops.size with h'|h'
    ·exact h'
    ·rw [hI.out i h'] at z;cases z
   rw [<- hfin]
  ·exact hat.sim
  ·exact hat.ext
 ·exact Nat.le_trans (List.countP_le_length) (by simp)
end Go.Am
namespace Go.Am
abbrev aPQ:=FuncId->Option (List V->St->(V->St->Prop)->Prop)
noncomputable def nM (P:Program)(Xt:xJ)(hk:aPQ)(dr:cG->bQ->mP)(n:Nat):aMS :=
 Nat.rec (motive:=fun _=>aMS) ⟨fun _ _ _ _=>False,fun _ _ _ _=>False,fun _ _ _ _ _ _ _=>False⟩
  (fun _ r=>⟨fun f args S k=>Option.casesOn (hk f) (rP P Xt r.call r.round r.loop (dr r.call r.round) f args S k) fun q=>q args S k,aAp P r.call r.round r.loop (dr r.call r.round),
   fun q ro b E D S k=>evCode P r.call r.round r.loop (dr r.call r.round) ro b E D S fun x E D S=>aVV r.loop q ro b k x E D S⟩) n
noncomputable def aGi (n v:List UInt8)(l:List (List UInt8 × List UInt8)):(List (List UInt8 × List UInt8)->Prop)->Prop :=
 List.rec (motive:=fun _=>(List (List UInt8 × List UInt8)->Prop)->Prop) (fun k=>k [(n,v)])
  (fun q l ih k=>Bool.rec (Bool.rec False (ih fun r=>k (q :: r)) (jJ q.1 n)) (k ((n,v) :: q :: l)) (jJ n q.1)) l
noncomputable def aHg (es:List (V × V × Nat)):List (List UInt8 × List UInt8)->(List (List UInt8 × List UInt8)->Prop)->Prop :=
 List.rec (motive:=fun _=>List (List UInt8 × List UInt8)->(List (List UInt8 × List UInt8)->Prop)->Prop) (fun l k=>k l)
  (fun e _ ih l k=>match e.1,e.2.1 with|.str m,.agg [.str n,.str v]=>dD (kG m n) (aGi n v l fun l=>ih l k)|_,_=>False) es
noncomputable def wY (es:List (V × V × Nat)):Nat->Nat->Bool :=
 List.rec (motive:=fun _=>Nat->Nat->Bool) (fun p c=>Nat.ble p c) (fun e _ ih p c=>Bool.rec false (ih (Nat.succ e.2.2) c) (Nat.ble p e.2.2)) es
noncomputable def flatK (l:List (List UInt8 × List UInt8)):(List V->Prop)->Prop :=
 List.rec (motive:=fun _=>(List V->Prop)->Prop) (fun k=>k []) (fun q _ ih k=>ih fun r=>k (.str q.1 :: .str q.2 :: r)) l
noncomputable def wI (e:TypeId)(args:List V)(S:St)(k:V->St->Prop):Prop:=match args with
 | [.map id]=>mC S id fun es c=>dD (wY es 0 c) (aHg es [] fun l=>dD (Nat.ble (dH l) 4096) (match l with
   | []=>k .nilSlice S
   | l=>flatK l fun cs=>fN (dH l) fun n=>bK (.cells cs e .rw) S fun id S=>k (.slice id 0 n n 2 false) S))
 | _=>False
noncomputable def aET (g:FuncId)(q:List V->St->(V->St->Prop)->Prop):aPQ:=fun f=>Bool.rec none (some q) (Nat.beq f g)
noncomputable def dJ (l:List (Nat × O)):St->(St->Prop)->Prop :=
 List.rec (motive:=fun _=>St->(St->Prop)->Prop) (fun S k=>k S) (fun q _ ih S k=>bD q.1 (some q.2) S fun S=>ih S k) l
section
variable {P:Program}
def aMO (P:Program)(hk:aPQ):Prop:=∀ f q,hk f=some q->∀ args S k,q args S k->∃ v S',k v S'∧fP P f args S.hs v S'.hs
theorem sR {Xt:xJ}(hX:oY P Xt){hk:aPQ}(hH:aMO P hk){dr:cG->bQ->mP}(hdr:∀ rc rd,dN P rc->dW P rd->DrawOk P (dr rc rd)) :
  ∀ n,dN P (nM P Xt hk dr n).call∧dW P (nM P Xt hk dr n).round∧LoopOk P (nM P Xt hk dr n).loop
 | 0=>⟨fun _ _ _ _ h=>h.elim,fun _ _ _ _ h=>h.elim,⟨fun _ _ _ _ _ _ h=>h.elim,fun _ _ _ _ _ _ _ h=>h.elim⟩⟩
 | n+1=>by
   obtain ⟨hc,hd,hl⟩:=sR hX hH hdr n;have hr:=hdr _ _ hc hd
   refine ⟨fun f args S k h=>?_,vT hc hd hl hr,⟨fun ro b E D S k h=>?_,fun c ro b E D S k h=>by
    obtain ⟨x,E1,D1,S1,h1,h2⟩:=cC hc hd hl hr ro b E D S _ h
    exact scope_step hl h2 h1⟩⟩
   ·have h':Option.rec (motive:=fun _=>Prop) (rP P Xt (nM P Xt hk dr n).call (nM P Xt hk dr n).round (nM P Xt hk dr n).loop (dr (nM P Xt hk dr n).call (nM P Xt hk dr n).round) f args S k) (fun q=>q args S k) (hk f):=h
    cases hf:hk f with
    | none=>rw [hf] at h';exact iE hX hc hd hl hr f args S k h'
    | some q=>rw [hf] at h';exact hH f q hf args S k h'
   ·obtain ⟨x,E1,D1,S1,h1,h2⟩:=cC hc hd hl hr ro b E D S _ h
    cases x with
    | normal =>
      obtain ⟨x2,E2,D2,S2,h3,h4⟩:=hl.loop ro b E1 D1 S1 k h1;refine ⟨x2,E2,D2,S2,h3,fun ρ r a w Q hro hE hD hg hs hQ=>.of (h2 ρ r a w _ hro hE hD hg hs fun a1 w1 ⟨ρ1,b1,b2,b3,b4⟩=>?_)⟩;have hle:=b4.le hs;exact h4 ρ1 r a1 w1 Q (hro.mono hle) b1 b2 (hg.mono hle) b3 fun a2 w2 h5=>hQ a2 w2 (h5.comp b4)
    | exit id=>exact ⟨.exit id,E1,D1,S1,h1,fun ρ r a w Q hro hE hD hg hs hQ=>.of (h2 ρ r a w _ hro hE hD hg hs hQ)⟩
    | ret=>exact ⟨.ret,E1,D1,S1,h1,fun ρ r a w Q hro hE hD hg hs hQ=>.of (h2 ρ r a w _ hro hE hD hg hs hQ)⟩
    | goto l=>exact ⟨.goto l,E1,D1,S1,h1,fun ρ r a w Q hro hE hD hg hs hQ=>.of (h2 ρ r a w _ hro hE hD hg hs hQ)⟩
theorem aIM {g:FuncId}{q:List V->St->(V->St->Prop)->Prop}(h:∀ args S k,q args S k->∃ v S',k v S'∧fP P g args S.hs v S'.hs):aMO P (aET g q):=fun f q' hf args S k hq=>by
 unfold aET at hf
 cases hb:Nat.beq f g with
 | false=>rw [hb] at hf;cases hf
 | true =>
   rw [hb] at hf;cases hf;rw [aj hb];exact h args S k hq
def dU:List (Nat × O)->Hs->Hs
 | [],H=>H
 | q :: l,H=>dU l (H.put q.1 (some q.2))
theorem fF:∀ {l:List (Nat × O)} {S:St} {k:St->Prop},dJ l S k->∃ S',k S'∧S'.hs=dU l S.hs
 | [],S,k,h=>⟨S,h,rfl⟩
 | q :: l,S,k,h=>by
   obtain ⟨S1,h1,h2⟩:=bS (show bD q.1 (some q.2) S fun S=>dJ l S k from h);obtain ⟨S2,h3,h4⟩:=fF h1;exact ⟨S2,h3,by rw [h4,h2];rfl⟩
end
section
variable {P:Program}
inductive RC (P:Program):FuncId->List V->St->(V->St->Prop)->Prop
 | mk {g:FuncId} {l:List V} {S:St} {k:V->St->Prop} (v:V) (S':St) (h:fP P g l S.hs v S'.hs) (hk:k v S'):RC P g l S k
inductive RD (P:Program):Nat->List V->St->(V->St->Prop)->Prop
 | mk {id:Nat} {l:List V} {S:St} {k:V->St->Prop} (v:V) (S':St) (h:aMR P id l S.hs v S'.hs) (hk:k v S'):RD P id l S k
inductive LQ (P:Program):Option Code->Option Nat->Code->Env->List Df->St->KT->Prop
 | mk {ro:Option Nat} {c:Code} {E:Env} {D:List Df} {S:St} {k:KT} (x:X) (E':Env) (D':List Df) (S':St) (h:LoopS P ro c E D S.hs x E' D' S'.hs) (hk:k x E' D' S'):LQ P none ro c E D S k
 | sc {body:Code} {ro:Option Nat} {c:Code} {E:Env} {D:List Df} {S:St} {k:KT} (x:X) (E':Env) (D':List Df) (S':St) (h:ScopeS P ro body c E D S.hs x E' D' S'.hs) (hk:k x E' D' S'):LQ P (some body) ro c E D S k
abbrev LP (P:Program):Option Nat->Code->Env->List Df->St->KT->Prop:=LQ P none
theorem fL:dN P (RC P):=fun _ _ _ _ h=>by cases h with|mk v S' h hk=>exact ⟨v,S',hk,h⟩
theorem fM:dW P (RD P):=fun _ _ _ _ h=>by cases h with|mk v S' h hk=>exact ⟨v,S',hk,h⟩
theorem oM:LoopOk P (LQ P):=⟨fun _ _ _ _ _ _ h=>by cases h with|mk x E' D' S' h hk=>exact ⟨x,E',D',S',hk,h⟩,fun _ _ _ _ _ _ _ h=>by cases h with|sc x E' D' S' h hk=>exact ⟨x,E',D',S',hk,h⟩⟩
theorem LP.step (hm:P.follows .mixedOrders=true){ro:Option Nat}{b:Code}{E:Env}{D:List Df}{S:St}{k:KT}
  (h:evCode P (RC P) (RD P) (LQ P) (cZ P (RC P) (RD P)) ro b E D S fun x E D S=>X.casesOn x (LP P ro b E D S k) (fun id=>k (.exit id) E D S) (k .ret E D S) (fun l=>k (.goto l) E D S)):LP P ro b E D S k:=by
 obtain ⟨x,E1,D1,S1,h1,h2⟩:=cC fL fM oM (evDraw_ok hm fL fM) ro b E D S _ h
 cases x with
 | normal =>
   obtain ⟨x2,E2,D2,S2,h3,h4⟩:=oM.loop ro b E1 D1 S1 k h1;refine .mk x2 E2 D2 S2 (fun ρ r a w Q hro hE hD hg hs hQ=>.of (h2 ρ r a w _ hro hE hD hg hs fun a1 w1 ⟨ρ1,b1,b2,b3,b4⟩=>?_)) h3;have hle:=b4.le hs;exact h4 ρ1 r a1 w1 Q (hro.mono hle) b1 b2 (hg.mono hle) b3 fun a2 w2 h5=>hQ a2 w2 (h5.comp b4)
 | exit id=>exact .mk (.exit id) E1 D1 S1 (fun ρ r a w Q hro hE hD hg hs hQ=>.of (h2 ρ r a w _ hro hE hD hg hs hQ)) h1
 | ret=>exact .mk .ret E1 D1 S1 (fun ρ r a w Q hro hE hD hg hs hQ=>.of (h2 ρ r a w _ hro hE hD hg hs hQ)) h1
 | goto l=>exact .mk (.goto l) E1 D1 S1 (fun ρ r a w Q hro hE hD hg hs hQ=>.of (h2 ρ r a w _ hro hE hD hg hs hQ)) h1
theorem RC.run (hm:P.follows .mixedOrders=true){Xt:xJ}(hX:oY P Xt){g:FuncId}{l:List V}{S:St}{k:V->St->Prop}
  (h:rP P Xt (RC P) (RD P) (LQ P) (cZ P (RC P) (RD P)) g l S k):RC P g l S k:=by
 obtain ⟨v,S',h1,h2⟩:=iE hX fL fM oM (evDraw_ok hm fL fM) g l S k h;exact .mk v S' h2 h1
theorem bX {A B:Prop}{b:Bool}(h1:b=true->B)(h0:b=false->A):Bool.rec (motive:=fun _=>Prop) A B b:=by
 cases b
 ·exact h0 rfl
 ·exact h1 rfl
theorem sO:∀ {f n:Nat},n < 2 ^ f->(digs f n).isSome
 | 0,0,_=>rfl
 | 0,n+1,h=>by simp at h
 | f+1,0,_=>rfl
 | f+1,n+1,h=>by
   have:(n / 4) < 2 ^ f:=by
    have:2 ^ (f+1)=2 * 2 ^ f:=by rw [Nat.pow_succ];omega
    omega
   obtain ⟨l,hl⟩:=bc.1 (sO this);show (Option.rec (motive:=fun _=>Option (List D4)) none (fun l=>some (dig (Nat.mod n 4) :: l)) (digs f (n / 4))).isSome;rw [hl];rfl
theorem T.setL_ex {α:Type}{x:Option α}:∀ {l:List D4} {t:T α},∃ t',∀ k:T α->Prop,k t'->T.setL x l t k
 | [],t=>by
   cases t with
   | nil=>exact ⟨_,fun k h=>h⟩
   | node v a b c d=>exact ⟨_,fun k h=>h⟩
 | q :: l,t=>by
   cases t with
   | nil=>obtain ⟨y,hy⟩:=T.setL_ex (x:=x) (l:=l) (t:=.nil);cases q <;> exact ⟨_,fun k h=>hy _ h⟩
   | node v a b c d =>
     cases q
     ·obtain ⟨y,hy⟩:=T.setL_ex (x:=x) (l:=l) (t:=a);exact ⟨_,fun k h=>hy _ h⟩
     ·obtain ⟨y,hy⟩:=T.setL_ex (x:=x) (l:=l) (t:=b);exact ⟨_,fun k h=>hy _ h⟩
     ·obtain ⟨y,hy⟩:=T.setL_ex (x:=x) (l:=l) (t:=c);exact ⟨_,fun k h=>hy _ h⟩
     ·obtain ⟨y,hy⟩:=T.setL_ex (x:=x) (l:=l) (t:=d);exact ⟨_,fun k h=>hy _ h⟩
theorem T.set_ex {α:Type}{x:Option α}{d n:Nat}{t:T α}(h:(digs d n).isSome):∃ t',∀ k:T α->Prop,k t'->T.set x d n t k False:=by
 obtain ⟨l,hl⟩:=bc.1 h;obtain ⟨t',ht⟩:=T.setL_ex (x:=x) (l:=l) (t:=t);exact ⟨t',fun k hk=>by unfold T.set;rw [hl];exact ht k hk⟩
abbrev room:Nat:=4096
theorem aD {o:O}{S:St}{k:Nat->St->Prop}(hn:S.next < room)(h:∀ S',S'.hs=S.hs.new o->k S.next S'):bK o S k:=by
 cases S;obtain ⟨t',ht⟩:=T.set_ex (x:=some o) (d:=fA) (n:=_) (t:=_) (sO hn)
 rename_i hp nx
 have hk:bK o ⟨hp,nx⟩ fun i S'=>i=nx∧S'=⟨t',Nat.succ nx⟩:=ht _ ⟨rfl,rfl⟩;obtain ⟨S',⟨_,h2⟩,h3⟩:=eI hk;exact ht _ (h _ (by rw [<- h2];exact h3))
theorem aE {id:Nat}{o:Option O}{S:St}{k:St->Prop}(hn:id < room)(h:∀ S',S'.hs=S.hs.put id o->k S'):bD id o S k:=by
 cases S
 rename_i hp nx
 obtain ⟨t',ht⟩:=T.set_ex (x:=o) (d:=fA) (n:=id) (t:=hp) (sO hn);have hk:bD id o ⟨hp,nx⟩ fun S'=>S'=⟨t',nx⟩:=ht _ rfl;obtain ⟨S',h2,h3⟩:=bS hk;exact ht _ (h _ (by rw [<- h2];exact h3))
theorem aA {id:Nat}{S:St}{k:List V->TypeId->Fl->Prop}{cs:List V}{e:TypeId}{fl:Fl}(h:S.hs.get id=some (.cells cs e fl))(hk:k cs e fl):cM S id k:=by
 have h':T.get fA id S.hp=some (.cells cs e fl):=h;unfold cM;rw [h'];exact hk
theorem jP {id:Nat}{S:St}{k:List (V × V × Nat)->Nat->Prop}{es:List (V × V × Nat)}{c:Nat}(h:S.hs.get id=some (.map es c))(hk:k es c):mC S id k:=by
 have h':T.get fA id S.hp=some (.map es c):=h;unfold mC;rw [h'];exact hk
end
section
variable {P:Program}
theorem LP.induct {ro:Option Nat}{c:Code}{D:List Df}{k:KT}{E:Env}{S:St}(n:Nat)(Inv:Nat->Env->St->Prop)(h0:Inv 0 E S)
  (step:∀ j E S,Inv j E S->(∀ E' S',j < n->Inv (j+1) E' S'->LP P ro c E' D S' k)->LP P ro c E D S k):LP P ro c E D S k:=by
 have key:∀ m j E S,n <= j+m->Inv j E S->LP P ro c E D S k:=by
  intro m
  induction m with
  | zero=>exact fun j E S hj hi=>step j E S hi fun E' S' hlt _=>by omega
  | succ m ih=>exact fun j E S hj hi=>step j E S hi fun E' S' _ hi'=>ih (j+1) E' S' om hi'
 exact key n 0 E S om h0
def Sub (H' H:Hs):Prop:=(∀ id o,H'.get id=some o->H.get id=some o)∧H.next <= H'.next
theorem Ext.sub {ρ ρ':Rho}{H H' H'':Hs}{w w':World}(h:Ext ρ H w ρ' H' w')(hs:Sub H'' H'):Ext ρ H w ρ' H'' w' :=
 { rho:=h.rho,next:=bg h.next hs.2,size:=h.size,keep:=h.keep,
   own:=fun b ⟨id,l,h1,h2,h3,h4⟩=>by
    obtain ⟨o,ho⟩:=bc.1 h1;exact h.own b ⟨id,l,by rw [hs.1 id o ho];rfl,h2,h3,h4⟩,
   has:=fun b ⟨id,l,h1,h2,h4⟩=>by
    obtain ⟨o,ho⟩:=bc.1 h1;exact h.has b ⟨id,l,by rw [hs.1 id o ho];rfl,h2,h4⟩,
   tape:=h.tape,os:=h.os,output:=h.output,drawn:=h.drawn }
theorem Rt.sub {ρ:Rho}{H:Hs}{w:World}{v:V}{H' H'':Hs}{e:Ending}{w':World}(h:Rt ρ H w v H' e w')(hs:Sub H'' H'):Rt ρ H w v H'' e w':=by
 obtain ⟨v',ρ',h1,h2,h3,h4⟩:=h;exact ⟨v',ρ',h1,h2,h3.restrict hs.1 hs.2,h4.sub hs⟩
theorem Nx.sub {ρ:Rho}{H:Hs}{w:World}{v:V}{H' H'':Hs}{r:Result Next}(h:Nx P ρ H w v H' r)(hs:Sub H'' H'):Nx P ρ H w v H'' r:=by
 cases r with
 | halt e w'=>exact h.elim
 | ok n w' =>
   cases n with
   | value v'=>exact Rt.sub h hs
   | skip=>exact Rt.sub h hs
   | enter f args =>
     have h':CallsIn (W none) 0 P f args w' (Rt ρ H w v H'):=h;exact h'.mono fun e w'' hR=>hR.sub hs
   | round l f tmps assign body =>
     have h':RoundIn (W none) 0 P l f tmps assign body w' (Rt ρ H w v H'):=h;exact h'.mono fun e w'' hR=>hR.sub hs
   | _=>exact h.elim
theorem fP.sub {g:FuncId}{l:List V}{H H' H'':Hs}{v:V}(h:fP P g l H v H')(hs:Sub H'' H'):fP P g l H v H'':=fun ρ w l' hg hsim hl=>(h ρ w l' hg hsim hl).sub hs
theorem RC.gc {g:FuncId}{l:List V}{S:St}{k k':V->St->Prop}(h:RC P g l S k)(hk:∀ v S',k v S'->∃ S'',Sub S''.hs S'.hs∧k' v S''):RC P g l S k':=by
 cases h with
 | mk v S' h1 h2 =>
   obtain ⟨S'',h3,h4⟩:=hk v S' h2;exact .mk v S'' (h1.sub h3) h4
theorem LP.less {ro:Option Nat}{c:Code}{D:List Df}{k:KT}{E E1:Env}{S:St}(hle:∀ t v,tget E1 t=some v->tget E t=some v)(h:LP P ro c E1 D S k):LP P ro c E D S k:=by
 cases h with
 | mk x E' D' S' h hk=>exact .mk x E' D' S' (fun ρ r a w Q hro hE hD hg hs hQ=>h ρ r a w Q hro (fun t v ht=>hE t v (hle t v ht)) hD hg hs hQ) hk
end
section
variable {P:Program}
theorem aP {n:Nat}{k:Nat->Prop}(h:k n):fN n k:=by cases n <;> exact h
theorem aBi {b:Bool}{k:Bool->Prop}(h:k b):fB b k:=by cases b <;> exact h
theorem bR {n:Int}{k:Int->Prop}(h:k n):fI n k:=by
 cases n with
 | ofNat n=>exact aP (k:=fun n=>k (Int.ofNat n)) h
 | negSucc n=>exact aP (k:=fun n=>k (Int.negSucc n)) h
theorem ifK_intro {b:Bool}{k:Prop}(hb:b=true)(h:k):dD b k:=by subst hb;exact h
theorem mH {a:IntKind}{n:Nat}{k:Int->Prop}(hn:n <= rF a)(h:k (Int.ofNat n)):eQ a (Int.ofNat n) k:=by
 show Bool.rec (motive:=fun _=>Prop) (fI (a.wrap (Int.ofNat n)) k) (fN n fun m=>k (Int.ofNat m)) (Nat.ble n (rF a))
 have:Nat.ble n (rF a)=true:=by simpa using hn
 rw [this];exact aP (k:=fun m=>k (Int.ofNat m)) h
theorem aJ {S S1:St}{o:O}(h:S1.hs=S.hs.new o):S1.hs.get S.next=some o:=by rw [h];exact if_pos rfl
theorem aC {S S1:St}{o:O}(h:S1.hs=S.hs.new o){id:Nat}(hn:id ≠ S.next):S1.hs.get id=S.hs.get id:=by rw [h];exact if_neg hn
theorem aF {S S1:St}{o:O}(h:S1.hs=S.hs.new o):S1.next=S.next+1:=congrArg Hs.next h
theorem aR {S S1:St}{o:Option O}{id:Nat}(h:S1.hs=S.hs.put id o):S1.hs.get id=o:=by rw [h];exact if_pos rfl
theorem aB {S S1:St}{o:Option O}{id0:Nat}(h:S1.hs=S.hs.put id0 o){id:Nat}(hn:id ≠ id0):S1.hs.get id=S.hs.get id:=by rw [h];exact if_neg hn
theorem aK {S S1:St}{o:Option O}{id:Nat}(h:S1.hs=S.hs.put id o):S1.next=S.next:=congrArg Hs.next h
abbrev aY:=List UInt8 × List UInt8
def cellsOf:List aY->List V
 | []=>[]
 | q :: l=>.str q.1 :: .str q.2 :: cellsOf l
def gE (q:aY):V:=.agg [.str q.1,.str q.2]
theorem qB:∀ (l:List aY) (j:Nat),(cellsOf l).drop (2 * j)=cellsOf (l.drop j)
 | [],j=>by simp [cellsOf]
 | q :: l,0=>rfl
 | q :: l,j+1=>by
   have:=qB l j;rw [show 2 * (j+1)=2 * j+1+1 by omega];simpa [cellsOf] using this
theorem aZ:∀ l:List aY,(cellsOf l).length=2 * l.length
 | []=>rfl
 | q :: l=>by simp [cellsOf,aZ l];omega
theorem bY {α:Type}{k:List α->Prop}:∀ {n:Nat} {l:List α},n <= l.length->k (l.drop n)->kM n l k
 | 0,l,_,h=>h
 | n+1,[],hn,_=>by simp at hn
 | n+1,x :: l,hn,h=>bY (n:=n) (l:=l) (by simpa using hn) h
theorem dT {t:TypeId}(ha:pY P t=some true){i:TypeInfo}(hi:P.info? t=some i)(hs:i.size=2){l:List aY}{j off:Nat}{q:aY}(hq:l[j]?=some q)(ho:off=2 * j){k:V->Prop}(h:k (gE q)):cR P t off (cellsOf l) k:=by
 unfold cR;rw [ha];show uW P t fun n=>kM off (cellsOf l) fun r=>fX n r fun r=>k (.agg r);unfold uW;rw [hi];show kM off (cellsOf l) fun r=>fX i.size r fun r=>k (.agg r);rw [hs];have hlt:j < l.length:=(ao.1 hq).1;refine bY (by rw [aZ];omega) ?_;rw [ho,qB]
 have hd:l.drop j=q :: l.drop (j+1):=by
  rw [List.drop_eq_getElem_cons hlt]
  congr 1
  rw [ak hlt] at hq;exact Option.some.inj hq
 rw [hd];exact h
def getL (s:List UInt8):List aY->List UInt8
 | []=>[]
 | q :: l=>if q.1=s then q.2 else getL s l
theorem aJV {s:List UInt8}:∀ {l:List aY} {j:Nat} (hj:j < l.length),(∀ q ∈ l.take j,q.1 ≠ s)->l[j].1=s->getL s l=l[j].2
 | [],j,hj,_,_=>by simp at hj
 | q :: l,0,_,_,h=>by
   have:q.1=s:=h;show (if q.1=s then q.2 else getL s l)=q.2;rw [if_pos this]
 | q :: l,j+1,hj,hn,h=>by
   have hq:q.1 ≠ s:=hn q sm;show (if q.1=s then q.2 else getL s l)=_;rw [if_neg hq];exact aJV (by simpa using hj) (fun x hx=>hn x (by simp [hx])) h
theorem sT {s:List UInt8}:∀ {l:List aY},(∀ q ∈ l,q.1 ≠ s)->getL s l=[]
 | [],_=>rfl
 | q :: l,h=>by
   show (if q.1=s then q.2 else getL s l)=_;rw [if_neg (h q sm)];exact sT fun x hx=>h x (by simp [hx])
end
section
variable {P:Program}
mutual
inductive VI (R:Nat->Nat->Prop):V->V->Prop
 | bool (b:Bool):VI R (.bool b) (.bool b)
 | int (k:IntKind) (n:Int):VI R (.int k n) (.int k n)
 | float (k:FloatKind) (n:Nat):VI R (.float k n) (.float k n)
 | str (s:List UInt8):VI R (.str s) (.str s)
 | ptr {i j:Nat} (off:Nat) (h:R i j):VI R (.ptr i off) (.ptr j off)
 | nilPtr:VI R .nilPtr .nilPtr
 | slice {i j:Nat} (off len cap es:Nat) (ex:Bool) (cap2:Nat) (ex2:Bool) (h:R i j) (hl:cap2=cap ∨ len <= cap2) (hc:cap2 <= cap) (hx:ex2=true->ex=true∧cap2=cap):VI R (.slice i off len cap es ex) (.slice j off len cap2 es ex2)
 | nilSlice:VI R .nilSlice .nilSlice
 | map {i j:Nat} (h:R i j):VI R (.map i) (.map j)
 | nilMap:VI R .nilMap .nilMap
 | func (fn:Fn) {a b a' b':List V} (ha:mJ R a a') (hb:mJ R b b'):VI R (.func fn a b) (.func fn a' b')
 | yield {i j:Nat} (h:R i j):VI R (.yield i) (.yield j)
 | nilFunc:VI R .nilFunc .nilFunc
 | iface (t:TypeId) {v v':V} (h:VI R v v'):VI R (.iface t v) (.iface t v')
 | nilIface:VI R .nilIface .nilIface
 | agg {a a':List V} (ha:mJ R a a'):VI R (.agg a) (.agg a')
 | tup {a a':List V} (ha:mJ R a a'):VI R (.tup a) (.tup a')
 | any:VI R .any .any
 | toAny {v:V} (h:v.one=true):VI R v .any
inductive mJ (R:Nat->Nat->Prop):List V->List V->Prop
 | nil:mJ R [] []
 | cons {v v':V} {l l':List V} (h:VI R v v') (hs:mJ R l l'):mJ R (v :: l) (v' :: l')
end
def Lo (l l':Loc):Prop:=l'.blk=l.blk∧l'.base=l.base∧l'.csz=l.csz∧(l'.rw=true->l.rw=true)
theorem Lo.refl (l:Loc):Lo l l:=⟨rfl,rfl,rfl,id⟩
def Tr (ρ ρ':Rho)(R:Nat->Nat->Prop):Prop:=∀ i j l,R i j->ρ i=some l->∃ l',ρ' j=some l'∧Lo l l'
theorem Tr.of {ρ ρ':Rho}{R:Nat->Nat->Prop}(h:∀ i j l,R i j->ρ i=some l->ρ' j=some l):Tr ρ ρ' R:=fun i j l a b=>⟨l,h i j l a b,.refl l⟩
mutual
theorem VI.tr {ρ ρ':Rho}{R:Nat->Nat->Prop}(hR:Tr ρ ρ' R):∀ {u v:V} {w:Value},VI R u v->VR ρ u w->VR ρ' v w
 | _,_,_,.bool b,.bool _=>.bool b
 | _,_,_,.int k n,.int _ _=>.int k n
 | _,_,_,.float k n,.float _ _=>.float k n
 | _,_,_,.str s,.str _=>.str s
 | _,_,_,.ptr off h,.ptr _ h'=>by
   obtain ⟨l',a,b,c,_⟩:=hR _ _ _ h h';rw [<- b,<- c];exact .ptr off a
 | _,_,_,.nilPtr,.nilPtr=>.nilPtr
 | _,_,_,.slice off len cap es ex cap2 ex2 h hl hc hx,.sliceS _ _ _ _ _ off' cap' sp h' ho hc' hx' hl' hr hsp=>by
   obtain ⟨l',a,b,c,d,e⟩:=hR _ _ _ h h';rw [<- b,<- c];exact .sliceS off len cap2 es ex2 off' cap' sp a (fun h0=>ho (Nat.lt_of_lt_of_le h0 hc)) (bg hc hc') (fun e=>by rw [hx' (hx e).1,(hx e).2]) (by rcases hl with h|h;rw [h];exact hl';exact h) (fun h0=>by rw [c,d];exact hr (e h0)) hsp
 | _,_,_,.nilSlice,.nilSlice=>.nilSlice
 | _,_,_,.map h,.map h'=>by
   obtain ⟨l',a,b,_⟩:=hR _ _ _ h h';rw [<- b];exact .map a
 | _,_,_,.nilMap,.nilMap=>.nilMap
 | _,_,_,.func fn ha hb,.func _ ha' hb'=>.func fn (mJ.tr hR ha ha') (mJ.tr hR hb hb')
 | _,_,_,.yield h,.yield h'=>by
   obtain ⟨l',a,b,_⟩:=hR _ _ _ h h';rw [<- b];exact .yield a
 | _,_,_,.nilFunc,.nilFunc=>.nilFunc
 | _,_,_,.iface t h,.iface _ h'=>.iface t (VI.tr hR h h')
 | _,_,_,.nilIface,.nilIface=>.nilIface
 | _,_,_,.agg ha,.agg ha'=>.agg (mJ.tr hR ha ha')
 | _,_,_,.tup ha,.tup ha'=>.tup (mJ.tr hR ha ha')
 | _,_,_,.any,h'=>.any (by cases h';assumption)
 | _,_,_,.toAny h,h'=>.any (by rw [h'.one];exact h)
theorem mJ.tr {ρ ρ':Rho}{R:Nat->Nat->Prop}(hR:Tr ρ ρ' R):∀ {u v:List V} {w:List Value},mJ R u v->VRs ρ u w->VRs ρ' v w
 | _,_,_,.nil,.nil=>.nil
 | _,_,_,.cons h hs,.cons h' hs'=>.cons (VI.tr hR h h') (mJ.tr hR hs hs')
end
theorem mJ.length {R:Nat->Nat->Prop}:∀ {a b:List V},mJ R a b->a.length=b.length
 | _,_,.nil=>rfl
 | _,_,.cons _ hs=>by simp [mJ.length hs]
theorem mJ.get {R:Nat->Nat->Prop}:∀ {a b:List V},mJ R a b->∀ {i:Nat} {v:V},b[i]?=some v->∃ u,a[i]?=some u∧VI R u v
 | _,_,.nil,i,v,h=>by simp at h
 | _,_,.cons h hs,0,v,e=>by simp at e;subst e;exact ⟨_,rfl,h⟩
 | _,_,.cons h hs,i+1,v,e=>by simpa using hs.get (by simpa using e)
theorem mJ.app {R:Nat->Nat->Prop}:∀ {a b c d:List V},mJ R a b->mJ R c d->mJ R (a ++ c) (b ++ d)
 | _,_,_,_,.nil,k=>k
 | _,_,_,_,.cons h hs,k=>.cons h (hs.app k)
inductive EI (R:Nat->Nat->Prop):List (V × V × Nat)->List (V × V × Nat)->Prop
 | nil:EI R [] []
 | cons {k k' v v':V} {b:Nat} {es es':List (V × V × Nat)} (hk:VI R k k') (hv:VI R v v') (hs:EI R es es'):EI R ((k,v,b) :: es) ((k',v',b) :: es')
theorem EI.tr {ρ ρ':Rho}{R:Nat->Nat->Prop}(hR:Tr ρ ρ' R):∀ {a b:List (V × V × Nat)} {c:List MapEntry},EI R a b->uZ ρ a c->uZ ρ' b c
 | _,_,[],.nil,h=>h
 | _,_,_ :: _,.nil,h=>h
 | _,_,[],.cons _ _ _,h=>h
 | _,_,_ :: _,.cons hk hv hs,⟨a,b,c,d⟩=>⟨hk.tr hR a,hv.tr hR b,c,hs.tr hR d⟩
inductive OI (R:Nat->Nat->Prop):O->O->Prop
 | cells {cs cs':List V} {e:TypeId} {fl fl':Fl} (hc:mJ R cs cs') (hf:fl'=fl ∨ fl=.ex ∨ fl'=.ro):OI R (.cells cs e fl) (.cells cs' e fl')
 | part {cs cs' rest:List V} {e:TypeId} {fl:Fl} (hc:mJ R cs cs'):OI R (.cells (cs ++ rest) e fl) (.cells cs' e .ro)
 | map {es es':List (V × V × Nat)} {c:Nat} (h:EI R es es'):OI R (.map es c) (.map es' c)
 | strIter (s:List UInt8) (p:Nat):OI R (.strIter s p) (.strIter s p)
 | mapIter0 {a c:Nat} {b:List Nat}:OI R (.mapIter none a b c) (.mapIter none a b c)
 | mapIter {i j a c:Nat} {b:List Nat} (h:R i j):OI R (.mapIter (some i) a b c) (.mapIter (some j) a b c)
 | deferred:OI R .deferred .deferred
def O.wr:O->Bool
 | .cells _ _ .ro=>false
 | _=>true
theorem OR.wr {ρ:Rho}{l:Loc}{o:O}{co:Obj}(h:OR ρ l o co)(hw:o.wr=true):l.rw=true:=by
 cases o with
 | cells cs e fl =>
   obtain ⟨c,f,_,_,_,_,e,_⟩:=h;exact (e (fun h=>by subst h;cases hw)).1
 | map es c=>exact h.1
 | strIter s p=>exact h.1.1
 | mapIter m a b c=>exact h.1.1
 | loop a b c d e f g=>exact h.1.1
 | deferred=>exact h.1
theorem OI.tr {ρ ρ':Rho}{R:Nat->Nat->Prop}(hR:Tr ρ ρ' R){o o':O}{l l':Loc}{co:Obj}(h:OI R o o')(hl:Lo l l')(hw:o'.wr=true->l'.rw=l.rw)(ho:OR ρ l o co):OR ρ' l' o' co:=by
 obtain ⟨hb,hba,hcz,_⟩:=hl
 cases h with
 | cells hc hf =>
   rename_i cs cs' et fl fl'
   obtain ⟨c,f,a,b,c2,d,e,x⟩:=ho;refine ⟨c,f,a,by rw [hcz];exact b,by rw [hba,<- hc.length];exact c2,fun i v hv=>?_,?_,?_⟩
   ·obtain ⟨u,hu,hi⟩:=hc.get hv;obtain ⟨v',hv',hr⟩:=d i u hu;exact ⟨v',by rw [hba];exact hv',hi.tr hR hr⟩
   ·intro hn
    have hw':(O.cells cs' et fl').wr=true:=by cases fl' <;> first|rfl|exact absurd rfl hn
    rw [hw hw']
    rcases hf with rfl|rfl|rfl
    ·exact e hn
    ·exact e sm
    ·exact absurd rfl hn
   ·intro hn;rw [hba]
    rcases hf with rfl|rfl|rfl
    ·rw [<- hc.length];exact x hn
    ·rw [<- hc.length];exact x rfl
    ·cases hn
 | part hc =>
   obtain ⟨c,f,a,b,c2,d,e,x⟩:=ho;refine ⟨c,f,a,by rw [hcz];exact b,by rw [hba,<- hc.length];simp at c2;omega,fun i v hv=>?_,fun h=>absurd rfl h,fun h=>by cases h⟩;obtain ⟨u,hu,hi⟩:=hc.get hv;obtain ⟨v',hv',hr⟩:=d i u (by rw [List.getElem?_append_left (ao.1 hu).1];exact hu);exact ⟨v',by rw [hba];exact hv',hi.tr hR hr⟩
 | map h=>obtain ⟨r,es',a,b⟩:=ho;exact ⟨by rw [hw rfl];exact r,es',a,h.tr hR b⟩
 | strIter s p=>exact ⟨⟨by rw [hw rfl];exact ho.1.1,by rw [hba];exact ho.1.2⟩,ho.2⟩
 | mapIter0=>exact ⟨⟨by rw [hw rfl];exact ho.1.1,by rw [hba];exact ho.1.2⟩,ho.2⟩
 | mapIter h =>
   obtain ⟨r,m',a,l1,x,y⟩:=ho;obtain ⟨l2,p,q,_⟩:=hR _ _ _ h x;exact ⟨⟨by rw [hw rfl];exact r.1,by rw [hba];exact r.2⟩,m',a,l2,p,by rw [q];exact y⟩
 | deferred=>exact ⟨by rw [hw rfl];exact ho.1,ho.2⟩
theorem Nx.to {ρ ρ2:Rho}{H H' K K':Hs}{w:World}{v v2:V}{r:Result Next}(h:Nx P ρ H w v H' r)(hR:∀ e w',Rt ρ H w v H' e w'->Rt ρ2 K w v2 K' e w'):Nx P ρ2 K w v2 K' r:=by
 cases r with
 | halt e w'=>exact h.elim
 | ok n w' =>
   cases n with
   | value v'=>exact hR _ _ h
   | skip=>exact hR _ _ h
   | enter f args =>
     have h':CallsIn (W none) 0 P f args w' (Rt ρ H w v H'):=h;exact h'.mono fun e w'' hr=>hR _ _ hr
   | round l f tmps assign body =>
     have h':RoundIn (W none) 0 P l f tmps assign body w' (Rt ρ H w v H'):=h;exact h'.mono fun e w'' hr=>hR _ _ hr
   | _=>exact h.elim
def RF (ro:Nat->Bool)(f g:Nat->Nat)(n m m':Nat):Nat->Nat->Prop:=fun i j=>(i < n∧j=f i∧ro i=false) ∨ (n <= i∧m <= j∧j < m'∧i=g j)
theorem fP.frame {c:FuncId}{l l2:List V}{H H' K K':Hs}{v v2:V}(h:fP P c l H v H')(ro:Nat->Bool)(f g:Nat->Nat)(hgl:aI <= H.next)(hf0:∀ i,i < aI->f i=i)
  (hinj:∀ i i',(H.get i).isSome->(H.get i').isSome->ro i=false->f i=f i'->i=i')
  (hget:∀ i o,H.get i=some o->i < H.next∧(ro i=true->o.wr=false)∧∃ o',K.get (f i)=some o'∧OI (fun j i=>i < H.next∧j=f i) o' o)
  (hl:mJ (fun j i=>i < H.next∧j=f i) l2 l) (hv:VI (RF ro f g H.next K.next K'.next) v v2) (hnx:K.next <= K'.next)
  (hg:∀ j j',K.next <= j->j < K'.next->K.next <= j'->j' < K'.next->g j=g j'->j=j')
  (hK':∀ j o,K'.get j=some o->(∃ i o1,RF ro f g H.next K.next K'.next i j∧H'.get i=some o1∧OI (RF ro f g H.next K.next K'.next) o1 o∧o1.wr=true) ∨ (K.get j=some o∧∀ i,i < H.next->f i=j->ro i=false->H.get i=none)) :
  fP P c l2 K v2 K':=fun ρ w l' hglob hs hl'=>by
 let cut:Nat->Loc->Loc:=fun i l=>if ro i=true then { l with rw:=false } else l
 let ρs:Rho:=fun i=>if i < H.next then (ρ (f i)).map (cut i) else none
 have hcut:∀ i l,Lo l (cut i l):=fun i l=>by
  show Lo l (if ro i=true then { l with rw:=false } else l)
  split
  ·exact ⟨rfl,rfl,rfl,fun h=>by cases h⟩
  ·exact .refl l
 have hcut0:∀ i l,ro i=false->cut i l=l:=fun i l h=>by
  show (if ro i=true then { l with rw:=false } else l)=l;rw [if_neg (by simp [h])]
 have hcut1:∀ i l,(cut i l).rw=true->ro i=false:=fun i l h=>by
  cases hr:ro i with
  | false=>rfl
  | true =>
    have:(cut i l).rw=false:=by show (if ro i=true then ({ l with rw:=false }:Loc) else l).rw=false;rw [if_pos hr]
    rw [this] at h;cases h
 have hin':∀ i l,i < H.next->ρ (f i)=some l->ρs i=some (cut i l):=fun i l h1 h2=>by
  show (if i < H.next then (ρ (f i)).map (cut i) else none)=some (cut i l);rw [if_pos h1,h2];rfl
 have hin:Tr ρ ρs (fun j i=>i < H.next∧j=f i):=by
  rintro j i l ⟨h1,rfl⟩ h2;exact ⟨_,hin' i l h1 h2,hcut i l⟩
 have hout:∀ i l,ρs i=some l->i < H.next∧∃ l0,ρ (f i)=some l0∧l=cut i l0:=fun i l hi=>by
  have hi':(if i < H.next then (ρ (f i)).map (cut i) else none)=some l:=hi;by_cases hlt:i < H.next
  ·rw [if_pos hlt] at hi'
   cases hf:ρ (f i) with
   | none=>rw [hf] at hi';cases hi'
   | some l0=>rw [hf] at hi';exact ⟨hlt,l0,rfl,(Option.some.inj hi').symm⟩
  ·rw [if_neg hlt] at hi';cases hi'
 have hsome:∀ i,(H.get i).isSome->(K.get (f i)).isSome:=fun i hi=>by
  obtain ⟨o,ho⟩:=bc.1 hi;obtain ⟨_,_,o',ho',_⟩:=hget i o ho;rw [ho'];rfl
 have hgs:dZ ρs:=fun i hi=>by
  obtain ⟨l,a,b,c⟩:=hglob i hi;obtain ⟨p,q,_⟩:=hcut i l;exact ⟨cut i l,hin' i l om (by rw [hf0 i hi];exact a),by rw [p,b],by rw [q,c]⟩
 have hss:cP ρs H w:=by
  refine ⟨fun i o ho=>?_,fun i i' li li' hi hi' hli hli' hrw hne=>?_,fun i hi=>?_⟩
  ·obtain ⟨hi,hro,o',ho',hoi⟩:=hget i o ho;obtain ⟨l,co,a,b,d⟩:=hs.obj _ _ ho';refine ⟨cut i l,co,hin' i l hi a,by rw [(hcut i l).1];exact b,hoi.tr hin (hcut i l) (fun hw=>?_) d⟩
   cases hr:ro i with
   | false=>rw [hcut0 i l hr]
   | true=>rw [hro hr] at hw;cases hw
  ·obtain ⟨_,l0,p,rfl⟩:=hout i li hli;obtain ⟨_,l0',p',rfl⟩:=hout i' li' hli';have hr:=hcut1 i l0 hrw;rw [(hcut i l0).1,(hcut i' l0').1];exact hs.sep (f i) (f i') l0 l0' (hsome i hi) (hsome i' hi') p p' ((hcut i l0).2.2.2 hrw) fun e=>hne (hinj i i' hi hi' hr e)
  ·show (if i < H.next then (ρ (f i)).map (cut i) else none)=none;rw [if_neg om]
 refine (h ρs w l' hgs hss (hl.tr hin hl')).to fun e w' ⟨v',ρs',he,hvr,hsim,hx⟩=>?_
 let ρK:Rho:=fun j=>if j < K.next then ρ j else if j < K'.next then ρs' (g j) else none
 have hlow:∀ j,j < K.next->ρK j=ρ j:=fun j hj=>if_pos hj
 have hR0:∀ i j l,RF ro f g H.next K.next K'.next i j->ρs' i=some l->ρK j=some l:=by
  rintro i j l (⟨h1,rfl,hr⟩|⟨h1,h2,h3,rfl⟩) hl
  ·rw [hx.rho i h1] at hl;obtain ⟨_,l0,p,rfl⟩:=hout i l hl;rw [hcut0 i l0 hr,hlow _ (hs.lt p)];exact p
  ·show (if j < K.next then ρ j else if j < K'.next then ρs' (g j) else none)=some l;rw [if_neg om,if_pos h3];exact hl
 have hR:Tr ρs' ρK (RF ro f g H.next K.next K'.next):=.of hR0
 have hle:ρ.le ρK:=fun i l hi=>by rw [hlow i (hs.lt hi)];exact hi
 have hblk:∀ j o l,K.get j=some o->ρ j=some l->l.blk < w.heap.size:=fun j o l ho hl=>by
  obtain ⟨l2,co,a,b,_⟩:=hs.obj j o ho;rw [hl] at a;cases a
  rcases Nat.lt_or_ge l.blk w.heap.size with h'|h'
  ·exact h'
  ·simp [Array.getElem?_eq_none h'] at b
 have hown1:∀ b,Own ρs H b->∃ i l,(H.get i).isSome∧i < H.next∧ρ (f i)=some l∧l.rw=true∧l.blk=b∧ro i=false:=fun b ⟨i,l,h1,h2,h3,h4⟩=>by
  obtain ⟨hi,l0,p,rfl⟩:=hout i l h2;exact ⟨i,l0,h1,hi,p,(hcut i l0).2.2.2 h3,by rw [<- (hcut i l0).1];exact h4,hcut1 i l0 h3⟩
 have hown:∀ b,Own ρs H b->Own ρ K b:=fun b hb=>by
  obtain ⟨i,l,h1,_,h2,h3,h4,_⟩:=hown1 b hb;exact ⟨f i,l,hsome i h1,h2,h3,h4⟩
 have hhas:∀ b,Has ρs H b->Has ρ K b:=fun b ⟨i,l,h1,h2,h4⟩=>by
  obtain ⟨_,l0,p,rfl⟩:=hout i l h2;exact ⟨f i,l0,hsome i h1,p,by rw [<- (hcut i l0).1];exact h4⟩
 -- what K' holds,with its block
 have hcase:∀ j,(K'.get j).isSome->∀ l,ρK j=some l->(∃ i,RF ro f g H.next K.next K'.next i j∧(H'.get i).isSome∧ρs' i=some l∧l.rw=true) ∨ ((K.get j).isSome∧ρ j=some l∧∀ i,i < H.next->f i=j->ro i=false->H.get i=none):=fun j hj l hl=>by
  obtain ⟨o,ho⟩:=bc.1 hj
  rcases hK' j o ho with ⟨i,o1,h1,h2,h3,h4⟩|⟨h1,h2⟩
  ·obtain ⟨l1,_,a,_,b⟩:=hsim.obj i o1 h2;have:=hR0 i j l1 h1 a;rw [hl] at this;cases this;exact .inl ⟨i,h1,by rw [h2];rfl,a,b.wr h4⟩
  ·obtain ⟨l1,_,a,_,_⟩:=hs.obj j o h1;have:=hle j l1 a;rw [hl] at this;cases this;exact .inr ⟨by rw [h1];rfl,a,h2⟩
 have hapart:∀ (j:Nat) (l:Loc),(K.get j).isSome->ρ j=some l->(∀ i,i < H.next->f i=j->ro i=false->H.get i=none)->¬ Own ρs H l.blk:=fun j l h1 h2 h3 ho=>by
  obtain ⟨i,l0,a,hi,b,c,d,hr⟩:=hown1 _ ho
  have hfi:f i ≠ j:=fun e=>by
   have:=h3 i hi e hr;rw [this] at a;cases a
  exact hs.sep (f i) j l0 l (hsome i a) h1 b h2 c hfi d
 have hnew:∀ (i j:Nat) (l l':Loc),(H'.get i).isSome->ρs' i=some l->l.rw=true->(K.get j).isSome->ρ j=some l'->(∀ i,i < H.next->f i=j->ro i=false->H.get i=none)->l.blk ≠ l'.blk:=fun i j l l' a2 a3 a4 b1 b2 b3 e=>by
  have hb:l'.blk < w.heap.size:=by
   obtain ⟨o',ho'⟩:=bc.1 b1;exact hblk j o' l' ho' b2
  rcases hx.own l.blk ⟨i,l,a2,a3,a4,rfl⟩ with h1|h1
  ·omega
  ·rw [e] at h1;exact hapart j l' b1 b2 b3 h1
 have hsimK:cP ρK K' w':=by
  refine ⟨fun j o ho=>?_,fun j j' l l' hj hj' hl hl' hrw hne=>?_,fun j hj=>?_⟩
  ·rcases hK' j o ho with ⟨i,o1,h1,h2,h3,_⟩|⟨h1,h2⟩
   ·obtain ⟨l,co,a,b,d⟩:=hsim.obj i o1 h2;exact ⟨l,co,hR0 i j l h1 a,b,h3.tr hR (.refl l) (fun _=>rfl) d⟩
   ·obtain ⟨l,co,a,b,d⟩:=hs.obj j o h1;refine ⟨l,co,hle j l a,?_,d.mono hle⟩;rw [hx.keep l.blk (hblk j o l h1 a) (hapart j l (by rw [h1];rfl) a h2)];exact b
  ·rcases hcase j hj l hl with ⟨i,a1,a2,a3,a4⟩|⟨a1,a2,a3⟩
   ·rcases hcase j' hj' l' hl' with ⟨i',b1,b2,b3,b4⟩|⟨b1,b2,b3⟩
    ·refine hsim.sep i i' l l' a2 b2 a3 b3 hrw fun e=>hne ?_;subst e
     rcases a1 with ⟨c1,c2,_⟩|⟨c1,c2,c3,c4⟩
     ·rcases b1 with ⟨d1,d2,_⟩|⟨d1,_⟩
      ·rw [c2,d2]
      ·omega
     ·rcases b1 with ⟨d1,d2,_⟩|⟨d1,d2,d3,d4⟩
      ·omega
      ·exact hg j j' c2 c3 d2 d3 (by rw [<- c4,<- d4])
    ·exact hnew i j' l l' a2 a3 a4 b1 b2 b3
   ·rcases hcase j' hj' l' hl' with ⟨i',b1,b2,b3,b4⟩|⟨b1,b2,b3⟩
    ·exact fun e=>hnew i' j l' l b2 b3 b4 a1 a2 a3 e.symm
    ·exact hs.sep j j' l l' a1 b1 a2 b2 hrw hne
  ·show (if j < K.next then ρ j else if j < K'.next then ρs' (g j) else none)=none;rw [if_neg om,if_neg om]
 refine ⟨v',ρK,he,hv.tr hR hvr,hsimK,?_⟩
 exact {
  rho:=hlow,next:=hnx,size:=hx.size
  keep:=fun b hb hn=>hx.keep b hb fun ho=>hn (hown b ho)
  own:=fun b ⟨j,l,hj,hl,hrw,hb⟩=>by
   rcases hcase j hj l hl with ⟨i,a1,a2,a3,_⟩|⟨a1,a2,a3⟩
   ·rcases hx.own b ⟨i,l,a2,a3,hrw,hb⟩ with h1|h1
    ·exact .inl h1
    ·exact .inr (hown b h1)
   ·exact .inr ⟨j,l,a1,a2,hrw,hb⟩
  has:=fun b ⟨j,l,hj,hl,hb⟩=>by
   rcases hcase j hj l hl with ⟨i,a1,a2,a3,_⟩|⟨a1,a2,a3⟩
   ·rcases hx.has b ⟨i,l,a2,a3,hb⟩ with h1|h1
    ·exact .inl h1
    ·exact .inr (hhas b h1)
   ·exact .inr ⟨j,l,a1,a2,hb⟩
  tape:=hx.tape,os:=hx.os,output:=hx.output,drawn:=hx.drawn }
end
section
variable {P:Program}
def T.All (p:Nat->O->Prop):T O->Nat->Nat->Prop
 | .nil,_,_=>True
 | .node v a b c d,s,r=>(match v with|none=>True|some o=>p r o)∧T.All p a (4 * s) (r+s)∧T.All p b (4 * s) (r+2 * s)∧T.All p c (4 * s) (r+3 * s)∧T.All p d (4 * s) (r+4 * s)
theorem T.All.getL {p:Nat->O->Prop}:∀ {l:List D4} {t:T O} {s r:Nat} {o:O},T.All p t s r->T.getL l t=some o->p (r+s * numL l) o
 | l,.nil,s,r,o,_,h=>by rw [T.getL_nil] at h;cases h
 | [],.node v a b c d,s,r,o,h,hg=>by
   have hv:v=some o:=hg;subst hv;simpa [numL] using h.1
 | x :: l,.node v a b c d,s,r,o,h,hg=>by
   rw [T.getL_cons] at hg
   have he:r+s * numL (x :: l)=r+dn x * s+4 * s * numL l:=by
    show r+s * (dn x+4 * numL l)=_;rw [Nat.mul_add,<- Nat.mul_assoc,Nat.mul_comm s 4,Nat.mul_comm s (dn x)];omega
   rw [he];cases x
   ·have h1:=T.All.getL h.2.1 hg;rw [show r+dn .a * s=r+s by simp [dn]];exact h1
   ·exact T.All.getL h.2.2.1 hg
   ·exact T.All.getL h.2.2.2.1 hg
   ·exact T.All.getL h.2.2.2.2 hg
theorem T.All.get {p:Nat->O->Prop}{t:T O}(h:T.All p t 1 0){id:Nat}{o:O}(hg:T.get fA id t=some o):p id o:=by
 unfold T.get at hg
 cases hd:digs fA id with
 | none=>rw [hd] at hg;cases hg
 | some l =>
   rw [hd] at hg;have:=h.getL (l:=l) (o:=o) hg;rw [(digs_num hd).1] at this;simpa using this
def Rb (n:Nat):Nat->Nat->Prop:=fun i j=>i < n∧j=i
structure aPP (S S1 S2:St):Prop where
 next:S.next <= S2.next
 held:T.All (fun id o=>id < S2.next∧∃ o1,T.get fA id S1.hp=some o1∧OI (Rb S2.next) o1 o) S2.hp 1 0
mutual
def V.clean (n:Nat):V->V
 | .ptr id off=>bif Nat.blt id n then .ptr id off else .any
 | .slice id off len cap es ex=>bif Nat.blt id n then .slice id off len cap es ex else .any
 | .map id=>bif Nat.blt id n then .map id else .any
 | .yield id=>bif Nat.blt id n then .yield id else .any
 | .func fn a b=>.func fn (V.cleanL n a) (V.cleanL n b)
 | .iface t v=>.iface t (V.clean n v)
 | .agg a=>.agg (V.cleanL n a)
 | .tup a=>.tup (V.cleanL n a)
 | .bool b=>.bool b
 | .int k m=>.int k m
 | .float k m=>.float k m
 | .str s=>.str s
 | .nilPtr=>.nilPtr
 | .nilSlice=>.nilSlice
 | .nilMap=>.nilMap
 | .nilFunc=>.nilFunc
 | .nilIface=>.nilIface
 | .any=>.any
def V.cleanL (n:Nat):List V->List V
 | []=>[]
 | v :: l=>V.clean n v :: V.cleanL n l
end
theorem mK {a b:Nat}(h:Nat.blt a b=true):a < b:=ae h
mutual
theorem V.clean_vi (n:Nat):∀ v:V,VI (Rb n) v (V.clean n v)
 | .ptr id off=>by
   unfold V.clean;cases h:Nat.blt id n
   ·exact .toAny rfl
   ·exact .ptr off ⟨mK h,rfl⟩
 | .slice id off len cap es ex=>by
   unfold V.clean;cases h:Nat.blt id n
   ·exact .toAny rfl
   ·exact .slice off len cap es ex cap ex ⟨mK h,rfl⟩ (.inl rfl) (af _) fun h=>⟨h,rfl⟩
 | .map id=>by
   unfold V.clean;cases h:Nat.blt id n
   ·exact .toAny rfl
   ·exact .map ⟨mK h,rfl⟩
 | .yield id=>by
   unfold V.clean;cases h:Nat.blt id n
   ·exact .toAny rfl
   ·exact .yield ⟨mK h,rfl⟩
 | .func fn a b=>.func fn (V.clean_vis n a) (V.clean_vis n b)
 | .iface t v=>.iface t (V.clean_vi n v)
 | .agg a=>.agg (V.clean_vis n a)
 | .tup a=>.tup (V.clean_vis n a)
 | .bool b=>.bool b
 | .int k m=>.int k m
 | .float k m=>.float k m
 | .str s=>.str s
 | .nilPtr=>.nilPtr
 | .nilSlice=>.nilSlice
 | .nilMap=>.nilMap
 | .nilFunc=>.nilFunc
 | .nilIface=>.nilIface
 | .any=>.any
theorem V.clean_vis (n:Nat):∀ l:List V,mJ (Rb n) l (V.cleanL n l)
 | []=>.nil
 | v :: l=>.cons (V.clean_vi n v) (V.clean_vis n l)
end
noncomputable def qD (n:Nat)(E:Env):Env:=bl4 fun t=>(tget E t).map (V.clean n)
theorem aHY {n:Nat}{E:Env}{t:Nat}{v:V}(h:tget (qD n E) t=some v):∃ u,tget E t=some u∧VI (Rb n) u v:=by
 by_cases hb:path t=.bad
 ·have:getP (qD n E) (path t)=some v:=h;rw [hb] at this;cases this
 ·have h':getP (qD n E) (path t)=some v:=h;unfold qD at h';rw [bl4_get _ _ hb,path_num hb] at h'
  cases hu:tget E t with
  | none=>rw [hu] at h';cases h'
  | some u=>rw [hu] at h';exact ⟨u,rfl,by rw [<- Option.some.inj h'];exact V.clean_vi n u⟩
theorem LP.gc (hm:P.follows .mixedOrders=true){b:Code}{E:Env}{S:St}{k:KT}
  (h:evCode P (RC P) (RD P) (LQ P) (cZ P (RC P) (RD P)) none b E [] S fun x E1 D1 S1=>X.casesOn x (∃ S2,aPP S S1 S2∧D1=[]∧LP P none b (qD S2.next E1) [] S2 k) (fun id=>k (.exit id) E1 D1 S1) (k .ret E1 D1 S1) (fun l=>k (.goto l) E1 D1 S1)):LP P none b E [] S k:=by
 obtain ⟨x,E1,D1,S1,h1,h2⟩:=cC fL fM oM (evDraw_ok hm fL fM) none b E [] S _ h
 cases x with
 | normal =>
   obtain ⟨S2,hd,rfl,h3⟩:=h1
   cases h3 with
   | mk x2 E2 D2 S3 h4 h5 =>
     refine .mk x2 E2 D2 S3 (fun ρ r a w Q hro hE hD hg hs hQ=>.of (h2 ρ r a w _ hro hE hD hg hs fun a1 w1 ⟨ρ1,b1,b2,b3,b4⟩=>?_)) h5
     let ρ2:Rho:=fun i=>if i < S2.next then ρ1 i else none
     have hR0:∀ i j l,Rb S2.next i j->ρ1 i=some l->ρ2 j=some l:=by
      rintro i j l ⟨hi,rfl⟩ hl;show (if j < S2.next then ρ1 j else none)=some l;rw [if_pos hi];exact hl
     have hR:Tr ρ1 ρ2 (Rb S2.next):=.of hR0
     have hout:∀ i l,ρ2 i=some l->ρ1 i=some l:=fun i l hi=>by
      have hi':(if i < S2.next then ρ1 i else none)=some l:=hi;by_cases hlt:i < S2.next
      ·rw [if_pos hlt] at hi';exact hi'
      ·rw [if_neg hlt] at hi';cases hi'
     have hheld:∀ id o,S2.hs.get id=some o->id < S2.next∧∃ o1,S1.hs.get id=some o1∧OI (Rb S2.next) o1 o:=fun id o ho=>hd.held.get ho
     have hlow:∀ i,i < S.next->ρ2 i=ρ i:=fun i hi=>by
      show (if i < S2.next then ρ1 i else none)=ρ i;rw [if_pos (Nat.lt_of_lt_of_le hi hd.next)];exact b4.rho i hi
     have hle:ρ.le ρ2:=fun i l hi=>by rw [hlow i (hs.lt hi)];exact hi
     have hsome:∀ i,(S2.hs.get i).isSome->(S1.hs.get i).isSome:=fun i hi=>by
      obtain ⟨o,ho⟩:=bc.1 hi;obtain ⟨_,o1,ho1,_⟩:=hheld i o ho;rw [ho1];rfl
     have hsim:cP ρ2 S2.hs w1:=by
      refine ⟨fun i o ho=>?_,fun i j li lj hi hj hli hlj hrw hne=>b3.sep i j li lj (hsome i hi) (hsome j hj) (hout i li hli) (hout j lj hlj) hrw hne,fun i hi=>?_⟩
      ·obtain ⟨hi,o1,ho1,hoi⟩:=hheld i o ho;obtain ⟨l,co,p,q,s⟩:=b3.obj i o1 ho1;exact ⟨l,co,hR0 i i l ⟨hi,rfl⟩ p,q,hoi.tr hR (.refl l) (fun _=>rfl) s⟩
      ·show (if i < S2.next then ρ1 i else none)=none;have:S2.next <= i:=hi;rw [if_neg om]
     have hext:Ext ρ S.hs w ρ2 S2.hs w1 :=
      { rho:=hlow,next:=hd.next,size:=b4.size,keep:=b4.keep
        own:=fun b ⟨i,l,p,q,s,t⟩=>b4.own b ⟨i,l,hsome i p,hout i l q,s,t⟩
        has:=fun b ⟨i,l,p,q,t⟩=>b4.has b ⟨i,l,hsome i p,hout i l q,t⟩
        tape:=b4.tape,os:=b4.os,output:=b4.output,drawn:=b4.drawn }
     have hER:ER ρ2 (qD S2.next E1) a1.tmps:=fun t v hv=>by
      obtain ⟨u,hu,hi⟩:=aHY hv;obtain ⟨v',p,q⟩:=b1 t u hu;exact ⟨v',p,hi.tr hR q⟩
     have hDR:DR ρ2 [] a1.defers:=by
      cases hdf:a1.defers with
      | nil=>trivial
      | cons y ys=>rw [hdf] at b2;exact b2.elim
     exact h4 ρ2 r a1 w1 Q (hro.mono hle) hER hDR (hg.mono hle) hsim fun a2 w2 h6=>hQ a2 w2 (h6.comp hext)
 | exit id=>exact .mk (.exit id) E1 D1 S1 (fun ρ r a w Q hro hE hD hg hs hQ=>.of (h2 ρ r a w _ hro hE hD hg hs hQ)) h1
 | ret=>exact .mk .ret E1 D1 S1 (fun ρ r a w Q hro hE hD hg hs hQ=>.of (h2 ρ r a w _ hro hE hD hg hs hQ)) h1
 | goto l=>exact .mk (.goto l) E1 D1 S1 (fun ρ r a w Q hro hE hD hg hs hQ=>.of (h2 ρ r a w _ hro hE hD hg hs hQ)) h1
theorem LP.induct0 {ro:Option Nat}{c:Code}{D:List Df}{k:KT}{E:Env}{S:St}(n:Nat)(Inv:Nat->Env->Prop)(h0:Inv 0 E)
  (step:∀ j E,Inv j E->(∀ E',j < n->Inv (j+1) E'->LP P ro c E' D S k)->LP P ro c E D S k):LP P ro c E D S k :=
 LP.induct n (fun j E S'=>Inv j E∧S'=S) ⟨h0,rfl⟩ fun j E S' ⟨hi,hS⟩ ih=>by
  subst hS;exact step j E hi fun E' hlt hi'=>ih E' S' hlt ⟨hi',rfl⟩
def kJ:Nat->List O->List (Nat × O)
 | _,[]=>[]
 | n,o :: l=>(n,o) :: kJ (n+1) l
theorem iJ:∀ (l:List (Nat × O)) (H:Hs),(dU l H).next=H.next
 | [],_=>rfl
 | _ :: l,H=>iJ l _
theorem pR {i:Nat}:∀ {l:List O} {n:Nat} {H:Hs},(dU (kJ n l) H).get i=if n <= i∧i < n+l.length then l[i - n]? else H.get i
 | [],n,H=>by
   rw [if_neg sm];rfl
 | o :: l,n,H=>by
   show (dU (kJ (n+1) l) (H.put n (some o))).get i=_;rw [pR];by_cases h1:i=n
   ·subst h1;rw [if_neg om,if_pos sm];simp [Hs.put]
   ·by_cases h2:n+1 <= i∧i < n+1+l.length
    ·rw [if_pos h2,if_pos (by simp;omega)];rw [show i - n=(i - (n+1))+1 by omega];rfl
    ·rw [if_neg h2,if_neg (by simp;omega)];simp [Hs.put,h1]
theorem aER (m i:Nat):(St.hs ⟨.nil,m⟩).get i=none:=by
 show T.get fA i .nil=none;unfold T.get
 cases digs fA i with
 | none=>rfl
 | some l=>exact T.getL_nil l
def eC:List O->Hs->Hs
 | [],H=>H
 | o :: l,H=>eC l (H.new o)
def pG:List (Nat × O)->Hs->Hs
 | [],H=>H
 | q :: l,H=>(pG l H).put q.1 (some q.2)
noncomputable def iX (l:List O):St->(St->Prop)->Prop:=List.rec (motive:=fun _=>St->(St->Prop)->Prop) (fun S k=>k S) (fun o _ ih S k=>bK o S fun _ S=>ih S k) l
noncomputable def aHl (l:List (Nat × O)):St->(St->Prop)->Prop:=List.rec (motive:=fun _=>St->(St->Prop)->Prop) (fun S k=>k S) (fun q _ ih S k=>ih S fun S=>bD q.1 (some q.2) S k) l
theorem nZ:∀ {l:List O} {S:St} {k:St->Prop},iX l S k->∃ S',k S'∧S'.hs=eC l S.hs
 | [],S,k,h=>⟨S,h,rfl⟩
 | o :: l,S,k,h=>by
   obtain ⟨S1,h1,h2⟩:=eI (show bK o S (fun _ S=>iX l S k) from h);obtain ⟨S2,h3,h4⟩:=nZ h1;exact ⟨S2,h3,by rw [h4,h2];rfl⟩
theorem yZ:∀ {l:List (Nat × O)} {S:St} {k:St->Prop},aHl l S k->∃ S',k S'∧S'.hs=pG l S.hs
 | [],S,k,h=>⟨S,h,rfl⟩
 | q :: l,S,k,h=>by
   obtain ⟨S1,h1,h2⟩:=yZ (show aHl l S (fun S=>bD q.1 (some q.2) S k) from h);obtain ⟨S2,h3,h4⟩:=bS h1;exact ⟨S2,h3,by rw [h4,h2];rfl⟩
theorem jF:∀ (l:List (Nat × O)) (H:Hs),(pG l H).next=H.next
 | [],_=>rfl
 | _ :: l,H=>jF l H
theorem aFe {j:Nat}{o:O}:∀ {l:List (Nat × O)} {H:Hs},(pG l H).get j=some o->(∃ a:Nat,l[a]?=some (j,o)) ∨ (H.get j=some o∧∀ q ∈ l,q.1 ≠ j)
 | [],H,h=>.inr ⟨h,sm⟩
 | q :: l,H,h=>by
   by_cases e:j=q.1
   ·subst e
    have:some q.2=some o:=by simpa [pG,Hs.put] using h
    cases this;exact .inl ⟨0,rfl⟩
   ·have h':(pG l H).get j=some o:=by simpa [pG,Hs.put,e] using h
    rcases aFe h' with ⟨a,ha⟩|⟨h1,h2⟩
    ·exact .inl ⟨a+1,by simpa using ha⟩
    ·exact .inr ⟨h1,fun x hx=>by
      rcases av.1 hx with rfl|hx
      ·exact fun e'=>e e'.symm
      ·exact h2 x hx⟩
theorem aCp {H:Hs}:∀ {l:List (Nat × O)},(∀ q ∈ l,H.get q.1=some q.2)->pG l H=H
 | [],_=>rfl
 | q :: l,h=>by
   show (pG l H).put q.1 (some q.2)=H;rw [aCp fun x hx=>h x (by simp [hx])];exact Hs.put_self H (h q sm)
theorem iS:∀ (l:List O) (H:Hs),(eC l H).next=H.next+l.length
 | [],_=>rfl
 | o :: l,H=>by
   show (eC l (H.new o)).next=_;rw [iS];simp [Hs.new];omega
theorem wL {j:Nat}{o:O}:∀ {l:List O} {H:Hs},(eC l H).get j=some o->(∃ a:Nat,l[a]?=some o∧j=H.next+a) ∨ H.get j=some o
 | [],H,h=>.inr h
 | x :: l,H,h=>by
   rcases wL (show (eC l (H.new x)).get j=some o from h) with ⟨a,h1,h2⟩|h1
   ·exact .inl ⟨a+1,by simpa using h1,by rw [h2];simp [Hs.new];omega⟩
   ·by_cases e:j=H.next
    ·subst e
     have:some x=some o:=by simpa [Hs.new] using h1
     cases this;exact .inl ⟨0,rfl,rfl⟩
    ·exact .inr (by simpa [Hs.new,e] using h1)
def idF (ids:List Nat)(i:Nat):Nat:=if i < aI then i else ids.getD (i - aI) 0
theorem iG {ids:List Nat}{a i:Nat}(h:ids[a]?=some i):idF ids (aI+a)=i:=by
 unfold idF;rw [if_neg om,show aI+a - aI=a by omega];simp [List.getD,h]
def roF (q:Nat)(i:Nat):Bool:=Nat.ble aI i && Nat.blt i (aI+q)
theorem oW {q a:Nat}(h:a < q):roF q (aI+a)=true:=by
 unfold roF;rw [Bool.and_eq_true];exact ⟨ag om,ag om⟩
theorem uT {q a:Nat}(h:q <= a):roF q (aI+a)=false:=by
 cases hr:roF q (aI+a) with
 | false=>rfl
 | true =>
   unfold roF at hr;rw [Bool.and_eq_true] at hr;have:=ae hr.2;omega
theorem aGP {q i:Nat}(h:i < aI):roF q i=false:=by
 cases hr:roF q i with
 | false=>rfl
 | true =>
   unfold roF at hr;rw [Bool.and_eq_true] at hr;have:=ae hr.1;omega
def iC (ids:List Nat)(n:Nat):Nat->Nat->Prop:=fun j i=>i < n∧j=idF ids i
def uF (q:Nat)(ids gs:List Nat)(n m m':Nat):Nat->Nat->Prop:=RF (roF q) (idF ids) (fun j=>gs.getD (j - m) 0) n m m'
theorem iC.at {ids:List Nat}{n a i:Nat}(h:ids[a]?=some i)(hn:aI+a < n):iC ids n i (aI+a):=⟨hn,(iG h).symm⟩
theorem uF.at {q:Nat}{ids gs:List Nat}{n m m' a i:Nat}(h:ids[a]?=some i)(hn:aI+a < n)(hq:q <= a):uF q ids gs n m m' (aI+a) i:=.inl ⟨hn,(iG h).symm,uT hq⟩
theorem uF.new {q:Nat}{ids gs:List Nat}{n m m' a g:Nat}(h:gs[a]?=some g)(hg:n <= g)(ha:m+a < m'):uF q ids gs n m m' g (m+a) :=
 .inr ⟨hg,om,ha,by show g=gs.getD (m+a - m) 0;rw [show m+a - m=a by omega];simp [List.getD,h]⟩
def aCu (R:Nat->Nat->Prop)(S:St):Nat->List O->Prop
 | _,[]=>True
 | n,o :: l=>(∃ o1,T.get fA n S.hp=some o1∧OI R o1 o)∧aCu R S (n+1) l
theorem aCu.get {R:Nat->Nat->Prop}{S:St}:∀ {l:List O} {n a:Nat} {o:O},aCu R S n l->l[a]?=some o->∃ o1,S.hs.get (n+a)=some o1∧OI R o1 o
 | [],_,_,_,_,h=>by simp at h
 | x :: l,n,0,o,hh,h=>by
   simp at h;subst h;exact hh.1
 | x :: l,n,a+1,o,hh,h=>by
   have:=aCu.get hh.2 (a:=a) (o:=o) (by simpa using h);rw [show n+(a+1)=n+1+a by omega];exact this
def tP (R:Nat->Nat->Prop)(S:St):List Nat->List O->Prop
 | [],[]=>True
 | g :: gs,o :: l=>(∃ o1,T.get fA g S.hp=some o1∧OI R o1 o)∧tP R S gs l
 | _,_=>False
theorem tP.get {R:Nat->Nat->Prop}{S:St}:∀ {gs:List Nat} {l:List O} {a:Nat} {o:O},tP R S gs l->l[a]?=some o->∃ g o1,gs[a]?=some g∧S.hs.get g=some o1∧OI R o1 o
 | [],[],_,_,_,h=>by simp at h
 | g :: gs,x :: l,0,o,hh,h=>by
   simp at h;subst h;obtain ⟨o1,p,q⟩:=hh.1;exact ⟨g,o1,rfl,p,q⟩
 | g :: gs,x :: l,a+1,o,hh,h=>by
   obtain ⟨g',o1,p,q,r⟩:=tP.get hh.2 (a:=a) (o:=o) (by simpa using h);exact ⟨g',o1,by simpa using p,q,r⟩
 | [],_ :: _,_,_,hh,_=>hh.elim
 | _ :: _,[],_,_,hh,_=>hh.elim
theorem nA {l:List Nat}(h:l.Nodup){i j:Nat}(hi:i < l.length)(hj:j < l.length)(e:l[i]=l[j]):i=j:=by
 have hp:=List.pairwise_iff_getElem.1 h
 rcases Nat.lt_trichotomy i j with hlt|he|hgt
 ·exact absurd e (hp i j hi hj hlt)
 ·exact he
 ·exact absurd e.symm (hp j i hj hi hgt)
theorem tP.length {R:Nat->Nat->Prop}{S:St}:∀ {gs:List Nat} {l:List O},tP R S gs l->gs.length=l.length
 | [],[],_=>rfl
 | g :: gs,x :: l,hh=>by simp [tP.length hh.2]
 | [],_ :: _,h=>h.elim
 | _ :: _,[],h=>h.elim
def aAC (q:Nat)(ids:List Nat)(n m:Nat)(ks2 news:List O)(v2:V)(v:V)(S':St):Prop :=
 ∃ gs:List Nat,gs.Nodup∧(∀ g ∈ gs,n <= g)∧VI (uF q ids gs n m (m+news.length)) v v2∧aCu (uF q ids gs n m (m+news.length)) S' (aI+q) ks2∧tP (uF q ids gs n m (m+news.length)) S' gs news
theorem fP.small {c:FuncId}{l l2:List V}(q:Nat){ids:List Nat}{ks os ks2 news:List O}{S0 S':St}{K:Hs}{v v2:V}(h:fP P c l S0.hs v S'.hs)(h0:S0.hs=dU (kJ aI os) (St.hs ⟨.nil,aI+os.length⟩))
  (hids:∀ a b i:Nat,q <= a->ids[a]?=some i->ids[b]?=some i->a=b) (hro:∀ (a:Nat) (o:O),a < q->os[a]?=some o->o.wr=false) (hlen:ids.length=os.length) (hlen1:ks.length=os.length) (hlen2:ks2.length+q=os.length)
  (hat:∀ (a i:Nat) (o:O),ids[a]?=some i->ks[a]?=some o->K.get i=some o)
  (hin:∀ (a:Nat) (o' o:O),ks[a]?=some o'->os[a]?=some o->OI (iC ids (aI+os.length)) o' o) (hl:mJ (iC ids (aI+os.length)) l2 l)
  (hw:∀ (a:Nat) (o:O),ks2[a]?=some o->o.wr=true) (hwn:∀ (a:Nat) (o:O),news[a]?=some o->o.wr=true) (hp:aAC q ids (aI+os.length) K.next ks2 news v2 v S') :
  fP P c l2 K v2 (eC news (pG ((ids.drop q).zip ks2) K)):=by
 obtain ⟨gs,hnd,hge,hv,hheld,hnews⟩:=hp
 have hn0:S0.hs.next=aI+os.length:=by rw [h0,iJ];rfl
 have hgl:=hnews.length
 have hn':(eC news (pG ((ids.drop q).zip ks2) K)).next=K.next+news.length:=by rw [iS,jF]
 have hg0:∀ i,S0.hs.get i=if aI <= i∧i < aI+os.length then os[i - aI]? else none:=fun i=>by rw [h0,pR,aER]
 have hg1:∀ i,(S0.hs.get i).isSome->∃ a,i=aI+a∧a < os.length:=fun i hi=>by
  rw [hg0] at hi;by_cases hc:aI <= i∧i < aI+os.length
  ·exact ⟨i - aI,om,om⟩
  ·rw [if_neg hc] at hi;cases hi
 have eP:∀ a (ha:a < os.length),ids[a]?=some (ids[a]'(by omega)):=fun a ha=>ak _
 have hwr:∀ {R:Nat->Nat->Prop} {o1 o:O},OI R o1 o->o.wr=true->o1.wr=true:=fun h hw=>by
  cases h with
  | cells hc hf =>
    rename_i cs cs' e fl fl'
    cases fl' with
    | ro=>cases hw
    | ex=>cases fl <;> first|rfl|(exfalso;simp at hf)
    | rw=>cases fl <;> first|rfl|(exfalso;simp at hf)
  | part _=>cases hw
  | map _=>rfl
  | strIter _ _=>rfl
  | mapIter0=>rfl
  | mapIter _=>rfl
  | deferred=>rfl
 refine h.frame (roF q) (idF ids) (fun j=>gs.getD (j - K.next) 0) (by rw [hn0];omega) (fun i hi=>if_pos hi) (fun i i' hi hi' hr e=>?_) (fun i o ho=>?_) (by rw [hn0];exact hl) (by rw [hn0,hn'];exact hv) (by rw [hn'];omega)
  (fun j j' h1 h2 h3 h4 e=>?_) (fun j o ho=>?_)
 ·obtain ⟨a,rfl,ha⟩:=hg1 i hi;obtain ⟨a',rfl,ha'⟩:=hg1 i' hi';rw [iG (eP a ha),iG (eP a' ha')] at e
  have hq:q <= a:=by
   rcases Nat.lt_or_ge a q with h'|h'
   ·rw [oW h'] at hr;cases hr
   ·exact h'
  have:=hids a a' _ hq (eP a ha) (by rw [eP a' ha',e]);rw [this]
 ·obtain ⟨a,rfl,ha⟩:=hg1 i (by rw [ho];rfl);rw [hg0,if_pos ⟨om,om⟩,show aI+a - aI=a by omega] at ho;have hk:ks[a]?=some (ks[a]'(by omega)):=ak _;refine ⟨by rw [hn0];omega,fun hr=>hro a o ?_ ho,ks[a]'(by omega),?_,?_⟩
  ·rcases Nat.lt_or_ge a q with h'|h'
   ·exact h'
   ·rw [uT h'] at hr;cases hr
  ·rw [iG (eP a ha)];exact hat a _ _ (eP a ha) hk
  ·rw [hn0];exact hin a _ _ hk ho
 ·have e':gs.getD (j - K.next) 0=gs.getD (j' - K.next) 0:=e;rw [hn'] at h2 h4;have l1:j - K.next < gs.length:=om;have l2:j' - K.next < gs.length:=om;simp only [List.getD,ak l1,ak l2,Option.getD_some] at e';have:=nA hnd l1 l2 e';omega
 ·rw [hn0,hn']
  rcases wL ho with ⟨a,h1,h2⟩|h1
  ·rw [jF] at h2;obtain ⟨g,o1,p,q',r⟩:=hnews.get h1;subst h2;refine .inl ⟨g,o1,uF.new (q:=q) (ids:=ids) (gs:=gs) p (hge g (List.mem_of_getElem? p)) ?_,q',r,hwr r (hwn a o h1)⟩;have:=(ao.1 h1).1;omega
  ·rcases aFe h1 with ⟨a,h2⟩|⟨h2,h3⟩
   ·rw [List.getElem?_zip_eq_some] at h2;obtain ⟨o1,p,q'⟩:=hheld.get h2.2
    have hd:ids[q+a]?=some j:=by rw [<- List.getElem?_drop];exact h2.1
    have ha:q+a < os.length:=by have:=(ao.1 hd).1;omega
    exact .inl ⟨aI+q+a,o1,by rw [Nat.add_assoc];exact uF.at (q:=q) (ids:=ids) (gs:=gs) hd om om,p,q',hwr q' (hw a o h2.2)⟩
   ·refine .inr ⟨h2,fun i hi hj hr=>?_⟩
    cases hgi:S0.hs.get i with
    | none=>rfl
    | some o1 =>
      exfalso;obtain ⟨a,rfl,ha⟩:=hg1 i (by rw [hgi];rfl);rw [iG (eP a ha)] at hj
      have hq:q <= a:=by
       rcases Nat.lt_or_ge a q with h'|h'
       ·rw [oW h'] at hr;cases hr
       ·exact h'
      have hz:((ids.drop q).zip ks2)[a - q]?=some (j,ks2[a - q]'(by omega)):=by
       rw [List.getElem?_zip_eq_some];refine ⟨?_,ak _⟩;rw [List.getElem?_drop,show q+(a - q)=a by omega,eP a ha,hj]
      exact h3 _ (List.mem_of_getElem? hz) rfl
noncomputable def uV (P:Program)(n:Nat)(rs:List ResultVar)(c:Code)(l:List V)(k:V->St->Prop)(S:St):Prop :=
 mW l 0 (blank n) fun E=>evCode P (RC P) (RD P) (LQ P) (cZ P (RC P) (RD P)) none c E [] S fun x E D S=>X.casesOn x (aAk P (RC P) (RD P) (LQ P) (cZ P (RC P) (RD P)) D S fun S=>yO P E S rs fun l=>match l with|[v]=>k v S|l=>k (.tup l) S) (fun _=>False)
  (aAk P (RC P) (RD P) (LQ P) (cZ P (RC P) (RD P)) D S fun S=>yO P E S rs fun l=>match l with|[v]=>k v S|l=>k (.tup l) S) (fun _=>False)
structure bB (P:Program)(f:FuncId)(n:Nat)(rs:List ResultVar)(c:Code):Prop where
 at':∃ fn,P.funcs[f]?=some fn∧fn.body=some c∧fn.ntmps=n∧fn.results.toList=rs∧(fn.name == "runtime.NumGoroutine")=false
def aL (fn:Func):Code:=match fn.body with|some c=>c|none=>.skip
theorem fq {P:Program}{f:FuncId}{n:Nat}{rs:List ResultVar}(fn:Func)(h0:P.funcs[f]?=some fn:=by kernel_rfl)(h1:fn.body=some (aL fn):=by exact rfl)(h2:fn.ntmps=n:=by kernel_rfl)(h3:fn.results.toList=rs:=by kernel_rfl)
  (h4:(fn.name == "runtime.NumGoroutine")=false:=by kernel_rfl):bB P f n rs (aL fn):=⟨fn,h0,h1,h2,h3,h4⟩
theorem aG {Xt:xJ}{f:FuncId}{args:List V}{S:St}{k:V->St->Prop}{n:Nat}{rs:List ResultVar}{c:Code}(hf:bB P f n rs c)(h:uV P n rs c args k S) :
  rP P Xt (RC P) (RD P) (LQ P) (cZ P (RC P) (RD P)) f args S k:=by
 obtain ⟨fn,hfn,hb,rfl,rfl,h0⟩:=hf.at';unfold rP;rw [hfn];show Option.casesOn fn.body _ _;rw [hb];show Bool.rec _ _ (fn.name == "runtime.NumGoroutine");rw [h0]
 have e:∀ (E:Env) (S:St),(yO P E S fn.results.toList fun l=>match l with|[v]=>k v S|l=>k (.tup l) S)=gT P fn E S fun v=>k v S:=fun E S=>by
  unfold gT
  congr 1
 simpa only [uV,e] using h
theorem RC.small (hm:P.follows .mixedOrders=true){c:FuncId}{n:Nat}{rs:List ResultVar}{code:Code}(hf:bB P c n rs code){l l2:List V}(q:Nat)(ids:List Nat)(ks os ks2 news:List O){S:St}{v2:V}{k:V->St->Prop}
  (hids:∀ a b i:Nat,q <= a->ids[a]?=some i->ids[b]?=some i->a=b) (hro:∀ (a:Nat) (o:O),a < q->os[a]?=some o->o.wr=false) (hlen:ids.length=os.length) (hlen1:ks.length=os.length) (hlen2:ks2.length+q=os.length)
  (hat:∀ (a i:Nat) (o:O),ids[a]?=some i->ks[a]?=some o->S.hs.get i=some o)
  (hin:∀ (a:Nat) (o' o:O),ks[a]?=some o'->os[a]?=some o->OI (iC ids (aI+os.length)) o' o) (hl:mJ (iC ids (aI+os.length)) l2 l)
  (hw:∀ (a:Nat) (o:O),ks2[a]?=some o->o.wr=true) (hwn:∀ (a:Nat) (o:O),news[a]?=some o->o.wr=true)
  (hrun:dJ (kJ aI os) ⟨.nil,aI+os.length⟩ (uV P n rs code l (aAC q ids (aI+os.length) S.next ks2 news v2)))
  (hk:aHl ((ids.drop q).zip ks2) S fun S1=>iX news S1 (k v2)):RC P c l2 S k:=by
 obtain ⟨S0,h1,h0⟩:=fF hrun
 have hX:oY P []:=fun q h=>by cases h
 obtain ⟨v,S',h2,h3⟩:=iE hX fL fM oM (evDraw_ok hm fL fM) c l S0 _ (aG hf h1);obtain ⟨S1,h4,h5⟩:=yZ hk;obtain ⟨S2,h6,h7⟩:=nZ h4;have:=h3.small q h0 hids hro hlen hlen1 hlen2 hat hin hl hw hwn h2;rw [<- h5,<- h7] at this;exact .mk v2 S2 this h6
theorem RC.read (hm:P.follows .mixedOrders=true){c:FuncId}{n:Nat}{rs:List ResultVar}{code:Code}(hf:bB P c n rs code){l l2:List V}(ids:List Nat)(ks os news:List O){S:St}{v2:V}{k:V->St->Prop}
  (hro:∀ (a:Nat) (o:O),os[a]?=some o->o.wr=false) (hlen:ids.length=os.length) (hlen1:ks.length=os.length)
  (hat:∀ (a i:Nat) (o:O),ids[a]?=some i->ks[a]?=some o->S.hs.get i=some o)
  (hin:∀ (a:Nat) (o' o:O),ks[a]?=some o'->os[a]?=some o->OI (iC ids (aI+os.length)) o' o) (hl:mJ (iC ids (aI+os.length)) l2 l) (hwn:∀ (a:Nat) (o:O),news[a]?=some o->o.wr=true)
  (hrun:dJ (kJ aI os) ⟨.nil,aI+os.length⟩ (uV P n rs code l (aAC os.length ids (aI+os.length) S.next [] news v2)))
  (hk:iX news S (k v2)):RC P c l2 S k :=
 RC.small hm hf os.length ids ks os [] news (fun a b i ha hi _=>by have:=(ao.1 hi).1;omega) (fun a o _ h=>hro a o h) hlen hlen1 sm hat hin hl sm hwn hrun (by simpa [aHl] using hk)
end
section
variable {P:Program} {rc:cG} {rd:bQ} {lp:lZ} {dr:mP} {ro:Option Nat} {E:Env} {D:List Df} {S:St} {k:KT}
theorem aKt {a b:Code}(h:∀ K:KT,K=(fun x E D S=>X.casesOn x (evCode P rc rd lp dr ro b E D S k) (fun id=>k (.exit id) E D S) (k .ret E D S) (fun l=>k (.goto l) E D S))->evCode P rc rd lp dr ro a E D S K):evCode P rc rd lp dr ro (a.seq b) E D S k:=h _ rfl
theorem aDN {id:Nat}{c:Code}(h:∀ K:KT,K=(fun x E D S=>X.casesOn x (k .normal E D S) (fun id'=>Bool.rec (motive:=fun _=>Prop) (k (.exit id') E D S) (k .normal E D S) (Nat.beq id' id)) (k .ret E D S) (fun l=>k (.goto l) E D S))->evCode P rc rd lp dr ro c E D S K):evCode P rc rd lp dr ro (.block id c) E D S k:=h _ rfl
theorem aBX {id:Nat}{ops:Array Oper}(h:∀ K:Env->St->Prop,K=(fun E S=>k .normal E D S)->evOps P rc rd ops.toList ops.toList E S K)(hd:nS ops.toList=false:=by rfl):evCode P rc rd lp dr ro (.region id ops false) E D S k:=by
 show Bool.rec (motive:=fun _=>Prop) (evOps P rc rd ops.toList ops.toList E S fun E S=>k .normal E D S) (Option.casesOn ro (evOpsD P rc rd ops.toList ops.toList E D S fun E D S=>k .normal E D S) fun _=>False) (nS ops.toList);rw [hd];exact h _ rfl
theorem aGX {c:Operand}{a b:Code}(t:Bool)(hc:∀ Q:Bool->Prop,Q t->eZ E c fun v=>xG v Q)(h1:t=true->evCode P rc rd lp dr ro a E D S k)(h0:t=false->evCode P rc rd lp dr ro b E D S k):evCode P rc rd lp dr ro (.cond c a b) E D S k:=by
 refine hc (fun t=>Bool.rec (motive:=fun _=>Prop) (evCode P rc rd lp dr ro b E D S k) (evCode P rc rd lp dr ro a E D S k) t) ?_;cases t
 ·exact h0 rfl
 ·exact h1 rfl
theorem aHa (h:k .normal E D S):evCode P rc rd lp dr ro .skip E D S k:=h
theorem aGY {id:Nat}(h:k (.exit id) E D S):evCode P rc rd lp dr ro (.exit id) E D S k:=h
theorem aKs (h:k .ret E D S):evCode P rc rd lp dr ro .ret E D S k:=h
theorem aGZ {c:Code}(h:lp none ro c E D S k):evCode P rc rd lp dr ro (.loop c) E D S k:=h
theorem aDP {c:Code}(h:∀ K:KT,K=(fun x E D S=>X.casesOn x (k .normal E D S) (fun id=>k (.exit id) E D S) (k .ret E D S) (fun l=>Option.casesOn (findLabel c l) (k (.goto l) E D S) fun rest=>lp (some c) ro rest E D S k))->evCode P rc rd lp dr ro c E D S K):evCode P rc rd lp dr ro (.scope c) E D S k:=h _ rfl
theorem aJN {K:Env->St->Prop}(hK:K=fun E S=>k .normal E D S)(h:k .normal E D S):K E S:=by subst hK;exact h
theorem aBe {K:KT}{B R:Env->List Df->St->Prop}{C G:Nat->Env->List Df->St->Prop}(hK:K=fun x E D S=>X.casesOn x (B E D S) (fun id=>C id E D S) (R E D S) (fun l=>G l E D S))(h:B E D S):K .normal E D S:=by subst hK;exact h
theorem aFT {K:KT}{B R:Env->List Df->St->Prop}{C G:Nat->Env->List Df->St->Prop}{id:Nat}(hK:K=fun x E D S=>X.casesOn x (B E D S) (fun id=>C id E D S) (R E D S) (fun l=>G l E D S))(h:C id E D S):K (.exit id) E D S:=by subst hK;exact h
theorem aJO {K:KT}{B R:Env->List Df->St->Prop}{C G:Nat->Env->List Df->St->Prop}(hK:K=fun x E D S=>X.casesOn x (B E D S) (fun id=>C id E D S) (R E D S) (fun l=>G l E D S))(h:R E D S):K .ret E D S:=by subst hK;exact h
theorem aRC {n:Nat}{rs:List ResultVar}{c:Code}{l:List V}{k:V->St->Prop}(E:Env)(hE:∀ Q:Env->Prop,Q E->mW l 0 (blank n) Q)
  (h:∀ K:KT,K=(fun x E D S=>X.casesOn x (aAk P (RC P) (RD P) (LQ P) (cZ P (RC P) (RD P)) D S fun S=>yO P E S rs fun l=>match l with|[v]=>k v S|l=>k (.tup l) S) (fun _=>False) (aAk P (RC P) (RD P) (LQ P) (cZ P (RC P) (RD P)) D S fun S=>yO P E S rs fun l=>match l with|[v]=>k v S|l=>k (.tup l) S) (fun _=>False)) ->
   evCode P (RC P) (RD P) (LQ P) (cZ P (RC P) (RD P)) none c E [] S K):uV P n rs c l k S:=hE _ (h _ rfl)
theorem aDO {l:List (Nat × O)}{S:St}{k:St->Prop}(S':St)(hS:∀ Q:St->Prop,Q S'->dJ l S Q)(h:k S'):dJ l S k:=hS _ h
theorem LP.gc' (hm:P.follows .mixedOrders=true){b:Code}{E:Env}{S:St}{k:KT}
  (h:∀ K:KT,K=(fun x E1 D1 S1=>X.casesOn x (∃ S2,aPP S S1 S2∧D1=[]∧LP P none b (qD S2.next E1) [] S2 k) (fun id=>k (.exit id) E1 D1 S1) (k .ret E1 D1 S1) (fun l=>k (.goto l) E1 D1 S1)) ->
   evCode P (RC P) (RD P) (LQ P) (cZ P (RC P) (RD P)) none b E [] S K):LP P none b E [] S k:=LP.gc hm (h _ rfl)
theorem kN {b:Bool}{k:Bool->Prop}(hb:b=true)(h:k true):fB b k:=by subst hb;exact h
theorem lG {b:Bool}{k:Bool->Prop}(hb:b=false)(h:k false):fB b k:=by subst hb;exact h
theorem dG {b:Bool}{k:Bool->Prop}(h1:b=true->k true)(h0:b=false->k false):fB b k:=by
 cases b
 ·exact h0 rfl
 ·exact h1 rfl
theorem aBY {c:Operand}{a b:Code}(hc:∀ Q:Bool->Prop,Q true->eZ E c fun v=>xG v Q)(h:evCode P rc rd lp dr ro a E D S k):evCode P rc rd lp dr ro (.cond c a b) E D S k:=aGX true hc (fun _=>h) nofun
theorem yS {c:Operand}{a b:Code}(hc:∀ Q:Bool->Prop,Q false->eZ E c fun v=>xG v Q)(h:evCode P rc rd lp dr ro b E D S k):evCode P rc rd lp dr ro (.cond c a b) E D S k:=aGX false hc nofun fun _=>h
theorem bA {a:IntKind}{x:Int}{k:Int->Prop}(n:Nat)(hx:x=Int.ofNat n)(hn:n <= rF a)(h:k (Int.ofNat n)):eQ a x k:=by subst hx;exact mH hn h
theorem aN {R:Nat->Nat->Prop}:∀ l:List aY,mJ R (cellsOf l) (cellsOf l)
 | []=>.nil
 | _ :: l=>.cons (.str _) (.cons (.str _) (aN l))
theorem jN:∀ {l:List aY} {j:Nat} (h:j < l.length),(cellsOf l)[2 * j]?=some (.str l[j].1)∧(cellsOf l)[2 * j+1]?=some (.str l[j].2)
 | [],j,h=>by simp at h
 | q :: l,0,_=>⟨rfl,rfl⟩
 | q :: l,j+1,h=>by
   have:=jN (l:=l) (j:=j) (by simpa using h);rw [show 2 * (j+1)=2 * j+1+1 by omega];simpa [cellsOf] using this
theorem aH {t:TypeId}(ha:pY P t=some false){cs:List V}{off:Nat}(off':Nat)(ho:off=off'){v:V}(hv:cs[off']?=some v){k:V->Prop}(h:k v):cR P t off cs k:=by
 subst ho;unfold cR;rw [ha];show Option.rec (motive:=fun _=>Prop) False k (nth cs off);rw [nth_eq,hv];exact h
noncomputable def sl (E:Env)(t:Nat):V:=(tget E t).getD .any
theorem aWm {E:Env}{t:Nat}{v:V}(h:tget E t=some v):tget E t=some (sl E t):=by unfold sl;rw [h];rfl
def z0:N4 Unit:=⟨none,(),(),(),()⟩
def z1:N4 (N4 Unit):=⟨none,z0,z0,z0,z0⟩
def z2:N4 (N4 (N4 Unit)):=⟨none,z1,z1,z1,z1⟩
def z3:N4 (N4 (N4 (N4 Unit))):=⟨none,z2,z2,z2,z2⟩
end
section
variable {P:Program} {rc:cG} {rd:bQ} {lp:lZ} {ro:Option Nat} {E E1:Env} {D:List Df} {S S1:St} {k:KT}
 {base i wr seen anc dw own wr' seen' sd:Nat} {ops:List Oper} {l:List Oper} {o:Oper} {ancs:List (Nat × Nat × Nat × Nat)} {pe pe':List (Nat × Nat × O)} {chs:List Ch} {rds:List Rd} {als:List (Nat × Nat)} {K:Dr->Prop} {v:V}
theorem yR {id:Nat}{ops:Array Oper}{hp:T O}{nx:Nat}
  (h:∀ K:Dr->Prop,K=(fun d=>fU P d.chs d.st d.rds (kK d.chs d.st d.als (nX d.pend d.st fun S=>k .normal d.env D S))) ->
   drOps P rc rd nx ops.toList ops.toList 0 [] 0 0 ⟨E,⟨hp,Nat.add nx (dH ops.toList)⟩,[],[],[],[]⟩ K):evCode P rc rd lp (cZ P rc rd) ro (.region id ops true) E D ⟨hp,nx⟩ k:=by
 show cZ P rc rd ops E ⟨hp,nx⟩ fun E S=>k .normal E D S;unfold cZ;exact aP (h _ rfl)
theorem nI {d:Dr}(hs:kD ops i ancs wr seen o=.ok anc dw own wr' seen')(h:dL d.env ops o.guard (aCC P rc rd base i anc o.op d fun v d=>tW d o.dst v fun d=>drOps P rc rd base ops l (Nat.succ i) ((anc,dw,dV o.dst,own) :: ancs) wr' seen' d K)
  (tW d o.dst undefV fun d=>drOps P rc rd base ops l (Nat.succ i) ((anc,dw,dV o.dst,own) :: ancs) wr' seen' d K)):drOps P rc rd base ops (o :: l) i ancs wr seen d K:=by
 show Sx.rec (motive:=fun _=>Prop) _ False (kD ops i ancs wr seen o);rw [hs];exact h
theorem aQn (hs:kD ops i ancs wr seen o=.ok anc dw own wr' seen')(hd:dV o.dst=sd)(hg:∀ Y N:Prop,N->dL E ops o.guard Y N)(hp:∀ Q:Env->Prop,Q E1->cW E o.dst undefV Q)
  (h:drOps P rc rd base ops l (Nat.succ i) ((anc,dw,sd,own) :: ancs) wr' seen' ⟨E1,S,pe,chs,rds,als⟩ K):drOps P rc rd base ops (o :: l) i ancs wr seen ⟨E,S,pe,chs,rds,als⟩ K:=by
 subst hd;exact nI hs (hg _ _ (hp _ h))
theorem aQm {f:jC}(hs:kD ops i ancs wr seen o=.ok anc dw own wr' seen')(hd:dV o.dst=sd)(hg:∀ Y N:Prop,Y->dL E ops o.guard Y N)(hc:rM P o.op=.pure f)(hf:∀ Q:V->Prop,Q v->f E Q)(hp:∀ Q:Env->Prop,Q E1->cW E o.dst v Q)
  (h:drOps P rc rd base ops l (Nat.succ i) ((anc,dw,sd,own) :: ancs) wr' seen' ⟨E1,S,pe,chs,rds,als⟩ K):drOps P rc rd base ops (o :: l) i ancs wr seen ⟨E,S,pe,chs,rds,als⟩ K:=by
 subst hd;refine nI hs (hg _ _ ?_);unfold aCC;rw [hc];exact hf _ (hp _ h)
theorem aJM (hs:kD ops i ancs wr seen o=.ok anc dw own wr' seen')(hd:dV o.dst=sd)(hg:∀ Y N:Prop,Y->dL E ops o.guard Y N)(hc:rM P o.op=.read (gJ P o.op))(hf:∀ Q:V->Prop,Q v->gZ 0 (iY anc pe) S fun S=>gJ P o.op E S Q)(hp:∀ Q:Env->Prop,Q E1->cW E o.dst v Q)
  (h:(∀ Q:V->Prop,Q v->gZ 0 (iY anc pe) S fun S=>gJ P o.op E S Q)->drOps P rc rd base ops l (Nat.succ i) ((anc,dw,sd,own) :: ancs) wr' seen' ⟨E1,S,pe,chs,⟨o.op,i,anc,E,v,iY anc pe⟩ :: rds,als⟩ K):drOps P rc rd base ops (o :: l) i ancs wr seen ⟨E,S,pe,chs,rds,als⟩ K:=by
 subst hd;refine nI hs (hg _ _ ?_);unfold aCC;rw [hc];exact hf _ (hp _ (h hf))
theorem aNJ {f:oX}{ob:O}{mk:Nat->V}(hs:kD ops i ancs wr seen o=.ok anc dw own wr' seen')(hd:dV o.dst=sd)(hg:∀ Y N:Prop,Y->dL E ops o.guard Y N)(hc:rM P o.op=.alloc f)(hf:∀ Q:O->(Nat->V)->Prop,Q ob mk->f E Q)(hp:∀ Q:Env->Prop,Q E1->cW E o.dst (mk (Nat.add base i)) Q)
  (h:drOps P rc rd base ops l (Nat.succ i) ((anc,dw,sd,own) :: ancs) wr' seen' ⟨E1,S,(i,Nat.add base i,ob) :: pe,chs,rds,(i,Nat.add base i) :: als⟩ K):drOps P rc rd base ops (o :: l) i ancs wr seen ⟨E,S,pe,chs,rds,als⟩ K:=by
 subst hd;refine nI hs (hg _ _ ?_);unfold aCC;rw [hc];exact hf _ (aP (hp _ h))
theorem aNK {f:cG->bQ->OpT}(hs:kD ops i ancs wr seen o=.ok anc dw own wr' seen')(hd:dV o.dst=sd)(hg:∀ Y N:Prop,Y->dL E ops o.guard Y N)(hc:rM P o.op=.chain f)
  (ha:List.rec (motive:=fun _=>Bool) true (fun c _ _=>aU anc c.idx) chs=true) (hm:∀ Q:List (Nat × Nat × O)->St->Prop,Q pe' S1->nY anc pe S Q)
  (h:∀ Q:V->St->Prop,(∀ v S',Q v S'=cW E o.dst v fun E1=>drOps P rc rd base ops l (Nat.succ i) ((anc,dw,sd,own) :: ancs) wr' seen' ⟨E1,S',pe',⟨i,anc,S⟩ :: chs,rds,als⟩ K)->f rc rd E S1 Q):drOps P rc rd base ops (o :: l) i ancs wr seen ⟨E,S,pe,chs,rds,als⟩ K:=by
 subst hd;refine nI hs (hg _ _ ?_);unfold aCC;rw [hc];show dD _ _;exact ifK_intro ha (hm _ (h _ fun _ _=>rfl))
theorem aRp {r:Rd}(hr:∀ Q:V->Prop,Q r.val->gZ 0 r.sel S fun S=>gJ P r.op r.env S Q)(he:vA 8 r.val r.val=true){Q:Prop}(hQ:Q):∀ {chs:List Ch} {nxt:Option Nat},(chs=[] ∨ r.sel=[])->(∀ c ∈ chs,c.st.hp=S.hp∧c.st.next=S.next)->aDJ P r chs nxt S Q:=by
 have hat:∀ (prev:Nat) (nxt:Option Nat) (Q:Prop),(prev=0 ∨ r.sel=[])->Q->uR P r prev nxt S Q:=fun prev nxt Q hp hQ=>by
  have hrd:gZ prev r.sel S fun S=>gJ P r.op r.env S fun v=>dD (vA 8 r.val v) Q:=by
   rcases hp with rfl|hp
   ·exact hr (fun v=>dD (vA 8 r.val v) Q) (ifK_intro he hQ)
   ·have h1:=hr (fun v=>dD (vA 8 r.val v) Q) (ifK_intro he hQ);rw [hp] at h1 ⊢;exact h1
  unfold uR
  cases aU prev r.idx with
  | true=>exact hQ
  | false =>
    cases nxt with
    | none=>exact hrd
    | some n =>
      show Bool.rec (motive:=fun _=>Prop) _ _ (aU r.anc n)
      cases aU r.anc n with
      | true=>exact hQ
      | false=>exact hrd
 intro chs
 induction chs with
 | nil=>exact fun _ _=>hat 0 _ _ (.inl rfl) hQ
 | cons c chs ih =>
   intro nxt hp hall
   have hsel:r.sel=[]:=by
    rcases hp with hp|hp
    ·cases hp
    ·exact hp
   obtain ⟨h1,h2⟩:=hall c sm
   have hc:c.st=S:=by cases hcs:c.st;cases S;rw [hcs] at h1 h2;simp at h1 h2;rw [h1,h2]
   refine hat c.anc nxt _ (.inr hsel) ?_;show aDJ P r chs (some c.idx) c.st Q;rw [hc];exact ih (.inr hsel) fun x hx=>hall x (by simp [hx])
theorem lY {r:Rd}{Q:Prop}(hall:∀ c ∈ chs,c.st.hp=S.hp∧c.st.next=S.next)(hr:∀ Q:V->Prop,Q r.val->gZ 0 r.sel S fun S=>gJ P r.op r.env S Q)(he:vA 8 r.val r.val=true)(hs:chs=[] ∨ r.sel=[])(h:fU P chs S rds Q):fU P chs S (r :: rds) Q:=aRp hr he h hs hall
theorem jA {Q:Prop}(h:Q):fU P chs S [] Q:=h
theorem nL (s:List UInt8):kG s s=true:=by rw [cY];simp
theorem oP (s:List UInt8):vA 8 (.str s) (.str s)=true:=nL s
theorem vR (s t:List UInt8):vA 8 (.agg [.str s,.str t]) (.agg [.str s,.str t])=true:=by
 have h:vA 8 (.agg [.str s,.str t]) (.agg [.str s,.str t])=Bool.rec (motive:=fun _=>Bool) false (Bool.rec (motive:=fun _=>Bool) false true (kG t t)) (kG s s):=kr;rw [h,nL,nL]
end
theorem aBE (x y:UInt8)(a b:List UInt8):jJ (x :: a) (y :: b)=if x.toNat=y.toNat then jJ a b else decide (x.toNat < y.toNat):=by
 show Bool.rec (motive:=fun _=>Bool) (Nat.blt x.toNat y.toNat) (jJ a b) (Nat.beq x.toNat y.toNat)=_;by_cases h:x.toNat=y.toNat
 ·rw [if_pos h,h,Nat.beq_refl]
 ·rw [if_neg h]
  have:Nat.beq x.toNat y.toNat=false:=by
   cases hb:Nat.beq x.toNat y.toNat with
   | false=>rfl
   | true=>exact absurd (aj hb) h
  rw [this];show Nat.blt x.toNat y.toNat=decide (x.toNat < y.toNat);rw [Bool.eq_iff_iff];simp [Nat.blt_eq]
theorem aKd (b:List UInt8):jJ b []=false:=by cases b <;> rfl
theorem lM:∀ a:List UInt8,jJ a a=false
 | []=>rfl
 | x :: a=>by rw [aBE,if_pos rfl];exact lM a
theorem lN:∀ {a b c:List UInt8},jJ a b=true->jJ b c=true->jJ a c=true
 | a,b,[],h,k=>by rw [aKd] at k;cases k
 | a,[],c,h,k=>by rw [aKd] at h;cases h
 | [],y :: b,z :: c,h,k=>rfl
 | x :: a,y :: b,z :: c,h,k=>by
   rw [aBE] at h k ⊢;by_cases h1:x.toNat=y.toNat
   ·rw [if_pos h1] at h;by_cases h2:y.toNat=z.toNat
    ·rw [if_pos h2] at k;rw [if_pos (h1.trans h2)];exact lN h k
    ·rw [if_neg h2] at k;rw [if_neg om];simp at k ⊢;omega
   ·rw [if_neg h1] at h;by_cases h2:y.toNat=z.toNat
    ·rw [if_neg om];simp at h ⊢;omega
    ·rw [if_neg h2] at k;simp at h k;rw [if_neg om];simp;omega
theorem aDx {a b:List UInt8}(h:jJ a b=true):jJ b a=false:=by
 cases hb:jJ b a with
 | false=>rfl
 | true =>
   have:=lN h hb;rw [lM] at this;cases this
theorem pP:∀ {a b:List UInt8},jJ a b=false->jJ b a=false->a=b
 | [],[],_,_=>rfl
 | [],y :: b,h,_=>by cases h
 | x :: a,[],_,h=>by cases h
 | x :: a,y :: b,h,k=>by
   rw [aBE] at h k;by_cases h1:x.toNat=y.toNat
   ·rw [if_pos h1] at h;rw [if_pos h1.symm] at k;rw [pP h k,UInt8.toNat_inj.1 h1]
   ·rw [if_neg h1] at h;rw [if_neg (Ne.symm h1)] at k;simp at h k;omega
theorem rW {a b:List UInt8}(h:jJ a b=true):a ≠ b:=fun e=>by rw [e,lM] at h;cases h
theorem xV {a b:List UInt8}(h:a ≠ b):kG a b=false:=by rw [cY];simpa using h
end Go.Am
namespace Go.Am
open Go.Proofs
def xts:xJ:=[(242,1,0),(149,2,0),(100,3,0),(173,4,0),(258,5,0),(181,6,36),(299,8,0)]
theorem aS:oY Tryz.prog xts:=fun q hq=>by
 simp only [xts,av,List.mem_nil_iff,or_false] at hq
 rcases hq with rfl|rfl|rfl|rfl|rfl|rfl|rfl
 ·exact ⟨Tryz.f242,kr,kr,kr,kr,kr⟩
 ·exact ⟨Tryz.f149,kr,kr,kr,kr,kr⟩
 ·exact ⟨Tryz.f100,kr,kr,kr,kr,kr⟩
 ·exact ⟨Tryz.f173,kr,kr,kr,kr,kr⟩
 ·exact ⟨Tryz.f258,kr,kr,kr,kr,kr⟩
 ·exact ⟨Tryz.f181,kr,kr,kr,kr,kr⟩
 ·exact ⟨Tryz.f299,kr,kr,kr,kr,kr⟩
theorem mixed:Tryz.prog.follows .mixedOrders=true:=kr
theorem xN:pY Tryz.prog 9=some false:=kr
theorem agg40:pY Tryz.prog 34=some true:=kr
theorem lK:∃ i,Tryz.prog.info? 34=some i∧i.size=2:=by
 have h:(Tryz.prog.info? 34).map (·.size)=some 2:=kr
 cases hi:Tryz.prog.info? 34 with
 | none=>rw [hi] at h;cases h
 | some i=>rw [hi] at h;exact ⟨i,rfl,by simpa using h⟩
end Go.Am
namespace Go.Am
abbrev eY:=List (aY × Nat)
def cA (t:eY):List (V × V × Nat):=t.map fun x=>(.str x.1.1,gE x.1,x.2)
def mF (q:aY):eY->Option eY
 | []=>none
 | x :: t=>if x.1.1=q.1 then some ((q,x.2) :: t) else (mF q t).map (x :: ·)
def cK (x:eY × Nat)(q:aY):eY × Nat:=match mF q x.1 with
 | some t=>(t,x.2)
 | none=>(x.1 ++ [(q,x.2)],x.2+1)
theorem lH (s:List UInt8)(x:aY × Nat)(t:eY)(n:Nat):nQ 1 (.str s) (cA (x :: t)) n=if x.1.1=s then some (some (n,gE x.1)) else nQ 1 (.str s) (cA t) (n+1):=by
 show Bool.rec (motive:=fun _=>Option (Option (Nat × V))) (nQ 1 (.str s) (cA t) (n+1)) (some (some (n,gE x.1))) (kG s x.1.1)=_;rw [cY];by_cases h:x.1.1=s
 ·rw [if_pos h,h];simp
 ·rw [if_neg h]
  have:(s == x.1.1)=false:=by simpa using fun e=>h e.symm
  rw [this]
theorem aDo {q:aY}:∀ {t:eY} {n:Nat},mF q t=none->nQ 1 (.str q.1) (cA t) n=some none
 | [],_,_=>rfl
 | x :: t,n,h=>by
   unfold mF at h;by_cases hx:x.1.1=q.1
   ·rw [if_pos hx] at h;cases h
   ·rw [if_neg hx] at h;rw [lH,if_neg hx];exact aDo (by simpa using h)
theorem aDp {q:aY}:∀ {t t':eY} {n:Nat},mF q t=some t'->∃ (i:Nat) (v:V) (e:V × V × Nat),nQ 1 (.str q.1) (cA t) n=some (some (n+i,v))∧(cA t)[i]?=some e∧cA t'=(cA t).set i (.str q.1,gE q,e.2.2)
 | [],_,_,h=>by cases h
 | x :: t,t',n,h=>by
   unfold mF at h;by_cases hx:x.1.1=q.1
   ·rw [if_pos hx] at h;cases h;exact ⟨0,gE x.1,(.str x.1.1,gE x.1,x.2),by rw [lH,if_pos hx];rfl,rfl,rfl⟩
   ·rw [if_neg hx] at h
    cases ht:mF q t with
    | none=>rw [ht] at h;cases h
    | some t1 =>
      rw [ht] at h;cases h;obtain ⟨i,v,e,h1,h2,h3⟩:=aDp (n:=n+1) ht;exact ⟨i+1,v,e,by rw [lH,if_neg hx,h1];congr 3;omega,by simpa [cA] using h2,by simp only [cA,List.map_cons,List.set_cons_succ] at h3 ⊢;rw [h3]⟩
theorem bZ {α:Type}{m:List α}:∀ {l:List α} {k:List α->Prop},k (l ++ m)->nH l m k
 | [],k,h=>h
 | x :: l,k,h=>by
   show nH l m fun r=>k (x :: r);exact bZ (l:=l) (k:=fun r=>k (x :: r)) h
theorem aDU {α:Type}{x:α}:∀ {l:List α} {n:Nat} {k:List α->Prop},n < l.length->k (l.set n x)->upd x l n k
 | [],n,k,h,_=>by simp at h
 | y :: l,0,k,_,h=>h
 | y :: l,n+1,k,hn,h=>by
   show upd x l n fun l=>k (y :: l);exact aDU (by simpa using hn) h
theorem aGw {q:aY}{t:eY}{c id:Nat}{S:St}{K:St->Prop}(h:bD id (some (.map (cA (cK (t,c) q).1) (cK (t,c) q).2)) S K) :
  Option.rec (motive:=fun _=>Prop) False (fun r=>Option.rec (motive:=fun _=>Prop) (nH (cA t) [(.str q.1,gE q,c)] fun es=>bD id (some (.map es (Nat.succ c))) S fun S=>K S)
   (fun r=>Option.rec (motive:=fun _=>Prop) False (fun e=>upd (.str q.1,gE q,e.2.2) (cA t) r.1 fun es=>bD id (some (.map es c)) S fun S=>K S) (nth (cA t) r.1)) r) (nQ 1 (.str q.1) (cA t) 0):=by
 unfold cK at h
 cases hs:mF q t with
 | none =>
   rw [aDo hs];rw [hs] at h;refine bZ ?_
   have e:cA t ++ [(V.str q.1,gE q,c)]=cA (t ++ [(q,c)]):=by simp [cA]
   rw [e];exact h
 | some t' =>
   obtain ⟨i,v,e,h1,h2,h3⟩:=aDp (n:=0) hs;rw [h1];rw [hs] at h;show Option.rec (motive:=fun _=>Prop) False _ (nth (cA t) (0+i));rw [Nat.zero_add,nth_eq,h2];have hi:i < (cA t).length:=(ao.1 h2).1;refine aDU hi ?_;rw [<- h3];exact h
noncomputable def T.ins (x:O)(n:Nat)(t:T O):T O:=T.set (some x) fA n t (fun t=>t) t
noncomputable def rE (l:List (Nat × O))(n:Nat):St:=⟨List.rec (motive:=fun _=>T O) .nil (fun q _ ih=>T.ins q.2 q.1 ih) l,n⟩
theorem vD {R:Nat->Nat->Prop}(q:aY):VI R (gE q) (gE q):=.agg (.cons (.str _) (.cons (.str _) .nil))
theorem gK {R:Nat->Nat->Prop}:∀ t:eY,EI R (cA t) (cA t)
 | []=>.nil
 | x :: t=>.cons (.str _) (vD x.1) (gK t)
section
variable {P:Program}
def nG (P:Program)(g:FuncId)(e:TypeId):Prop:=∀ args S k,wI e args S k->∃ v S',k v S'∧fP P g args S.hs v S'.hs
theorem nG.rc {g:FuncId}{e:TypeId}(h:nG P g e){args:List V}{S:St}{k:V->St->Prop}(hk:wI e args S k):RC P g args S k:=by
 obtain ⟨v,S',h1,h2⟩:=h _ _ _ hk;exact .mk v S' h2 h1
noncomputable def yD (q:aY):List aY->List aY
 | []=>[q]
 | x :: l=>if jJ q.1 x.1=true then q :: x :: l else x :: yD q l
noncomputable def cE:List aY->List aY->List aY
 | [],acc=>acc
 | q :: l,acc=>cE l (yD q acc)
theorem nT {q x:aY}:∀ {l:List aY},x ∈ yD q l ↔ x=q ∨ x ∈ l
 | []=>by simp [yD]
 | y :: l=>by
   unfold yD
   split
   ·simp
   ·simp only [av,nT (l:=l)]
    constructor
    ·rintro (h|h|h) <;> simp [h]
    ·rintro (h|h|h) <;> simp [h]
theorem zP {q:aY}:∀ {l:List aY},(yD q l).length=l.length+1
 | []=>rfl
 | y :: l=>by
   unfold yD
   split
   ·rfl
   ·simp [zP (l:=l)]
theorem aBu {q:aY}:∀ {l:List aY},l.Pairwise (fun p q=>jJ p.1 q.1=true)->(∀ x ∈ l,x.1 ≠ q.1)->(yD q l).Pairwise fun p q=>jJ p.1 q.1=true
 | [],_,_=>List.pairwise_singleton _ _
 | y :: l,h,hn=>by
   have h':=List.pairwise_cons.1 h;unfold yD
   split
   ·rename_i hlt
    refine List.pairwise_cons.2 ⟨fun x hx=>?_,h⟩
    rcases av.1 hx with rfl|hx
    ·exact hlt
    ·exact lN hlt (h'.1 x hx)
   ·rename_i hlt
    have hyq:jJ y.1 q.1=true:=by
     cases hb:jJ y.1 q.1 with
     | true=>rfl
     | false=>exact absurd (pP hb (by simpa using hlt)) (hn y sm)
    refine List.pairwise_cons.2 ⟨fun x hx=>?_,aBu h'.2 fun x hx=>hn x (by simp [hx])⟩
    rcases nT.1 hx with rfl|hx
    ·exact hyq
    ·exact h'.1 x hx
theorem lR {x:aY}:∀ {l acc:List aY},x ∈ cE l acc ↔ x ∈ l ∨ x ∈ acc
 | [],acc=>by simp [cE]
 | q :: l,acc=>by
   unfold cE;rw [lR,nT];simp only [av]
   constructor
   ·rintro (h|h|h) <;> simp [h]
   ·rintro ((h|h)|h) <;> simp [h]
theorem dY:∀ {l acc:List aY},(cE l acc).length=l.length+acc.length
 | [],acc=>by simp [cE]
 | q :: l,acc=>by
   unfold cE;rw [dY,zP];simp;omega
theorem kC:∀ {l acc:List aY},acc.Pairwise (fun p q=>jJ p.1 q.1=true)->l.Pairwise (fun p q=>p.1 ≠ q.1)->(∀ x ∈ l,∀ y ∈ acc,y.1 ≠ x.1)->(cE l acc).Pairwise fun p q=>jJ p.1 q.1=true
 | [],acc,h,_,_=>h
 | q :: l,acc,h,hl,hn=>by
   unfold cE;have hl':=List.pairwise_cons.1 hl;refine kC (aBu h fun x hx=>hn q sm x hx) hl'.2 fun x hx y hy=>?_
   rcases nT.1 hy with rfl|hy
   ·exact hl'.1 x hx
   ·exact hn x (by simp [hx]) y hy
theorem aBt {q:aY}:∀ {l:List aY} {k:List aY->Prop},(∀ x ∈ l,x.1 ≠ q.1)->k (yD q l)->aGi q.1 q.2 l k
 | [],k,_,h=>h
 | x :: l,k,hn,h=>by
   show Bool.rec (motive:=fun _=>Prop) (Bool.rec (motive:=fun _=>Prop) False (aGi q.1 q.2 l fun r=>k (x :: r)) (jJ x.1 q.1)) (k ((q.1,q.2) :: x :: l)) (jJ q.1 x.1);unfold yD at h
   cases hb:jJ q.1 x.1 with
   | true=>rw [hb,if_pos rfl] at h;exact h
   | false =>
     rw [hb,if_neg sm] at h
     have hc:jJ x.1 q.1=true:=by
      cases hc:jJ x.1 q.1 with
      | true=>rfl
      | false=>exact absurd (pP hc hb) (hn x sm)
     rw [hc];exact aBt (l:=l) (fun y hy=>hn y (by simp [hy])) h
theorem zY:∀ {t:eY} {acc:List aY} {k:List aY->Prop},t.Pairwise (fun p q=>p.1.1 ≠ q.1.1)->(∀ x ∈ t,∀ y ∈ acc,y.1 ≠ x.1.1)->k (cE (t.map (·.1)) acc)->aHg (cA t) acc k
 | [],acc,k,_,_,h=>h
 | x :: t,acc,k,hp,hn,h=>by
   have hp':=List.pairwise_cons.1 hp;show dD (kG x.1.1 x.1.1) (aGi x.1.1 x.1.2 acc fun l=>aHg (cA t) l k);refine ifK_intro (nL _) (aBt (q:=x.1) (fun y hy=>hn x sm y hy) (zY hp'.2 (fun y hy z hz=>?_) h))
   rcases nT.1 hz with rfl|hz
   ·exact hp'.1 y hy
   ·exact hn y (by simp [hy]) z hz
theorem zK:∀ {l:List aY} {k:List V->Prop},k (cellsOf l)->flatK l k
 | [],k,h=>h
 | q :: l,k,h=>by
   show flatK l fun r=>k (.str q.1 :: .str q.2 :: r);exact zK (l:=l) h
def cI:eY->Nat->Nat->Prop
 | [],p,c=>p <= c
 | x :: t,p,c=>p <= x.2∧cI t (x.2+1) c
theorem aCf:∀ {t:eY} {p c:Nat},cI t p c->wY (cA t) p c=true
 | [],p,c,h=>ag h
 | x :: t,p,c,h=>by
   show Bool.rec (motive:=fun _=>Bool) false (wY (cA t) (x.2+1) c) (Nat.ble p x.2)=true;rw [ag h.1];exact aCf h.2
theorem cI.app {q:aY}:∀ {t:eY} {p c:Nat},cI t p c->cI (t ++ [(q,c)]) p (c+1)
 | [],p,c,h=>⟨h,af _⟩
 | x :: t,p,c,h=>⟨h.1,h.2.app⟩
theorem cI.set {q:aY}:∀ {t t':eY} {p c:Nat},cI t p c->mF q t=some t'->cI t' p c
 | [],_,_,_,_,h=>by cases h
 | x :: t,t',p,c,hs,h=>by
   unfold mF at h;by_cases hx:x.1.1=q.1
   ·rw [if_pos hx] at h;cases h;exact hs
   ·rw [if_neg hx] at h
    cases ht:mF q t with
    | none=>rw [ht] at h;cases h
    | some t1=>rw [ht] at h;cases h;exact ⟨hs.1,hs.2.set ht⟩
theorem cI.put {q:aY}{x:eY × Nat}(h:cI x.1 0 x.2):cI (cK x q).1 0 (cK x q).2:=by
 unfold cK
 cases hs:mF q x.1 with
 | none=>exact h.app
 | some t=>exact h.set hs
theorem aCH {e:TypeId}{m:Nat}{S:St}{t:eY}{c:Nat}{k:V->St->Prop}(hm:S.hs.get m=some (.map (cA t) c))(hs:cI t 0 c)(hp:t.Pairwise fun p q=>p.1.1 ≠ q.1.1)(hn:t ≠ [])(hl:t.length <= 4096)
  (hk:bK (.cells (cellsOf (cE (t.map (·.1)) [])) e .rw) S fun id S=>k (.slice id 0 t.length t.length 2 false) S):wI e [.map m] S k:=by
 show mC S m _;refine jP hm ?_;refine ifK_intro (aCf hs) ?_;refine zY hp sm ?_
 have hlen:(cE (t.map (·.1)) []).length=t.length:=by rw [dY];simp
 refine ifK_intro (ag (by rw [aM,hlen];exact hl)) ?_
 have h2:cE (t.map (·.1)) [] ≠ []:=fun h=>by
  rw [h] at hlen
  cases t with
  | nil=>exact hn rfl
  | cons x t=>simp at hlen
 generalize hL:cE (t.map (·.1)) []=L at *
 cases L with
 | nil=>exact absurd rfl h2
 | cons q L =>
   show flatK (q :: L) _;refine zK ?_;refine aP ?_;rw [aM,hlen];exact hk
end
def aFm (t:eY):Prop:=t.Pairwise fun p q=>p.1.1 ≠ q.1.1
theorem yT {q:aY}:∀ {t:eY},mF q t=none->∀ x ∈ t,x.1.1 ≠ q.1
 | [],_=>by simp
 | x :: t,h=>by
   unfold mF at h;by_cases hx:x.1.1=q.1
   ·rw [if_pos hx] at h;cases h
   ·rw [if_neg hx] at h;intro y hy
    rcases av.1 hy with rfl|hy
    ·exact hx
    ·exact yT (by simpa using h) y hy
theorem aCb {q:aY}:∀ {t t':eY},mF q t=some t'->t'.map (·.1.1)=t.map (·.1.1)
 | [],_,h=>by cases h
 | x :: t,t',h=>by
   unfold mF at h;by_cases hx:x.1.1=q.1
   ·rw [if_pos hx] at h;cases h;simp [hx]
   ·rw [if_neg hx] at h
    cases ht:mF q t with
    | none=>rw [ht] at h;cases h
    | some t1=>rw [ht] at h;cases h;simp only [List.map_cons];rw [aCb ht]
theorem aBa {t:eY}:aFm t ↔ (t.map (·.1.1)).Nodup:=by rw [aFm,List.Nodup,List.pairwise_map]
theorem aMg {x:eY × Nat}{q:aY}(h:aFm x.1):aFm (cK x q).1:=by
 unfold cK
 cases hs:mF q x.1 with
 | none =>
   refine List.pairwise_append.2 ⟨h,List.pairwise_singleton _ _,fun a ha b hb=>?_⟩;simp at hb;subst hb;exact yT hs a ha
 | some t=>exact aBa.2 (by rw [aCb hs];exact aBa.1 h)
theorem aHd {q:aY}:∀ {t t':eY},aFm t->mF q t=some t'->∀ y:aY,y ∈ t'.map (·.1) ↔ y=q ∨ (y.1 ≠ q.1∧y ∈ t.map (·.1))
 | [],_,_,h=>by cases h
 | x :: t,t',hd,h=>by
   have hd':=List.pairwise_cons.1 hd;unfold mF at h;by_cases hx:x.1.1=q.1
   ·rw [if_pos hx] at h;cases h;intro y;simp only [List.map_cons,av]
    constructor
    ·rintro (h|h)
     ·exact .inl h
     ·obtain ⟨z,hz,rfl⟩:=List.mem_map.1 h;exact .inr ⟨fun e=>hd'.1 z hz (hx.trans e.symm),.inr h⟩
    ·rintro (h|⟨h1,h2|h2⟩)
     ·exact .inl h
     ·exact absurd (by rw [h2];exact hx) h1
     ·exact .inr h2
   ·rw [if_neg hx] at h
    cases ht:mF q t with
    | none=>rw [ht] at h;cases h
    | some t1 =>
      rw [ht] at h;cases h;intro y;simp only [List.map_cons,av,aHd hd'.2 ht y]
      constructor
      ·rintro (h|h|⟨h1,h2⟩)
       ·exact .inr ⟨by rw [h];exact hx,.inl h⟩
       ·exact .inl h
       ·exact .inr ⟨h1,.inr h2⟩
      ·rintro (h|⟨h1,h2|h2⟩)
       ·exact .inr (.inl h)
       ·exact .inl h2
       ·exact .inr (.inr ⟨h1,h2⟩)
theorem oA {x:eY × Nat}{q:aY}(h:aFm x.1)(y:aY):y ∈ (cK x q).1.map (·.1) ↔ y=q ∨ (y.1 ≠ q.1∧y ∈ x.1.map (·.1)):=by
 unfold cK
 cases hs:mF q x.1 with
 | none =>
   have hn:=yT hs;simp only [List.map_append,List.map_cons,List.map_nil,List.mem_append,ay]
   constructor
   ·rintro (h|h)
    ·obtain ⟨z,hz,rfl⟩:=List.mem_map.1 h;exact .inr ⟨hn z hz,h⟩
    ·exact .inl h
   ·rintro (h|⟨_,h⟩)
    ·exact .inr h
    ·exact .inl h
 | some t=>exact aHd h hs y
structure fE (x:eY × Nat):Prop where
 dist:aFm x.1
 stamps:cI x.1 0 x.2
theorem fE.nil:fE ([],0):=⟨.nil,af _⟩
theorem fE.put {x:eY × Nat}(h:fE x)(q:aY):fE (cK x q):=⟨aMg h.dist,h.stamps.put⟩
theorem fE.puts:∀ (l:List aY) {x:eY × Nat},fE x->fE (l.foldl cK x)
 | [],_,h=>h
 | q :: l,_,h=>fE.puts l (h.put q)
theorem oB:∀ {l:List aY} {x:eY × Nat},fE x->l.Pairwise (fun p q=>p.1 ≠ q.1)->∀ y:aY,y ∈ (l.foldl cK x).1.map (·.1) ↔ y ∈ l ∨ ((∀ q ∈ l,y.1 ≠ q.1)∧y ∈ x.1.map (·.1))
 | [],x,_,_,y=>by simp
 | q :: l,x,h,hp,y=>by
   have hp':=List.pairwise_cons.1 hp;show y ∈ (l.foldl cK (cK x q)).1.map (·.1) ↔ _;rw [oB (h.put q) hp'.2 y,oA h.dist]
   constructor
   ·rintro (h1|⟨h1,h2|⟨h2,h3⟩⟩)
    ·exact .inl (be _ h1)
    ·exact .inl (by rw [h2];exact List.mem_cons_self)
    ·refine .inr ⟨fun z hz=>?_,h3⟩
     rcases av.1 hz with rfl|hz
     ·exact h2
     ·exact h1 z hz
   ·rintro (h1|⟨h1,h2⟩)
    ·rcases av.1 h1 with rfl|h1
     ·exact .inr ⟨fun z hz=>hp'.1 z hz,.inl rfl⟩
     ·exact .inl h1
    ·exact .inr ⟨fun z hz=>h1 z (be _ hz),.inr ⟨h1 q List.mem_cons_self,h2⟩⟩
noncomputable def fW (x:eY × Nat):List aY:=cE (x.1.map (·.1)) []
theorem kV {x:eY × Nat}(y:aY):y ∈ fW x ↔ y ∈ x.1.map (·.1):=by unfold fW;rw [lR];simp
theorem xC {x:eY × Nat}(h:fE x):(fW x).Pairwise fun p q=>jJ p.1 q.1=true :=
 kC .nil (by rw [List.pairwise_map];exact h.dist) sm
theorem iP (x:eY × Nat):(fW x).length=x.1.length:=by unfold fW;rw [dY];simp
theorem gL {l:List aY}(h:l.Pairwise fun p q=>jJ p.1 q.1=true):l.Pairwise fun p q=>p.1 ≠ q.1:=h.imp fun h=>rW h
theorem iF {l:List aY}(h:l.Pairwise fun p q=>p.1 ≠ q.1){q:aY}(hq:q ∈ l):getL q.1 l=q.2:=by
 induction l with
 | nil=>simp at hq
 | cons x l ih =>
   have h':=List.pairwise_cons.1 h;show (if x.1=q.1 then x.2 else getL q.1 l)=q.2
   rcases av.1 hq with rfl|hq
   ·rw [if_pos rfl]
   ·rw [if_neg (h'.1 q hq)];exact ih h'.2 hq
theorem eE (g:Nat):[g].Nodup:=List.nodup_cons.2 ⟨sm,bj⟩
section
variable {P:Program}
structure aAb (b:Nat)(ρ:Rho)(S:Hs)(w:World)(ρ':Rho)(S':Hs)(w':World):Prop where
 rho:∀ id,id < b->ρ' id=ρ id
 next:b <= S'.next
 size:w.heap.size <= w'.heap.size
 keep:∀ b,b < w.heap.size->¬ Own ρ S b->w'.heap[b]?=w.heap[b]?
 own:∀ b,Own ρ' S' b->w.heap.size <= b ∨ Own ρ S b
 has:∀ b,Has ρ' S' b->w.heap.size <= b ∨ Has ρ S b
 tape:w'.tape=w.tape
 os:w'.os=w.os
 output:w'.output=w.output
 drawn:w.drawn <= w'.drawn
theorem Ext.b {b:Nat}{ρ ρ':Rho}{S S':Hs}{w w':World}(h:Ext ρ S w ρ' S' w')(hb:b <= S.next):aAb b ρ S w ρ' S' w' :=
 ⟨fun id eP=>h.rho id (Nat.lt_of_lt_of_le eP hb),bg hb h.next,h.size,h.keep,h.own,h.has,h.tape,h.os,h.output,h.drawn⟩
theorem aAb.ext {ρ ρ':Rho}{S S':Hs}{w w':World}(h:aAb S.next ρ S w ρ' S' w'):Ext ρ S w ρ' S' w':=⟨h.rho,h.next,h.size,h.keep,h.own,h.has,h.tape,h.os,h.output,h.drawn⟩
theorem aAb.trans {b:Nat}{ρ ρ1 ρ2:Rho}{S S1 S2:Hs}{w w1 w2:World}(h:aAb b ρ S w ρ1 S1 w1)(k:aAb b ρ1 S1 w1 ρ2 S2 w2):aAb b ρ S w ρ2 S2 w2 where
 rho id eP:=by rw [k.rho id eP,h.rho id eP]
 next:=k.next
 size:=bg h.size k.size
 keep b hb hn:=by
  rw [k.keep b (Nat.lt_of_lt_of_le hb h.size) (fun ho=>by
   rcases h.own b ho with h'|h'
   ·omega
   ·exact hn h'),h.keep b hb hn]
 own b hb:=by
  rcases k.own b hb with h'|h'
  ·exact .inl (bg h.size h')
  ·exact h.own b h'
 has b hb:=by
  rcases k.has b hb with h'|h'
  ·exact .inl (bg h.size h')
  ·exact h.has b h'
 tape:=k.tape.trans h.tape
 os:=k.os.trans h.os
 output:=k.output.trans h.output
 drawn:=bg h.drawn k.drawn
def aUx (b:Nat)(ρ:Rho)(H:Hs)(w:World)(E':Env)(D':List Df)(H':Hs)(a':Act)(w':World):Prop:=∃ ρ',ER ρ' E' a'.tmps∧DR ρ' D' a'.defers∧cP ρ' H' w'∧aAb b ρ H w ρ' H' w'
def aSQ (b:Nat)(P:Program)(c:Code)(E:Env)(H:Hs)(x:X)(E':Env)(D':List Df)(H':Hs):Prop :=
 ∀ (ρ:Rho) (a:Act) (w:World) (Q:Exit->Act->World->Prop),ER ρ E a.tmps->DR ρ [] a.defers->dZ ρ->cP ρ H w ->
   (∀ a' w',aUx b ρ H w E' D' H' a' w'->Q x.toExit a' w')->HeadIn (W none) 0 P c Q a w
inductive LPB (b:Nat) (P:Program):Code->Env->St->KT->Prop
 | mk {c:Code} {E:Env} {S:St} {k:KT} (x:X) (E':Env) (D':List Df) (S':St) (h:aSQ b P c E S.hs x E' D' S'.hs) (hk:k x E' D' S'):LPB b P c E S k
theorem LPB.lp {c:Code}{E:Env}{S:St}{k:KT}(h:LPB S.next P c E S k):LP P none c E [] S k:=by
 cases h with
 | mk x E' D' S' h hk =>
   refine .mk x E' D' S' (fun ρ r a w Q hro hE hD hg hs hQ=>?_) hk;have hr:r=none:=hro;subst hr;refine h ρ a w Q hE hD hg hs fun a' w' ⟨ρ',h1,h2,h3,h4⟩=>hQ a' w' ⟨ρ',h1,h2,h3,aAb.ext h4⟩
def aIy (i:Nat):List Nat->Nat->Option Nat
 | [],_=>none
 | g :: gs,j=>bif Nat.beq i g then some j else aIy i gs (j+1)
def reN (b:Nat)(gs:List Nat)(i:Nat):Option Nat:=bif Nat.blt i b then some i else aIy i gs b
theorem yC {i j:Nat}:∀ {gs:List Nat} {b:Nat},aIy i gs b=some j->b <= j∧j < b+gs.length∧gs[j - b]?=some i
 | [],b,h=>by cases h
 | g :: gs,b,h=>by
   unfold aIy at h
   cases hb:Nat.beq i g with
   | true =>
     rw [hb] at h;have:b=j:=Option.some.inj h;subst this;exact ⟨af _,sm,by simp [aj hb]⟩
   | false =>
     rw [hb] at h;obtain ⟨h1,h2,h3⟩:=yC (show aIy i gs (b+1)=some j from h);refine ⟨om,by simp;omega,?_⟩;rw [show j - b=j - (b+1)+1 by omega];simpa using h3
def Rre (b:Nat)(gs:List Nat)(i j:Nat):Prop:=(i < b∧j=i) ∨ (b <= j∧j < b+gs.length∧gs[j - b]?=some i)
theorem wT {b i j:Nat}{gs:List Nat}(h:reN b gs i=some j):Rre b gs i j:=by
 unfold reN at h
 cases hb:Nat.blt i b with
 | true =>
   rw [hb] at h;have:i=j:=Option.some.inj h;subst this;exact .inl ⟨mK hb,rfl⟩
 | false=>rw [hb] at h;exact .inr (yC h)
mutual
def V.re (b:Nat)(gs:List Nat):V->V
 | .ptr id off=>match reN b gs id with|some j=>.ptr j off|none=>.any
 | .slice id off len cap es ex=>match reN b gs id with|some j=>.slice j off len cap es ex|none=>.any
 | .map id=>match reN b gs id with|some j=>.map j|none=>.any
 | .yield id=>match reN b gs id with|some j=>.yield j|none=>.any
 | .func fn a c=>.func fn (V.reL b gs a) (V.reL b gs c)
 | .iface t v=>.iface t (V.re b gs v)
 | .agg a=>.agg (V.reL b gs a)
 | .tup a=>.tup (V.reL b gs a)
 | .bool x=>.bool x
 | .int k m=>.int k m
 | .float k m=>.float k m
 | .str s=>.str s
 | .nilPtr=>.nilPtr
 | .nilSlice=>.nilSlice
 | .nilMap=>.nilMap
 | .nilFunc=>.nilFunc
 | .nilIface=>.nilIface
 | .any=>.any
def V.reL (b:Nat)(gs:List Nat):List V->List V
 | []=>[]
 | v :: l=>V.re b gs v :: V.reL b gs l
end
mutual
theorem V.re_vi (b:Nat)(gs:List Nat):∀ v:V,VI (Rre b gs) v (V.re b gs v)
 | .ptr id off=>by
   unfold V.re
   cases h:reN b gs id with
   | none=>exact .toAny rfl
   | some j=>exact .ptr off (wT h)
 | .slice id off len cap es ex=>by
   unfold V.re
   cases h:reN b gs id with
   | none=>exact .toAny rfl
   | some j=>exact .slice off len cap es ex cap ex (wT h) (.inl rfl) (af _) fun h=>⟨h,rfl⟩
 | .map id=>by
   unfold V.re
   cases h:reN b gs id with
   | none=>exact .toAny rfl
   | some j=>exact .map (wT h)
 | .yield id=>by
   unfold V.re
   cases h:reN b gs id with
   | none=>exact .toAny rfl
   | some j=>exact .yield (wT h)
 | .func fn a c=>.func fn (V.re_vis b gs a) (V.re_vis b gs c)
 | .iface t v=>.iface t (V.re_vi b gs v)
 | .agg a=>.agg (V.re_vis b gs a)
 | .tup a=>.tup (V.re_vis b gs a)
 | .bool x=>.bool x
 | .int k m=>.int k m
 | .float k m=>.float k m
 | .str s=>.str s
 | .nilPtr=>.nilPtr
 | .nilSlice=>.nilSlice
 | .nilMap=>.nilMap
 | .nilFunc=>.nilFunc
 | .nilIface=>.nilIface
 | .any=>.any
theorem V.re_vis (b:Nat)(gs:List Nat):∀ l:List V,mJ (Rre b gs) l (V.reL b gs l)
 | []=>.nil
 | v :: l=>.cons (V.re_vi b gs v) (V.re_vis b gs l)
end
noncomputable def reE (b:Nat)(gs:List Nat)(E:Env):Env:=bl4 fun t=>(tget E t).map (V.re b gs)
theorem aKo {b:Nat}{gs:List Nat}{E:Env}{t:Nat}{v:V}(h:tget (reE b gs E) t=some v):∃ u,tget E t=some u∧VI (Rre b gs) u v:=by
 by_cases hb:path t=.bad
 ·have:getP (reE b gs E) (path t)=some v:=h;rw [hb] at this;cases this
 ·have h':getP (reE b gs E) (path t)=some v:=h;unfold reE at h';rw [bl4_get _ _ hb,path_num hb] at h'
  cases hu:tget E t with
  | none=>rw [hu] at h';cases h'
  | some u=>rw [hu] at h';exact ⟨u,rfl,by rw [<- Option.some.inj h'];exact V.re_vi b gs u⟩
structure aFo (b:Nat)(gs:List Nat)(S1 S2:St):Prop where
 next:S2.next=b+gs.length
 nodup:gs.Nodup
 high:∀ g ∈ gs,b <= g
 held:T.All (fun id o=>∃ i o1,Rre b gs i id∧T.get fA i S1.hp=some o1∧OI (Rre b gs) o1 o) S2.hp 1 0
theorem LPB.gc (hm:P.follows .mixedOrders=true){b:Nat}{c:Code}{E:Env}{S:St}{k:KT}(hb:b <= S.next)(hgl:aI <= b)
  (h:∀ K:KT,K=(fun x E1 D1 S1=>X.casesOn x (∃ gs S2,aFo b gs S1 S2∧D1=[]∧LPB b P c (reE b gs E1) S2 k) (fun id=>k (.exit id) E1 D1 S1) (k .ret E1 D1 S1) (fun l=>k (.goto l) E1 D1 S1)) ->
   evCode P (RC P) (RD P) (LQ P) (cZ P (RC P) (RD P)) none c E [] S K):LPB b P c E S k:=by
 obtain ⟨x,E1,D1,S1,h1,h2⟩:=cC fL fM oM (evDraw_ok hm fL fM) none c E [] S _ (h _ rfl)
 cases x with
 | normal =>
   obtain ⟨gs,S2,hd,rfl,h3⟩:=h1
   cases h3 with
   | mk x2 E2 D2 S3 h4 h5 =>
     refine .mk x2 E2 D2 S3 (fun ρ a w Q hE hD hg hs hQ=>.of (h2 ρ none a w _ rfl hE hD hg hs fun a1 w1 ⟨ρ1,b1,b2,b3,b4⟩=>?_)) h5
     let ρ2:Rho:=fun j=>if j < b then ρ1 j else (gs[j - b]?).bind ρ1
     have hlow:∀ j,j < b->ρ2 j=ρ1 j:=fun j hj=>if_pos hj;have hhi:∀ j,b <= j->ρ2 j=(gs[j - b]?).bind ρ1:=fun j hj=>if_neg om
     have hR0:∀ i j l,Rre b gs i j->ρ1 i=some l->ρ2 j=some l:=by
      rintro i j l (⟨hi,rfl⟩|⟨hj,_,hi⟩) hl
      ·rw [hlow _ hi];exact hl
      ·rw [hhi _ hj,hi];exact hl
     have hR:Tr ρ1 ρ2 (Rre b gs):=.of hR0;have hheld:∀ id o,S2.hs.get id=some o->∃ i o1,Rre b gs i id∧S1.hs.get i=some o1∧OI (Rre b gs) o1 o:=fun id o ho=>hd.held.get ho
     have hinv:∀ id,(S2.hs.get id).isSome->∀ l,ρ2 id=some l->∃ i,Rre b gs i id∧(S1.hs.get i).isSome∧ρ1 i=some l:=fun id hi l hl=>by
      obtain ⟨o,ho⟩:=bc.1 hi;obtain ⟨i,o1,r,ho1,_⟩:=hheld id o ho;obtain ⟨l1,_,p,_,_⟩:=b3.obj i o1 ho1;have:=hR0 i id l1 r p;rw [hl] at this;cases this;exact ⟨i,r,by rw [ho1];rfl,p⟩
     have hsim:cP ρ2 S2.hs w1:=by
      refine ⟨fun j o ho=>?_,fun j j' lj lj' hj hj' hlj hlj' hrw hne=>?_,fun j hj=>?_⟩
      ·obtain ⟨i,o1,r,ho1,hoi⟩:=hheld j o ho;obtain ⟨l,co,p,q,s⟩:=b3.obj i o1 ho1;exact ⟨l,co,hR0 i j l r p,q,hoi.tr hR (.refl l) (fun _=>rfl) s⟩
      ·obtain ⟨i,r,hi,hli⟩:=hinv j hj lj hlj;obtain ⟨i',r',hi',hli'⟩:=hinv j' hj' lj' hlj';refine b3.sep i i' lj lj' hi hi' hli hli' hrw fun e=>hne ?_;subst e
       rcases r with ⟨p,q⟩|⟨p,q,s⟩
       ·rcases r' with ⟨p',q'⟩|⟨p',q',s'⟩
        ·rw [q,q']
        ·have:=hd.high i (List.mem_of_getElem? s');omega
       ·have:=hd.high i (List.mem_of_getElem? s)
        rcases r' with ⟨p',q'⟩|⟨p',q',s'⟩
        ·omega
        ·obtain ⟨u1,u2⟩:=ao.1 s;obtain ⟨u3,u4⟩:=ao.1 s';have:=nA hd.nodup u1 u3 (by rw [u2,u4]);omega
      ·have hj':S2.next <= j:=hj;have:=hd.next;rw [hhi j om,List.getElem?_eq_none om];rfl
     have hrho:∀ j,j < b->ρ2 j=ρ j:=fun j hj=>by rw [hlow j hj];exact b4.rho j (Nat.lt_of_lt_of_le hj hb)
     have hext:aAb b ρ S.hs w ρ2 S2.hs w1 :=
      { rho:=hrho
        next:=by show b <= S2.next;rw [hd.next];omega
        size:=b4.size,keep:=b4.keep
        own:=fun y ⟨j,l,p,q,s,t⟩=>by
         obtain ⟨i,_,hi,hli⟩:=hinv j p l q;exact b4.own y ⟨i,l,hi,hli,s,t⟩
        has:=fun y ⟨j,l,p,q,t⟩=>by
         obtain ⟨i,_,hi,hli⟩:=hinv j p l q;exact b4.has y ⟨i,l,hi,hli,t⟩
        tape:=b4.tape,os:=b4.os,output:=b4.output,drawn:=b4.drawn }
     have hER:ER ρ2 (reE b gs E1) a1.tmps:=fun t v hv=>by
      obtain ⟨u,hu,hi⟩:=aKo hv;obtain ⟨v',p,q⟩:=b1 t u hu;exact ⟨v',p,hi.tr hR q⟩
     have hDR:DR ρ2 [] a1.defers:=by
      cases hdf:a1.defers with
      | nil=>trivial
      | cons y ys=>rw [hdf] at b2;exact b2.elim
     have hglob:dZ ρ2:=fun i hi=>by
      obtain ⟨l,p,q,r⟩:=hg i hi;exact ⟨l,by rw [hrho i om];exact p,q,r⟩
     exact h4 ρ2 a1 w1 Q hER hDR hglob hsim fun a2 w2 ⟨ρ3,c1,c2,c3,c4⟩=>hQ a2 w2 ⟨ρ3,c1,c2,c3,hext.trans c4⟩
 | exit id=>exact .mk (.exit id) E1 D1 S1 (fun ρ a w Q hE hD hg hs hQ=>.of (h2 ρ none a w _ rfl hE hD hg hs fun a1 w1 ⟨ρ1,b1,b2,b3,b4⟩=>hQ a1 w1 ⟨ρ1,b1,b2,b3,b4.b hb⟩)) h1
 | goto l=>exact .mk (.goto l) E1 D1 S1 (fun ρ a w Q hE hD hg hs hQ=>.of (h2 ρ none a w _ rfl hE hD hg hs fun a1 w1 ⟨ρ1,b1,b2,b3,b4⟩=>hQ a1 w1 ⟨ρ1,b1,b2,b3,b4.b hb⟩)) h1
 | ret=>exact .mk .ret E1 D1 S1 (fun ρ a w Q hE hD hg hs hQ=>.of (h2 ρ none a w _ rfl hE hD hg hs fun a1 w1 ⟨ρ1,b1,b2,b3,b4⟩=>hQ a1 w1 ⟨ρ1,b1,b2,b3,b4.b hb⟩)) h1
theorem LPB.induct {b:Nat}{c:Code}{k:KT}{E:Env}{S:St}(n:Nat)(Inv:Nat->Env->St->Prop)(h0:Inv 0 E S)
  (step:∀ j E S,Inv j E S->(∀ E' S',j < n->Inv (j+1) E' S'->LPB b P c E' S' k)->LPB b P c E S k):LPB b P c E S k:=by
 have key:∀ m j E S,n <= j+m->Inv j E S->LPB b P c E S k:=by
  intro m
  induction m with
  | zero=>exact fun j E S hj hi=>step j E S hi fun E' S' hlt _=>by omega
  | succ m ih=>exact fun j E S hj hi=>step j E S hi fun E' S' _ hi'=>ih (j+1) E' S' om hi'
 exact key n 0 E S om h0
end
def kH (s:List UInt8):List UInt8:=101 :: 120 :: 112 :: 111 :: 114 :: 116 :: 101 :: 100 :: 95 :: s
def eL (tg sm:List aY)(x:eY × Nat)(q:aY):eY × Nat :=
 if getL q.1 tg=[] then cK x q else if getL (kH q.1) tg ++ getL (kH q.1) sm=[] then cK x (kH q.1,q.2) else x
theorem vV {tg sm:List aY}{x:eY × Nat}{q:aY}(h:fE x):fE (eL tg sm x q):=by
 unfold eL
 split
 ·exact h.put _
 ·split
  ·exact h.put _
  ·exact h
theorem rQ {tg sm:List aY}:∀ (l:List aY) {x:eY × Nat},fE x->fE (l.foldl (eL tg sm) x)
 | [],_,h=>h
 | _ :: l,_,h=>rQ l (vV h)
section
variable {P:Program} {rc:cG} {rd:bQ} {lp:lZ} {dr:mP} {ro:Option Nat} {E E1:Env} {D:List Df} {S S1:St} {k:KT} {ops:List Oper} {l:List Oper} {o:Oper} {K:Env->St->Prop} {v:V}
theorem aKr {id:Nat}{ops:Array Oper}(h:∀ K:Env->St->Prop,K=(fun E S=>k .normal E D S)->evOps P rc rd ops.toList ops.toList E S K)(hd:nS ops.toList=false:=by rfl):evCode P rc rd lp dr ro (.region id ops false) E D S k:=aBX h hd
theorem aOR (h:K E S):evOps P rc rd ops [] E S K:=h
theorem aKl (hg:∀ Y N:Prop,Y->dL E ops o.guard Y N)(ho:∀ Q:V->St->Prop,Q v S1->aCE P rc rd o.op E S Q)(hp:∀ Q:Env->Prop,Q E1->cW E o.dst v Q)(h:evOps P rc rd ops l E1 S1 K):evOps P rc rd ops (o :: l) E S K :=
 hg _ _ (ho _ (hp _ h))
theorem aKk (hg:∀ Y N:Prop,N->dL E ops o.guard Y N)(hp:∀ Q:Env->Prop,Q E1->cW E o.dst undefV Q)(h:evOps P rc rd ops l E1 S K):evOps P rc rd ops (o :: l) E S K:=hg _ _ (hp _ h)
theorem aRh (hg:∀ Y N:Prop,Y->dL E ops o.guard Y N)(h:∀ Q:V->St->Prop,(∀ v S',Q v S'=cW E o.dst v fun E1=>evOps P rc rd ops l E1 S' K)->aCE P rc rd o.op E S Q):evOps P rc rd ops (o :: l) E S K:=hg _ _ (h _ fun _ _=>rfl)
end
theorem tO {a:IntKind}{n:Int}{k:Int->Prop}(h:k (a.wrap n)):eQ a n k:=by
 by_cases hw:eQ a n (fun m=>m=a.wrap n)
 ·-- the same run
  cases n with
  | ofNat m =>
    show Bool.rec (motive:=fun _=>Prop) (fI (a.wrap (Int.ofNat m)) k) (fN m fun m=>k (Int.ofNat m)) (Nat.ble m (rF a));have hw':Bool.rec (motive:=fun _=>Prop) (fI (a.wrap (Int.ofNat m)) fun x=>x=a.wrap (Int.ofNat m)) (fN m fun y=>Int.ofNat y=a.wrap (Int.ofNat m)) (Nat.ble m (rF a)):=hw
    cases hb:Nat.ble m (rF a) with
    | false=>exact bR h
    | true =>
      rw [hb] at hw'
      have e:Int.ofNat m=a.wrap (Int.ofNat m):=by cases m <;> exact hw'
      exact aP (k:=fun m=>k (Int.ofNat m)) (by rw [e];exact h)
  | negSucc m =>
    show Option.rec (motive:=fun _=>Prop) (fI (a.wrap (Int.negSucc m)) k) (fun t=>Bool.rec (motive:=fun _=>Prop) (fI (a.wrap (Int.negSucc m)) k) (fN m fun m=>k (Int.negSucc m)) (Nat.ble m t)) (aCI a);have hw':Option.rec (motive:=fun _=>Prop) (fI (a.wrap (Int.negSucc m)) fun x=>x=a.wrap (Int.negSucc m)) (fun t=>Bool.rec (motive:=fun _=>Prop) (fI (a.wrap (Int.negSucc m)) fun x=>x=a.wrap (Int.negSucc m)) (fN m fun y=>Int.negSucc y=a.wrap (Int.negSucc m)) (Nat.ble m t)) (aCI a):=hw
    cases hl:aCI a with
    | none=>exact bR h
    | some t =>
      rw [hl] at hw';show Bool.rec (motive:=fun _=>Prop) _ _ (Nat.ble m t);have hw2:Bool.rec (motive:=fun _=>Prop) (fI (a.wrap (Int.negSucc m)) fun x=>x=a.wrap (Int.negSucc m)) (fN m fun y=>Int.negSucc y=a.wrap (Int.negSucc m)) (Nat.ble m t):=hw'
      cases hb:Nat.ble m t with
      | false=>exact bR h
      | true =>
        rw [hb] at hw2
        have e:Int.negSucc m=a.wrap (Int.negSucc m):=by cases m <;> exact hw2
        exact aP (k:=fun m=>k (Int.negSucc m)) (by rw [e];exact h)
 ·exfalso;apply hw
  cases n with
  | ofNat m =>
    show Bool.rec (motive:=fun _=>Prop) (fI (a.wrap (Int.ofNat m)) fun x=>x=a.wrap (Int.ofNat m)) (fN m fun y=>Int.ofNat y=a.wrap (Int.ofNat m)) (Nat.ble m (rF a))
    cases hb:Nat.ble m (rF a) with
    | false=>exact bR rfl
    | true =>
      refine aP (k:=fun y=>Int.ofNat y=a.wrap (Int.ofNat m)) ?_;have hm:=ae hb
      exact (qU a (Int.ofNat m) (by cases a <;> simp [IntKind.min,IntKind.signed,IntKind.bits] <;> omega) (by
       cases a <;> simp [IntKind.max,IntKind.signed,IntKind.bits,rF] at * <;> omega)).symm
  | negSucc m =>
    show Option.rec (motive:=fun _=>Prop) (fI (a.wrap (Int.negSucc m)) fun x=>x=a.wrap (Int.negSucc m)) (fun t=>Bool.rec (motive:=fun _=>Prop) (fI (a.wrap (Int.negSucc m)) fun x=>x=a.wrap (Int.negSucc m)) (fN m fun y=>Int.negSucc y=a.wrap (Int.negSucc m)) (Nat.ble m t)) (aCI a)
    cases hl:aCI a with
    | none=>exact bR rfl
    | some t =>
      show Bool.rec (motive:=fun _=>Prop) _ _ (Nat.ble m t)
      cases hb:Nat.ble m t with
      | false=>exact bR rfl
      | true =>
        refine aP (k:=fun y=>Int.negSucc y=a.wrap (Int.negSucc m)) ?_;have hm:=ae hb
        exact (qU a (Int.negSucc m) (by
         cases a <;> simp [aCI] at hl <;> subst hl <;> simp [IntKind.min,IntKind.signed,IntKind.bits] <;> omega) (by
         cases a <;> simp [IntKind.max,IntKind.signed,IntKind.bits] <;> omega)).symm
section
variable {P:Program} {S:St} {rds:List Rd}
theorem oC {r:Rd}{prev:Nat}{nxt:Option Nat}{S:St}{Q:Prop}(h0:aU prev r.idx=true ∨ (∃ n,nxt=some n∧aU r.anc n=true) ∨ ∀ Q:V->Prop,Q r.val->gZ prev r.sel S fun S=>gJ P r.op r.env S Q)(he:vA 8 r.val r.val=true)(hQ:Q):uR P r prev nxt S Q:=by
 unfold uR
 cases hb:aU prev r.idx with
 | true=>exact hQ
 | false =>
   rcases h0 with h1|⟨n,rfl,h1⟩|h1
   ·exact absurd (hb.symm.trans h1) sm
   ·show Bool.rec (motive:=fun _=>Prop) _ _ (aU r.anc n);rw [h1];exact hQ
   ·cases nxt with
    | none=>exact h1 (fun v=>dD (vA 8 r.val v) Q) (ifK_intro he hQ)
    | some n =>
      show Bool.rec (motive:=fun _=>Prop) _ _ (aU r.anc n)
      cases aU r.anc n with
      | true=>exact hQ
      | false=>exact h1 (fun v=>dD (vA 8 r.val v) Q) (ifK_intro he hQ)
theorem cS {r:Rd}{c:Ch}{Q:Prop}(hS:aU c.anc r.idx=true ∨ ∀ Q:V->Prop,Q r.val->gZ c.anc r.sel S fun S=>gJ P r.op r.env S Q)(h0:aU r.anc c.idx=true ∨ ∀ Q:V->Prop,Q r.val->gZ 0 r.sel c.st fun S=>gJ P r.op r.env S Q)
  (he:vA 8 r.val r.val=true) (h:fU P [c] S rds Q):fU P [c] S (r :: rds) Q :=
 show uR P r c.anc none S (uR P r 0 (some c.idx) c.st _) from oC (hS.elim .inl fun h=>.inr (.inr h)) he (oC (h0.elim (fun h=>.inr (.inl ⟨_,rfl,h⟩)) fun h=>.inr (.inr h)) he h)
theorem eK {r:Rd}{c2 c1:Ch}{Q:Prop}(hS:aU c2.anc r.idx=true ∨ ∀ Q:V->Prop,Q r.val->gZ c2.anc r.sel S fun S=>gJ P r.op r.env S Q)
  (h1:aU c1.anc r.idx=true ∨ aU r.anc c2.idx=true ∨ ∀ Q:V->Prop,Q r.val->gZ c1.anc r.sel c2.st fun S=>gJ P r.op r.env S Q)
  (h0:aU r.anc c1.idx=true ∨ ∀ Q:V->Prop,Q r.val->gZ 0 r.sel c1.st fun S=>gJ P r.op r.env S Q)
  (he:vA 8 r.val r.val=true) (h:fU P [c2,c1] S rds Q):fU P [c2,c1] S (r :: rds) Q :=
 show uR P r c2.anc none S (uR P r c1.anc (some c2.idx) c2.st (uR P r 0 (some c1.idx) c1.st _)) from
  oC (hS.elim .inl fun h=>.inr (.inr h)) he (oC (h1.elim .inl fun h=>h.elim (fun h=>.inr (.inl ⟨_,rfl,h⟩)) fun h=>.inr (.inr h)) he (oC (h0.elim (fun h=>.inr (.inl ⟨_,rfl,h⟩)) fun h=>.inr (.inr h)) he h))
theorem LP.step' (hm:P.follows .mixedOrders=true){ro:Option Nat}{b:Code}{E:Env}{D:List Df}{k:KT}
  (h:∀ K:KT,K=(fun x E D S=>X.casesOn x (LP P ro b E D S k) (fun id=>k (.exit id) E D S) (k .ret E D S) (fun l=>k (.goto l) E D S))->evCode P (RC P) (RD P) (LQ P) (cZ P (RC P) (RD P)) ro b E D S K):LP P ro b E D S k:=LP.step hm (h _ rfl)
theorem oU {i id prev:Nat}{S:St}{k:Prop}(h:aU prev i=true ∨ T.get fA id S.hp=none)(hk:k):zR i id prev S k:=by
 unfold zR
 cases hb:aU prev i with
 | true=>exact hk
 | false =>
   rcases h with h|h
   ·exact absurd (hb.symm.trans h) sm
   ·show Option.rec (motive:=fun _=>Prop) k (fun _=>False) (T.get fA id S.hp);rw [h];exact hk
theorem aCU {q:Nat × Nat}{l:List (Nat × Nat)}{k:Prop}(h0:T.get fA q.2 S.hp=none)(h:kK [] S l k):kK [] S (q :: l) k:=oU (.inr h0) h
theorem kZ {q:Nat × Nat}{l:List (Nat × Nat)}{c2 c1:Ch}{k:Prop}(h2:aU c2.anc q.1=true ∨ T.get fA q.2 S.hp=none)(h1:aU c1.anc q.1=true ∨ T.get fA q.2 c2.st.hp=none)(h0:T.get fA q.2 c1.st.hp=none)(h:kK [c2,c1] S l k):kK [c2,c1] S (q :: l) k :=
 oU h2 (oU h1 (oU (.inr h0) h))
theorem iQ {chs:List Ch}{k:Prop}(h:k):kK chs S [] k:=h
theorem eG (a b c d e:Nat)(x:Bool):vA 8 (.slice a b c d e x) (.slice a b c d e x)=true:=by
 show (Nat.beq a a && Nat.beq b b && Nat.beq c c && Nat.beq d d && Nat.beq e e && (x == x))=true;simp [Nat.beq_refl]
theorem vQ (x:Bool):vA 8 (.bool x) (.bool x)=true:=by
 show (x == x)=true;simp
theorem aNN (x:Int):xU x x=true:=by
 cases x <;> exact Nat.beq_refl _
theorem gN (j:IntKind)(x:Int):vA 8 (.int j x) (.int j x)=true:=by
 show (kEq j j && xU x x)=true;rw [aNN];cases j <;> rfl
theorem sQ (a b:Nat):vA 8 (.ptr a b) (.ptr a b)=true:=by
 show (Nat.beq a a && Nat.beq b b)=true;simp [Nat.beq_refl]
end
section
variable {P:Program}
def roG (gb:List (Nat × O))(q:Nat)(i:Nat):Bool:=roF q i || gb.any fun p=>Nat.beq p.1 i
def mS (gb:List (Nat × O))(q:Nat)(ids gs:List Nat)(n m m':Nat):Nat->Nat->Prop:=RF (roG gb q) (idF ids) (fun j=>gs.getD (j - m) 0) n m m'
def aUA (gb:List (Nat × O))(q:Nat)(ids:List Nat)(n m:Nat)(ks2 news:List O)(v2:V)(v:V)(S':St):Prop :=
 ∃ gs:List Nat,gs.Nodup∧(∀ g ∈ gs,n <= g)∧VI (mS gb q ids gs n m (m+news.length)) v v2∧aCu (mS gb q ids gs n m (m+news.length)) S' (aI+q) ks2∧tP (mS gb q ids gs n m (m+news.length)) S' gs news
theorem mS.at {gb:List (Nat × O)}{q:Nat}{ids gs:List Nat}{n m m' a i:Nat}(h:ids[a]?=some i)(hn:aI+a < n)(hq:roG gb q (aI+a)=false):mS gb q ids gs n m m' (aI+a) i:=.inl ⟨hn,(iG h).symm,hq⟩
theorem mS.new {gb:List (Nat × O)}{q:Nat}{ids gs:List Nat}{n m m' a g:Nat}(h:gs[a]?=some g)(hg:n <= g)(ha:m+a < m'):mS gb q ids gs n m m' g (m+a) :=
 .inr ⟨hg,om,ha,by show g=gs.getD (m+a - m) 0;rw [show m+a - m=a by omega,List.getD_eq_getElem?_getD,h];rfl⟩
theorem jE:∀ (a b:List (Nat × O)) (H:Hs),dU (a ++ b) H=dU b (dU a H)
 | [],_,_=>rfl
 | q :: a,b,H=>jE a b (H.put q.1 (some q.2))
theorem uQ:∀ {l:List (Nat × O)} {H:Hs} {i:Nat} {o:O},(dU l H).get i=some o->(i,o) ∈ l ∨ H.get i=some o
 | [],H,i,o,h=>.inr h
 | q :: l,H,i,o,h=>by
   rcases uQ (l:=l) (show (dU l (H.put q.1 (some q.2))).get i=some o from h) with h1|h1
   ·exact .inl (be _ h1)
   ·have h2:(if i=q.1 then some q.2 else H.get i)=some o:=h1;by_cases e:i=q.1
    ·rw [if_pos e] at h2;have:o=q.2:=(Option.some.inj h2).symm;subst this;subst e;exact .inl sm
    ·rw [if_neg e] at h2;exact .inr h2
theorem fP.smallG (gb:List (Nat × O)){c:FuncId}{l l2:List V}(q:Nat){ids:List Nat}{ks os ks2 news:List O}{S0 S':St}{K:Hs}{v v2:V}(h:fP P c l S0.hs v S'.hs)(h0:S0.hs=dU (gb ++ kJ aI os) (St.hs ⟨.nil,aI+os.length⟩))(hgb:∀ p ∈ gb,p.1 < aI∧p.2.wr=false∧∃ o',K.get p.1=some o'∧OI (iC ids (aI+os.length)) o' p.2)
  (hfar:∀ a i:Nat,q <= a->ids[a]?=some i->aI <= i) (hids:∀ a b i:Nat,q <= a->ids[a]?=some i->ids[b]?=some i->a=b) (hro:∀ (a:Nat) (o:O),a < q->os[a]?=some o->o.wr=false) (hlen:ids.length=os.length) (hlen1:ks.length=os.length) (hlen2:ks2.length+q=os.length)
  (hat:∀ (a i:Nat) (o:O),ids[a]?=some i->ks[a]?=some o->K.get i=some o)
  (hin:∀ (a:Nat) (o' o:O),ks[a]?=some o'->os[a]?=some o->OI (iC ids (aI+os.length)) o' o) (hl:mJ (iC ids (aI+os.length)) l2 l)
  (hw:∀ (a:Nat) (o:O),ks2[a]?=some o->o.wr=true) (hwn:∀ (a:Nat) (o:O),news[a]?=some o->o.wr=true) (hp:aUA gb q ids (aI+os.length) K.next ks2 news v2 v S') :
  fP P c l2 K v2 (eC news (pG ((ids.drop q).zip ks2) K)):=by
 obtain ⟨gs,hnd,hge,hv,hheld,hnews⟩:=hp
 have hn0:S0.hs.next=aI+os.length:=by rw [h0,iJ];rfl
 have hroF:∀ i,i < aI->roF q i=false:=fun i hi=>aGP hi
 have hroA:∀ a,roG gb q (aI+a)=roF q (aI+a):=fun a=>by
  unfold roG
  have:(gb.any fun p=>Nat.beq p.1 (aI+a))=false:=by
   rw [List.any_eq_false];intro p hp he;have:=aj he;have:=(hgb p hp).1;omega
  rw [this,Bool.or_false]
 have hgl:=hnews.length
 have hn':(eC news (pG ((ids.drop q).zip ks2) K)).next=K.next+news.length:=by rw [iS,jF]
 have hg0:∀ i,S0.hs.get i=if aI <= i∧i < aI+os.length then os[i - aI]? else (dU gb (St.hs ⟨.nil,aI+os.length⟩)).get i:=fun i=>by rw [h0,jE,pR]
 have hgm:∀ i o,(dU gb (St.hs ⟨.nil,aI+os.length⟩)).get i=some o->(i,o) ∈ gb:=fun i o h=>by
  rcases uQ h with h|h
  ·exact h
  ·rw [aER] at h;cases h
 have hroM:∀ i o,(i,o) ∈ gb->roG gb q i=true:=fun i o h=>by
  unfold roG;rw [Bool.or_eq_true];exact .inr (List.any_eq_true.2 ⟨_,h,sm⟩)
 have hg1:∀ i,(S0.hs.get i).isSome->(∃ a,i=aI+a∧a < os.length) ∨ ∃ o,(i,o) ∈ gb:=fun i hi=>by
  rw [hg0] at hi;by_cases hc:aI <= i∧i < aI+os.length
  ·exact .inl ⟨i - aI,om,om⟩
  ·rw [if_neg hc] at hi;obtain ⟨o,ho⟩:=bc.1 hi;exact .inr ⟨o,hgm i o ho⟩
 have eP:∀ a (ha:a < os.length),ids[a]?=some (ids[a]'(by omega)):=fun a ha=>ak _
 have hwr:∀ {R:Nat->Nat->Prop} {o1 o:O},OI R o1 o->o.wr=true->o1.wr=true:=fun h hw=>by
  cases h with
  | cells hc hf =>
    rename_i cs cs' e fl fl'
    cases fl' with
    | ro=>cases hw
    | ex=>cases fl <;> first|rfl|(exfalso;simp at hf)
    | rw=>cases fl <;> first|rfl|(exfalso;simp at hf)
  | part _=>cases hw
  | map _=>rfl
  | strIter _ _=>rfl
  | mapIter0=>rfl
  | mapIter _=>rfl
  | deferred=>rfl
 refine h.frame (roG gb q) (idF ids) (fun j=>gs.getD (j - K.next) 0) (by rw [hn0];omega) (fun i hi=>if_pos hi) (fun i i' hi hi' hr e=>?_) (fun i o ho=>?_) (by rw [hn0];exact hl) (by rw [hn0,hn'];exact hv) (by rw [hn'];omega)
  (fun j j' h1 h2 h3 h4 e=>?_) (fun j o ho=>?_)
 ·rcases hg1 i hi with ⟨a,rfl,ha⟩|⟨o,ho⟩
  case inr=>rw [hroM i o ho] at hr;cases hr
  rw [hroA] at hr
  rcases hg1 i' hi' with ⟨a',rfl,ha'⟩|⟨o,ho⟩
  case inr =>
   have hlt:=(hgb _ ho).1;have e2:idF ids i'=i':=if_pos hlt;rw [iG (eP a ha),e2] at e
   have hq:q <= a:=by
    rcases Nat.lt_or_ge a q with h'|h'
    ·rw [oW h'] at hr;cases hr
    ·exact h'
   have:=hfar a _ hq (eP a ha);have hlt':i' < aI:=hlt;omega
  rw [iG (eP a ha),iG (eP a' ha')] at e
  have hq:q <= a:=by
   rcases Nat.lt_or_ge a q with h'|h'
   ·rw [oW h'] at hr;cases hr
   ·exact h'
  have:=hids a a' _ hq (eP a ha) (by rw [eP a' ha',e]);rw [this]
 ·rcases hg1 i (by rw [ho];rfl) with ⟨a,rfl,ha⟩|⟨o1,ho1⟩
  case inr =>
   have hlt:=(hgb _ ho1).1;rw [hg0,if_neg om] at ho;have hm:=hgm i o ho;obtain ⟨_,hw0,o',hk0,hk1⟩:=hgb _ hm;refine ⟨by rw [hn0];omega,fun _=>hw0,o',?_,by rw [hn0];exact hk1⟩;have e2:idF ids i=i:=if_pos hlt;rw [e2];exact hk0
  rw [hg0,if_pos ⟨om,om⟩,show aI+a - aI=a by omega] at ho;rw [hroA];have hk:ks[a]?=some (ks[a]'(by omega)):=ak _;refine ⟨by rw [hn0];omega,fun hr=>hro a o ?_ ho,ks[a]'(by omega),?_,?_⟩
  ·rcases Nat.lt_or_ge a q with h'|h'
   ·exact h'
   ·rw [uT h'] at hr;cases hr
  ·rw [iG (eP a ha)];exact hat a _ _ (eP a ha) hk
  ·rw [hn0];exact hin a _ _ hk ho
 ·have e':gs.getD (j - K.next) 0=gs.getD (j' - K.next) 0:=e;rw [hn'] at h2 h4;have l1:j - K.next < gs.length:=om;have l2:j' - K.next < gs.length:=om;simp only [List.getD,ak l1,ak l2,Option.getD_some] at e';have:=nA hnd l1 l2 e';omega
 ·rw [hn0,hn']
  rcases wL ho with ⟨a,h1,h2⟩|h1
  ·rw [jF] at h2;obtain ⟨g,o1,p,q',r⟩:=hnews.get h1;subst h2;refine .inl ⟨g,o1,mS.new (gb:=gb) (q:=q) (ids:=ids) (gs:=gs) p (hge g (List.mem_of_getElem? p)) ?_,q',r,hwr r (hwn a o h1)⟩;have:=(ao.1 h1).1;omega
  ·rcases aFe h1 with ⟨a,h2⟩|⟨h2,h3⟩
   ·rw [List.getElem?_zip_eq_some] at h2;obtain ⟨o1,p,q'⟩:=hheld.get h2.2
    have hd:ids[q+a]?=some j:=by rw [<- List.getElem?_drop];exact h2.1
    have ha:q+a < os.length:=by have:=(ao.1 hd).1;omega
    exact .inl ⟨aI+q+a,o1,by rw [Nat.add_assoc];exact mS.at (gb:=gb) (q:=q) (ids:=ids) (gs:=gs) hd om (by rw [hroA];exact uT om),p,q',hwr q' (hw a o h2.2)⟩
   ·refine .inr ⟨h2,fun i hi hj hr=>?_⟩
    cases hgi:S0.hs.get i with
    | none=>rfl
    | some o1 =>
      exfalso
      rcases hg1 i (by rw [hgi];rfl) with ⟨a,rfl,ha⟩|⟨o2,ho2⟩
      case inr=>rw [hroM i o2 ho2] at hr;cases hr
      rw [hroA] at hr;rw [iG (eP a ha)] at hj
      have hq:q <= a:=by
       rcases Nat.lt_or_ge a q with h'|h'
       ·rw [oW h'] at hr;cases hr
       ·exact h'
      have hz:((ids.drop q).zip ks2)[a - q]?=some (j,ks2[a - q]'(by omega)):=by
       rw [List.getElem?_zip_eq_some];refine ⟨?_,ak _⟩;rw [List.getElem?_drop,show q+(a - q)=a by omega,eP a ha,hj]
      exact h3 _ (List.mem_of_getElem? hz) rfl
end
section
universe u
variable {P:Program} {ro:Option Nat} {E:Env} {D:List Df} {S:St} {k:KT}
theorem aJX {α:Sort u}(a:α):∃ b,b=a:=⟨a,rfl⟩
noncomputable def rD {α:Sort u}(a:α):α:=Classical.choose (aJX a)
theorem bL {α:Sort u}(a:α):rD a=a:=Classical.choose_spec (aJX a)
abbrev zJ (P:Program)(ro:Option Nat):Code->Env->List Df->St->KT->Prop:=evCode P (RC P) (RD P) (LQ P) (cZ P (RC P) (RD P)) ro
abbrev evL (P:Program)(ops:List Oper):List Oper->Env->St->(Env->St->Prop)->Prop:=evOps P (RC P) (RD P) ops
noncomputable def aAj (P:Program)(ro:Option Nat)(b:Code)(k:KT):KT:=rD fun x E D S=>X.casesOn x (zJ P ro b E D S k) (fun id=>k (.exit id) E D S) (k .ret E D S) (fun l=>k (.goto l) E D S)
noncomputable def wF (id:Nat)(k:KT):KT:=rD fun x E D S=>X.casesOn x (k .normal E D S) (fun id'=>Bool.rec (motive:=fun _=>Prop) (k (.exit id') E D S) (k .normal E D S) (Nat.beq id' id)) (k .ret E D S) (fun l=>k (.goto l) E D S)
noncomputable def wH (P:Program)(ro:Option Nat)(c:Code)(k:KT):KT:=rD fun x E D S=>X.casesOn x (k .normal E D S) (fun id=>k (.exit id) E D S) (k .ret E D S) (fun l=>Option.casesOn (findLabel c l) (k (.goto l) E D S) fun rest=>LQ P (some c) ro rest E D S k)
noncomputable def wG (P:Program)(ro:Option Nat)(b:Code)(k:KT):KT:=rD fun x E D S=>X.casesOn x (LP P ro b E D S k) (fun id=>k (.exit id) E D S) (k .ret E D S) (fun l=>k (.goto l) E D S)
noncomputable def kGc (P:Program)(S:St)(b:Code)(k:KT):KT:=rD fun x E1 D1 S1=>X.casesOn x (∃ S2,aPP S S1 S2∧D1=[]∧LP P none b (qD S2.next E1) [] S2 k) (fun id=>k (.exit id) E1 D1 S1) (k .ret E1 D1 S1) (fun l=>k (.goto l) E1 D1 S1)
noncomputable def aLE (D:List Df)(k:KT):Env->St->Prop:=rD fun E S=>k .normal E D S
noncomputable def kOp (P:Program)(ops l:List Oper)(o:Oper)(E:Env)(K:Env->St->Prop):V->St->Prop:=rD fun v S=>cW E o.dst v fun E=>evL P ops l E S K
noncomputable def aSu (P:Program)(rs:List ResultVar)(k:V->St->Prop):KT:=fun x E D S=>X.casesOn x (aAk P (RC P) (RD P) (LQ P) (cZ P (RC P) (RD P)) D S fun S=>yO P E S rs fun l=>match l with|[v]=>k v S|l=>k (.tup l) S) (fun _=>False) (aAk P (RC P) (RD P) (LQ P) (cZ P (RC P) (RD P)) D S fun S=>yO P E S rs fun l=>match l with|[v]=>k v S|l=>k (.tup l) S) (fun _=>False)
noncomputable def aLD (P:Program)(rs:List ResultVar)(k:V->St->Prop):KT:=rD (aSu P rs k)
theorem aSq {a b:Code}(h:zJ P ro a E D S (aAj P ro b k)):zJ P ro (a.seq b) E D S k:=by unfold aAj at h;rw [bL] at h;exact h
theorem aSD {b:Code}(h:zJ P ro b E D S k):aAj P ro b k .normal E D S:=by unfold aAj;rw [bL];exact h
theorem aSO {b:Code}{id:Nat}(h:k (.exit id) E D S):aAj P ro b k (.exit id) E D S:=by unfold aAj;rw [bL];exact h
theorem aSH {b:Code}(h:k .ret E D S):aAj P ro b k .ret E D S:=by unfold aAj;rw [bL];exact h
theorem aSt {b:Code}{l:Nat}(h:k (.goto l) E D S):aAj P ro b k (.goto l) E D S:=by unfold aAj;rw [bL];exact h
theorem aSl {id:Nat}{c:Code}(h:zJ P ro c E D S (wF id k)):zJ P ro (.block id c) E D S k:=by unfold wF at h;rw [bL] at h;exact h
theorem aSy {id:Nat}(h:k .normal E D S):wF id k .normal E D S:=by unfold wF;rw [bL];exact h
theorem aPK {id:Nat}(h:k .normal E D S):wF id k (.exit id) E D S:=by
 unfold wF;rw [bL];show Bool.rec (motive:=fun _=>Prop) _ _ (Nat.beq id id);rw [Nat.beq_refl];exact h
theorem aPJ {id id':Nat}(hn:Nat.beq id' id=false)(h:k (.exit id') E D S):wF id k (.exit id') E D S:=by
 unfold wF;rw [bL];show Bool.rec (motive:=fun _=>Prop) _ _ (Nat.beq id' id);rw [hn];exact h
theorem aSE {id:Nat}(h:k .ret E D S):wF id k .ret E D S:=by unfold wF;rw [bL];exact h
theorem aSr {id l:Nat}(h:k (.goto l) E D S):wF id k (.goto l) E D S:=by unfold wF;rw [bL];exact h
theorem aSp {c:Code}(h:zJ P ro c E D S (wH P ro c k)):zJ P ro (.scope c) E D S k:=by unfold wH at h;rw [bL] at h;exact h
theorem aSC {c:Code}(h:k .normal E D S):wH P ro c k .normal E D S:=by unfold wH;rw [bL];exact h
theorem aSN {c:Code}{id:Nat}(h:k (.exit id) E D S):wH P ro c k (.exit id) E D S:=by unfold wH;rw [bL];exact h
theorem aSG {c:Code}(h:k .ret E D S):wH P ro c k .ret E D S:=by unfold wH;rw [bL];exact h
theorem aOq {c rest:Code}{l:Nat}(hl:findLabel c l=some rest)(h:LQ P (some c) ro rest E D S k):wH P ro c k (.goto l) E D S:=by
 unfold wH;rw [bL];show Option.rec (motive:=fun _=>Prop) _ _ (findLabel c l);rw [hl];exact h
theorem aOp {c:Code}{l:Nat}(hl:findLabel c l=none)(h:k (.goto l) E D S):wH P ro c k (.goto l) E D S:=by
 unfold wH;rw [bL];show Option.rec (motive:=fun _=>Prop) _ _ (findLabel c l);rw [hl];exact h
theorem aSB {b:Code}(h:LP P ro b E D S k):wG P ro b k .normal E D S:=by unfold wG;rw [bL];exact h
theorem aSM {b:Code}{id:Nat}(h:k (.exit id) E D S):wG P ro b k (.exit id) E D S:=by unfold wG;rw [bL];exact h
theorem aSF {b:Code}(h:k .ret E D S):wG P ro b k .ret E D S:=by unfold wG;rw [bL];exact h
theorem aSs {b:Code}{l:Nat}(h:k (.goto l) E D S):wG P ro b k (.goto l) E D S:=by unfold wG;rw [bL];exact h
theorem aWa {S1:St}{b:Code}(h:∃ S2,aPP S S1 S2∧D=[]∧LP P none b (qD S2.next E) [] S2 k):kGc P S b k .normal E D S1:=by unfold kGc;rw [bL];exact h
theorem aWu {S1:St}{b:Code}{id:Nat}(h:k (.exit id) E D S1):kGc P S b k (.exit id) E D S1:=by unfold kGc;rw [bL];exact h
theorem aWf {S1:St}{b:Code}(h:k .ret E D S1):kGc P S b k .ret E D S1:=by unfold kGc;rw [bL];exact h
theorem aVU {S1:St}{b:Code}{l:Nat}(h:k (.goto l) E D S1):kGc P S b k (.goto l) E D S1:=by unfold kGc;rw [bL];exact h
theorem aSn {id:Nat}{ops:Array Oper}(h:evL P ops.toList ops.toList E S (aLE D k))(hd:nS ops.toList=false:=by rfl):zJ P ro (.region id ops false) E D S k :=
 aBX (fun _ hK=>by subst hK;unfold aLE at h;rw [bL] at h;exact h) hd
theorem aSA (h:k .normal E D S):aLE D k E S:=by unfold aLE;rw [bL];exact h
theorem aSm {ops:List Oper}{K:Env->St->Prop}(h:K E S):evL P ops [] E S K:=h
theorem aQH {ops l:List Oper}{o:Oper}{K:Env->St->Prop}{A:(V->St->Prop)->Prop}(hA:∀ Q:V->St->Prop,A Q->dL E ops o.guard (aCE P (RC P) (RD P) o.op E S Q) (Q undefV S))(h:A (kOp P ops l o E K)):evL P ops (o :: l) E S K:=by
 have:=hA _ h;unfold kOp at this;rw [bL] at this;exact this
theorem aII {ops l:List Oper}{o:Oper}{K:Env->St->Prop}{v:V}{E1:Env}(hp:∀ Q:Env->Prop,Q E1->cW E o.dst v Q)(h:evL P ops l E1 S K):kOp P ops l o E K v S:=by
 unfold kOp;rw [bL];exact hp _ h
theorem aOf {c:Operand}{a b:Code}(hc:∀ Q:Bool->Prop,Q true->eZ E c fun v=>xG v Q)(h:zJ P ro a E D S k):zJ P ro (.cond c a b) E D S k:=aBY hc h
theorem aJT {c:Operand}{a b:Code}(hc:∀ Q:Bool->Prop,Q false->eZ E c fun v=>xG v Q)(h:zJ P ro b E D S k):zJ P ro (.cond c a b) E D S k:=yS hc h
theorem aOe (h:k .normal E D S):zJ P ro .skip E D S k:=h
theorem aOa {id:Nat}(h:k (.exit id) E D S):zJ P ro (.exit id) E D S k:=h
theorem aSo (h:k .ret E D S):zJ P ro .ret E D S k:=h
theorem aOb {l:Nat}(h:k (.goto l) E D S):zJ P ro (.goto l) E D S k:=h
theorem aJU {l:Nat}(h:k .normal E D S):zJ P ro (.label l) E D S k:=h
theorem aOc {c:Code}(h:LP P ro c E D S k):zJ P ro (.loop c) E D S k:=h
theorem aSz {rs:List ResultVar}{k:V->St->Prop}{x:X}{A:(V->St->Prop)->Prop}(hA:∀ Q:V->St->Prop,A Q->aSu P rs Q x E D S)(h:A k):aLD P rs k x E D S:=by unfold aLD;rw [bL];exact hA _ h
structure Hid (A:Prop):Prop where
 out:A
theorem go {A B:Prop}(a:A)(h:Hid A->B:=by
 intro hA
 repeat (first
  | refine aII (fun Q hQ=>by (conv=>whnf);exact hQ) ?_
  | refine aQH (fun Q hQ=>by (conv=>whnf);exact hQ) ?_
  | refine aSm ?_
  | refine aSA ?_
  | refine aSD ?_
  | refine aSq ?_
  | refine aSn ?_
  | refine aSl ?_
  | refine aOf (fun Q hQ=>by (conv=>whnf);exact hQ) ?_
  | refine aJT (fun Q hQ=>by (conv=>whnf);exact hQ) ?_
  | refine aOc ?_
  | refine aOe ?_
  | refine aOa ?_
  | refine aSo ?_
  | refine aSO ?_
  | refine aSH ?_
  | refine aSy ?_
  | refine aPK ?_
  | refine aPJ rfl ?_
  | refine aSE ?_
  | refine aSB ?_
  | refine aSM ?_
  | refine aSF ?_
  | refine aWa ?_
  | refine aWu ?_
  | refine aWf ?_
  | refine aSz (fun Q hQ=>by (conv=>whnf);exact hQ) ?_
  | refine aSp ?_
  | refine aSC ?_
  | refine aSN ?_
  | refine aSG ?_
  | refine aOb ?_
  | refine aJU ?_
  | refine aSt ?_
  | refine aSr ?_
  | refine aSs ?_
  | refine aVU ?_
  | refine aOq rfl ?_
  | refine aOp rfl ?_
  | (refine kN (by first|rfl|assumption) ?_;conv=>whnf)
  | (refine lG (by first|rfl|assumption) ?_;conv=>whnf)
  | (refine aP ?_;conv=>whnf)
  | (refine aH kr _ rfl rfl ?_;conv=>whnf))
 exact hA.out):B:=h ⟨a⟩
theorem aVQ {n:Nat}{rs:List ResultVar}{c:Code}{l:List V}{k:V->St->Prop}(E:Env)(hE:∀ Q:Env->Prop,Q E->mW l 0 (blank n) Q)
  (h:evCode P (RC P) (RD P) (LQ P) (cZ P (RC P) (RD P)) none c E [] S (aLD P rs k)):uV P n rs c l k S:=hE _ (by unfold aLD at h;rw [bL] at h;exact h)
theorem enter {A B:Prop}(a:A)(h:Hid A->B:=by
 intro hA;apply aVQ
 ·intro Q hQ
  conv=>whnf
  exact hQ
 unfold aL
 conv=>arg 7;whnf
 exact hA.out):B:=h ⟨a⟩
theorem build {A B:Prop}(a:A)(h:Hid A->B:=by
 intro hA;apply aDO
 ·intro Q hQ
  conv=>whnf
  exact hQ
 exact hA.out):B:=h ⟨a⟩
noncomputable def aPU (E:Env):Nat->Bool
 | 0=>true
 | n+1=>(tget E n).isSome && aPU E n
theorem aJB {E:Env}:∀ {n t:Nat},aPU E n=true->t < n->(tget E t).isSome=true
 | n+1,t,h,ht=>by
   have h':((tget E n).isSome && aPU E n)=true:=h;rw [Bool.and_eq_true] at h'
   rcases Nat.lt_or_ge t n with h1|h1
   ·exact aJB h'.2 h1
   ·have:t=n:=om;subst this;exact h'.1
def aJr (E:Env):List (Nat × V)->Prop
 | []=>True
 | q :: l=>tget E q.1=some q.2∧aJr E l
structure Kn (E:Env)(n:Nat)(l:List (Nat × V)):Prop where
 all:aPU E n=true
 at':aJr E l
noncomputable def aOw (d:Option V)(l:List (Nat × V)):Nat->Option V :=
 List.rec (motive:=fun _=>Nat->Option V) (fun _=>d) (fun q _ ih t=>Prod.rec (motive:=fun _=>Option V) (fun a v=>Bool.rec (ih t) (some v) (Nat.beq a t)) q) l
noncomputable def aCD (E:Env)(n:Nat)(l:List (Nat × V)):Env:=bl4 fun t=>aOw (Bool.rec none (some (sl E t)) (Nat.blt t n)) l t
theorem aJr.look {E:Env}{d:Option V}{t:Nat}(hd:∀ v,d=some v->tget E t=some v):∀ {l:List (Nat × V)},aJr E l->∀ {v:V},aOw d l t=some v->tget E t=some v
 | [],_,v,h=>hd v h
 | q :: l,h,v,hv=>by
   have hv':Bool.rec (motive:=fun _=>Option V) (aOw d l t) (some q.2) (Nat.beq q.1 t)=some v:=hv
   cases hb:Nat.beq q.1 t with
   | false=>rw [hb] at hv';exact h.2.look hd hv'
   | true =>
     rw [hb] at hv';rw [<- aj hb,h.1];exact hv'
theorem Kn.le {E:Env}{n:Nat}{l:List (Nat × V)}(h:Kn E n l):∀ t v,tget (aCD E n l) t=some v->tget E t=some v:=fun t v ht=>by
 by_cases hb:path t=.bad
 ·have:getP (aCD E n l) (path t)=some v:=ht;rw [hb] at this;cases this
 ·have h':getP (aCD E n l) (path t)=some v:=ht;unfold aCD at h';rw [bl4_get _ _ hb,path_num hb] at h';refine h.at'.look (fun v hv=>?_) h'
  cases hl:Nat.blt t n with
  | false=>rw [hl] at hv;cases hv
  | true =>
    rw [hl] at hv;obtain ⟨u,hu⟩:=bc.1 (aJB h.all (ae hl));have:sl E t=v:=Option.some.inj hv;rw [<- this];exact aWm hu
theorem LP.kn (hm:P.follows .mixedOrders=true){c:Code}{n:Nat}{l:List (Nat × V)}(hf:Kn E n l)
  (h:evCode P (RC P) (RD P) (LQ P) (cZ P (RC P) (RD P)) ro c (aCD E n l) D S (wG P ro c k)):LP P ro c E D S k:=.less hf.le (.step' hm fun _ hK=>by subst hK;unfold wG at h;rw [bL] at h;exact h)
theorem LP.kng (hm:P.follows .mixedOrders=true){c:Code}{n:Nat}{l:List (Nat × V)}(hf:Kn E n l)
  (h:evCode P (RC P) (RD P) (LQ P) (cZ P (RC P) (RD P)) none c (aCD E n l) [] S (kGc P S c k)):LP P none c E [] S k:=.less hf.le (.gc' hm fun _ hK=>by subst hK;unfold kGc at h;rw [bL] at h;exact h)
theorem bE {a b:Nat}{k:Bool->Prop}(h1:a < b->k true)(h0:b <= a->k false):fB (qG (Int.ofNat a) (Int.ofNat b)) k :=
 dG (fun h=>h1 (by rw [bF] at h;simpa using h)) (fun h=>h0 (by rw [bF] at h;simpa using h))
theorem bO {a b:Nat}{k:Bool->Prop}(h1:a=b->k true)(h0:a ≠ b->k false):fB (xU (Int.ofNat a) (Int.ofNat b)) k :=
 dG (fun h=>h1 (by rw [iZ] at h;exact Int.ofNat.inj (eq_of_beq h))) (fun h=>h0 fun e=>by rw [iZ,e] at h;simp at h)
theorem eU {a b:List UInt8}{k:Bool->Prop}(h1:a=b->k true)(h0:a ≠ b->k false):fB (kG a b) k :=
 dG (fun h=>h1 (by rw [cY] at h;exact eq_of_beq h)) (fun h=>h0 fun e=>by rw [cY,e] at h;simp at h)
theorem bU {α:Type}{o:Option α}{k:α->Prop}(v:α)(he:o=some v)(h:k v):Option.rec (motive:=fun _=>Prop) False k o:=by rw [he];exact h
theorem qL {α:Type}{l:List α}{j:Nat}(hj:j < l.length):nth l j=some l[j]:=by rw [nth_eq,ak hj]
theorem aSL {a:IntKind}{n:Nat}{k:Int->Prop}(h:k (Int.ofNat n))(hn:n <= rF a:=by simp only [rF];omega):eQ a (Int.ofNat n) k:=mH hn h
theorem bJ {α:Type}{k:List α->Prop}:∀ {n:Nat} {l:List α},n <= l.length->k (l.take n)->fX n l k
 | 0,l,_,h=>by have:k []:=by simpa using h
               cases l <;> exact this
 | n+1,[],hn,_=>by simp at hn
 | n+1,x :: l,hn,h=>by
   have:=bJ (k:=fun l=>k (x :: l)) (n:=n) (l:=l) (by simpa using hn) (by simpa using h);exact this
theorem aHf {s:List UInt8}{l h:Nat}{k:List UInt8->Prop}(hl:l <= h)(hh:h <= s.length)(hk:k ((s.drop l).take (h - l))):dD (Nat.ble h (dH s)) (dD (Nat.ble l h) (kM l s fun s=>fX (Nat.sub h l) s k)) :=
 ifK_intro (by rw [aM];exact ag hh) (ifK_intro (ag hl) (bY om (bJ (by have:Nat.sub h l=h - l:=rfl;rw [this,List.length_drop];omega) hk)))
theorem cT {s:List UInt8}{l:Nat}{k:List UInt8->Prop}(hl:l <= s.length)(hk:k (s.drop l)):dD (Nat.ble (dH s) (dH s)) (dD (Nat.ble l (dH s)) (kM l s fun s'=>fX (Nat.sub (dH s) l) s' k)):=by
 refine aHf (by rw [aM];exact hl) (by rw [aM];exact af _) ?_;rw [aM,bd sm];exact hk
theorem mG {s:List UInt8}{h:Nat}{k:List UInt8->Prop}(hh:h <= s.length)(hk:k (s.take h)):dD (Nat.ble h (dH s)) (dD (Nat.ble 0 h) (kM 0 s fun s=>fX (Nat.sub h 0) s k)) :=
 aHf (ai _) hh (by simpa using hk)
theorem gM {x y:List UInt8}{k:List UInt8->Prop}(h:x.length+y.length <= 9223372036854775807)(hk:k (x ++ y)):dD (Nat.ble (Nat.add (dH x) (dH y)) 9223372036854775807) (nH x y k) :=
 ifK_intro (by rw [aM,aM];exact ag h) (bZ hk)
theorem bI {x:Int}{k:Int->Prop}(n:Nat)(h:k (Int.ofNat n))(hx:x=Int.ofNat n:=by rfl)(hn:n <= 9223372036854775807:=by omega):eQ .i64 x k:=by subst hx;exact mH hn h
theorem jK {a b:Nat}{k:Int->Prop}(n:Nat)(h:k (Int.ofNat n))(hn:a=n+b:=by simp only [aM];omega)(hm:n <= 9223372036854775807:=by omega):eQ .i64 (Int.sub (Int.ofNat a) (Int.ofNat b)) k:=by
 subst hn
 have:Int.sub (Int.ofNat (n+b)) (Int.ofNat b)=Int.ofNat n:=by
  show ((n+b:Nat):Int) - (b:Int)=(n:Int)
  omega
 rw [this];exact mH hm h
theorem mI {K:IntKind}{a b:Nat}{k:Int->Prop}(n:Nat)(h:k (Int.ofNat n))(hn:a=n+b)(hm:n <= rF K):eQ K (Int.sub (Int.ofNat a) (Int.ofNat b)) k:=by
 subst hn
 have:Int.sub (Int.ofNat (n+b)) (Int.ofNat b)=Int.ofNat n:=by
  show ((n+b:Nat):Int) - (b:Int)=(n:Int)
  omega
 rw [this];exact mH hm h
def pvI:Nat->Int
 | 0=>.negSucc 0
 | m+1=>.ofNat m
theorem aHt {m:Nat}{k:Int->Prop}(h:k (pvI m))(hm:m <= 9223372036854775807:=by omega):eQ .i64 (Int.sub (Int.ofNat m) (Int.ofNat 1)) k:=by
 cases m with
 | zero=>exact h
 | succ m=>exact jK m h rfl om
end
section
variable {P:Program} {ro:Option Nat} {E E1:Env} {D:List Df} {S:St} {k:KT}
 {base i wr seen anc dw own wr' seen' sd:Nat} {ops:List Oper} {l:List Oper} {o:Oper} {ancs:List (Nat × Nat × Nat × Nat)} {pe:List (Nat × Nat × O)} {chs:List Ch} {rds:List Rd} {als:List (Nat × Nat)} {K:Dr->Prop} {v:V}
noncomputable def kMg (D:List Df)(k:KT)(E:Env)(pe:List (Nat × Nat × O))(S:St):Prop:=rD (nX pe S fun S=>k .normal E D S)
noncomputable def kDr (P:Program)(D:List Df)(k:KT):Dr->Prop:=rD fun d=>fU P d.chs d.st d.rds (kK d.chs d.st d.als (kMg D k d.env d.pend d.st))
theorem jO {id:Nat}{ops:Array Oper}{hp:T O}{nx:Nat}(h:drOps P (RC P) (RD P) nx ops.toList ops.toList 0 [] 0 0 ⟨E,⟨hp,Nat.add nx (dH ops.toList)⟩,[],[],[],[]⟩ (kDr P D k)):zJ P ro (.region id ops true) E D ⟨hp,nx⟩ k :=
 yR fun K hK=>by
  subst hK;unfold kDr at h;rw [bL] at h;unfold kMg at h;simp only [bL] at h;exact h
theorem aGz (h:fU P chs S rds (kK chs S als (kMg D k E pe S))):kDr P D k ⟨E,S,pe,chs,rds,als⟩:=by unfold kDr;rw [bL];exact h
theorem yG {S1:St}(hm:∀ Q:St->Prop,Q S1->nX pe S Q)(h:k .normal E D S1):kMg D k E pe S:=by unfold kMg;rw [bL];exact hm _ h
abbrev evD (P:Program)(base:Nat)(ops:List Oper)(l:List Oper):Nat->List (Nat × Nat × Nat × Nat)->Nat->Nat->Dr->(Dr->Prop)->Prop:=drOps P (RC P) (RD P) base ops l
theorem zG (h:K ⟨E,S,pe,chs,rds,als⟩):evD P base ops [] i ancs wr seen ⟨E,S,pe,chs,rds,als⟩ K:=h
theorem aV {f:jC}(hc:rM P o.op=.pure f)(hf:∀ Q:V->Prop,Q v->f E Q)(h:evD P base ops l (Nat.succ i) ((anc,dw,sd,own) :: ancs) wr' seen' ⟨E1,S,pe,chs,rds,als⟩ K)
  (hs:kD ops i ancs wr seen o=.ok anc dw own wr' seen':=by exact rfl) (hd:dV o.dst=sd:=by exact rfl) (hg:∀ Y N:Prop,Y->dL E ops o.guard Y N:=by intro _ _ hy;(conv=>whnf);exact hy)
  (hp:∀ Q:Env->Prop,Q E1->cW E o.dst v Q:=by intro Q hQ;(conv=>whnf);exact hQ):evD P base ops (o :: l) i ancs wr seen ⟨E,S,pe,chs,rds,als⟩ K:=aQm hs hd hg hc hf hp h
theorem dE (hc:rM P o.op=.read (gJ P o.op))(hf:∀ Q:V->Prop,Q v->gZ 0 (iY anc pe) S fun S=>gJ P o.op E S Q)(h:evD P base ops l (Nat.succ i) ((anc,dw,sd,own) :: ancs) wr' seen' ⟨E1,S,pe,chs,⟨o.op,i,anc,E,v,iY anc pe⟩ :: rds,als⟩ K)
  (hs:kD ops i ancs wr seen o=.ok anc dw own wr' seen':=by exact rfl) (hd:dV o.dst=sd:=by exact rfl) (hg:∀ Y N:Prop,Y->dL E ops o.guard Y N:=by intro _ _ hy;(conv=>whnf);exact hy)
  (hp:∀ Q:Env->Prop,Q E1->cW E o.dst v Q:=by intro Q hQ;(conv=>whnf);exact hQ):evD P base ops (o :: l) i ancs wr seen ⟨E,S,pe,chs,rds,als⟩ K:=aJM hs hd hg hc hf hp fun _=>h
theorem aNE (h:evD P base ops l (Nat.succ i) ((anc,dw,sd,own) :: ancs) wr' seen' ⟨E1,S,pe,chs,rds,als⟩ K)(hg:∀ Y N:Prop,N->dL E ops o.guard Y N:=by intro _ _ hy;(conv=>whnf);exact hy)
  (hs:kD ops i ancs wr seen o=.ok anc dw own wr' seen':=by exact rfl) (hd:dV o.dst=sd:=by exact rfl) (hp:∀ Q:Env->Prop,Q E1->cW E o.dst undefV Q:=by intro Q hQ;(conv=>whnf);exact hQ):evD P base ops (o :: l) i ancs wr seen ⟨E,S,pe,chs,rds,als⟩ K:=aQn hs hd hg hp h
theorem aEt {f:oX}{ob:O}{mk:Nat->V}(hc:rM P o.op=.alloc f)(hf:∀ Q:O->(Nat->V)->Prop,Q ob mk->f E Q)(h:evD P base ops l (Nat.succ i) ((anc,dw,sd,own) :: ancs) wr' seen' ⟨E1,S,(i,Nat.add base i,ob) :: pe,chs,rds,(i,Nat.add base i) :: als⟩ K)
  (hs:kD ops i ancs wr seen o=.ok anc dw own wr' seen':=by exact rfl) (hd:dV o.dst=sd:=by exact rfl) (hg:∀ Y N:Prop,Y->dL E ops o.guard Y N:=by intro _ _ hy;(conv=>whnf);exact hy)
  (hp:∀ Q:Env->Prop,Q E1->cW E o.dst (mk (Nat.add base i)) Q:=by intro Q hQ;(conv=>whnf);exact hQ):evD P base ops (o :: l) i ancs wr seen ⟨E,S,pe,chs,rds,als⟩ K:=aNJ hs hd hg hc hf hp h
theorem vX {A B:Prop}(a:A)(h:Hid A->B:=by
 intro hA
 repeat (first
  | refine jO ?_
  | (refine aV rfl (by
    intro Q hQ
    conv=>whnf
    repeat (first
     | exact hQ
     | (refine kN (by first|rfl|assumption) ?_;conv=>whnf)
     | (refine lG (by first|rfl|assumption) ?_;conv=>whnf)
     | (refine aP ?_;conv=>whnf)
     | (refine bR ?_;conv=>whnf))) ?_)
  | (refine dE rfl (by
    intro Q hQ
    conv=>whnf
    repeat (first
     | exact hQ
     | (refine aP ?_;conv=>whnf)
     | (refine bR ?_;conv=>whnf)
     | (unfold cR;conv=>whnf))) ?_)
  | refine aNE ?_
  | (refine aEt rfl (by intro Q hQ;(conv=>whnf);exact hQ) ?_)
  | refine zG ?_
  | refine aGz ?_
  | (refine lY sm (by
    intro Q hQ
    conv=>whnf
    repeat (first
     | exact hQ
     | (refine aP ?_;conv=>whnf)
     | (refine bR ?_;conv=>whnf)
     | (unfold cR;conv=>whnf))) (by first|exact oP _|exact vR _ _|exact eG _ _ _ _ _ _|exact gN _ _|exact vQ _|exact sQ _ _|rfl) (.inl rfl) ?_)
  | refine jA ?_
  | refine iQ ?_
  | refine aCU rfl ?_
  | refine yG (fun Q hQ=>by (conv=>whnf);exact hQ) ?_)
 exact hA.out):B:=h ⟨a⟩
def V.flat:V->Bool
 | .bool _|.int _ _|.float _ _|.str _|.nilPtr|.nilSlice|.nilMap|.nilFunc|.nilIface=>true
 | .agg l=>V.flatL l
 | .tup l=>V.flatL l
 | .iface _ v=>V.flat v
 | _=>false
where V.flatL:List V->Bool
 | []=>true
 | v :: l=>V.flat v && V.flatL l
mutual
theorem qE {R:Nat->Nat->Prop}:∀ {v:V},v.flat=true->VI R v v
 | .bool _,_=>.bool _
 | .int _ _,_=>.int _ _
 | .float _ _,_=>.float _ _
 | .str _,_=>.str _
 | .nilPtr,_=>.nilPtr
 | .nilSlice,_=>.nilSlice
 | .nilMap,_=>.nilMap
 | .nilFunc,_=>.nilFunc
 | .nilIface,_=>.nilIface
 | .agg l,h=>.agg (cB (l:=l) (by unfold V.flat at h;exact h))
 | .tup l,h=>.tup (cB (l:=l) (by unfold V.flat at h;exact h))
 | .iface t v,h=>.iface t (qE (v:=v) (by unfold V.flat at h;exact h))
 | .ptr _ _,h=>by unfold V.flat at h;cases h
 | .slice ..,h=>by unfold V.flat at h;cases h
 | .map _,h=>by unfold V.flat at h;cases h
 | .func ..,h=>by unfold V.flat at h;cases h
 | .yield _,h=>by unfold V.flat at h;cases h
 | .any,h=>by unfold V.flat at h;cases h
theorem cB {R:Nat->Nat->Prop}:∀ {l:List V},V.flat.V.flatL l=true->mJ R l l
 | [],_=>.nil
 | v :: l,h=>by
   unfold V.flat.V.flatL at h;rw [Bool.and_eq_true] at h;exact .cons (qE h.1) (cB h.2)
end
theorem RC.pure (hm:P.follows .mixedOrders=true){c:FuncId}{n:Nat}{rs:List ResultVar}{code:Code}(hf:bB P c n rs code){l:List V}{S:St}{v:V}{k:V->St->Prop}(hk:k v S)
  (hrun:uV P n rs code l (fun u _=>u=v) ⟨.nil,aI⟩) (hv:v.flat=true:=by rfl) (hl:V.flat.V.flatL l=true:=by rfl):RC P c l S k:=by
 have hX:oY P []:=fun q h=>by cases h
 obtain ⟨u,S',h2,h3⟩:=iE hX fL fM oM (evDraw_ok hm fL fM) c l ⟨.nil,aI⟩ _ (aG hf hrun);subst h2
 have:=h3.small (K:=S.hs) (l2:=l) (v2:=u) 0 (ids:=[]) (ks:=[]) (os:=[]) (ks2:=[]) (news:=[]) rfl sm sm rfl rfl rfl sm sm (cB hl) sm sm
  ⟨[],bj,sm,qE hv,trivial,trivial⟩
 exact .mk u S this hk
theorem LP.join {c:Code}{A:Prop}(n:Nat)(l:List (Nat × V))(h1:(∀ E':Env,Kn E' n l->LP P ro c E' D S k)->A)(h2:∀ E':Env,Kn E' n l->LP P ro c E' D S k):A:=h1 h2
end
end Go.Am
