/- Part 4 of the proof that BodyOwn returns true, and leaves its arguments as they were, for every input, over a start where the listed variables hold what the program lays: the statement Rows.BodyOwnCardSaid. -/
import Derived.Test.YtnfhhddmeikbpaaGreatDoorWAc
set_option linter.unusedVariables false
set_option linter.unusedSimpArgs false
/- Drawn regions: one operation after the other, in index order. -/
namespace Go.Am
open Classical
variable {P:Program}

/-- What is found out of an operation's edges and operands. -/
structure StepAnc (ops:Array Oper) (n:Nat) (R:Nat→Rec) (o:Oper) (own anc dw:Nat):Prop where
 lt:∀ j,bitN anc j=true→j < n
 edge:∀ e ∈ o.after.toList,bindE e=true→e.on < n
 back:∀ j,bitN anc j=true→∃ e ∈ o.after.toList,bindE e=true∧(e.on=j ∨ bitN (R e.on).anc j=true)
 trans:∀ j k,bitN anc j=true→bitN (R j).anc k=true→bitN anc k=true
 dw:∀ t,bitN dw t=true→∃ k o,bitN anc k=true∧ops[k]?=some o∧o.dst=some t
 reads:∀ t,Reads ops o t→bitN own t=true∧∀ k ok,k < n→ops[k]?=some ok→ok.dst=some t→bitN anc k=true
section
variable {ops:Array Oper} {base:Nat} {E0:Env} {H0:Hs} {n:Nat} {ancs:List (Nat × Nat × Nat × Nat)} {wr seen:Nat} {d:Dr} {R:Nat→Rec} {o:Oper}
theorem dstOf_some {j:Nat} {t:Tmp} (h:dstOf ops.toList j=some t):∃ o,ops[j]?=some o∧o.dst=some t:=by
 unfold dstOf at h
 rw [nth_eq] at h
 have e:ops.toList[j]?=ops[j]?:=by simp
 rw [e] at h
 cases ho:ops[j]? with
 | none=>rw [ho] at h;cases h
 | some o'=>rw [ho] at h;exact ⟨o',rfl,h⟩
theorem stepAnc (hI:Inv P ops base E0 H0 n ancs wr seen d R) {anc dw own wr' seen':Nat} (h:stepS ops.toList n ancs wr seen o=.ok anc dw own wr' seen') :
  StepAnc ops n R o own anc dw∧dstK n ancs anc wr own seen o.dst=true∧wr'=Nat.lor wr (slotN o.dst)∧seen'=Nat.lor seen own:=by
 unfold stepS at h
 obtain ⟨anc1,dw1,h1,a2,a3,a4,a5⟩:=ancK_spec (by rw [h];simp)
 rw [h1] at h
 obtain ⟨s1,h2,_,b2⟩:=seesK_spec (by rw [h];simp)
 rw [h2] at h
 have fin:∀ own1,Bool.rec (motive:=fun _=>Sx) .bad (fS (Nat.lor wr (slotN o.dst)) fun wr=>fS (Nat.lor seen own1) fun seen=>.ok anc1 dw1 own1 wr seen) (dstK n ancs anc1 wr own1 seen o.dst)=.ok anc dw own wr' seen' →
   anc1=anc∧dw1=dw∧own1=own∧dstK n ancs anc wr own seen o.dst=true∧wr'=Nat.lor wr (slotN o.dst)∧seen'=Nat.lor seen own:=fun own1 h=>by
  cases hd:dstK n ancs anc1 wr own1 seen o.dst with
  | false=>rw [hd] at h;cases h
  | true =>
    rw [hd] at h
    have h':(fS (Nat.lor wr (slotN o.dst)) fun wr=>fS (Nat.lor seen own1) fun seen=>Sx.ok anc1 dw1 own1 wr seen)=.ok anc dw own wr' seen':=h
    rw [fS_eq,fS_eq] at h'
    cases h'
    exact ⟨rfl,rfl,rfl,hd,rfl,rfl⟩
 have eq:∀ e ∈ o.after.toList,bindE e=true→∀ q,nth ancs (n - 1 - e.on)=some q→q.1=(R e.on).anc∧q.2.1=(R e.on).dw∧∃ o',ops[e.on]?=some o'∧q.2.2.1=slotN o'.dst:=fun e he hb q hq=>by
  obtain ⟨o',_,ho',hn,_⟩:=hI.ancs e.on (a2 e he hb).1
  rw [hq] at hn;cases hn
  exact ⟨rfl,rfl,o',ho',rfl⟩
 have inc:∀ e ∈ o.after.toList,bindE e=true→bitN anc1 e.on=true∧∀ j,bitN (R e.on).anc j=true→bitN anc1 j=true:=fun e he hb=>by
  obtain ⟨_,c2,q,c3,c4⟩:=a2 e he hb
  exact ⟨c2,fun j hj=>c4 j (by rw [(eq e he hb q c3).1];exact hj)⟩
 have back:∀ j,bitN anc1 j=true→∃ e ∈ o.after.toList,bindE e=true∧(e.on=j ∨ bitN (R e.on).anc j=true):=fun j hj=>by
  rcases a4 j hj with h0|⟨e,he,hb,hc⟩
  ·rw [bitN_zero] at h0;cases h0
  ·refine ⟨e,he,hb,?_⟩
   rcases hc with hc|⟨q,hq,hc⟩
   ·exact .inl hc
   ·exact .inr (by rw [← (eq e he hb q hq).1];exact hc)
 have lt:∀ j,bitN anc1 j=true→j < n:=fun j hj=>by
  obtain ⟨e,he,hb,hc⟩:=back j hj
  have hl:=(a2 e he hb).1
  rcases hc with rfl|hc
  ·exact hl
  ·have:=hI.lt _ _ hl hc;omega
 have hdw:∀ t,bitN dw1 t=true→∃ k o,bitN anc1 k=true∧ops[k]?=some o∧o.dst=some t:=fun t ht=>by
  rcases a5 t ht with h0|⟨e,he,hb,q,hq,hc⟩
  ·rw [bitN_zero] at h0;cases h0
  ·obtain ⟨e1,e2,o',e3,e4⟩:=eq e he hb q hq
   obtain ⟨i1,i2⟩:=inc e he hb
   rcases hc with hc|hc
   ·rw [e2] at hc
    obtain ⟨k,ok,c1,c2,c3⟩:=hI.dw _ _ (a2 e he hb).1 hc
    exact ⟨k,ok,i2 k c1,c2,c3⟩
   ·rw [e4,bitN_slot] at hc
    exact ⟨e.on,o',i1,e3,hc⟩
 have rd1:∀ t,Operand.tmp t ∈ o.op.operands.toList→bitN s1 t=true∧∀ k ok,k < n→ops[k]?=some ok→ok.dst=some t→bitN anc1 k=true:=fun t ht=>by
  obtain ⟨c1,c2⟩:=b2 t ht
  refine ⟨c1,fun k ok hk hok hd=>?_⟩
  obtain ⟨k',ok',e1,e2,e3⟩:=hdw t (c2 (hI.wr k ok t hk hok hd))
  have:=hI.dst k ok k' ok' t hk (lt _ e1) hok e2 hd e3
  rw [this];exact e1
 have trans:∀ j k,bitN anc1 j=true→bitN (R j).anc k=true→bitN anc1 k=true:=fun j k hj hk=>by
  obtain ⟨e,he,hb,hc⟩:=back j hj
  obtain ⟨i1,i2⟩:=inc e he hb
  rcases hc with rfl|hc
  ·exact i2 k hk
  ·exact i2 k (hI.trans _ _ _ (a2 e he hb).1 hc hk)
 have edge:∀ e ∈ o.after.toList,bindE e=true→e.on < n:=fun e he hb=>(a2 e he hb).1
 cases hg:o.guard with
 | none =>
   rw [hg] at h
   obtain ⟨e1,e2,e3,e4,e5,e6⟩:=fin s1 h
   subst e1 e2 e3
   refine ⟨⟨lt,edge,back,trans,hdw,fun t ht=>?_⟩,e4,e5,e6⟩
   rcases ht with ht|⟨q,hq,_⟩
   ·exact rd1 t ht
   ·rw [hg] at hq;cases hq
 | some q =>
   rw [hg] at h
   have h':Option.rec (motive:=fun _=>Sx) .bad (fun t=>Bool.rec (motive:=fun _=>Sx) .bad (fS (withN s1 t) fun own=>Bool.rec (motive:=fun _=>Sx) .bad (fS (Nat.lor wr (slotN o.dst)) fun wr=>fS (Nat.lor seen own) fun seen=>.ok anc1 dw1 own wr seen) (dstK n ancs anc1 wr own seen o.dst)) (bitN anc1 q.1)) (dstOf ops.toList q.1)=.ok anc dw own wr' seen':=h
   cases h3:dstOf ops.toList q.1 with
   | none=>rw [h3] at h';cases h'
   | some t0 =>
   rw [h3] at h'
   cases h5:bitN anc1 q.1 with
   | false=>rw [h5] at h';cases h'
   | true =>
   rw [h5] at h'
   have h6:=(fS_eq _ _).symm.trans h'
   obtain ⟨e1,e2,e3,e4,e5,e6⟩:=fin (withN s1 t0) h6
   subst e1 e2 e3
   refine ⟨⟨lt,edge,back,trans,hdw,fun t ht=>?_⟩,e4,e5,e6⟩
   rcases ht with ht|⟨q',hq,ht⟩
   ·exact ⟨by rw [bitN_with,(rd1 t ht).1];rfl,(rd1 t ht).2⟩
   ·rw [hg] at hq;cases hq
    rw [h3] at ht;cases ht
    refine ⟨by rw [bitN_with];simp,fun k ok hk hok hd=>?_⟩
    obtain ⟨oq,g1,g2⟩:=dstOf_some h3
    have:=hI.dst k ok q.1 oq t0 hk (lt _ h5) hok g1 hd g2
    rw [this];exact h5

theorem Kind.mono {d1:Dr} {i:Nat} {o':Oper} {r:Rec} (h:Kind P ops base d i o' r) (hi:i < n) (h1:∀ x ∈ d.rds,x ∈ d1.rds) (h2:∀ x ∈ d.als,x ∈ d1.als) (h3:∀ c ∈ d.chs,c ∈ d1.chs) (h4:∀ c ∈ d1.chs,c ∈ d.chs ∨ c.idx=n):Kind P ops base d1 i o' r:=by
 have hn:(∀ c ∈ d.chs,c.idx ≠ i)→∀ c ∈ d1.chs,c.idx ≠ i:=fun hn c hc=>by
  rcases h4 c hc with hc|hc
  ·exact hn c hc
  ·omega
 cases h with
 | skip g hv ha n=>exact .skip g hv ha (hn n)
 | pure g hd h ha n=>exact .pure g hd h ha (hn n)
 | read g hd sel h ha n=>exact .read g hd sel (h1 _ h) ha (hn n)
 | alloc g hd ob mk ha h hv hm n=>exact .alloc g hd ob mk ha h hv (h2 _ hm) (hn n)
 | chain g hd c hc hi ha=>exact .chain g hd c (h3 _ hc) hi ha
/-- What an operation leaves. -/
structure OpNext (P:Program) (ops:Array Oper) (base:Nat) (H0:Hs) (n:Nat) (R:Nat→Rec) (o:Oper) (r:Rec) (d d1:Dr):Prop where
 env:d1.env=d.env
 self:Kind P ops base d1 n o r
 rds:∀ x ∈ d.rds,x ∈ d1.rds
 als:∀ x ∈ d.als,x ∈ d1.als
 chs:∀ c ∈ d.chs,c ∈ d1.chs
 new:∀ c ∈ d1.chs,c ∈ d.chs ∨ c.idx=n
 chain:∀ later c earlier,d1.chs=later ++ c :: earlier→ChFact P ops base (Rset R n r) d1.st.hs later c earlier
 start:stOf d1.chs d1.st.hs=H0
 rsel:∀ x ∈ d1.rds,∀ q ∈ x.sel,q.2.1=base+q.1∧(Rset R n r q.1).al=some q.2.2∧bitN x.anc q.1=true
 pend1:∀ q ∈ d1.pend,q.2.1=base+q.1∧(Rset R n r q.1).al=some q.2.2
 pend2:∀ i,(Rset R n r i).al.isSome→((∃ q ∈ d1.pend,q.1=i) ↔ bitN (prevOf d1.chs) i=false)
theorem Inv.chain_lt (hI:Inv P ops base E0 H0 n ancs wr seen d R) {c:Ch} (hc:c ∈ d.chs):c.anc=(R c.idx).anc∧c.idx < n∧∀ j,bitN c.anc j=true→j < c.idx:=by
 obtain ⟨l,e,hle⟩:=List.append_of_mem hc
 have h:=hI.chain l c e hle
 have hlt:=hI.chlt c hc
 exact ⟨h.1,hlt,fun j hj=>hI.lt _ _ hlt (by rw [← h.1];exact hj)⟩
theorem Inv.al_lt (hI:Inv P ops base E0 H0 n ancs wr seen d R) {q:Nat × Nat × O} (hq:q ∈ d.pend):q.1 < n:=by
 rcases Nat.lt_or_ge q.1 n with h|h
 ·exact h
 ·have:=(hI.pend1 q hq).2
  rw [hI.out _ h] at this;cases this
theorem Inv.prev_lt (hI:Inv P ops base E0 H0 n ancs wr seen d R) {i:Nat} (h:bitN (prevOf d.chs) i=true):i < n:=by
 unfold prevOf at h
 split at h
 ·rw [bitN_zero] at h;cases h
 ·rename_i c l hc
  obtain ⟨_,h2,h3⟩:=hI.chain_lt (c:=c) (by rw [hc];simp)
  have:=h3 _ h;omega
theorem Inv.rsel_lt (hI:Inv P ops base E0 H0 n ancs wr seen d R) {r:Rec} {x:Rd} (hx:x ∈ d.rds) {q:Nat × Nat × O} (hq:q ∈ x.sel):q.2.1=base+q.1∧(Rset R n r q.1).al=some q.2.2∧bitN x.anc q.1=true:=by
 obtain ⟨h1,h2,h3⟩:=hI.rsel x hx q hq
 have hlt:q.1 < n:=by
  rcases Nat.lt_or_ge q.1 n with h|h
  ·exact h
  ·rw [hI.out _ h] at h2;cases h2
 exact ⟨h1,by rw [Rset_lt R n r _ hlt];exact h2,h3⟩
/-- Nothing acts, nothing is made. -/
theorem Inv.still (hI:Inv P ops base E0 H0 n ancs wr seen d R) {r:Rec} {d1:Dr} (h1:d1.env=d.env) (h2:d1.chs=d.chs) (h3:d1.st=d.st) (h4:d1.pend=d.pend) (h5:d1.als=d.als) (h6:∀ x ∈ d.rds,x ∈ d1.rds)
  (ha:r.al=none) (hk:Kind P ops base d1 n o r) (h7:∀ x ∈ d1.rds,x ∈ d.rds ∨ ∀ q ∈ x.sel,q ∈ d.pend∧bitN x.anc q.1=true:=by exact fun _ h=>.inl h):OpNext P ops base H0 n R o r d d1 where
 env:=h1
 self:=hk
 rds:=h6
 als:=by rw [h5];exact fun _ h=>h
 rsel x hx q hq:=by
  rcases h7 x hx with h|h
  ·exact hI.rsel_lt h hq
  ·obtain ⟨a,b⟩:=h q hq
   refine ⟨(hI.pend1 q a).1,?_,b⟩
   rw [Rset_lt R n r _ (hI.al_lt a)];exact (hI.pend1 q a).2
 chs:=by rw [h2];exact fun _ h=>h
 new:=by rw [h2];exact fun _ h=>.inl h
 chain later c earlier hs:=by
  rw [h2] at hs;rw [h3]
  have hc:c ∈ d.chs:=by rw [hs];simp
  exact (hI.chain later c earlier hs).congr (hI.chlt c hc) (Rset_lt R n r) (hI.chain_lt hc).2.2
 start:=by rw [h2,h3];exact hI.start
 pend1 q hq:=by
  rw [h4] at hq
  rw [Rset_lt R n r _ (hI.al_lt hq)];exact hI.pend1 q hq
 pend2 i hi:=by
  rw [h4,h2]
  by_cases e:i=n
  ·subst e;rw [Rset_self,ha] at hi;cases hi
  ·rw [Rset_ne R r e] at hi;exact hI.pend2 i hi
theorem drOp_spec {rc:CallT} {rd:RoundT} (hc:CallOk P rc) (hd:RoundOk P rd) {anc dw own:Nat} (hI:Inv P ops base E0 H0 n ancs wr seen d R) (ho:ops[n]?=some o) (hA:StepAnc ops n R o own anc dw) (hg:Gd ops d.env o true) {k:V→Dr→Prop}
  (h:drOp P rc rd base n anc o.op d k):∃ v d1 al,k v d1∧OpNext P ops base H0 n R o ⟨anc,dw,d.env,v,al⟩ d d1:=by
 have hnot:∀ c ∈ d.chs,c.idx ≠ n:=fun c hc=>by have:=hI.chlt c hc;omega
 have hdf:∀ c,o.op=.defer c→False:=fun c e=>by
  rw [e] at h
  obtain ⟨_,h⟩:=vY (show ifK _ _ from h)
  obtain ⟨_,_,h,_⟩:=mergeK_spec (al:=fun i=>(R i).al) hI.pend1 h
  exact h
 have hs:=clOf_spec (P:=P) o.op
 unfold drOp at h
 cases hcl:clOf P o.op with
 | pure f =>
   rw [hcl] at h hs
   obtain ⟨v,h1,h2⟩:=hs _ _ h
   exact ⟨v,d,none,h1,hI.still rfl rfl rfl rfl rfl (fun _ h=>h) rfl (.pure hg (fun c e=>hdf c e) h2 rfl hnot)⟩
 | read f =>
   rw [hcl] at h hs
   obtain ⟨S1,h,_,_⟩:=putsK_spec h
   obtain ⟨v,h1,h2⟩:=hs _ _ _ h
   exact ⟨v,_,none,h1,hI.still rfl rfl rfl rfl rfl (fun _ h=>List.mem_cons_of_mem _ h) rfl (.read hg (fun c e=>hdf c e) (aheadL anc d.pend) (by simp) rfl hnot) fun x hx=>by
    rcases List.mem_cons.1 hx with rfl|hx
    ·exact .inr fun q hq=>aheadL_mem hq
    ·exact .inl hx⟩
 | alloc f =>
   rw [hcl] at h hs
   obtain ⟨ob,mk,h1,h2⟩:=hs _ _ h
   have h3:=fN_spec h1
   refine ⟨_,_,some ob,h3,rfl,.alloc hg (fun c e=>hdf c e) ob mk rfl h2 rfl (by show _ ∈ (_,_) :: _;simp) hnot,fun _ h=>h,fun _ h=>List.mem_cons_of_mem _ h,fun _ h=>h,fun _ h=>.inl h,fun later c earlier hs=>?_,hI.start,fun x hx q hq=>hI.rsel_lt hx hq,fun q hq=>?_,fun i hi=>?_⟩
   ·have hc:c ∈ d.chs:=by rw [hs];simp
    exact (hI.chain later c earlier hs).congr (hI.chlt c hc) (Rset_lt R n _) (hI.chain_lt hc).2.2
   ·rcases List.mem_cons.1 hq with rfl|hq
    ·exact ⟨rfl,by rw [Rset_self]⟩
    ·rw [Rset_lt R n _ _ (hI.al_lt hq)];exact hI.pend1 q hq
   ·show (∃ q ∈ (n,base+n,ob) :: d.pend,q.1=i) ↔ bitN (prevOf d.chs) i=false
    by_cases e:i=n
    ·subst e
     refine ⟨fun _=>?_,fun _=>⟨(i,base+i,ob),by simp,rfl⟩⟩
     cases hb:bitN (prevOf d.chs) i with
     | false=>rfl
     | true=>have:=hI.prev_lt hb;omega
    ·rw [Rset_ne R _ e] at hi
     rw [← hI.pend2 i hi]
     refine ⟨fun ⟨q,hq,hqi⟩=>?_,fun ⟨q,hq,hqi⟩=>⟨q,by simp [hq],hqi⟩⟩
     rcases List.mem_cons.1 hq with rfl|hq
     ·exact absurd hqi.symm e
     ·exact ⟨q,hq,hqi⟩
 | chain f =>
   rw [hcl] at h hs
   obtain ⟨ht,h1⟩:=vY h
   obtain ⟨pend,S1,h2,h3,h4⟩:=mergeK_spec (al:=fun i=>(R i).al) hI.pend1 h1
   obtain ⟨_,v,S2,h5,h6⟩:=hs _ _ hc hd _ _ _ h2
   have hall:∀ e ∈ d.chs,bitN anc e.idx=true:=fun e he=>by
    cases hch:d.chs with
    | nil=>rw [hch] at he;cases he
    | cons c l =>
      rw [hch] at ht he
      have ht':bitN anc c.idx=true:=ht
      rcases List.mem_cons.1 he with rfl|he
      ·exact ht'
      ·have hf:=hI.chain [] c l (by rw [hch];rfl)
       exact hA.trans _ _ ht' (by rw [← hf.1];exact hf.2.1 e he)
   have hprev:∀ i,bitN (prevOf d.chs) i=true→bitN anc i=true:=fun i hi=>by
    cases hch:d.chs with
    | nil=>rw [hch] at hi;exact absurd hi (by show ¬ bitN 0 i=true;rw [bitN_zero];simp)
    | cons c l =>
      rw [hch] at hi
      have hcm:c ∈ d.chs:=by rw [hch];simp
      exact hA.trans _ _ (hall c hcm) (by rw [← (hI.chain_lt hcm).1];exact hi)
   have hS1:S1.hs=lay base (fun i=>(Rset R n ⟨anc,dw,d.env,v,none⟩ i).al) (fun i=>bitN anc i=true∧bitN (prevOf d.chs) i=false) d.st.hs:=by
    rw [h4]
    refine lay_congr _ fun i=>?_
    by_cases e:i=n
    ·subst e
     have hn:(R i).al=none:=hI.out i (Nat.le_refl _)
     refine ⟨⟨fun ⟨_,hs⟩=>?_,fun ⟨_,hs⟩=>?_⟩,fun _ hs=>?_⟩
     ·rw [hn] at hs;cases hs
     ·rw [Rset_self] at hs;cases hs
     ·rw [hn] at hs;cases hs
    ·rw [Rset_ne R _ e]
     exact ⟨⟨fun ⟨⟨a,b⟩,hs⟩=>⟨⟨b,(hI.pend2 i hs).1 a⟩,hs⟩,fun ⟨⟨b,a⟩,hs⟩=>⟨⟨(hI.pend2 i hs).2 a,b⟩,hs⟩⟩,fun _ _=>rfl⟩
   refine ⟨v,_,none,h5,rfl,.chain hg (fun c e=>hdf c e) ⟨n,anc,d.st⟩ (by simp) rfl rfl,fun _ h=>h,fun _ h=>h,fun _ h=>List.mem_cons_of_mem _ h,fun c hcm=>?_,fun later c earlier hs=>?_,?_,fun x hx q hq=>hI.rsel_lt hx hq,fun q hq=>?_,fun i hi=>?_⟩
   ·rcases List.mem_cons.1 hcm with rfl|hcm
    ·exact .inr rfl
    ·exact .inl hcm
   ·cases later with
    | nil =>
      have hs':(⟨n,anc,d.st⟩:Ch) :: d.chs=c :: earlier:=hs
      cases hs'
      refine ⟨by rw [Rset_self],hall,?_⟩
      refine ⟨o,ho,?_⟩
      show OpW P o.op (Rset R n _ n).env (lay base _ _ d.st.hs) (Rset R n _ n).val (stOf [] S2.hs)
      rw [Rset_self,← hS1]
      exact h6
    | cons c' later' =>
      have hs':(⟨n,anc,d.st⟩:Ch) :: d.chs=c' :: (later' ++ c :: earlier):=hs
      have hc':c'=⟨n,anc,d.st⟩:=(List.cons.inj hs').1.symm
      have hs2:d.chs=later' ++ c :: earlier:=(List.cons.inj hs').2
      subst hc'
      have hcm:c ∈ d.chs:=by rw [hs2];simp
      have:=(hI.chain later' c earlier hs2).congr (hI.chlt c hcm) (Rset_lt R n ⟨anc,dw,d.env,v,none⟩) (hI.chain_lt hcm).2.2
      obtain ⟨f1,f2,o',f3,f4⟩:=this
      refine ⟨f1,f2,o',f3,?_⟩
      rw [stOf_cons];exact f4
   ·show stOf (_ :: d.chs) S2.hs=H0
    rw [stOf_cons];exact hI.start
   ·obtain ⟨hq,hqb⟩:=(h3 q).1 hq
    rw [Rset_lt R n _ _ (hI.al_lt hq)];exact hI.pend1 q hq
   ·show (∃ q ∈ pend,q.1=i) ↔ bitN anc i=false
    by_cases e:i=n
    ·subst e;rw [Rset_self] at hi;cases hi
    ·rw [Rset_ne R _ e] at hi
     constructor
     ·rintro ⟨q,hq,rfl⟩;exact ((h3 q).1 hq).2
     ·intro hb
      have hb2:bitN (prevOf d.chs) i=false:=by
       cases hx:bitN (prevOf d.chs) i with
       | false=>rfl
       | true=>rw [hprev i hx] at hb;cases hb
      obtain ⟨q,hq,rfl⟩:=(hI.pend2 i hi).2 hb2
      exact ⟨q,(h3 q).2 ⟨hq,hb⟩,rfl⟩
end
end Go.Am
/- Drawn regions: all operations, in index order. -/
namespace Go.Am
open Classical
variable {P:Program} {ops:Array Oper} {base:Nat} {E0:Env} {H0:Hs} {n:Nat} {ancs:List (Nat × Nat × Nat × Nat)} {wr seen:Nat} {d:Dr} {R:Nat→Rec} {o:Oper}

theorem Inv.next (hI:Inv P ops base E0 H0 n ancs wr seen d R) (ho:ops[n]?=some o) {own anc dw:Nat} (hA:StepAnc ops n R o own anc dw) (hf:∀ t,o.dst=some t→bitN wr t=false∧bitN own t=false∧∀ j oj,j < n→ops[j]?=some oj→Reads ops oj t→bitN anc j=true)
  {v:V} {al:Option O} {d1:Dr} (hN:OpNext P ops base H0 n R o ⟨anc,dw,d.env,v,al⟩ d d1) {E':Env} (hE:EnvAt ops E0 (Rset R n ⟨anc,dw,d.env,v,al⟩) (n+1) E') (hs:∀ t,o.dst=some t→(tget E0 t).isSome) :
  Inv P ops base E0 H0 (n+1) ((anc,dw,slotN o.dst,own) :: ancs) (Nat.lor wr (slotN o.dst)) (Nat.lor seen own) ⟨E',d1.st,d1.pend,d1.chs,d1.rds,d1.als⟩ (Rset R n ⟨anc,dw,d.env,v,al⟩):=by
 have hR:=Rset_lt R n (⟨anc,dw,d.env,v,al⟩:Rec)
 have hRn:Rset R n (⟨anc,dw,d.env,v,al⟩:Rec) n=⟨anc,dw,d.env,v,al⟩:=Rset_self _ _ _
 have two:∀ {i:Nat},i < n+1→i < n ∨ i=n:=fun h=>by omega
 have same:∀ {o':Oper},ops[n]?=some o'→o'=o:=fun h=>by rw [ho] at h;cases h;rfl
 refine { out:=fun i hi=>?_,alen:=by simp [hI.alen],ancs:=fun j hj=>?_,wr:=fun k o' t hk hok hd=>?_,seen:=fun k o' t hk hok hd=>?_,dw:=fun i t hi ht=>?_,lt:=fun i j hi hj=>?_,edge:=fun i o' e hi hoi he hb=>?_,back:=fun i o' j hi hoi hj=>?_,
          trans:=fun i j k hi hj hk=>?_,reads:=fun i o' t k ok hi hk hoi hr hok hd=>?_,dst:=fun i oi k ok t hi hk hoi hok hdi hdk=>?_,slot:=fun i o' t hi hoi hd=>?_,envs:=fun i hi=>?_,env:=hE,kind:=fun i o' hi hoi=>?_,chlt:=fun c hc=>?_,
          chain:=hN.chain,start:=hN.start,rsel:=hN.rsel,pend1:=hN.pend1,pend2:=hN.pend2 }
 ·rw [Rset_ne R _ (by omega)];exact hI.out i (by omega)
 ·rcases two hj with hj|rfl
  ·obtain ⟨o',own',h1,h2,h3⟩:=hI.ancs j hj
   refine ⟨o',own',h1,?_,h3⟩
   rw [hR j hj,← h2]
   have e:n+1 - 1 - j=(n - 1 - j)+1:=by omega
   rw [e];rfl
  ·refine ⟨o,own,ho,?_,fun t ht=>(hA.reads t ht).1⟩
   rw [hRn]
   have e:j+1 - 1 - j=0:=by omega
   rw [e];rfl
 ·rw [bitN_lor]
  rcases two hk with hk|rfl
  ·rw [hI.wr k o' t hk hok hd];rfl
  ·rw [same hok] at hd
   rw [(bitN_slot _ _).2 hd];simp
 ·rw [bitN_lor]
  rcases two hk with hk|rfl
  ·rw [hI.seen k o' t hk hok hd];rfl
  ·rw [same hok] at hd
   rw [(hA.reads t hd).1];simp
 ·rcases two hi with hi|rfl
  ·rw [hR i hi] at ht ⊢;exact hI.dw i t hi ht
  ·rw [hRn] at ht ⊢;exact hA.dw t ht
 ·rcases two hi with hi|rfl
  ·rw [hR i hi] at hj;exact hI.lt i j hi hj
  ·rw [hRn] at hj;exact hA.lt j hj
 ·rcases two hi with hi|rfl
  ·exact hI.edge i o' e hi hoi he hb
  ·rw [same hoi] at he;exact hA.edge e he hb
 ·rcases two hi with hi|rfl
  ·rw [hR i hi] at hj
   obtain ⟨e,h1,h2,h3⟩:=hI.back i o' j hi hoi hj
   have hlt:=hI.edge i o' e hi hoi h1 h2
   exact ⟨e,h1,h2,by rw [hR e.on (by omega)];exact h3⟩
  ·rw [hRn] at hj
   rw [same hoi]
   obtain ⟨e,h1,h2,h3⟩:=hA.back j hj
   have hlt:=hA.edge e h1 h2
   exact ⟨e,h1,h2,by rw [hR e.on hlt];exact h3⟩
 ·rcases two hi with hi|rfl
  ·rw [hR i hi] at hj ⊢
   have:=hI.lt i j hi hj
   rw [hR j (by omega)] at hk
   exact hI.trans i j k hi hj hk
  ·rw [hRn] at hj ⊢
   rw [hR j (hA.lt j hj)] at hk
   exact hA.trans j k hj hk
 ·rcases two hi with hi|rfl
  ·rw [hR i hi]
   rcases two hk with hk|rfl
   ·rw [hR k hk];exact hI.reads i o' t k ok hi hk hoi hr hok hd
   ·rw [same hok] at hd
    rw [hRn];exact .inr ((hf t hd).2.2 i o' hi hoi hr)
  ·rw [hRn]
   rw [same hoi] at hr
   rcases two hk with hk|rfl
   ·exact .inl ((hA.reads t hr).2 k ok hk hok hd)
   ·rw [same hok] at hd
    have h1:=(hA.reads t hr).1
    rw [(hf t hd).2.1] at h1;cases h1
 ·rcases two hi with hi|rfl
  ·rcases two hk with hk|rfl
   ·exact hI.dst i oi k ok t hi hk hoi hok hdi hdk
   ·rw [same hok] at hdk
    have h1:=hI.wr i oi t hi hoi hdi
    rw [(hf t hdk).1] at h1;cases h1
  ·rcases two hk with hk|rfl
   ·rw [same hoi] at hdi
    have h1:=hI.wr k ok t hk hok hdk
    rw [(hf t hdi).1] at h1;cases h1
   ·rfl
 ·rcases two hi with hi|rfl
  ·exact hI.slot i o' t hi hoi hd
  ·rw [same hoi] at hd;exact hs t hd
 ·rcases two hi with hi|rfl
  ·rw [hR i hi]
   exact (hI.envs i hi).congr fun k hk=>hR k (by omega)
  ·rw [hRn]
   exact hI.env.congr fun k hk=>hR k hk
 ·rcases two hi with hi|rfl
  ·rw [hR i hi]
   exact (hI.kind i o' hi hoi).mono hi hN.rds hN.als hN.chs hN.new
  ·rw [hRn,same hoi]
   exact hN.self.mono (n:=i+1) (by omega) (fun _ h=>h) (fun _ h=>h) (fun _ h=>h) (fun _ h=>.inl h)
 ·rcases hN.new c hc with h|h
  ·have:=hI.chlt c h;omega
  ·omega
theorem drOps_spec {rc:CallT} {rd:RoundT} (hc:CallOk P rc) (hd:RoundOk P rd):∀ (l:List Oper) (n:Nat) (ancs:List (Nat × Nat × Nat × Nat)) (wr seen:Nat) (d:Dr) (R:Nat→Rec) (k:Dr→Prop),ops.toList.drop n=l→n ≤ ops.size →
  Inv P ops base E0 H0 n ancs wr seen d R→drOps P rc rd base ops.toList l n ancs wr seen d k→∃ d' R' ancs' wr' seen',k d'∧Inv P ops base E0 H0 ops.size ancs' wr' seen' d' R'
 | [],n,ancs,wr,seen,d,R,k,hl,hn,hI,h=>by
   have:n=ops.size:=by
    have h1:=List.drop_eq_nil_iff.1 hl
    simp at h1;omega
   subst this
   exact ⟨d,R,ancs,wr,seen,h,hI⟩
 | o :: l,n,ancs,wr,seen,d,R,k,hl,hn,hI,h=>by
   have ho:ops[n]?=some o:=by
    have:(ops.toList.drop n)[0]?=some o:=by rw [hl];rfl
    rw [List.getElem?_drop] at this
    simpa using this
   have hlt:n < ops.size:=(Array.getElem?_eq_some_iff.1 ho).1
   have hl':ops.toList.drop (n+1)=l:=by
    have:=congrArg (List.drop 1) hl
    rw [List.drop_drop] at this
    simpa [Nat.add_comm] using this
   have h0:Sx.rec (motive:=fun _=>Prop) (fun anc dw own wr seen =>
    guardK d.env ops.toList o.guard (drOp P rc rd base n anc o.op d fun v d=>drPut d o.dst v fun d=>drOps P rc rd base ops.toList l (Nat.succ n) ((anc,dw,slotN o.dst,own) :: ancs) wr seen d k)
       (drPut d o.dst undefV fun d=>drOps P rc rd base ops.toList l (Nat.succ n) ((anc,dw,slotN o.dst,own) :: ancs) wr seen d k)) False (stepS ops.toList n ancs wr seen o):=h
   cases hst:stepS ops.toList n ancs wr seen o with
   | bad=>rw [hst] at h0;exact h0.elim
   | ok anc dw own wr' seen' =>
   rw [hst] at h0
   obtain ⟨hA,h2,rfl,rfl⟩:=stepAnc hI hst
   have h5:guardK d.env ops.toList o.guard (drOp P rc rd base n anc o.op d fun v d=>drPut d o.dst v fun d=>drOps P rc rd base ops.toList l (Nat.succ n) ((anc,dw,slotN o.dst,own) :: ancs) (Nat.lor wr (slotN o.dst)) (Nat.lor seen own) d k)
          (drPut d o.dst undefV fun d=>drOps P rc rd base ops.toList l (Nat.succ n) ((anc,dw,slotN o.dst,own) :: ancs) (Nat.lor wr (slotN o.dst)) (Nat.lor seen own) d k):=h0
   have hf:∀ t,o.dst=some t→bitN wr t=false∧bitN own t=false∧∀ j oj,j < n→ops[j]?=some oj→Reads ops oj t→bitN anc j=true:=fun t ht=>by
    obtain ⟨q1,q2,q3⟩:=dstK_spec h2 ht
    refine ⟨q1,q2,fun j oj hj hoj hr=>?_⟩
    rcases q3 with q3|q3
    ·have:=hI.seen j oj t hj hoj hr
     rw [q3] at this;cases this
    ·obtain ⟨o',own',e1,e2,e3⟩:=hI.ancs j hj
     rw [hoj] at e1;cases e1
     exact freeK_spec hI.alen q3 j _ hj e2 (e3 t hr)
   have fin:∀ {v:V} {al:Option O} {d1:Dr},OpNext P ops base H0 n R o ⟨anc,dw,d.env,v,al⟩ d d1→(drPut d1 o.dst v fun d=>drOps P rc rd base ops.toList l (Nat.succ n) ((anc,dw,slotN o.dst,own) :: ancs) (Nat.lor wr (slotN o.dst)) (Nat.lor seen own) d k) →
     ∃ d' R' ancs' wr' seen',k d'∧Inv P ops base E0 H0 ops.size ancs' wr' seen' d' R':=fun {v al d1} hN hp=>by
    unfold drPut at hp
    rw [hN.env] at hp
    obtain ⟨E',h7,h8,h9⟩:=hI.env.put (Rset_lt R n ⟨anc,dw,d.env,v,al⟩) ho (by rw [Rset_self]) hp
    exact drOps_spec hc hd l (n+1) _ _ _ _ _ k hl' (by omega) (hI.next ho hA hf hN h8 h9) h7
   rcases guardK_gd h5 with ⟨h6,hg⟩|⟨h6,hg⟩
   ·obtain ⟨v,d1,al,h7,hN⟩:=drOp_spec hc hd hI ho hA hg h6
    exact fin hN h7
   ·exact fin (hI.still rfl rfl rfl rfl rfl (fun _ h=>h) rfl (.skip hg rfl rfl fun c hc=>by have:=hI.chlt c hc;omega)) h6

/-- A reader at a heap, with objects that lie beside it. -/
def RdAtS (P:Program) (r:Rd) (prev:Nat) (H:Hs):Prop:=∃ H1,ReadS P r.op r.env H1 r.val∧H1.next=H.next∧∀ id o,H1.get id=some o→H.get id=some o ∨ ∃ q ∈ r.sel,bitN prev q.1=false∧q.2.1=id∧q.2.2=o
/-- What the readers and the numbers come to. -/
theorem rdAll_spec {r:Rd}:∀ {chs:List Ch} {S:St} {nxt:Option Nat} {k:Prop},rdAll P r chs nxt S k→k∧∀ later earlier,chs=later ++ earlier→bitN (prevOf earlier) r.idx=true ∨
  (match later.getLast? with|some c=>bitN r.anc c.idx=true|none=>∃ n,nxt=some n∧bitN r.anc n=true) ∨ RdAtS P r (prevOf earlier) (stOf later S.hs):=by
 have one:∀ {prev:Nat} {S:St} {nxt:Option Nat} {k:Prop},rdAt P r prev nxt S k→k∧(bitN prev r.idx=true ∨ (∃ n,nxt=some n∧bitN r.anc n=true) ∨ RdAtS P r prev S.hs):=fun {prev S nxt k} h=>by
  unfold rdAt at h
  cases hb:bitN prev r.idx with
  | true=>rw [hb] at h;exact ⟨h,.inl rfl⟩
  | false =>
    rw [hb] at h
    have rest:(putsK prev r.sel S fun S=>readK P r.op r.env S (fun v=>ifK (eqV 8 r.val v) k))→k∧((false=true) ∨ (∃ n,nxt=some n∧bitN r.anc n=true) ∨ RdAtS P r prev S.hs):=fun h=>by
     obtain ⟨S1,h,hn,hsub⟩:=putsK_spec h
     obtain ⟨v,h1,h2⟩:=readK_spec h
     obtain ⟨h3,h4⟩:=vY h1
     rw [← eqV_spec h3] at h2
     exact ⟨h4,.inr (.inr ⟨_,h2,hn,hsub⟩)⟩
    cases nxt with
    | none=>exact rest h
    | some m =>
      have h':Bool.rec (motive:=fun _=>Prop) (putsK prev r.sel S fun S=>readK P r.op r.env S fun v=>ifK (eqV 8 r.val v) k) k (bitN r.anc m):=h
      cases hm:bitN r.anc m with
      | true=>rw [hm] at h';exact ⟨h',.inr (.inl ⟨m,rfl,hm⟩)⟩
      | false=>rw [hm] at h';exact rest h'
 intro chs
 induction chs with
 | nil =>
   intro S nxt k h
   obtain ⟨h1,h2⟩:=one (show rdAt P r 0 nxt S k from h)
   refine ⟨h1,fun later earlier hs=>?_⟩
   obtain ⟨rfl,rfl⟩:=List.append_eq_nil_iff.1 hs.symm
   exact h2
 | cons c l ih =>
   intro S nxt k h
   obtain ⟨h1,h2⟩:=one (show rdAt P r c.anc nxt S (rdAll P r l (some c.idx) c.st k) from h)
   obtain ⟨h3,h4⟩:=ih h1
   refine ⟨h3,fun later earlier hs=>?_⟩
   cases later with
   | nil=>cases hs;exact h2
   | cons c' later' =>
     have hc:c=c':=(List.cons.inj hs).1
     subst hc
     have hs2:l=later' ++ earlier:=(List.cons.inj hs).2
     rw [stOf_cons]
     rcases h4 later' earlier hs2 with h5|h5|h5
     ·exact .inl h5
     ·refine .inr (.inl ?_)
      cases later' with
      | nil =>
        obtain ⟨m,hm,hb⟩:=h5
        cases hm;exact hb
      | cons c2 l2=>rw [List.getLast?_cons_cons];exact h5
     ·exact .inr (.inr h5)
theorem rdsAll_spec {chs:List Ch} {S:St}:∀ {l:List Rd} {k:Prop},rdsAll P chs S l k→k∧∀ r ∈ l,∀ later earlier,chs=later ++ earlier→bitN (prevOf earlier) r.idx=true ∨
  (match later.getLast? with|some c=>bitN r.anc c.idx=true|none=>False) ∨ RdAtS P r (prevOf earlier) (stOf later S.hs)
 | [],k,h=>⟨h,by simp⟩
 | r :: l,k,h=>by
   obtain ⟨h1,h2⟩:=rdAll_spec (show rdAll P r chs none S (rdsAll P chs S l k) from h)
   obtain ⟨h3,h4⟩:=rdsAll_spec h1
   refine ⟨h3,fun x hx later earlier hs=>?_⟩
   rcases List.mem_cons.1 hx with rfl|hx
   ·rcases h2 later earlier hs with h5|h5|h5
    ·exact .inl h5
    ·refine .inr (.inl ?_)
     cases hl:later.getLast? with
     | none=>rw [hl] at h5;obtain ⟨m,hm,_⟩:=h5;cases hm
     | some c=>rw [hl] at h5;exact h5
    ·exact .inr (.inr h5)
   ·exact h4 x hx later earlier hs
theorem alAll_spec {i id:Nat}:∀ {chs:List Ch} {S:St} {k:Prop},alAll i id chs S k→k∧∀ later earlier,chs=later ++ earlier→bitN (prevOf earlier) i=true ∨ (stOf later S.hs).get id=none:=by
 have one:∀ {prev:Nat} {S:St} {k:Prop},noneK i id prev S k→k∧(bitN prev i=true ∨ S.hs.get id=none):=fun {prev S k} h=>by
  unfold noneK at h
  cases hb:bitN prev i with
  | true=>rw [hb] at h;exact ⟨h,.inl rfl⟩
  | false =>
    rw [hb] at h
    have h':Option.rec (motive:=fun _=>Prop) k (fun _=>False) (T.get deep id S.hp):=h
    cases hg:T.get deep id S.hp with
    | none=>rw [hg] at h';exact ⟨h',.inr hg⟩
    | some x=>rw [hg] at h';exact h'.elim
 intro chs
 induction chs with
 | nil =>
   intro S k h
   obtain ⟨h1,h2⟩:=one (show noneK i id 0 S k from h)
   refine ⟨h1,fun later earlier hs=>?_⟩
   obtain ⟨rfl,rfl⟩:=List.append_eq_nil_iff.1 hs.symm
   exact h2
 | cons c l ih =>
   intro S k h
   obtain ⟨h1,h2⟩:=one (show noneK i id c.anc S (alAll i id l c.st k) from h)
   obtain ⟨h3,h4⟩:=ih h1
   refine ⟨h3,fun later earlier hs=>?_⟩
   cases later with
   | nil=>cases hs;exact h2
   | cons c' later' =>
     have hc:c=c':=(List.cons.inj hs).1
     subst hc
     rw [stOf_cons]
     exact h4 later' earlier (List.cons.inj hs).2
theorem alsAll_spec {chs:List Ch} {S:St}:∀ {l:List (Nat × Nat)} {k:Prop},alsAll chs S l k→k∧∀ q ∈ l,∀ later earlier,chs=later ++ earlier→bitN (prevOf earlier) q.1=true ∨ (stOf later S.hs).get q.2=none
 | [],k,h=>⟨h,by simp⟩
 | q :: l,k,h=>by
   obtain ⟨h1,h2⟩:=alAll_spec (show alAll q.1 q.2 chs S (alsAll chs S l k) from h)
   obtain ⟨h3,h4⟩:=alsAll_spec h1
   refine ⟨h3,fun x hx=>?_⟩
   rcases List.mem_cons.1 hx with rfl|hx
   ·exact h2
   ·exact h4 x hx
end Go.Am
/- Drawn regions: whatever order is drawn. -/
namespace Go.Am
open Classical
variable {P:Program}

theorem Ext.comp {ρ ρ1 ρ2:Rho} {S S1 S2:Hs} {w w1 w2:World} (h:Ext ρ S w ρ1 S1 w1) (rho:∀ id,id < S.next→ρ2 id=ρ1 id) (next:S1.next ≤ S2.next) (size:w1.heap.size ≤ w2.heap.size)
  (keep:∀ b,b < w1.heap.size→¬ Own ρ1 S1 b→w2.heap[b]?=w1.heap[b]?) (own:∀ b,Own ρ2 S2 b→w1.heap.size ≤ b ∨ Own ρ1 S1 b) (has:∀ b,Has ρ2 S2 b→w1.heap.size ≤ b ∨ Has ρ1 S1 b)
  (tape:w2.tape=w1.tape) (os:w2.os=w1.os) (output:w2.output=w1.output) (drawn:w1.drawn ≤ w2.drawn):Ext ρ S w ρ2 S2 w2 where
 rho id hid:=by rw [rho id hid,h.rho id hid]
 next:=Nat.le_trans h.next next
 size:=Nat.le_trans h.size size
 keep b hb hn:=by
  rw [keep b (Nat.lt_of_lt_of_le hb h.size) (fun ho=>by
   rcases h.own b ho with h'|h'
   ·omega
   ·exact hn h'),h.keep b hb hn]
 own b hb:=by
  rcases own b hb with h'|h'
  ·exact .inl (Nat.le_trans h.size h')
  ·exact h.own b h'
 has b hb:=by
  rcases has b hb with h'|h'
  ·exact .inl (Nat.le_trans h.size h')
  ·exact h.has b h'
 tape:=tape.trans h.tape
 os:=os.trans h.os
 output:=output.trans h.output
 drawn:=Nat.le_trans h.drawn drawn
theorem Ext.frame {ρ ρ':Rho} {H A A' H':Hs} {B:Nat→Option O} {w w':World} (hA:∀ id o,A.get id=some o→H.get id=some o) (hB:∀ id o,B id=some o→H.get id=some o)
  (hnx:A.next=H.next) (hlt:∀ id,(B id).isSome→id < A.next) (hx:Ext ρ A w ρ' A' w') (hn':H'.next=A'.next) (hH':∀ id o,H'.get id=some o→A'.get id=some o ∨ B id=some o):Ext ρ H w ρ' H' w' where
 rho id hid:=hx.rho id (by rw [hnx];exact hid)
 next:=by rw [hn',← hnx];exact hx.next
 size:=hx.size
 keep b hb hn:=hx.keep b hb fun ⟨id,l,h1,h2,h3,h4⟩=>by
  obtain ⟨o,ho⟩:=Option.isSome_iff_exists.1 h1
  exact hn ⟨id,l,by rw [hA id o ho];rfl,h2,h3,h4⟩
 own b:=fun ⟨id,l,h1,h2,h3,h4⟩=>by
  obtain ⟨o,ho⟩:=Option.isSome_iff_exists.1 h1
  rcases hH' id o ho with h|h
  ·rcases hx.own b ⟨id,l,by rw [h];rfl,h2,h3,h4⟩ with h5|⟨id2,l2,k1,k2,k3,k4⟩
   ·exact .inl h5
   ·obtain ⟨o2,ho2⟩:=Option.isSome_iff_exists.1 k1
    exact .inr ⟨id2,l2,by rw [hA id2 o2 ho2];rfl,k2,k3,k4⟩
  ·rw [hx.rho id (hlt id (by rw [h];rfl))] at h2
   exact .inr ⟨id,l,by rw [hB id o h];rfl,h2,h3,h4⟩
 has b:=fun ⟨id,l,h1,h2,h4⟩=>by
  obtain ⟨o,ho⟩:=Option.isSome_iff_exists.1 h1
  rcases hH' id o ho with h|h
  ·rcases hx.has b ⟨id,l,by rw [h];rfl,h2,h4⟩ with h5|⟨id2,l2,k1,k2,k4⟩
   ·exact .inl h5
   ·obtain ⟨o2,ho2⟩:=Option.isSome_iff_exists.1 k1
    exact .inr ⟨id2,l2,by rw [hA id2 o2 ho2];rfl,k2,k4⟩
  ·rw [hx.rho id (hlt id (by rw [h];rfl))] at h2
   exact .inr ⟨id,l,by rw [hB id o h];rfl,h2,h4⟩
 tape:=hx.tape
 os:=hx.os
 output:=hx.output
 drawn:=hx.drawn

theorem lay_in {base:Nat} {al:Nat→Option O} {p:Nat→Prop} {H:Hs} {i:Nat} {ob:O} (ha:al i=some ob) (hp:p i):(lay base al p H).get (base+i)=some ob:=by
 show (if _ then _ else _)=_
 rw [if_pos ⟨by omega,by rw [Nat.add_sub_cancel_left];exact hp,by rw [Nat.add_sub_cancel_left,ha];rfl⟩,Nat.add_sub_cancel_left,ha]
theorem lay_cases {base:Nat} {al:Nat→Option O} (p:Nat→Prop) (H:Hs) (id:Nat):(∃ i ob,id=base+i∧p i∧al i=some ob∧(lay base al p H).get id=some ob) ∨ ((∀ i ob,id=base+i→p i→al i=some ob→False)∧(lay base al p H).get id=H.get id):=by
 by_cases h:base ≤ id∧p (id - base)∧(al (id - base)).isSome
 ·obtain ⟨h1,h2,h3⟩:=h
  obtain ⟨ob,hob⟩:=Option.isSome_iff_exists.1 h3
  refine .inl ⟨id - base,ob,by omega,h2,hob,?_⟩
  have:=lay_in (H:=H) (base:=base) hob h2
  rwa [show base+(id - base)=id by omega] at this
 ·refine .inr ⟨fun i ob hi hp ha=>?_,?_⟩
  ·subst hi
   exact h ⟨by omega,by rw [Nat.add_sub_cancel_left];exact hp,by rw [Nat.add_sub_cancel_left,ha];rfl⟩
  ·show (if _ then _ else _)=_
   rw [if_neg h]

section
variable {ops:Array Oper} {base:Nat} {E0:Env} {H0 Hb:Hs} {ancs:List (Nat × Nat × Nat × Nat)} {wr seen:Nat} {d:Dr} {R:Nat→Rec} {ρ0:Rho} {w0:World} {D:List Nat} {ro:Option Nat} {Q:Exit→Act→World→Prop}
noncomputable abbrev heapL (base:Nat) (d:Dr) (R:Nat→Rec) (later earlier:List Ch) (L:Nat→Prop):Hs:=lay base (fun i=>(R i).al) (fun i=>L i∧bitN (prevOf earlier) i=false) (stOf later d.st.hs)
/-- Where a run stands that has done the operations of a set. -/
structure At (ops:Array Oper) (base:Nat) (E0:Env) (d:Dr) (R:Nat→Rec) (ρ0:Rho) (Hb:Hs) (w0:World) (D:List Nat) (later earlier:List Ch) (L:Nat→Prop) (ρ:Rho) (a:Act) (w:World):Prop where
 split:d.chs=later ++ earlier
 ear:∀ c ∈ earlier,L c.idx
 lat:∀ c ∈ later,¬ L c.idx
 closed:∀ i j,L i→bitN (R i).anc j=true→L j
 size:∀ i,L i→i < ops.size
 done:∀ k o t,L k→ops[k]?=some o→o.dst=some t→∃ v',a.tmps[t]?=some v'∧VR ρ (R k).val v'
 rest:∀ t v,(∀ k o,L k→ops[k]?=some o→o.dst ≠ some t)→tget E0 t=some v→∃ v',a.tmps[t]?=some v'∧VR ρ v v'
 slots:∀ t,(tget E0 t).isSome→t < a.tmps.size
 dr:DR ρ D a.defers
 gl:Globs ρ
 sim:Sim ρ (heapL base d R later earlier L) w
 ext:Ext ρ0 Hb w0 ρ (heapL base d R later earlier L) w
 nx:base+ops.size ≤ (stOf later d.st.hs).next
 free:∀ i,¬ L i→i < ops.size→ρ (base+i)=none

theorem At.ers {later earlier:List Ch} {L:Nat→Prop} {ρ:Rho} {a:Act} {w:World} (hI:Inv P ops base E0 H0 ops.size ancs wr seen d R) (hat:At ops base E0 d R ρ0 Hb w0 D later earlier L ρ a w)
  {i:Nat} {o:Oper} (ho:ops[i]?=some o) (hi:i < ops.size) (hnL:¬ L i) (hL:∀ j,bitN (R i).anc j=true→L j):ERs ρ (R i).env a.tmps (Reads ops o):=fun t v hr hv=>by
 obtain ⟨h0,h1⟩:=hI.envs i hi t v hv
 rcases h1 with ⟨k,ok,hk,hok,hd,rfl⟩|⟨hno,hv0⟩
 ·refine hat.done k ok t (hL k ?_) hok hd
  rcases hI.reads i o t k ok hi (by omega) ho hr hok hd with h|h
  ·exact h
  ·have:=hI.lt k i (by omega) h;omega
 ·refine hat.rest t v (fun k ok hk hok hd=>?_) hv0
  have hks:=hat.size k hk
  rcases hI.reads i o t k ok hi hks ho hr hok hd with hb|hb
  ·exact hno k ok (hI.lt i k hi hb) hok hd
  ·exact hnL (hat.closed k i hk hb)
/-- The slots, once an operation is done. -/
theorem At.put {later earlier:List Ch} {L:Nat→Prop} {ρ ρ':Rho} {a:Act} {w:World} (hI:Inv P ops base E0 H0 ops.size ancs wr seen d R) (hat:At ops base E0 d R ρ0 Hb w0 D later earlier L ρ a w)
  {i:Nat} {o:Oper} (ho:ops[i]?=some o) (hi:i < ops.size) (hle:ρ.le ρ') {v':Value} (hv:VR ρ' (R i).val v') :
  (∀ k ok t,(k=i ∨ L k)→ops[k]?=some ok→ok.dst=some t→∃ u,(a.put o.dst v').tmps[t]?=some u∧VR ρ' (R k).val u) ∧
  (∀ t u,(∀ k ok,(k=i ∨ L k)→ops[k]?=some ok→ok.dst ≠ some t)→tget E0 t=some u→∃ u',(a.put o.dst v').tmps[t]?=some u'∧VR ρ' u u') ∧
  (∀ t,(tget E0 t).isSome→t < (a.put o.dst v').tmps.size)∧DR ρ' D (a.put o.dst v').defers:=by
 have old:∀ t,o.dst ≠ some t→(a.put o.dst v').tmps[t]?=a.tmps[t]?:=fun t ht=>by
  cases hd:o.dst with
  | none=>rfl
  | some s =>
    have:s ≠ t:=fun e=>ht (by rw [hd,e])
    show (a.tmps.setIfInBounds s v')[t]?=_
    rw [Array.getElem?_setIfInBounds_ne this]
 have new:∀ t,o.dst=some t→(a.put o.dst v').tmps[t]?=some v':=fun t ht=>by
  have hlt:=hat.slots t (hI.slot i o t hi ho ht)
  rw [ht]
  show (a.tmps.setIfInBounds t v')[t]?=_
  simp [hlt]
 refine ⟨fun k ok t hk hok hd=>?_,fun t u hno hu=>?_,fun t ht=>?_,?_⟩
 ·by_cases e:k=i
  ·subst e
   rw [ho] at hok;cases hok
   exact ⟨v',new t hd,hv⟩
  ·have hk':L k:=hk.resolve_left e
   have hne:o.dst ≠ some t:=fun h=>e (hI.dst k ok i o t (hat.size k hk') hi hok ho hd h)
   obtain ⟨u,h1,h2⟩:=hat.done k ok t hk' hok hd
   exact ⟨u,by rw [old t hne];exact h1,h2.mono hle⟩
 ·have hne:o.dst ≠ some t:=hno i o (.inl rfl) ho
  obtain ⟨u',h1,h2⟩:=hat.rest t u (fun k ok hk=>hno k ok (.inr hk)) hu
  exact ⟨u',by rw [old t hne];exact h1,h2.mono hle⟩
 ·have:=hat.slots t ht
  cases hd:o.dst with
  | none=>exact this
  | some s=>show t < (a.tmps.setIfInBounds s v').size;simpa using this
 ·have:(a.put o.dst v').defers=a.defers:=by cases o.dst <;> rfl
  rw [this];exact hat.dr.mono hle

theorem wpOpIn_nx {i:Nat} {o:Oper} {ρ:Rho} {H H':Hs} {v:V} {a:Act} {w:World} {K:Act→World→Prop} (hi:ops[i]?=some o) (hw:Region.wanted o (yielded ops a.tmps)=true) (hnd:∀ c,o.op ≠ .defer c)
  (h:Nx P ρ H w v H' ((execOp a.eval o).run P w)) (hk:∀ v' w' ρ',VR ρ' v v'→Sim ρ' H' w'→Ext ρ H w ρ' H' w'→K (a.put o.dst v') w'):wpOpIn (W ro) 0 P ops Q i K a w:=by
 unfold wpOpIn
 simp only [hi,hw,if_true]
 refine ⟨fun f _=>trivial,?_⟩
 rw [Oper.semAt_eq _ _ _ hnd]
 exact h.upon hk
theorem wpOpIn_val {i:Nat} {o:Oper} {a:Act} {w w':World} {v':Value} {K:Act→World→Prop} (hi:ops[i]?=some o) (hw:Region.wanted o (yielded ops a.tmps)=true) (hnd:∀ c,o.op ≠ .defer c)
  (h:(execOp a.eval o).run P w=.ok (.value v') w') (hk:K (a.put o.dst v') w'):wpOpIn (W ro) 0 P ops Q i K a w:=by
 unfold wpOpIn
 simp only [hi,hw,if_true]
 refine ⟨fun f _=>trivial,?_⟩
 rw [Oper.semAt_eq _ _ _ hnd,h]
 exact hk
end
end Go.Am
/- Drawn regions: one step of any order; all orders. -/
namespace Go.Am
open Classical
variable {P:Program} {ops:Array Oper} {base:Nat} {E0:Env} {H0 Hb:Hs} {ancs:List (Nat × Nat × Nat × Nat)} {wr seen:Nat} {d:Dr} {R:Nat→Rec} {ρ0:Rho} {w0:World} {D:List Nat} {ro:Option Nat} {Q:Exit→Act→World→Prop}

def RdFact (P:Program) (d:Dr):Prop:=∀ r ∈ d.rds,∀ later earlier,d.chs=later ++ earlier→bitN (prevOf earlier) r.idx=true ∨ (match later.getLast? with|some c=>bitN r.anc c.idx=true|none=>False) ∨ RdAtS P r (prevOf earlier) (stOf later d.st.hs)
def AlFact (d:Dr):Prop:=∀ q ∈ d.als,∀ later earlier,d.chs=later ++ earlier→bitN (prevOf earlier) q.1=true ∨ (stOf later d.st.hs).get q.2=none
theorem Inv.alFact (hI:Inv P ops base E0 H0 ops.size ancs wr seen d R) (hAl:AlFact d) {i:Nat} {ob:O} (h:(R i).al=some ob) {later earlier:List Ch} (hs:d.chs=later ++ earlier) :
  i < ops.size∧(bitN (prevOf earlier) i=true ∨ (stOf later d.st.hs).get (base+i)=none):=by
 have hlt:i < ops.size:=by
  rcases Nat.lt_or_ge i ops.size with h'|h'
  ·exact h'
  ·rw [hI.out i h'] at h;cases h
 refine ⟨hlt,?_⟩
 have hk:=hI.kind i ops[i] hlt (by simp [hlt])
 cases hk with
 | alloc g hd ob mk ha h hv hm n=>exact hAl _ hm later earlier hs
 | skip g hv ha n=>rw [h] at ha;cases ha
 | pure g hd h2 ha n=>rw [h] at ha;cases ha
 | read g hd _ h2 ha n=>rw [h] at ha;cases ha
 | chain g hd c hc hi ha=>rw [h] at ha;cases ha
section
variable {later earlier:List Ch} {L:Nat→Prop} {ρ:Rho} {a:Act} {w:World}
theorem At.prev (hI:Inv P ops base E0 H0 ops.size ancs wr seen d R) (hat:At ops base E0 d R ρ0 Hb w0 D later earlier L ρ a w) {i:Nat} (h:bitN (prevOf earlier) i=true):L i:=by
 cases he:earlier with
 | nil=>rw [he] at h;exact absurd h (by show ¬ bitN 0 i=true;rw [bitN_zero];simp)
 | cons c l =>
   rw [he] at h
   have hc:c ∈ d.chs:=by rw [hat.split,he];simp
   exact hat.closed c.idx i (hat.ear c (by rw [he];simp)) (by rw [← (hI.chain_lt hc).1];exact h)
/-- Nothing acts, nothing is made: the same world. -/
theorem At.still (hI:Inv P ops base E0 H0 ops.size ancs wr seen d R) (hat:At ops base E0 d R ρ0 Hb w0 D later earlier L ρ a w) {i:Nat} {o:Oper} (ho:ops[i]?=some o) (hi:i < ops.size) (hL:∀ j,bitN (R i).anc j=true→L j)
  (ha:(R i).al=none) (hn:∀ c ∈ d.chs,c.idx ≠ i) {v':Value} (hv:VR ρ (R i).val v'):At ops base E0 d R ρ0 Hb w0 D later earlier (fun k=>k=i ∨ L k) ρ (a.put o.dst v') w:=by
 obtain ⟨p1,p2,p3,p4⟩:=hat.put hI ho hi (Rho.le_refl ρ) hv
 have hH:heapL base d R later earlier (fun k=>k=i ∨ L k)=heapL base d R later earlier L:=lay_congr _ fun j=>⟨⟨fun ⟨⟨x,y⟩,z⟩=>by
   rcases x with rfl|x
   ·rw [ha] at z;cases z
   ·exact ⟨⟨x,y⟩,z⟩,fun ⟨⟨x,y⟩,z⟩=>⟨⟨.inr x,y⟩,z⟩⟩,fun _ _=>rfl⟩
 exact { split:=hat.split,ear:=fun c hc=>.inr (hat.ear c hc),lat:=fun c hc h=>h.elim (fun e=>hn c (by rw [hat.split];simp [hc]) e) (hat.lat c hc),
         closed:=fun x j hx hj=>.inr (hx.elim (fun e=>hL j (by rw [← e];exact hj)) (fun hx=>hat.closed x j hx hj)),size:=fun x hx=>hx.elim (fun e=>by rw [e];exact hi) (hat.size x),
         done:=p1,rest:=p2,slots:=p3,dr:=p4,gl:=hat.gl,sim:=by rw [hH];exact hat.sim,ext:=by rw [hH];exact hat.ext,nx:=hat.nx,free:=fun x hx hlt=>hat.free x (fun h=>hx (.inr h)) hlt }
theorem At.step (hI:Inv P ops base E0 H0 ops.size ancs wr seen d R) (hRd:RdFact P d) (hAl:AlFact d) (hbase:Hb.next=base) (hat:At ops base E0 d R ρ0 Hb w0 D later earlier L ρ a w) {i:Nat} {o:Oper} (ho:ops[i]?=some o) (hnL:¬ L i)
  (hready:∀ e ∈ o.after.toList,bindE e=true→L e.on) {K:Act→World→Prop}
  (hK:∀ later' earlier' ρ' a' w',At ops base E0 d R ρ0 Hb w0 D later' earlier' (fun k=>k=i ∨ L k) ρ' a' w'→K a' w'):wpOpIn (W ro) 0 P ops Q i K a w:=by
 have hi:i < ops.size:=(Array.getElem?_eq_some_iff.1 ho).1
 have hL:∀ j,bitN (R i).anc j=true→L j:=fun j hj=>by
  obtain ⟨e,he,hb,hc⟩:=hI.back i o j hi ho hj
  rcases hc with rfl|hc
  ·exact hready e he hb
  ·exact hat.closed _ _ (hready e he hb) hc
 have hers:=hat.ers hI ho hi hnL hL
 have hev:EvR ρ (R i).env a.eval o.op.operands.toList:=by
  rw [eval_evT];exact EvR.of_ERs hers hat.gl fun t ht=>.inl ht
 have hnp:bitN (prevOf earlier) i=false:=by
  cases hb:bitN (prevOf earlier) i with
  | false=>rfl
  | true=>exact absurd (hat.prev hI hb) hnL
 -- the heap is more than that of the acting operations alone
 have hsub:∀ id ob,(stOf later d.st.hs).get id=some ob→(heapL base d R later earlier L).get id=some ob:=fun id ob h=>by
  rcases lay_cases (base:=base) (al:=fun i=>(R i).al) (fun i=>L i∧bitN (prevOf earlier) i=false) (stOf later d.st.hs) id with ⟨j,ob',rfl,⟨h1,h2⟩,h3,h4⟩|⟨h1,h2⟩
  ·rcases (hI.alFact hAl h3 hat.split).2 with h5|h5
   ·rw [h2] at h5;cases h5
   ·rw [h] at h5;cases h5
  ·rw [h2];exact h
 have hsimS:Sim ρ (stOf later d.st.hs) w:=hat.sim.restrict hsub (Nat.le_refl _)
 have hk:=hI.kind i o hi ho
 cases hk with
 | skip g hv ha hn =>
   unfold wpOpIn
   simp only [ho,g ρ a.tmps hers,Bool.false_eq_true,if_false]
   exact ⟨fun f _=>trivial,hK later earlier ρ _ w (hat.still hI ho hi hL ha hn (by rw [hv];exact VR.undef ρ))⟩
 | pure g hd h ha hn =>
   obtain ⟨v',h1,h2⟩:=h ρ a.eval o w rfl hev
   exact wpOpIn_val ho (g ρ a.tmps hers) hd h1 (hK later earlier ρ _ w (hat.still hI ho hi hL ha hn h2))
 | read g hd sel h ha hn =>
   have hr:RdAtS P ⟨o.op,i,(R i).anc,(R i).env,(R i).val,sel⟩ (prevOf earlier) (stOf later d.st.hs):=by
    rcases hRd _ h later earlier hat.split with h1|h1|h1
    ·exact absurd (hat.prev hI h1) hnL
    ·cases hl:later.getLast? with
     | none=>rw [hl] at h1;exact h1.elim
     | some c =>
       rw [hl] at h1
       exact absurd (hL _ h1) (hat.lat c (List.mem_of_getLast? hl))
    ·exact h1
   obtain ⟨H1,hr,hnx,hsub1⟩:=hr
   have hsim1:Sim ρ H1 w:=hat.sim.restrict (fun id ob hid=>by
    rcases hsub1 id ob hid with h1|⟨q,hq,h1,rfl,rfl⟩
    ·exact hsub id ob h1
    ·obtain ⟨q1,q2,q3⟩:=hI.rsel _ h q hq
     rw [q1]
     exact lay_in q2 ⟨hL _ q3,h1⟩) (by rw [hnx];exact Nat.le_refl _)
   obtain ⟨v',h1,h2⟩:=hr ρ a.eval o w rfl hev hsim1
   exact wpOpIn_val ho (g ρ a.tmps hers) hd h1 (hK later earlier ρ _ w (hat.still hI ho hi hL ha hn h2))
 | alloc g hd ob mk ha h hv hm hn =>
   have h0:ρ (base+i)=none:=hat.free i hnL hi
   obtain ⟨v',co,csz,h1,h2,h3⟩:=h ρ a.eval o w (base+i) rfl hev h0
   refine wpOpIn_val ho (g ρ a.tmps hers) hd h1 (hK later earlier (ρ.put (base+i) ⟨w.heap.size,0,csz,true⟩) _ _ ?_)
   have hle:ρ.le (ρ.put (base+i) ⟨w.heap.size,0,csz,true⟩):=Rho.le_put h0 _
   obtain ⟨p1,p2,p3,p4⟩:=hat.put hI ho hi hle (v':=v') (by rw [hv];exact h2)
   have hH:heapL base d R later earlier (fun k=>k=i ∨ L k)=(heapL base d R later earlier L).put (base+i) (some ob):=by
    rw [lay_put _ ha]
    refine lay_congr _ fun j=>⟨⟨fun ⟨⟨x,y⟩,z⟩=>⟨x.elim .inl fun x=>.inr ⟨x,y⟩,z⟩,fun ⟨x,z⟩=>⟨?_,z⟩⟩,fun _ _=>rfl⟩
    rcases x with rfl|⟨x,y⟩
    ·exact ⟨.inl rfl,hnp⟩
    ·exact ⟨.inr x,y⟩
   have hg:∀ id,(heapL base d R later earlier (fun k=>k=i ∨ L k)).get id=if id=base+i then some ob else (heapL base d R later earlier L).get id:=fun id=>by rw [hH];rfl
   have hlt:base+i < (heapL base d R later earlier L).next:=Nat.lt_of_lt_of_le (by omega) hat.nx
   have hsim':Sim (ρ.put (base+i) ⟨w.heap.size,0,csz,true⟩) (heapL base d R later earlier (fun k=>k=i ∨ L k)) (w.alloc co):=hat.sim.alloc_at (Nat.le_refl _) hlt h0 hg (.inl hlt) h3
   exact { split:=hat.split,ear:=fun c hc=>.inr (hat.ear c hc),lat:=fun c hc h=>h.elim (fun e=>hn c (by rw [hat.split];simp [hc]) e) (hat.lat c hc),
           closed:=fun x j hx hj=>.inr (hx.elim (fun e=>hL j (by rw [← e];exact hj)) (fun hx=>hat.closed x j hx hj)),size:=fun x hx=>hx.elim (fun e=>by rw [e];exact hi) (hat.size x),
           done:=p1,rest:=p2,slots:=p3,dr:=p4,gl:=hat.gl.mono hle,sim:=hsim',nx:=hat.nx,
           free:=fun x hx hlt=>by
            rw [Rho.put_ne _ _ (fun e=>hx (.inl (by omega)))]
            exact hat.free x (fun h=>hx (.inr h)) hlt
           ext:=by
            refine hat.ext.comp (fun id hid=>Rho.put_ne _ _ (by omega)) (Nat.le_refl _) (by simp) (fun b hb _=>heap_alloc_old w co b hb) (fun b=>?_) (fun b=>?_) rfl rfl rfl (Nat.le_refl _)
            ·rintro ⟨id,l,q1,q2,q3,q4⟩
             rw [hg] at q1
             by_cases e:id=base+i
             ·subst e
              rw [Rho.put_self] at q2;cases q2
              exact .inl (Nat.le_of_eq q4)
             ·rw [if_neg e] at q1
              rw [Rho.put_ne _ _ e] at q2
              exact .inr ⟨id,l,q1,q2,q3,q4⟩
            ·rintro ⟨id,l,q1,q2,q4⟩
             rw [hg] at q1
             by_cases e:id=base+i
             ·subst e
              rw [Rho.put_self] at q2;cases q2
              exact .inl (Nat.le_of_eq q4)
             ·rw [if_neg e] at q1
              rw [Rho.put_ne _ _ e] at q2
              exact .inr ⟨id,l,q1,q2,q4⟩ }
 | chain g hd c hc hci ha =>
   -- the last one of those to come
   have hcl:c ∈ later:=by
    have:c ∈ later ++ earlier:=by rw [← hat.split];exact hc
    rcases List.mem_append.1 this with h|h
    ·exact h
    ·exact absurd (by rw [← hci];exact hat.ear c h) hnL
   obtain ⟨l,rfl⟩:∃ l,later=l ++ [c]:=by
    rcases List.eq_nil_or_concat later with rfl|⟨l,e,rfl⟩
    ·cases hcl
    ·refine ⟨l,?_⟩
     rw [List.concat_eq_append] at hcl ⊢
     rcases List.mem_append.1 hcl with h|h
     ·obtain ⟨l1,l2,rfl⟩:=List.append_of_mem h
      have hs:d.chs=l1 ++ c :: (l2 ++ [e] ++ earlier):=by rw [hat.split];simp
      have hf:=hI.chain _ _ _ hs
      have hb:=hf.2.1 e (by simp)
      rw [hf.1,hci] at hb
      exact absurd (hL _ hb) (hat.lat e (by simp))
     ·simp at h;rw [h]
   have hs:d.chs=l ++ c :: earlier:=by rw [hat.split];simp
   obtain ⟨f1,f2,o',f3,f4⟩:=hI.chain _ _ _ hs
   rw [hci] at f1 f3 f4
   rw [ho] at f3;cases f3
   have hst:stOf (l ++ [c]) d.st.hs=c.st.hs:=stOf_snoc _ _ _
   have hidx:∀ j,bitN c.anc j=true→L j:=fun j hj=>hL j (by rw [← f1];exact hj)
   have hpc:∀ j,bitN (prevOf earlier) j=true→bitN c.anc j=true:=fun j hj=>by
    cases he:earlier with
    | nil=>rw [he] at hj;exact absurd hj (by show ¬ bitN 0 j=true;rw [bitN_zero];simp)
    | cons e l' =>
      rw [he] at hj
      have hem:e ∈ d.chs:=by rw [hs,he];simp
      have h1:=f2 e (by rw [he];simp)
      rw [f1] at h1 ⊢
      exact hI.trans i e.idx j hi h1 (by rw [← (hI.chain_lt hem).1];exact hj)
   generalize hAeq:lay base (fun i=>(R i).al) (fun i=>bitN c.anc i=true∧bitN (prevOf earlier) i=false) c.st.hs=A at f4
   -- what the operation sees is part of what there is
   have hA:∀ id ob,A.get id=some ob→(heapL base d R (l ++ [c]) earlier L).get id=some ob:=fun id ob h=>by
    rw [← hAeq] at h
    rcases lay_cases (base:=base) (al:=fun i=>(R i).al) (fun i=>bitN c.anc i=true∧bitN (prevOf earlier) i=false) c.st.hs id with ⟨j,ob',rfl,⟨h1,h2⟩,h3,h4⟩|⟨h1,h2⟩
    ·rw [h4] at h;cases h
     exact lay_in h3 ⟨hidx j h1,h2⟩
    ·rw [h2] at h
     exact hsub id ob (by rw [hst];exact h)
   have hAn:A.next=(heapL base d R (l ++ [c]) earlier L).next:=by
    rw [← hAeq];show c.st.hs.next=(stOf (l ++ [c]) d.st.hs).next;rw [hst]
   have hsA:Sim ρ A w:=hat.sim.restrict hA (Nat.le_of_eq hAn.symm)
   refine wpOpIn_nx ho (g ρ a.tmps hers) hd (f4 ρ a.eval o w rfl hev hat.gl hsA) fun v' w' ρ' hv hs' hx=>?_
   have hle:=hx.le hsA
   obtain ⟨p1,p2,p3,p4⟩:=hat.put hI ho hi hle hv
   let B:Nat→Option O:=fun id=>if base ≤ id∧(L (id - base)∧bitN c.anc (id - base)=false)∧((R (id - base)).al).isSome then (R (id - base)).al else none
   have hBs:∀ id ob,B id=some ob→∃ j,id=base+j∧L j∧bitN c.anc j=false∧(R j).al=some ob:=fun id ob h=>by
    by_cases hb:base ≤ id∧(L (id - base)∧bitN c.anc (id - base)=false)∧((R (id - base)).al).isSome
    ·have h':(if base ≤ id∧(L (id - base)∧bitN c.anc (id - base)=false)∧((R (id - base)).al).isSome then (R (id - base)).al else none)=some ob:=h
     rw [if_pos hb] at h'
     exact ⟨id - base,by omega,hb.2.1.1,hb.2.1.2,h'⟩
    ·have h':(if base ≤ id∧(L (id - base)∧bitN c.anc (id - base)=false)∧((R (id - base)).al).isSome then (R (id - base)).al else none)=some ob:=h
     rw [if_neg hb] at h';cases h'
   have hBi:∀ j ob,L j→bitN c.anc j=false→(R j).al=some ob→B (base+j)=some ob:=fun j ob h1 h2 h3=>by
    show (if base ≤ base+j∧(L (base+j - base)∧bitN c.anc (base+j - base)=false)∧((R (base+j - base)).al).isSome then (R (base+j - base)).al else none)=some ob
    rw [Nat.add_sub_cancel_left,if_pos ⟨by omega,⟨h1,h2⟩,by rw [h3];rfl⟩];exact h3
   have hpf:∀ j,bitN c.anc j=false→bitN (prevOf earlier) j=false:=fun j hj=>by
    cases hb:bitN (prevOf earlier) j with
    | false=>rfl
    | true=>rw [hpc j hb] at hj;cases hj
   have hB:∀ id ob,B id=some ob→(heapL base d R (l ++ [c]) earlier L).get id=some ob:=fun id ob h=>by
    obtain ⟨j,rfl,h1,h2,h3⟩:=hBs id ob h
    exact lay_in h3 ⟨h1,hpf j h2⟩
   have hdis:∀ id,(B id).isSome→A.get id=none:=fun id h=>by
    obtain ⟨ob,hob⟩:=Option.isSome_iff_exists.1 h
    obtain ⟨j,rfl,h1,h2,h3⟩:=hBs id ob hob
    rw [← hAeq]
    rcases lay_cases (base:=base) (al:=fun i=>(R i).al) (fun i=>bitN c.anc i=true∧bitN (prevOf earlier) i=false) c.st.hs (base+j) with ⟨j',ob',hj,⟨q1,q2⟩,q3,q4⟩|⟨q1,q2⟩
    ·have:j'=j:=by omega
     subst this
     rw [h2] at q1;cases q1
    ·rw [q2]
     rcases (hI.alFact hAl h3 hat.split).2 with h5|h5
     ·rw [hpf j h2] at h5;cases h5
     ·rw [hst] at h5;exact h5
   have hlt:∀ id,(B id).isSome→id < A.next:=fun id h=>by
    obtain ⟨ob,hob⟩:=Option.isSome_iff_exists.1 h
    obtain ⟨j,rfl,h1,h2,h3⟩:=hBs id ob hob
    rw [hAn]
    have:=hat.size j h1
    exact Nat.lt_of_lt_of_le (by omega) hat.nx
   have hH':∀ id ob,(heapL base d R l (c :: earlier) (fun k=>k=i ∨ L k)).get id=some ob→(stOf l d.st.hs).get id=some ob ∨ B id=some ob:=fun id ob h=>by
    rcases lay_cases (base:=base) (al:=fun i=>(R i).al) (fun k=>(k=i ∨ L k)∧bitN (prevOf (c :: earlier)) k=false) (stOf l d.st.hs) id with ⟨j,ob',rfl,⟨h1,h2⟩,h3,h4⟩|⟨h1,h2⟩
    ·rw [h4] at h;cases h
     rcases h1 with rfl|h1
     ·rw [ha] at h3;cases h3
     ·exact .inr (hBi j _ h1 h2 h3)
    ·rw [h2] at h;exact .inl h
   have hsim':Sim ρ' (heapL base d R l (c :: earlier) (fun k=>k=i ∨ L k)) w':=hat.sim.frame hA hB (Nat.le_of_eq hAn.symm) hdis hlt hx hs' rfl hH'
   have hext':Ext ρ (heapL base d R (l ++ [c]) earlier L) w ρ' (heapL base d R l (c :: earlier) (fun k=>k=i ∨ L k)) w':=Ext.frame hA hB hAn hlt hx rfl hH'
   have hnx':base+ops.size ≤ (stOf l d.st.hs).next:=Nat.le_trans hat.nx (Nat.le_trans (Nat.le_of_eq hAn.symm) hx.next)
   refine hK l (c :: earlier) ρ' _ w' ?_
   exact { split:=hs,ear:=fun e he=>by
            rcases List.mem_cons.1 he with rfl|he
            ·exact .inl hci
            ·exact .inr (hat.ear e he)
           lat:=fun e he h=>by
            rcases h with h|h
            ·-- two acting operations with one number
             obtain ⟨l1,l2,rfl⟩:=List.append_of_mem he
             have hs2:d.chs=l1 ++ e :: (l2 ++ c :: earlier):=by rw [hs];simp
             have hf:=hI.chain _ _ _ hs2
             have hb:=hf.2.1 c (by simp)
             have hem:e ∈ d.chs:=by rw [hs2];simp
             have:=(hI.chain_lt hem).2.2 _ hb
             omega
            ·exact hat.lat e (by simp [he]) h
           closed:=fun x j hx hj=>.inr (hx.elim (fun e=>hL j (by rw [← e];exact hj)) (fun hx=>hat.closed x j hx hj)),size:=fun x hx=>hx.elim (fun e=>by rw [e];exact hi) (hat.size x),
           done:=p1,rest:=p2,slots:=p3,dr:=p4,gl:=hat.gl.mono hle,sim:=hsim',ext:=hat.ext.trans hext',nx:=hnx',
           free:=fun x hx' hlt'=>by
            rw [hx.rho (base+x) (by rw [hAn];exact Nat.lt_of_lt_of_le (by omega) hat.nx)]
            exact hat.free x (fun h=>hx' (.inr h)) hlt' }
end

theorem countP_lt {α:Type} {p p':α→Bool}:∀ {l:List α},(∀ x,p' x=true→p x=true)→∀ {x:α},x ∈ l→p x=true→p' x=false→l.countP p'+1 ≤ l.countP p
 | [],_,x,h,_,_=>by cases h
 | y :: l,hp,x,h,h1,h2=>by
   rw [List.countP_cons,List.countP_cons]
   have mono:l.countP p' ≤ l.countP p:=List.countP_mono_left fun z _=>hp z
   rcases List.mem_cons.1 h with rfl|h
   ·rw [h1,h2];simp;omega
   ·have ih:=countP_lt hp h h1 h2
    have:(if p' y=true then 1 else 0) ≤ (if p y=true then 1 else 0):=by
     by_cases hy:p' y=true
     ·rw [if_pos hy,if_pos (hp y hy)];exact Nat.le_refl _
     ·rw [if_neg hy];omega
    omega
def Lof (listed:Array Bool):Nat→Prop:=fun i=>listed.getD i false=true
theorem binds_any (e:Edge):Region.binds .any e=bindE e:=by
 unfold Region.binds bindE
 cases e.ground <;> rfl
theorem At.all (hI:Inv P ops base E0 H0 ops.size ancs wr seen d R) (hRd:RdFact P d) (hAl:AlFact d) (hbase:Hb.next=base)
  (hQ:∀ a w ρ,At ops base E0 d R ρ0 Hb w0 D [] d.chs (fun i=>i < ops.size) ρ a w→Q .normal a w):∀ (fuel:Nat) (listed:Array Bool) (later earlier:List Ch) (ρ:Rho) (a:Act) (w:World),listed.size=ops.size →
   (List.range ops.size).countP (fun k=>!listed.getD k false) ≤ fuel→At ops base E0 d R ρ0 Hb w0 D later earlier (Lof listed) ρ a w→wpAnyIn (W ro) 0 P .any ops Q fuel listed a w:=by
 have ready:∀ (listed:Array Bool) (j:Nat),j ∈ Region.ready .any ops listed→listed.size=ops.size→¬ Lof listed j∧∃ o,ops[j]?=some o∧∀ e ∈ o.after.toList,bindE e=true→Lof listed e.on:=fun listed j hj hsz=>by
  obtain ⟨h1,o,ho,h2⟩:=mem_ready.1 hj
  have hlt:j < listed.size:=by rw [hsz];exact (Array.getElem?_eq_some_iff.1 ho).1
  refine ⟨fun h=>?_,o,ho,fun e he hb=>h2 e (by simpa using he) (by rw [binds_any];exact hb)⟩
  unfold Lof at h
  simp [hlt] at h h1
  rw [h1] at h;cases h
 have endAt:∀ (listed:Array Bool) (later earlier:List Ch) (ρ:Rho) (a:Act) (w:World),listed.size=ops.size→Region.ready .any ops listed=[]→At ops base E0 d R ρ0 Hb w0 D later earlier (Lof listed) ρ a w→Q .normal a w:=fun listed later earlier ρ a w hsz hr hat=>by
  have hall:∀ i,i < ops.size→Lof listed i:=fun i=>by
   induction i using Nat.strongRecOn with
   | ind i ih =>
     intro hi
     by_cases hl:Lof listed i
     ·exact hl
     ·have:i ∈ Region.ready .any ops listed:=mem_ready.2 ⟨by
        have hlt:i < listed.size:=by omega
        unfold Lof at hl
        simp [hlt] at hl ⊢;exact hl,ops[i],by simp [hi],fun e he hb=>by
        have hlt:=hI.edge i ops[i] e hi (by simp [hi]) (by simpa using he) (by rw [← binds_any];exact hb)
        exact ih e.on hlt (by omega)⟩
      rw [hr] at this;cases this
  have hLe:Lof listed=fun i=>i < ops.size:=funext fun i=>propext ⟨fun h=>hat.size i h,hall i⟩
  have hlater:later=[]:=by
   cases hl:later with
   | nil=>rfl
   | cons c l =>
     have hc:c ∈ later:=by rw [hl];simp
     have hcm:c ∈ d.chs:=by rw [hat.split];simp [hc]
     exact absurd (hall _ (hI.chlt c hcm)) (hat.lat c hc)
  subst hlater
  have he:earlier=d.chs:=hat.split.symm
  subst he
  rw [hLe] at hat
  exact hQ a w ρ hat
 intro fuel
 induction fuel with
 | zero =>
   intro listed later earlier ρ a w hsz hcnt hat
   have hr:Region.ready .any ops listed=[]:=by
    cases hr:Region.ready .any ops listed with
    | nil=>rfl
    | cons j js =>
      obtain ⟨h1,o,ho,_⟩:=ready listed j (by rw [hr];simp) hsz
      have hlt:j < ops.size:=(Array.getElem?_eq_some_iff.1 ho).1
      have h0:(List.range ops.size).countP (fun k=>!listed.getD k false)=0:=by omega
      have:=List.countP_eq_zero.1 h0 j (by simp [hlt])
      exact absurd (show Lof listed j by unfold Lof;simpa using this) h1
   exact ⟨hr,endAt listed later earlier ρ a w hsz hr hat⟩
 | succ fuel ih =>
   intro listed later earlier ρ a w hsz hcnt hat
   refine ⟨fun hr=>endAt listed later earlier ρ a w hsz hr hat,fun i hri=>?_⟩
   obtain ⟨h1,o,ho,h2⟩:=ready listed i hri hsz
   have hlt:i < ops.size:=(Array.getElem?_eq_some_iff.1 ho).1
   have hset:Lof (listed.setIfInBounds i true)=fun k=>k=i ∨ Lof listed k:=funext fun k=>propext (by
    unfold Lof
    by_cases e:i=k
    ·subst e
     have:i < listed.size:=by omega
     simp [this]
    ·rw [getD_set_ne false e]
     exact ⟨.inr,fun h=>h.resolve_left (fun h=>e h.symm)⟩)
   refine hat.step hI hRd hAl hbase ho h1 h2 fun later' earlier' ρ' a' w' hat'=>ih _ later' earlier' ρ' a' w' (by simpa using hsz) ?_ (by rw [hset];exact hat')
   have hc:=countP_lt (l:=List.range ops.size) (p:=fun k=>!listed.getD k false) (p':=fun k=>!(listed.setIfInBounds i true).getD k false) (fun x hx=>?_) (x:=i) (by simp [hlt]) ?_ ?_
   ·omega
   ·by_cases e:i=x
    ·subst e
     have:i < listed.size:=by omega
     simp [this] at hx
    ·rw [getD_set_ne false e] at hx;exact hx
   ·have:¬ listed.getD i false=true:=h1
    simpa using this
   ·have:i < listed.size:=by omega
    simp [this]
theorem evDraw_ok (hm:P.follows .mixedOrders=true) {rc:CallT} {rd:RoundT} (hc:CallOk P rc) (hd:RoundOk P rd):DrawOk P (evDraw P rc rd):=by
 intro ops E S k h
 have h1:=fN_spec (k:=fun nx=>drOps P rc rd S.next ops.toList ops.toList 0 [] 0 0 ⟨E,⟨S.hp,nx⟩,[],[],[],[]⟩ fun d =>
  rdsAll P d.chs d.st d.rds (alsAll d.chs d.st d.als (mergeAll d.pend d.st fun S=>k d.env S))) h
 generalize hnx:Nat.add S.next (len' ops.toList)=nx at h1
 rw [len'_eq] at hnx
 have hnx':S.next+ops.size=nx:=by rw [← hnx];simp
 have hI0:Inv P ops S.next E (St.hs ⟨S.hp,nx⟩) 0 [] 0 0 ⟨E,⟨S.hp,nx⟩,[],[],[],[]⟩ (fun _=>⟨0,0,E,undefV,none⟩) :=
  { out:=fun _ _=>rfl,alen:=rfl,ancs:=fun j hj=>absurd hj (by omega),wr:=fun k o t hk=>absurd hk (by omega),seen:=fun k o t hk=>absurd hk (by omega),dw:=fun i t hi=>absurd hi (by omega),lt:=fun i j hi=>absurd hi (by omega),
    edge:=fun i o e hi=>absurd hi (by omega),back:=fun i o j hi=>absurd hi (by omega),trans:=fun i j k hi=>absurd hi (by omega),reads:=fun i o t k ok hi=>absurd hi (by omega),dst:=fun i o k ok t hi=>absurd hi (by omega),
    slot:=fun i o t hi=>absurd hi (by omega),envs:=fun i hi=>absurd hi (by omega),env:=fun t v ht=>⟨by rw [ht];rfl,.inr ⟨fun k o hk=>absurd hk (by omega),ht⟩⟩,kind:=fun i o hi=>absurd hi (by omega),
    chlt:=fun c hc=>(by cases hc),chain:=fun l c e he=>absurd he (by simp),start:=rfl,rsel:=fun r hr=>(by cases hr),pend1:=fun q hq=>(by cases hq),pend2:=fun i hi=>(by cases hi) }
 obtain ⟨d,R,ancs,wr,seen,h2,hI⟩:=drOps_spec hc hd ops.toList 0 [] 0 0 _ _ _ (by simp) (by omega) hI0 h1
 obtain ⟨h3,hRd⟩:=rdsAll_spec h2
 obtain ⟨h4,hAl⟩:=alsAll_spec h3
 obtain ⟨S',h5,h6⟩:=mergeAll_spec (al:=fun i=>(R i).al) hI.pend1 h4
 refine ⟨d.env,S',h5,fun id r ρ D a w Q hE hD hg hs hq=>?_⟩
 refine wpIn_region_any hm ?_
 have hs0:Sim ρ (St.hs ⟨S.hp,nx⟩) w.drew:=hs.drew.restrict (fun _ _ h=>h) (by show S.next ≤ nx;omega)
 have hlof:Lof (Array.replicate ops.size false)=fun _=>False:=funext fun i=>propext ⟨fun h=>by
  unfold Lof at h
  rw [Array.getD_eq_getD_getElem?] at h
  rw [Array.getElem?_replicate] at h
  split at h <;> simp at h,fun h=>h.elim⟩
 have hst:stOf d.chs d.st.hs=St.hs ⟨S.hp,nx⟩:=hI.start
 have hheap:heapL S.next d R d.chs [] (Lof (Array.replicate ops.size false))=St.hs ⟨S.hp,nx⟩:=by
  rw [hlof]
  show lay _ _ _ _=_
  rw [lay_empty _ (fun i h _=>h.1),hst]
 have hslots:∀ t,(tget E t).isSome→t < a.tmps.size:=fun t ht=>by
  obtain ⟨v,hv⟩:=Option.isSome_iff_exists.1 ht
  obtain ⟨v',h',_⟩:=hE t v hv
  exact (Array.getElem?_eq_some_iff.1 h').1
 have hat0:At ops S.next E d R ρ S.hs w D d.chs [] (Lof (Array.replicate ops.size false)) ρ a w.drew:=by
  refine { split:=by simp,ear:=fun c hc=>(by cases hc),lat:=fun c _ h=>(by rw [hlof] at h;exact h),closed:=fun i j h=>(by rw [hlof] at h;exact h.elim),size:=fun i h=>(by rw [hlof] at h;exact h.elim),
           done:=fun k o t h=>(by rw [hlof] at h;exact h.elim),rest:=fun t v _ hv=>hE t v hv,slots:=hslots,dr:=hD,gl:=hg,sim:=by rw [hheap];exact hs0,ext:=?_,nx:=by rw [hst];exact Nat.le_of_eq hnx',
           free:=fun i _ _=>hs.fresh _ (by show S.next ≤ S.next+i;omega) }
  rw [hheap]
  have:=Ext.drew ρ S.hs w
  exact { rho:=this.rho,next:=by show S.next ≤ nx;omega,size:=this.size,keep:=this.keep,own:=this.own,has:=this.has,tape:=this.tape,os:=this.os,output:=this.output,drawn:=this.drawn }
 refine At.all hI hRd hAl rfl (fun a' w' ρ' hat=>?_) ops.size _ d.chs [] ρ a w.drew (by simp) ?_ hat0
 ·refine hq a' w' ⟨ρ',fun t v ht=>?_,hat.dr,?_,?_⟩
  ·obtain ⟨h0,h1⟩:=hI.env t v ht
   rcases h1 with ⟨k,o,hk,hok,hd',rfl⟩|⟨hno,hv⟩
   ·exact hat.done k o t hk hok hd'
   ·exact hat.rest t v (fun k o hk=>hno k o hk) hv
  all_goals
   have hfin:heapL S.next d R [] d.chs (fun i=>i < ops.size)=S'.hs:=by
    rw [h6]
    refine lay_congr _ fun i=>⟨⟨fun ⟨⟨x,y⟩,z⟩=>⟨(hI.pend2 i z).2 y,z⟩,fun ⟨x,z⟩=>⟨⟨?_,(hI.pend2 i z).1 x⟩,z⟩⟩,fun _ _=>rfl⟩
    rcases Nat.lt_or_ge i ops.size with h'|h'
    ·exact h'
    ·rw [hI.out i h'] at z;cases z
   rw [← hfin]
  ·exact hat.sim
  ·exact hat.ext
 ·exact Nat.le_trans (List.countP_le_length) (by simp)
end Go.Am
/- The evaluator with functions that are taken as wholes ('hooks'); the labels of a table, in order. Definitions alone. -/
namespace Go.Am

abbrev Hook:=FuncId→Option (List V→St→(V→St→Prop)→Prop)
noncomputable def evAllH (P:Program) (Xt:Exts) (hk:Hook) (dr:CallT→RoundT→DrawT) (n:Nat):Runs :=
 Nat.rec (motive:=fun _=>Runs) ⟨fun _ _ _ _=>False,fun _ _ _ _=>False,fun _ _ _ _ _ _=>False⟩
  (fun _ r=>⟨fun f args S k=>Option.casesOn (hk f) (evCall P Xt r.call r.round r.loop (dr r.call r.round) f args S k) fun q=>q args S k,evRound P r.call r.round r.loop (dr r.call r.round),
   fun ro b E D S k=>wk P r.call r.round r.loop (dr r.call r.round) ro b E D S fun x E D S=>X.casesOn x (r.loop ro b E D S k) (fun id=>k (.exit id) E D S) (k .ret E D S)⟩) n
/-- A name and a value into a row that is in order. -/
noncomputable def insK (n v:List UInt8) (l:List (List UInt8 × List UInt8)):(List (List UInt8 × List UInt8)→Prop)→Prop :=
 List.rec (motive:=fun _=>(List (List UInt8 × List UInt8)→Prop)→Prop) (fun k=>k [(n,v)])
  (fun q l ih k=>Bool.rec (Bool.rec False (ih fun r=>k (q :: r)) (ltS q.1 n)) (k ((n,v) :: q :: l)) (ltS n q.1)) l
noncomputable def sortK (es:List (V × V × Nat)):List (List UInt8 × List UInt8)→(List (List UInt8 × List UInt8)→Prop)→Prop :=
 List.rec (motive:=fun _=>List (List UInt8 × List UInt8)→(List (List UInt8 × List UInt8)→Prop)→Prop) (fun l k=>k l)
  (fun e _ ih l k=>match e.1,e.2.1 with|.str m,.agg [.str n,.str v]=>ifK (eqS m n) (insK n v l fun l=>ih l k)|_,_=>False) es
/-- The entries' stamps: each one later than those before, the clock behind them. -/
noncomputable def stampsK (es:List (V × V × Nat)):Nat→Nat→Bool :=
 List.rec (motive:=fun _=>Nat→Nat→Bool) (fun p c=>Nat.ble p c) (fun e _ ih p c=>Bool.rec false (ih (Nat.succ e.2.2) c) (Nat.ble p e.2.2)) es
noncomputable def flatK (l:List (List UInt8 × List UInt8)):(List V→Prop)→Prop :=
 List.rec (motive:=fun _=>(List V→Prop)→Prop) (fun k=>k []) (fun q _ ih k=>ih fun r=>k (.str q.1 :: .str q.2 :: r)) l
/-- The labels of a table: 'e': their type. -/
noncomputable def labelsK (e:TypeId) (args:List V) (S:St) (k:V→St→Prop):Prop:=match args with
 | [.map id]=>mapK S id fun es c=>ifK (stampsK es 0 c) (sortK es [] fun l=>ifK (Nat.ble (len' l) 4096) (match l with
   | []=>k .nilSlice S
   | l=>flatK l fun cs=>fN (len' l) fun n=>newK (.cells cs e .rw) S fun id S=>k (.slice id 0 n n 2 false) S))
 | _=>False
noncomputable def oneHook (g:FuncId) (q:List V→St→(V→St→Prop)→Prop):Hook:=fun f=>Bool.rec none (some q) (Nat.beq f g)
/-- Objects put into a heap. -/
noncomputable def buildK (l:List (Nat × O)):St→(St→Prop)→Prop :=
 List.rec (motive:=fun _=>St→(St→Prop)→Prop) (fun S k=>k S) (fun q _ ih S k=>putK q.1 (some q.2) S fun S=>ih S k) l
end Go.Am
/- The evaluator with functions that are taken as wholes is right; the start. -/
namespace Go.Am
variable {P:Program}

def HookOk (P:Program) (hk:Hook):Prop:=∀ f q,hk f=some q→∀ args S k,q args S k→∃ v S',k v S'∧CallS P f args S.hs v S'.hs
theorem evAllH_ok {Xt:Exts} (hX:ExtsOk P Xt) {hk:Hook} (hH:HookOk P hk) {dr:CallT→RoundT→DrawT} (hdr:∀ rc rd,CallOk P rc→RoundOk P rd→DrawOk P (dr rc rd)) :
  ∀ n,CallOk P (evAllH P Xt hk dr n).call∧RoundOk P (evAllH P Xt hk dr n).round∧LoopOk P (evAllH P Xt hk dr n).loop
 | 0=>⟨fun _ _ _ _ h=>h.elim,fun _ _ _ _ h=>h.elim,fun _ _ _ _ _ _ h=>h.elim⟩
 | n+1=>by
   obtain ⟨hc,hd,hl⟩:=evAllH_ok hX hH hdr n
   have hr:=hdr _ _ hc hd
   refine ⟨fun f args S k h=>?_,evRound_spec hc hd hl hr,fun ro b E D S k h=>?_⟩
   ·have h':Option.rec (motive:=fun _=>Prop) (evCall P Xt (evAllH P Xt hk dr n).call (evAllH P Xt hk dr n).round (evAllH P Xt hk dr n).loop (dr (evAllH P Xt hk dr n).call (evAllH P Xt hk dr n).round) f args S k) (fun q=>q args S k) (hk f):=h
    cases hf:hk f with
    | none=>rw [hf] at h';exact evCall_spec hX hc hd hl hr f args S k h'
    | some q=>rw [hf] at h';exact hH f q hf args S k h'
   ·obtain ⟨x,E1,D1,S1,h1,h2⟩:=evCode_spec hc hd hl hr ro b E D S _ h
    cases x with
    | normal =>
      obtain ⟨x2,E2,D2,S2,h3,h4⟩:=hl ro b E1 D1 S1 k h1
      refine ⟨x2,E2,D2,S2,h3,fun ρ r a w Q hro hE hD hg hs hQ=>.of (h2 ρ r a w _ hro hE hD hg hs fun a1 w1 ⟨ρ1,b1,b2,b3,b4⟩=>?_)⟩
      have hle:=b4.le hs
      exact h4 ρ1 r a1 w1 Q (hro.mono hle) b1 b2 (hg.mono hle) b3 fun a2 w2 h5=>hQ a2 w2 (h5.comp b4)
    | exit id=>exact ⟨.exit id,E1,D1,S1,h1,fun ρ r a w Q hro hE hD hg hs hQ=>.of (h2 ρ r a w _ hro hE hD hg hs hQ)⟩
    | ret=>exact ⟨.ret,E1,D1,S1,h1,fun ρ r a w Q hro hE hD hg hs hQ=>.of (h2 ρ r a w _ hro hE hD hg hs hQ)⟩
theorem oneHook_ok {g:FuncId} {q:List V→St→(V→St→Prop)→Prop} (h:∀ args S k,q args S k→∃ v S',k v S'∧CallS P g args S.hs v S'.hs):HookOk P (oneHook g q):=fun f q' hf args S k hq=>by
 unfold oneHook at hf
 cases hb:Nat.beq f g with
 | false=>rw [hb] at hf;cases hf
 | true =>
   rw [hb] at hf
   cases hf
   rw [Nat.eq_of_beq_eq_true hb]
   exact h args S k hq
/-- Objects put into a heap. -/
def putAll:List (Nat × O)→Hs→Hs
 | [],H=>H
 | q :: l,H=>putAll l (H.put q.1 (some q.2))
theorem buildK_spec:∀ {l:List (Nat × O)} {S:St} {k:St→Prop},buildK l S k→∃ S',k S'∧S'.hs=putAll l S.hs
 | [],S,k,h=>⟨S,h,rfl⟩
 | q :: l,S,k,h=>by
   obtain ⟨S1,h1,h2⟩:=put_spec (show putK q.1 (some q.2) S fun S=>buildK l S k from h)
   obtain ⟨S2,h3,h4⟩:=buildK_spec h1
   exact ⟨S2,h3,by rw [h4,h2];rfl⟩
end Go.Am
/- Running the evaluator with variables: contracts in place of calls and loops; what a step on the heap wants. -/
namespace Go.Am
variable {P:Program}

/-- A call by its contract. -/
inductive RC (P:Program):FuncId→List V→St→(V→St→Prop)→Prop
 | mk {g:FuncId} {l:List V} {S:St} {k:V→St→Prop} (v:V) (S':St) (h:CallS P g l S.hs v S'.hs) (hk:k v S'):RC P g l S k
inductive RD (P:Program):Nat→List V→St→(V→St→Prop)→Prop
 | mk {id:Nat} {l:List V} {S:St} {k:V→St→Prop} (v:V) (S':St) (h:RoundS P id l S.hs v S'.hs) (hk:k v S'):RD P id l S k
inductive LP (P:Program):Option Nat→Code→Env→List Nat→St→KT→Prop
 | mk {ro:Option Nat} {c:Code} {E:Env} {D:List Nat} {S:St} {k:KT} (x:X) (E':Env) (D':List Nat) (S':St) (h:LoopS P ro c E D S.hs x E' D' S'.hs) (hk:k x E' D' S'):LP P ro c E D S k
theorem RC_ok:CallOk P (RC P):=fun _ _ _ _ h=>by cases h with|mk v S' h hk=>exact ⟨v,S',hk,h⟩
theorem RD_ok:RoundOk P (RD P):=fun _ _ _ _ h=>by cases h with|mk v S' h hk=>exact ⟨v,S',hk,h⟩
theorem LP_ok:LoopOk P (LP P):=fun _ _ _ _ _ _ h=>by cases h with|mk x E' D' S' h hk=>exact ⟨x,E',D',S',hk,h⟩
/-- A loop: its round, then the loop again. -/
theorem LP.step (hm:P.follows .mixedOrders=true) {ro:Option Nat} {b:Code} {E:Env} {D:List Nat} {S:St} {k:KT}
  (h:wk P (RC P) (RD P) (LP P) (evDraw P (RC P) (RD P)) ro b E D S fun x E D S=>X.casesOn x (LP P ro b E D S k) (fun id=>k (.exit id) E D S) (k .ret E D S)):LP P ro b E D S k:=by
 obtain ⟨x,E1,D1,S1,h1,h2⟩:=evCode_spec RC_ok RD_ok LP_ok (evDraw_ok hm RC_ok RD_ok) ro b E D S _ h
 cases x with
 | normal =>
   obtain ⟨x2,E2,D2,S2,h3,h4⟩:=LP_ok ro b E1 D1 S1 k h1
   refine .mk x2 E2 D2 S2 (fun ρ r a w Q hro hE hD hg hs hQ=>.of (h2 ρ r a w _ hro hE hD hg hs fun a1 w1 ⟨ρ1,b1,b2,b3,b4⟩=>?_)) h3
   have hle:=b4.le hs
   exact h4 ρ1 r a1 w1 Q (hro.mono hle) b1 b2 (hg.mono hle) b3 fun a2 w2 h5=>hQ a2 w2 (h5.comp b4)
 | exit id=>exact .mk (.exit id) E1 D1 S1 (fun ρ r a w Q hro hE hD hg hs hQ=>.of (h2 ρ r a w _ hro hE hD hg hs hQ)) h1
 | ret=>exact .mk .ret E1 D1 S1 (fun ρ r a w Q hro hE hD hg hs hQ=>.of (h2 ρ r a w _ hro hE hD hg hs hQ)) h1
/-- A function's contract, by running it. -/
theorem RC.run (hm:P.follows .mixedOrders=true) {Xt:Exts} (hX:ExtsOk P Xt) {g:FuncId} {l:List V} {S:St} {k:V→St→Prop}
  (h:evCall P Xt (RC P) (RD P) (LP P) (evDraw P (RC P) (RD P)) g l S k):RC P g l S k:=by
 obtain ⟨v,S',h1,h2⟩:=evCall_spec hX RC_ok RD_ok LP_ok (evDraw_ok hm RC_ok RD_ok) g l S k h
 exact .mk v S' h2 h1

/-! Ways. -/
theorem bcase {A B:Prop} {b:Bool} (h1:b=true→B) (h0:b=false→A):Bool.rec (motive:=fun _=>Prop) A B b:=by
 cases b
 ·exact h0 rfl
 ·exact h1 rfl
/-! The heap. -/
theorem digs_some:∀ {f n:Nat},n < 2 ^ f→(digs f n).isSome
 | 0,0,_=>rfl
 | 0,n+1,h=>by simp at h
 | f+1,0,_=>rfl
 | f+1,n+1,h=>by
   have:(n / 4) < 2 ^ f:=by
    have:2 ^ (f+1)=2 * 2 ^ f:=by rw [Nat.pow_succ];omega
    omega
   obtain ⟨l,hl⟩:=Option.isSome_iff_exists.1 (digs_some this)
   show (Option.rec (motive:=fun _=>Option (List D4)) none (fun l=>some (dig (Nat.mod n 4) :: l)) (digs f (n / 4))).isSome
   rw [hl];rfl
theorem T.setL_ex {α:Type} {x:Option α}:∀ {l:List D4} {t:T α},∃ t',∀ k:T α→Prop,k t'→T.setL x l t k
 | [],t=>by
   cases t with
   | nil=>exact ⟨_,fun k h=>h⟩
   | node v a b c d=>exact ⟨_,fun k h=>h⟩
 | q :: l,t=>by
   cases t with
   | nil=>obtain ⟨y,hy⟩:=T.setL_ex (x:=x) (l:=l) (t:=.nil);cases q <;> exact ⟨_,fun k h=>hy _ h⟩
   | node v a b c d =>
     cases q
     ·obtain ⟨y,hy⟩:=T.setL_ex (x:=x) (l:=l) (t:=a);exact ⟨_,fun k h=>hy _ h⟩
     ·obtain ⟨y,hy⟩:=T.setL_ex (x:=x) (l:=l) (t:=b);exact ⟨_,fun k h=>hy _ h⟩
     ·obtain ⟨y,hy⟩:=T.setL_ex (x:=x) (l:=l) (t:=c);exact ⟨_,fun k h=>hy _ h⟩
     ·obtain ⟨y,hy⟩:=T.setL_ex (x:=x) (l:=l) (t:=d);exact ⟨_,fun k h=>hy _ h⟩
theorem T.set_ex {α:Type} {x:Option α} {d n:Nat} {t:T α} (h:(digs d n).isSome):∃ t',∀ k:T α→Prop,k t'→T.set x d n t k False:=by
 obtain ⟨l,hl⟩:=Option.isSome_iff_exists.1 h
 obtain ⟨t',ht⟩:=T.setL_ex (x:=x) (l:=l) (t:=t)
 exact ⟨t',fun k hk=>by unfold T.set;rw [hl];exact ht k hk⟩
abbrev room:Nat:=4096
theorem newK_intro {o:O} {S:St} {k:Nat→St→Prop} (hn:S.next < room) (h:∀ S',S'.hs=S.hs.new o→k S.next S'):newK o S k:=by
 cases S
 obtain ⟨t',ht⟩:=T.set_ex (x:=some o) (d:=deep) (n:=_) (t:=_) (digs_some hn)
 rename_i hp nx
 have hk:newK o ⟨hp,nx⟩ fun i S'=>i=nx∧S'=⟨t',Nat.succ nx⟩:=ht _ ⟨rfl,rfl⟩
 obtain ⟨S',⟨_,h2⟩,h3⟩:=new_spec hk
 exact ht _ (h _ (by rw [← h2];exact h3))
theorem putK_intro {id:Nat} {o:Option O} {S:St} {k:St→Prop} (hn:id < room) (h:∀ S',S'.hs=S.hs.put id o→k S'):putK id o S k:=by
 cases S
 rename_i hp nx
 obtain ⟨t',ht⟩:=T.set_ex (x:=o) (d:=deep) (n:=id) (t:=hp) (digs_some hn)
 have hk:putK id o ⟨hp,nx⟩ fun S'=>S'=⟨t',nx⟩:=ht _ rfl
 obtain ⟨S',h2,h3⟩:=put_spec hk
 exact ht _ (h _ (by rw [← h2];exact h3))
theorem rowK_intro {id:Nat} {S:St} {k:List V→TypeId→Fl→Prop} {cs:List V} {e:TypeId} {fl:Fl} (h:S.hs.get id=some (.cells cs e fl)) (hk:k cs e fl):rowK S id k:=by
 have h':T.get deep id S.hp=some (.cells cs e fl):=h
 unfold rowK;rw [h'];exact hk
theorem mapK_intro {id:Nat} {S:St} {k:List (V × V × Nat)→Nat→Prop} {es:List (V × V × Nat)} {c:Nat} (h:S.hs.get id=some (.map es c)) (hk:k es c):mapK S id k:=by
 have h':T.get deep id S.hp=some (.map es c):=h
 unfold mapK;rw [h'];exact hk
end Go.Am
/- Loops with an invariant; less garbage. -/
namespace Go.Am
variable {P:Program}

theorem LP.induct {ro:Option Nat} {c:Code} {D:List Nat} {k:KT} {E:Env} {S:St} (n:Nat) (Inv:Nat→Env→St→Prop) (h0:Inv 0 E S)
  (step:∀ j E S,Inv j E S→(∀ E' S',j < n→Inv (j+1) E' S'→LP P ro c E' D S' k)→LP P ro c E D S k):LP P ro c E D S k:=by
 have key:∀ m j E S,n ≤ j+m→Inv j E S→LP P ro c E D S k:=by
  intro m
  induction m with
  | zero=>exact fun j E S hj hi=>step j E S hi fun E' S' hlt _=>by omega
  | succ m ih=>exact fun j E S hj hi=>step j E S hi fun E' S' _ hi'=>ih (j+1) E' S' (by omega) hi'
 exact key n 0 E S (by omega) h0
/-- A frame out of its slots' values. -/
noncomputable def envL (l:List V):Env:=bl4 (nth l)
/-- The same objects, more numbers used. -/
def Hs.up (H:Hs) (m:Nat):Hs:=⟨H.get,H.next+m⟩
/-- What is left is part of what there is. -/
def Sub (H' H:Hs):Prop:=(∀ id o,H'.get id=some o→H.get id=some o)∧H.next ≤ H'.next
theorem Ext.sub {ρ ρ':Rho} {H H' H'':Hs} {w w':World} (h:Ext ρ H w ρ' H' w') (hs:Sub H'' H'):Ext ρ H w ρ' H'' w' :=
 { rho:=h.rho,next:=Nat.le_trans h.next hs.2,size:=h.size,keep:=h.keep,
   own:=fun b ⟨id,l,h1,h2,h3,h4⟩=>by
    obtain ⟨o,ho⟩:=Option.isSome_iff_exists.1 h1
    exact h.own b ⟨id,l,by rw [hs.1 id o ho];rfl,h2,h3,h4⟩,
   has:=fun b ⟨id,l,h1,h2,h4⟩=>by
    obtain ⟨o,ho⟩:=Option.isSome_iff_exists.1 h1
    exact h.has b ⟨id,l,by rw [hs.1 id o ho];rfl,h2,h4⟩,
   tape:=h.tape,os:=h.os,output:=h.output,drawn:=h.drawn }
theorem Rt.sub {ρ:Rho} {H:Hs} {w:World} {v:V} {H' H'':Hs} {e:Ending} {w':World} (h:Rt ρ H w v H' e w') (hs:Sub H'' H'):Rt ρ H w v H'' e w':=by
 obtain ⟨v',ρ',h1,h2,h3,h4⟩:=h
 exact ⟨v',ρ',h1,h2,h3.restrict hs.1 hs.2,h4.sub hs⟩
theorem Nx.sub {ρ:Rho} {H:Hs} {w:World} {v:V} {H' H'':Hs} {r:Result Next} (h:Nx P ρ H w v H' r) (hs:Sub H'' H'):Nx P ρ H w v H'' r:=by
 cases r with
 | halt e w'=>exact h.elim
 | ok n w' =>
   cases n with
   | value v'=>exact Rt.sub h hs
   | skip=>exact Rt.sub h hs
   | enter f args =>
     have h':CallsIn (W none) 0 P f args w' (Rt ρ H w v H'):=h
     exact h'.mono fun e w'' hR=>hR.sub hs
   | round l f tmps assign body =>
     have h':RoundIn (W none) 0 P l f tmps assign body w' (Rt ρ H w v H'):=h
     exact h'.mono fun e w'' hR=>hR.sub hs
   | _=>exact h.elim
theorem CallS.sub {g:FuncId} {l:List V} {H H' H'':Hs} {v:V} (h:CallS P g l H v H') (hs:Sub H'' H'):CallS P g l H v H'':=fun ρ w l' hg hsim hl=>(h ρ w l' hg hsim hl).sub hs
/-- A call whose end is known but for garbage. -/
theorem RC.gc {g:FuncId} {l:List V} {S:St} {k k':V→St→Prop} (h:RC P g l S k) (hk:∀ v S',k v S'→∃ S'',Sub S''.hs S'.hs∧k' v S''):RC P g l S k':=by
 cases h with
 | mk v S' h1 h2 =>
   obtain ⟨S'',h3,h4⟩:=hk v S' h2
   exact .mk v S'' (h1.sub h3) h4
/-- A frame that holds some values from a slot on. -/
def Fits (E:Env):Nat→List V→Prop
 | _,[]=>True
 | t,v :: l=>tget E t=some v∧Fits E (t+1) l
theorem Fits.get {E:Env}:∀ {l:List V} {t i:Nat} {v:V},Fits E t l→l[i]?=some v→tget E (t+i)=some v
 | [],_,_,_,_,h=>by simp at h
 | u :: l,t,0,v,hf,h=>by
   simp at h;subst h;exact hf.1
 | u :: l,t,i+1,v,hf,h=>by
   have:=Fits.get hf.2 (i:=i) (v:=v) (by simpa using h)
   rw [show t+(i+1)=t+1+i by omega];exact this
theorem envL_get {l:List V} {t:Nat} {v:V} (h:tget (envL l) t=some v):l[t]?=some v:=by
 by_cases hb:path t=.bad
 ·have:getP (envL l) (path t)=some v:=h
  rw [hb] at this;cases this
 ·have h':getP (envL l) (path t)=some v:=h
  unfold envL at h'
  rw [bl4_get _ _ hb,path_num hb,nth_eq] at h'
  exact h'
theorem Fits.le {E:Env} {l:List V} (h:Fits E 0 l):∀ t v,tget (envL l) t=some v→tget E t=some v:=fun t v ht=>by
 have:=h.get (envL_get ht)
 rwa [Nat.zero_add] at this
/-- A loop from a frame of which less is known. -/
theorem LP.less {ro:Option Nat} {c:Code} {D:List Nat} {k:KT} {E E1:Env} {S:St} (hle:∀ t v,tget E1 t=some v→tget E t=some v) (h:LP P ro c E1 D S k):LP P ro c E D S k:=by
 cases h with
 | mk x E' D' S' h hk=>exact .mk x E' D' S' (fun ρ r a w Q hro hE hD hg hs hQ=>h ρ r a w Q hro (fun t v ht=>hE t v (hle t v ht)) hD hg hs hQ) hk
end Go.Am
/- What a symbolic run wants besides: numbers, parts of rows. -/
namespace Go.Am
variable {P:Program}
theorem zy {n:Nat} {k:Nat→Prop} (h:k n):fN n k:=by cases n <;> exact h
theorem fB_intro {b:Bool} {k:Bool→Prop} (h:k b):fB b k:=by cases b <;> exact h
theorem zx {n:Int} {k:Int→Prop} (h:k n):fI n k:=by
 cases n with
 | ofNat n=>exact zy (k:=fun n=>k (Int.ofNat n)) h
 | negSucc n=>exact zy (k:=fun n=>k (Int.negSucc n)) h
theorem ifK_intro {b:Bool} {k:Prop} (hb:b=true) (h:k):ifK b k:=by subst hb;exact h
theorem wrapK_intro {a:IntKind} {n:Nat} {k:Int→Prop} (hn:n ≤ topN a) (h:k (Int.ofNat n)):wrapK a (Int.ofNat n) k:=by
 show Bool.rec (motive:=fun _=>Prop) (fI (a.wrap (Int.ofNat n)) k) (fN n fun m=>k (Int.ofNat m)) (Nat.ble n (topN a))
 have:Nat.ble n (topN a)=true:=by simpa using hn
 rw [this];exact zy (k:=fun m=>k (Int.ofNat m)) h

theorem got_new {S S1:St} {o:O} (h:S1.hs=S.hs.new o):S1.hs.get S.next=some o:=by rw [h];exact if_pos rfl
theorem got_new_ne {S S1:St} {o:O} (h:S1.hs=S.hs.new o) {id:Nat} (hn:id ≠ S.next):S1.hs.get id=S.hs.get id:=by rw [h];exact if_neg hn
theorem next_new {S S1:St} {o:O} (h:S1.hs=S.hs.new o):S1.next=S.next+1:=congrArg Hs.next h
theorem got_put {S S1:St} {o:Option O} {id:Nat} (h:S1.hs=S.hs.put id o):S1.hs.get id=o:=by rw [h];exact if_pos rfl
theorem got_put_ne {S S1:St} {o:Option O} {id0:Nat} (h:S1.hs=S.hs.put id0 o) {id:Nat} (hn:id ≠ id0):S1.hs.get id=S.hs.get id:=by rw [h];exact if_neg hn
theorem next_put {S S1:St} {o:Option O} {id:Nat} (h:S1.hs=S.hs.put id o):S1.next=S.next:=congrArg Hs.next h
/-- Labels: names and values. -/
abbrev Lab:=List UInt8 × List UInt8
def cellsOf:List Lab→List V
 | []=>[]
 | q :: l=>.str q.1 :: .str q.2 :: cellsOf l
def labV (q:Lab):V:=.agg [.str q.1,.str q.2]
theorem cellsOf_drop:∀ (l:List Lab) (j:Nat),(cellsOf l).drop (2 * j)=cellsOf (l.drop j)
 | [],j=>by simp [cellsOf]
 | q :: l,0=>rfl
 | q :: l,j+1=>by
   have:=cellsOf_drop l j
   rw [show 2 * (j+1)=2 * j+1+1 by omega]
   simpa [cellsOf] using this
theorem cellsOf_length:∀ l:List Lab,(cellsOf l).length=2 * l.length
 | []=>rfl
 | q :: l=>by simp [cellsOf,cellsOf_length l];omega
theorem dropK_intro {α:Type} {k:List α→Prop}:∀ {n:Nat} {l:List α},n ≤ l.length→k (l.drop n)→dropK n l k
 | 0,l,_,h=>h
 | n+1,[],hn,_=>by simp at hn
 | n+1,x :: l,hn,h=>dropK_intro (n:=n) (l:=l) (by simpa using hn) h
/-- A label's cells. -/
theorem partK_lab {t:TypeId} (ha:aggP P t=some true) {i:TypeInfo} (hi:P.info? t=some i) (hs:i.size=2) {l:List Lab} {j off:Nat} {q:Lab} (hq:l[j]?=some q) (ho:off=2 * j) {k:V→Prop} (h:k (labV q)):yZ P t off (cellsOf l) k:=by
 unfold yZ
 rw [ha]
 show szK P t fun n=>dropK off (cellsOf l) fun r=>takeK n r fun r=>k (.agg r)
 unfold szK
 rw [hi]
 show dropK off (cellsOf l) fun r=>takeK i.size r fun r=>k (.agg r)
 rw [hs]
 have hlt:j < l.length:=(List.getElem?_eq_some_iff.1 hq).1
 refine dropK_intro (by rw [cellsOf_length];omega) ?_
 rw [ho,cellsOf_drop]
 have hd:l.drop j=q :: l.drop (j+1):=by
  rw [List.drop_eq_getElem_cons hlt]
  congr 1
  rw [List.getElem?_eq_getElem hlt] at hq
  exact Option.some.inj hq
 rw [hd]
 exact h
/-- Nothing that was there is turned; at most so many objects are new. -/
def Keeps (S S':St) (m:Nat):Prop:=(∀ id,id < S.next→S'.hs.get id=S.hs.get id)∧S.next ≤ S'.next∧S'.next ≤ S.next+m
theorem Keeps.refl (S:St) (m:Nat):Keeps S S m:=⟨fun _ _=>rfl,Nat.le_refl _,Nat.le_add_right _ _⟩
theorem Keeps.new {S S1 S2:St} {m m':Nat} {o:O} (h:Keeps S S1 m) (h2:S2.hs=S1.hs.new o) (hm:m+1 ≤ m'):Keeps S S2 m' :=
 ⟨fun id hid=>by rw [got_new_ne h2 (by have:=h.2.1;omega)];exact h.1 id hid,by rw [next_new h2];have:=h.2.1;omega,by rw [next_new h2];have:=h.2.2;omega⟩
theorem Keeps.put {S S1 S2:St} {m:Nat} {o:Option O} {id0:Nat} (h:Keeps S S1 m) (h2:S2.hs=S1.hs.put id0 o) (hi:S.next ≤ id0):Keeps S S2 m :=
 ⟨fun id hid=>by rw [got_put_ne h2 (by omega)];exact h.1 id hid,by rw [next_put h2];exact h.2.1,by rw [next_put h2];exact h.2.2⟩
/-- The value of a name. -/
def getL (s:List UInt8):List Lab→List UInt8
 | []=>[]
 | q :: l=>if q.1=s then q.2 else getL s l
theorem getL_at {s:List UInt8}:∀ {l:List Lab} {j:Nat} (hj:j < l.length),(∀ q ∈ l.take j,q.1 ≠ s)→l[j].1=s→getL s l=l[j].2
 | [],j,hj,_,_=>by simp at hj
 | q :: l,0,_,_,h=>by
   have:q.1=s:=h
   show (if q.1=s then q.2 else getL s l)=q.2
   rw [if_pos this]
 | q :: l,j+1,hj,hn,h=>by
   have hq:q.1 ≠ s:=hn q (by simp)
   show (if q.1=s then q.2 else getL s l)=_
   rw [if_neg hq]
   exact getL_at (by simpa using hj) (fun x hx=>hn x (by simp [hx])) h
theorem getL_none {s:List UInt8}:∀ {l:List Lab},(∀ q ∈ l,q.1 ≠ s)→getL s l=[]
 | [],_=>rfl
 | q :: l,h=>by
   show (if q.1=s then q.2 else getL s l)=_
   rw [if_neg (h q (by simp))]
   exact getL_none fun x hx=>h x (by simp [hx])
end Go.Am
/- A call's contract, carried to another heap: other numbers, other objects beside, less garbage. -/
namespace Go.Am
variable {P:Program}

mutual
/-- The same value but for numbers, or less known of it. -/
inductive VI (R:Nat→Nat→Prop):V→V→Prop
 | bool (b:Bool):VI R (.bool b) (.bool b)
 | int (k:IntKind) (n:Int):VI R (.int k n) (.int k n)
 | float (k:FloatKind) (n:Nat):VI R (.float k n) (.float k n)
 | str (s:List UInt8):VI R (.str s) (.str s)
 | ptr {i j:Nat} (off:Nat) (h:R i j):VI R (.ptr i off) (.ptr j off)
 | nilPtr:VI R .nilPtr .nilPtr
 | slice {i j:Nat} (off len cap es:Nat) (ex:Bool) (cap2:Nat) (ex2:Bool) (h:R i j) (hl:cap2=cap ∨ len ≤ cap2) (hc:cap2 ≤ cap) (hx:ex2=true→ex=true∧cap2=cap):VI R (.slice i off len cap es ex) (.slice j off len cap2 es ex2)
 | nilSlice:VI R .nilSlice .nilSlice
 | map {i j:Nat} (h:R i j):VI R (.map i) (.map j)
 | nilMap:VI R .nilMap .nilMap
 | func (fn:Fn) {a b a' b':List V} (ha:VIs R a a') (hb:VIs R b b'):VI R (.func fn a b) (.func fn a' b')
 | yield {i j:Nat} (h:R i j):VI R (.yield i) (.yield j)
 | nilFunc:VI R .nilFunc .nilFunc
 | iface (t:TypeId) {v v':V} (h:VI R v v'):VI R (.iface t v) (.iface t v')
 | nilIface:VI R .nilIface .nilIface
 | agg {a a':List V} (ha:VIs R a a'):VI R (.agg a) (.agg a')
 | tup {a a':List V} (ha:VIs R a a'):VI R (.tup a) (.tup a')
 | any:VI R .any .any
 | toAny {v:V} (h:v.one=true):VI R v .any
inductive VIs (R:Nat→Nat→Prop):List V→List V→Prop
 | nil:VIs R [] []
 | cons {v v':V} {l l':List V} (h:VI R v v') (hs:VIs R l l'):VIs R (v :: l) (v' :: l')
end
/-- The same place; perhaps it is no longer known that it may be written. -/
def Lo (l l':Loc):Prop:=l'.blk=l.blk∧l'.base=l.base∧l'.csz=l.csz∧(l'.rw=true→l.rw=true)
theorem Lo.refl (l:Loc):Lo l l:=⟨rfl,rfl,rfl,id⟩
def Tr (ρ ρ':Rho) (R:Nat→Nat→Prop):Prop:=∀ i j l,R i j→ρ i=some l→∃ l',ρ' j=some l'∧Lo l l'
theorem Tr.of {ρ ρ':Rho} {R:Nat→Nat→Prop} (h:∀ i j l,R i j→ρ i=some l→ρ' j=some l):Tr ρ ρ' R:=fun i j l a b=>⟨l,h i j l a b,.refl l⟩
mutual
theorem VI.tr {ρ ρ':Rho} {R:Nat→Nat→Prop} (hR:Tr ρ ρ' R):∀ {u v:V} {w:Value},VI R u v→VR ρ u w→VR ρ' v w
 | _,_,_,.bool b,.bool _=>.bool b
 | _,_,_,.int k n,.int _ _=>.int k n
 | _,_,_,.float k n,.float _ _=>.float k n
 | _,_,_,.str s,.str _=>.str s
 | _,_,_,.ptr off h,.ptr _ h'=>by
   obtain ⟨l',a,b,c,_⟩:=hR _ _ _ h h'
   rw [← b,← c];exact .ptr off a
 | _,_,_,.nilPtr,.nilPtr=>.nilPtr
 | _,_,_,.slice off len cap es ex cap2 ex2 h hl hc hx,.slice _ _ _ _ _ off' cap' h' ho hc' hx' hl' hr=>by
   obtain ⟨l',a,b,c,d,e⟩:=hR _ _ _ h h'
   rw [← b,← c]
   exact .slice off len cap2 es ex2 off' cap' a (fun h0=>ho (Nat.lt_of_lt_of_le h0 hc)) (Nat.le_trans hc hc') (fun e=>by rw [hx' (hx e).1,(hx e).2]) (by rcases hl with h|h;rw [h];exact hl';exact h) (fun h0=>by rw [c,d];exact hr (e h0))
 | _,_,_,.nilSlice,.nilSlice=>.nilSlice
 | _,_,_,.map h,.map h'=>by
   obtain ⟨l',a,b,_⟩:=hR _ _ _ h h'
   rw [← b];exact .map a
 | _,_,_,.nilMap,.nilMap=>.nilMap
 | _,_,_,.func fn ha hb,.func _ ha' hb'=>.func fn (VIs.tr hR ha ha') (VIs.tr hR hb hb')
 | _,_,_,.yield h,.yield h'=>by
   obtain ⟨l',a,b,_⟩:=hR _ _ _ h h'
   rw [← b];exact .yield a
 | _,_,_,.nilFunc,.nilFunc=>.nilFunc
 | _,_,_,.iface t h,.iface _ h'=>.iface t (VI.tr hR h h')
 | _,_,_,.nilIface,.nilIface=>.nilIface
 | _,_,_,.agg ha,.agg ha'=>.agg (VIs.tr hR ha ha')
 | _,_,_,.tup ha,.tup ha'=>.tup (VIs.tr hR ha ha')
 | _,_,_,.any,h'=>.any (by cases h';assumption)
 | _,_,_,.toAny h,h'=>.any (by rw [h'.one];exact h)
theorem VIs.tr {ρ ρ':Rho} {R:Nat→Nat→Prop} (hR:Tr ρ ρ' R):∀ {u v:List V} {w:List Value},VIs R u v→VRs ρ u w→VRs ρ' v w
 | _,_,_,.nil,.nil=>.nil
 | _,_,_,.cons h hs,.cons h' hs'=>.cons (VI.tr hR h h') (VIs.tr hR hs hs')
end
theorem VIs.length {R:Nat→Nat→Prop}:∀ {a b:List V},VIs R a b→a.length=b.length
 | _,_,.nil=>rfl
 | _,_,.cons _ hs=>by simp [VIs.length hs]
theorem VIs.get {R:Nat→Nat→Prop}:∀ {a b:List V},VIs R a b→∀ {i:Nat} {v:V},b[i]?=some v→∃ u,a[i]?=some u∧VI R u v
 | _,_,.nil,i,v,h=>by simp at h
 | _,_,.cons h hs,0,v,e=>by simp at e;subst e;exact ⟨_,rfl,h⟩
 | _,_,.cons h hs,i+1,v,e=>by simpa using hs.get (by simpa using e)
theorem VIs.app {R:Nat→Nat→Prop}:∀ {a b c d:List V},VIs R a b→VIs R c d→VIs R (a ++ c) (b ++ d)
 | _,_,_,_,.nil,k=>k
 | _,_,_,_,.cons h hs,k=>.cons h (hs.app k)
inductive EI (R:Nat→Nat→Prop):List (V × V × Nat)→List (V × V × Nat)→Prop
 | nil:EI R [] []
 | cons {k k' v v':V} {b:Nat} {es es':List (V × V × Nat)} (hk:VI R k k') (hv:VI R v v') (hs:EI R es es'):EI R ((k,v,b) :: es) ((k',v',b) :: es')
theorem EI.tr {ρ ρ':Rho} {R:Nat→Nat→Prop} (hR:Tr ρ ρ' R):∀ {a b:List (V × V × Nat)} {c:List MapEntry},EI R a b→EsR ρ a c→EsR ρ' b c
 | _,_,[],.nil,h=>h
 | _,_,_ :: _,.nil,h=>h
 | _,_,[],.cons _ _ _,h=>h
 | _,_,_ :: _,.cons hk hv hs,⟨a,b,c,d⟩=>⟨hk.tr hR a,hv.tr hR b,c,hs.tr hR d⟩
/-- The same object but for numbers, or less known of it. -/
inductive OI (R:Nat→Nat→Prop):O→O→Prop
 | cells {cs cs':List V} {e:TypeId} {fl fl':Fl} (hc:VIs R cs cs') (hf:fl'=fl ∨ fl=.ex ∨ fl'=.ro):OI R (.cells cs e fl) (.cells cs' e fl')
 | part {cs cs' rest:List V} {e:TypeId} {fl:Fl} (hc:VIs R cs cs'):OI R (.cells (cs ++ rest) e fl) (.cells cs' e .ro)
 | map {es es':List (V × V × Nat)} {c:Nat} (h:EI R es es'):OI R (.map es c) (.map es' c)
 | strIter (s:List UInt8) (p:Nat):OI R (.strIter s p) (.strIter s p)
 | mapIter0 {a c:Nat} {b:List Nat}:OI R (.mapIter none a b c) (.mapIter none a b c)
 | mapIter {i j a c:Nat} {b:List Nat} (h:R i j):OI R (.mapIter (some i) a b c) (.mapIter (some j) a b c)
 | deferred:OI R .deferred .deferred
/-- Objects that may be written. -/
def O.wr:O→Bool
 | .cells _ _ .ro=>false
 | _=>true
theorem OR.wr {ρ:Rho} {l:Loc} {o:O} {co:Obj} (h:OR ρ l o co) (hw:o.wr=true):l.rw=true:=by
 cases o with
 | cells cs e fl =>
   obtain ⟨c,f,_,_,_,_,e,_⟩:=h
   exact (e (fun h=>by subst h;cases hw)).1
 | map es c=>exact h.1
 | strIter s p=>exact h.1.1
 | mapIter m a b c=>exact h.1.1
 | loop a b c d e f g=>exact h.1.1
 | deferred=>exact h.1
theorem OI.tr {ρ ρ':Rho} {R:Nat→Nat→Prop} (hR:Tr ρ ρ' R) {o o':O} {l l':Loc} {co:Obj} (h:OI R o o') (hl:Lo l l') (hw:o'.wr=true→l'.rw=l.rw) (ho:OR ρ l o co):OR ρ' l' o' co:=by
 obtain ⟨hb,hba,hcz,_⟩:=hl
 cases h with
 | cells hc hf =>
   rename_i cs cs' et fl fl'
   obtain ⟨c,f,a,b,c2,d,e,x⟩:=ho
   refine ⟨c,f,a,by rw [hcz];exact b,by rw [hba,← hc.length];exact c2,fun i v hv=>?_,?_,?_⟩
   ·obtain ⟨u,hu,hi⟩:=hc.get hv
    obtain ⟨v',hv',hr⟩:=d i u hu
    exact ⟨v',by rw [hba];exact hv',hi.tr hR hr⟩
   ·intro hn
    have hw':(O.cells cs' et fl').wr=true:=by cases fl' <;> first|rfl|exact absurd rfl hn
    rw [hw hw']
    rcases hf with rfl|rfl|rfl
    ·exact e hn
    ·exact e (by simp)
    ·exact absurd rfl hn
   ·intro hn
    rw [hba]
    rcases hf with rfl|rfl|rfl
    ·rw [← hc.length];exact x hn
    ·rw [← hc.length];exact x rfl
    ·cases hn
 | part hc =>
   obtain ⟨c,f,a,b,c2,d,e,x⟩:=ho
   refine ⟨c,f,a,by rw [hcz];exact b,by rw [hba,← hc.length];simp at c2;omega,fun i v hv=>?_,fun h=>absurd rfl h,fun h=>by cases h⟩
   obtain ⟨u,hu,hi⟩:=hc.get hv
   obtain ⟨v',hv',hr⟩:=d i u (by rw [List.getElem?_append_left (List.getElem?_eq_some_iff.1 hu).1];exact hu)
   exact ⟨v',by rw [hba];exact hv',hi.tr hR hr⟩
 | map h=>obtain ⟨r,es',a,b⟩:=ho;exact ⟨by rw [hw rfl];exact r,es',a,h.tr hR b⟩
 | strIter s p=>exact ⟨⟨by rw [hw rfl];exact ho.1.1,by rw [hba];exact ho.1.2⟩,ho.2⟩
 | mapIter0=>exact ⟨⟨by rw [hw rfl];exact ho.1.1,by rw [hba];exact ho.1.2⟩,ho.2⟩
 | mapIter h =>
   obtain ⟨r,m',a,l1,x,y⟩:=ho
   obtain ⟨l2,p,q,_⟩:=hR _ _ _ h x
   exact ⟨⟨by rw [hw rfl];exact r.1,by rw [hba];exact r.2⟩,m',a,l2,p,by rw [q];exact y⟩
 | deferred=>exact ⟨by rw [hw rfl];exact ho.1,ho.2⟩
theorem Nx.to {ρ ρ2:Rho} {H H' K K':Hs} {w:World} {v v2:V} {r:Result Next} (h:Nx P ρ H w v H' r) (hR:∀ e w',Rt ρ H w v H' e w'→Rt ρ2 K w v2 K' e w'):Nx P ρ2 K w v2 K' r:=by
 cases r with
 | halt e w'=>exact h.elim
 | ok n w' =>
   cases n with
   | value v'=>exact hR _ _ h
   | skip=>exact hR _ _ h
   | enter f args =>
     have h':CallsIn (W none) 0 P f args w' (Rt ρ H w v H'):=h
     exact h'.mono fun e w'' hr=>hR _ _ hr
   | round l f tmps assign body =>
     have h':RoundIn (W none) 0 P l f tmps assign body w' (Rt ρ H w v H'):=h
     exact h'.mono fun e w'' hr=>hR _ _ hr
   | _=>exact h.elim
/-- Numbers of the one heap and of the other: those of the start that are not for reading alone, and those that are new. -/
def RF (ro:Nat→Bool) (f g:Nat→Nat) (n m m':Nat):Nat→Nat→Prop:=fun i j=>(i < n∧j=f i∧ro i=false) ∨ (n ≤ i∧m ≤ j∧j < m'∧i=g j)
/-- A call's contract in another heap. 'ro': what is for reading alone. -/
theorem CallS.frame {c:FuncId} {l l2:List V} {H H' K K':Hs} {v v2:V} (h:CallS P c l H v H') (ro:Nat→Bool) (f g:Nat→Nat) (hgl:ngl ≤ H.next) (hf0:∀ i,i < ngl→f i=i)
  (hinj:∀ i i',(H.get i).isSome→(H.get i').isSome→ro i=false→f i=f i'→i=i')
  (hget:∀ i o,H.get i=some o→i < H.next∧(ro i=true→o.wr=false)∧∃ o',K.get (f i)=some o'∧OI (fun j i=>i < H.next∧j=f i) o' o)
  (hl:VIs (fun j i=>i < H.next∧j=f i) l2 l) (hv:VI (RF ro f g H.next K.next K'.next) v v2) (hnx:K.next ≤ K'.next)
  (hg:∀ j j',K.next ≤ j→j < K'.next→K.next ≤ j'→j' < K'.next→g j=g j'→j=j')
  (hK':∀ j o,K'.get j=some o→(∃ i o1,RF ro f g H.next K.next K'.next i j∧H'.get i=some o1∧OI (RF ro f g H.next K.next K'.next) o1 o∧o1.wr=true) ∨ (K.get j=some o∧∀ i,i < H.next→f i=j→ro i=false→H.get i=none)) :
  CallS P c l2 K v2 K':=fun ρ w l' hglob hs hl'=>by
 let cut:Nat→Loc→Loc:=fun i l=>if ro i=true then { l with rw:=false } else l
 let ρs:Rho:=fun i=>if i < H.next then (ρ (f i)).map (cut i) else none
 have hcut:∀ i l,Lo l (cut i l):=fun i l=>by
  show Lo l (if ro i=true then { l with rw:=false } else l)
  split
  ·exact ⟨rfl,rfl,rfl,fun h=>by cases h⟩
  ·exact .refl l
 have hcut0:∀ i l,ro i=false→cut i l=l:=fun i l h=>by
  show (if ro i=true then { l with rw:=false } else l)=l
  rw [if_neg (by simp [h])]
 have hcut1:∀ i l,(cut i l).rw=true→ro i=false:=fun i l h=>by
  cases hr:ro i with
  | false=>rfl
  | true =>
    have:(cut i l).rw=false:=by show (if ro i=true then ({ l with rw:=false }:Loc) else l).rw=false;rw [if_pos hr]
    rw [this] at h;cases h
 have hin':∀ i l,i < H.next→ρ (f i)=some l→ρs i=some (cut i l):=fun i l h1 h2=>by
  show (if i < H.next then (ρ (f i)).map (cut i) else none)=some (cut i l)
  rw [if_pos h1,h2];rfl
 have hin:Tr ρ ρs (fun j i=>i < H.next∧j=f i):=by
  rintro j i l ⟨h1,rfl⟩ h2
  exact ⟨_,hin' i l h1 h2,hcut i l⟩
 have hout:∀ i l,ρs i=some l→i < H.next∧∃ l0,ρ (f i)=some l0∧l=cut i l0:=fun i l hi=>by
  have hi':(if i < H.next then (ρ (f i)).map (cut i) else none)=some l:=hi
  by_cases hlt:i < H.next
  ·rw [if_pos hlt] at hi'
   cases hf:ρ (f i) with
   | none=>rw [hf] at hi';cases hi'
   | some l0=>rw [hf] at hi';exact ⟨hlt,l0,rfl,(Option.some.inj hi').symm⟩
  ·rw [if_neg hlt] at hi';cases hi'
 have hsome:∀ i,(H.get i).isSome→(K.get (f i)).isSome:=fun i hi=>by
  obtain ⟨o,ho⟩:=Option.isSome_iff_exists.1 hi
  obtain ⟨_,_,o',ho',_⟩:=hget i o ho
  rw [ho'];rfl
 have hgs:Globs ρs:=fun i hi=>by
  obtain ⟨l,a,b,c⟩:=hglob i hi
  obtain ⟨p,q,_⟩:=hcut i l
  exact ⟨cut i l,hin' i l (by omega) (by rw [hf0 i hi];exact a),by rw [p,b],by rw [q,c]⟩
 have hss:Sim ρs H w:=by
  refine ⟨fun i o ho=>?_,fun i i' li li' hi hi' hli hli' hrw hne=>?_,fun i hi=>?_⟩
  ·obtain ⟨hi,hro,o',ho',hoi⟩:=hget i o ho
   obtain ⟨l,co,a,b,d⟩:=hs.obj _ _ ho'
   refine ⟨cut i l,co,hin' i l hi a,by rw [(hcut i l).1];exact b,hoi.tr hin (hcut i l) (fun hw=>?_) d⟩
   cases hr:ro i with
   | false=>rw [hcut0 i l hr]
   | true=>rw [hro hr] at hw;cases hw
  ·obtain ⟨_,l0,p,rfl⟩:=hout i li hli
   obtain ⟨_,l0',p',rfl⟩:=hout i' li' hli'
   have hr:=hcut1 i l0 hrw
   rw [(hcut i l0).1,(hcut i' l0').1]
   exact hs.sep (f i) (f i') l0 l0' (hsome i hi) (hsome i' hi') p p' ((hcut i l0).2.2.2 hrw) fun e=>hne (hinj i i' hi hi' hr e)
  ·show (if i < H.next then (ρ (f i)).map (cut i) else none)=none
   rw [if_neg (by omega)]
 refine (h ρs w l' hgs hss (hl.tr hin hl')).to fun e w' ⟨v',ρs',he,hvr,hsim,hx⟩=>?_
 let ρK:Rho:=fun j=>if j < K.next then ρ j else if j < K'.next then ρs' (g j) else none
 have hlow:∀ j,j < K.next→ρK j=ρ j:=fun j hj=>if_pos hj
 have hR0:∀ i j l,RF ro f g H.next K.next K'.next i j→ρs' i=some l→ρK j=some l:=by
  rintro i j l (⟨h1,rfl,hr⟩|⟨h1,h2,h3,rfl⟩) hl
  ·rw [hx.rho i h1] at hl
   obtain ⟨_,l0,p,rfl⟩:=hout i l hl
   rw [hcut0 i l0 hr,hlow _ (hs.lt p)];exact p
  ·show (if j < K.next then ρ j else if j < K'.next then ρs' (g j) else none)=some l
   rw [if_neg (by omega),if_pos h3];exact hl
 have hR:Tr ρs' ρK (RF ro f g H.next K.next K'.next):=.of hR0
 have hle:ρ.le ρK:=fun i l hi=>by rw [hlow i (hs.lt hi)];exact hi
 have hblk:∀ j o l,K.get j=some o→ρ j=some l→l.blk < w.heap.size:=fun j o l ho hl=>by
  obtain ⟨l2,co,a,b,_⟩:=hs.obj j o ho
  rw [hl] at a;cases a
  rcases Nat.lt_or_ge l.blk w.heap.size with h'|h'
  ·exact h'
  ·simp [Array.getElem?_eq_none h'] at b
 have hown1:∀ b,Own ρs H b→∃ i l,(H.get i).isSome∧i < H.next∧ρ (f i)=some l∧l.rw=true∧l.blk=b∧ro i=false:=fun b ⟨i,l,h1,h2,h3,h4⟩=>by
  obtain ⟨hi,l0,p,rfl⟩:=hout i l h2
  exact ⟨i,l0,h1,hi,p,(hcut i l0).2.2.2 h3,by rw [← (hcut i l0).1];exact h4,hcut1 i l0 h3⟩
 have hown:∀ b,Own ρs H b→Own ρ K b:=fun b hb=>by
  obtain ⟨i,l,h1,_,h2,h3,h4,_⟩:=hown1 b hb
  exact ⟨f i,l,hsome i h1,h2,h3,h4⟩
 have hhas:∀ b,Has ρs H b→Has ρ K b:=fun b ⟨i,l,h1,h2,h4⟩=>by
  obtain ⟨_,l0,p,rfl⟩:=hout i l h2
  exact ⟨f i,l0,hsome i h1,p,by rw [← (hcut i l0).1];exact h4⟩
 -- what K' holds,with its block
 have hcase:∀ j,(K'.get j).isSome→∀ l,ρK j=some l→(∃ i,RF ro f g H.next K.next K'.next i j∧(H'.get i).isSome∧ρs' i=some l∧l.rw=true) ∨ ((K.get j).isSome∧ρ j=some l∧∀ i,i < H.next→f i=j→ro i=false→H.get i=none):=fun j hj l hl=>by
  obtain ⟨o,ho⟩:=Option.isSome_iff_exists.1 hj
  rcases hK' j o ho with ⟨i,o1,h1,h2,h3,h4⟩|⟨h1,h2⟩
  ·obtain ⟨l1,_,a,_,b⟩:=hsim.obj i o1 h2
   have:=hR0 i j l1 h1 a
   rw [hl] at this;cases this
   exact .inl ⟨i,h1,by rw [h2];rfl,a,b.wr h4⟩
  ·obtain ⟨l1,_,a,_,_⟩:=hs.obj j o h1
   have:=hle j l1 a
   rw [hl] at this;cases this
   exact .inr ⟨by rw [h1];rfl,a,h2⟩
 have hapart:∀ (j:Nat) (l:Loc),(K.get j).isSome→ρ j=some l→(∀ i,i < H.next→f i=j→ro i=false→H.get i=none)→¬ Own ρs H l.blk:=fun j l h1 h2 h3 ho=>by
  obtain ⟨i,l0,a,hi,b,c,d,hr⟩:=hown1 _ ho
  have hfi:f i ≠ j:=fun e=>by
   have:=h3 i hi e hr
   rw [this] at a;cases a
  exact hs.sep (f i) j l0 l (hsome i a) h1 b h2 c hfi d
 have hnew:∀ (i j:Nat) (l l':Loc),(H'.get i).isSome→ρs' i=some l→l.rw=true→(K.get j).isSome→ρ j=some l'→(∀ i,i < H.next→f i=j→ro i=false→H.get i=none)→l.blk ≠ l'.blk:=fun i j l l' a2 a3 a4 b1 b2 b3 e=>by
  have hb:l'.blk < w.heap.size:=by
   obtain ⟨o',ho'⟩:=Option.isSome_iff_exists.1 b1
   exact hblk j o' l' ho' b2
  rcases hx.own l.blk ⟨i,l,a2,a3,a4,rfl⟩ with h1|h1
  ·omega
  ·rw [e] at h1;exact hapart j l' b1 b2 b3 h1
 have hsimK:Sim ρK K' w':=by
  refine ⟨fun j o ho=>?_,fun j j' l l' hj hj' hl hl' hrw hne=>?_,fun j hj=>?_⟩
  ·rcases hK' j o ho with ⟨i,o1,h1,h2,h3,_⟩|⟨h1,h2⟩
   ·obtain ⟨l,co,a,b,d⟩:=hsim.obj i o1 h2
    exact ⟨l,co,hR0 i j l h1 a,b,h3.tr hR (.refl l) (fun _=>rfl) d⟩
   ·obtain ⟨l,co,a,b,d⟩:=hs.obj j o h1
    refine ⟨l,co,hle j l a,?_,d.mono hle⟩
    rw [hx.keep l.blk (hblk j o l h1 a) (hapart j l (by rw [h1];rfl) a h2)]
    exact b
  ·rcases hcase j hj l hl with ⟨i,a1,a2,a3,a4⟩|⟨a1,a2,a3⟩
   ·rcases hcase j' hj' l' hl' with ⟨i',b1,b2,b3,b4⟩|⟨b1,b2,b3⟩
    ·refine hsim.sep i i' l l' a2 b2 a3 b3 hrw fun e=>hne ?_
     subst e
     rcases a1 with ⟨c1,c2,_⟩|⟨c1,c2,c3,c4⟩
     ·rcases b1 with ⟨d1,d2,_⟩|⟨d1,_⟩
      ·rw [c2,d2]
      ·omega
     ·rcases b1 with ⟨d1,d2,_⟩|⟨d1,d2,d3,d4⟩
      ·omega
      ·exact hg j j' c2 c3 d2 d3 (by rw [← c4,← d4])
    ·exact hnew i j' l l' a2 a3 a4 b1 b2 b3
   ·rcases hcase j' hj' l' hl' with ⟨i',b1,b2,b3,b4⟩|⟨b1,b2,b3⟩
    ·exact fun e=>hnew i' j l' l b2 b3 b4 a1 a2 a3 e.symm
    ·exact hs.sep j j' l l' a1 b1 a2 b2 hrw hne
  ·show (if j < K.next then ρ j else if j < K'.next then ρs' (g j) else none)=none
   rw [if_neg (by omega),if_neg (by omega)]
 refine ⟨v',ρK,he,hv.tr hR hvr,hsimK,?_⟩
 exact {
  rho:=hlow,next:=hnx,size:=hx.size
  keep:=fun b hb hn=>hx.keep b hb fun ho=>hn (hown b ho)
  own:=fun b ⟨j,l,hj,hl,hrw,hb⟩=>by
   rcases hcase j hj l hl with ⟨i,a1,a2,a3,_⟩|⟨a1,a2,a3⟩
   ·rcases hx.own b ⟨i,l,a2,a3,hrw,hb⟩ with h1|h1
    ·exact .inl h1
    ·exact .inr (hown b h1)
   ·exact .inr ⟨j,l,a1,a2,hrw,hb⟩
  has:=fun b ⟨j,l,hj,hl,hb⟩=>by
   rcases hcase j hj l hl with ⟨i,a1,a2,a3,_⟩|⟨a1,a2,a3⟩
   ·rcases hx.has b ⟨i,l,a2,a3,hb⟩ with h1|h1
    ·exact .inl h1
    ·exact .inr (hhas b h1)
   ·exact .inr ⟨j,l,a1,a2,hb⟩
  tape:=hx.tape,os:=hx.os,output:=hx.output,drawn:=hx.drawn }
end Go.Am
/- Runs from a small heap of known objects; loops that leave garbage behind. -/
namespace Go.Am
variable {P:Program}

/-! What all objects of a heap are. -/
def T.All (p:Nat→O→Prop):T O→Nat→Nat→Prop
 | .nil,_,_=>True
 | .node v a b c d,s,r=>(match v with|none=>True|some o=>p r o)∧T.All p a (4 * s) (r+s)∧T.All p b (4 * s) (r+2 * s)∧T.All p c (4 * s) (r+3 * s)∧T.All p d (4 * s) (r+4 * s)
theorem T.All.getL {p:Nat→O→Prop}:∀ {l:List D4} {t:T O} {s r:Nat} {o:O},T.All p t s r→T.getL l t=some o→p (r+s * numL l) o
 | l,.nil,s,r,o,_,h=>by rw [T.getL_nil] at h;cases h
 | [],.node v a b c d,s,r,o,h,hg=>by
   have hv:v=some o:=hg
   subst hv
   simpa [numL] using h.1
 | x :: l,.node v a b c d,s,r,o,h,hg=>by
   rw [T.getL_cons] at hg
   have he:r+s * numL (x :: l)=r+dn x * s+4 * s * numL l:=by
    show r+s * (dn x+4 * numL l)=_
    rw [Nat.mul_add,← Nat.mul_assoc,Nat.mul_comm s 4,Nat.mul_comm s (dn x)];omega
   rw [he]
   cases x
   ·have h1:=T.All.getL h.2.1 hg
    rw [show r+dn .a * s=r+s by simp [dn]];exact h1
   ·exact T.All.getL h.2.2.1 hg
   ·exact T.All.getL h.2.2.2.1 hg
   ·exact T.All.getL h.2.2.2.2 hg
theorem T.All.get {p:Nat→O→Prop} {t:T O} (h:T.All p t 1 0) {id:Nat} {o:O} (hg:T.get deep id t=some o):p id o:=by
 unfold T.get at hg
 cases hd:digs deep id with
 | none=>rw [hd] at hg;cases hg
 | some l =>
   rw [hd] at hg
   have:=h.getL (l:=l) (o:=o) hg
   rw [(digs_num hd).1] at this
   simpa using this

/-! Loops. -/
def Rb (n:Nat):Nat→Nat→Prop:=fun i j=>i < n∧j=i
/-- What is kept of a heap: nothing that was there at the start is lost. -/
structure Drop (S S1 S2:St):Prop where
 next:S.next ≤ S2.next
 held:T.All (fun id o=>id < S2.next∧∃ o1,T.get deep id S1.hp=some o1∧OI (Rb S2.next) o1 o) S2.hp 1 0
mutual
/-- A value without numbers from one on. -/
def V.clean (n:Nat):V→V
 | .ptr id off=>bif Nat.blt id n then .ptr id off else .any
 | .slice id off len cap es ex=>bif Nat.blt id n then .slice id off len cap es ex else .any
 | .map id=>bif Nat.blt id n then .map id else .any
 | .yield id=>bif Nat.blt id n then .yield id else .any
 | .func fn a b=>.func fn (V.cleanL n a) (V.cleanL n b)
 | .iface t v=>.iface t (V.clean n v)
 | .agg a=>.agg (V.cleanL n a)
 | .tup a=>.tup (V.cleanL n a)
 | .bool b=>.bool b
 | .int k m=>.int k m
 | .float k m=>.float k m
 | .str s=>.str s
 | .nilPtr=>.nilPtr
 | .nilSlice=>.nilSlice
 | .nilMap=>.nilMap
 | .nilFunc=>.nilFunc
 | .nilIface=>.nilIface
 | .any=>.any
def V.cleanL (n:Nat):List V→List V
 | []=>[]
 | v :: l=>V.clean n v :: V.cleanL n l
end
theorem blt_lt {a b:Nat} (h:Nat.blt a b=true):a < b:=Nat.le_of_ble_eq_true h
mutual
theorem V.clean_vi (n:Nat):∀ v:V,VI (Rb n) v (V.clean n v)
 | .ptr id off=>by
   unfold V.clean
   cases h:Nat.blt id n
   ·exact .toAny rfl
   ·exact .ptr off ⟨blt_lt h,rfl⟩
 | .slice id off len cap es ex=>by
   unfold V.clean
   cases h:Nat.blt id n
   ·exact .toAny rfl
   ·exact .slice off len cap es ex cap ex ⟨blt_lt h,rfl⟩ (.inl rfl) (Nat.le_refl _) fun h=>⟨h,rfl⟩
 | .map id=>by
   unfold V.clean
   cases h:Nat.blt id n
   ·exact .toAny rfl
   ·exact .map ⟨blt_lt h,rfl⟩
 | .yield id=>by
   unfold V.clean
   cases h:Nat.blt id n
   ·exact .toAny rfl
   ·exact .yield ⟨blt_lt h,rfl⟩
 | .func fn a b=>.func fn (V.clean_vis n a) (V.clean_vis n b)
 | .iface t v=>.iface t (V.clean_vi n v)
 | .agg a=>.agg (V.clean_vis n a)
 | .tup a=>.tup (V.clean_vis n a)
 | .bool b=>.bool b
 | .int k m=>.int k m
 | .float k m=>.float k m
 | .str s=>.str s
 | .nilPtr=>.nilPtr
 | .nilSlice=>.nilSlice
 | .nilMap=>.nilMap
 | .nilFunc=>.nilFunc
 | .nilIface=>.nilIface
 | .any=>.any
theorem V.clean_vis (n:Nat):∀ l:List V,VIs (Rb n) l (V.cleanL n l)
 | []=>.nil
 | v :: l=>.cons (V.clean_vi n v) (V.clean_vis n l)
end
/-- A frame without numbers from one on. -/
noncomputable def cleanE (n:Nat) (E:Env):Env:=bl4 fun t=>(tget E t).map (V.clean n)
theorem cleanE_get {n:Nat} {E:Env} {t:Nat} {v:V} (h:tget (cleanE n E) t=some v):∃ u,tget E t=some u∧VI (Rb n) u v:=by
 by_cases hb:path t=.bad
 ·have:getP (cleanE n E) (path t)=some v:=h
  rw [hb] at this;cases this
 ·have h':getP (cleanE n E) (path t)=some v:=h
  unfold cleanE at h'
  rw [bl4_get _ _ hb,path_num hb] at h'
  cases hu:tget E t with
  | none=>rw [hu] at h';cases h'
  | some u=>rw [hu] at h';exact ⟨u,rfl,by rw [← Option.some.inj h'];exact V.clean_vi n u⟩
/-- A loop: its round; then garbage is forgotten; then the loop again. -/
theorem LP.gc (hm:P.follows .mixedOrders=true) {b:Code} {E:Env} {S:St} {k:KT}
  (h:wk P (RC P) (RD P) (LP P) (evDraw P (RC P) (RD P)) none b E [] S fun x E1 D1 S1=>X.casesOn x (∃ S2,Drop S S1 S2∧D1=[]∧LP P none b (cleanE S2.next E1) [] S2 k) (fun id=>k (.exit id) E1 D1 S1) (k .ret E1 D1 S1)):LP P none b E [] S k:=by
 obtain ⟨x,E1,D1,S1,h1,h2⟩:=evCode_spec RC_ok RD_ok LP_ok (evDraw_ok hm RC_ok RD_ok) none b E [] S _ h
 cases x with
 | normal =>
   obtain ⟨S2,hd,rfl,h3⟩:=h1
   cases h3 with
   | mk x2 E2 D2 S3 h4 h5 =>
     refine .mk x2 E2 D2 S3 (fun ρ r a w Q hro hE hD hg hs hQ=>.of (h2 ρ r a w _ hro hE hD hg hs fun a1 w1 ⟨ρ1,b1,b2,b3,b4⟩=>?_)) h5
     let ρ2:Rho:=fun i=>if i < S2.next then ρ1 i else none
     have hR0:∀ i j l,Rb S2.next i j→ρ1 i=some l→ρ2 j=some l:=by
      rintro i j l ⟨hi,rfl⟩ hl
      show (if j < S2.next then ρ1 j else none)=some l
      rw [if_pos hi];exact hl
     have hR:Tr ρ1 ρ2 (Rb S2.next):=.of hR0
     have hout:∀ i l,ρ2 i=some l→ρ1 i=some l:=fun i l hi=>by
      have hi':(if i < S2.next then ρ1 i else none)=some l:=hi
      by_cases hlt:i < S2.next
      ·rw [if_pos hlt] at hi';exact hi'
      ·rw [if_neg hlt] at hi';cases hi'
     have hheld:∀ id o,S2.hs.get id=some o→id < S2.next∧∃ o1,S1.hs.get id=some o1∧OI (Rb S2.next) o1 o:=fun id o ho=>hd.held.get ho
     have hlow:∀ i,i < S.next→ρ2 i=ρ i:=fun i hi=>by
      show (if i < S2.next then ρ1 i else none)=ρ i
      rw [if_pos (Nat.lt_of_lt_of_le hi hd.next)];exact b4.rho i hi
     have hle:ρ.le ρ2:=fun i l hi=>by rw [hlow i (hs.lt hi)];exact hi
     have hsome:∀ i,(S2.hs.get i).isSome→(S1.hs.get i).isSome:=fun i hi=>by
      obtain ⟨o,ho⟩:=Option.isSome_iff_exists.1 hi
      obtain ⟨_,o1,ho1,_⟩:=hheld i o ho
      rw [ho1];rfl
     have hsim:Sim ρ2 S2.hs w1:=by
      refine ⟨fun i o ho=>?_,fun i j li lj hi hj hli hlj hrw hne=>b3.sep i j li lj (hsome i hi) (hsome j hj) (hout i li hli) (hout j lj hlj) hrw hne,fun i hi=>?_⟩
      ·obtain ⟨hi,o1,ho1,hoi⟩:=hheld i o ho
       obtain ⟨l,co,p,q,s⟩:=b3.obj i o1 ho1
       exact ⟨l,co,hR0 i i l ⟨hi,rfl⟩ p,q,hoi.tr hR (.refl l) (fun _=>rfl) s⟩
      ·show (if i < S2.next then ρ1 i else none)=none
       have:S2.next ≤ i:=hi
       rw [if_neg (by omega)]
     have hext:Ext ρ S.hs w ρ2 S2.hs w1 :=
      { rho:=hlow,next:=hd.next,size:=b4.size,keep:=b4.keep
        own:=fun b ⟨i,l,p,q,s,t⟩=>b4.own b ⟨i,l,hsome i p,hout i l q,s,t⟩
        has:=fun b ⟨i,l,p,q,t⟩=>b4.has b ⟨i,l,hsome i p,hout i l q,t⟩
        tape:=b4.tape,os:=b4.os,output:=b4.output,drawn:=b4.drawn }
     have hER:ER ρ2 (cleanE S2.next E1) a1.tmps:=fun t v hv=>by
      obtain ⟨u,hu,hi⟩:=cleanE_get hv
      obtain ⟨v',p,q⟩:=b1 t u hu
      exact ⟨v',p,hi.tr hR q⟩
     have hDR:DR ρ2 [] a1.defers:=by
      cases hdf:a1.defers with
      | nil=>trivial
      | cons y ys=>rw [hdf] at b2;exact b2.elim
     exact h4 ρ2 r a1 w1 Q (hro.mono hle) hER hDR (hg.mono hle) hsim fun a2 w2 h6=>hQ a2 w2 (h6.comp hext)
 | exit id=>exact .mk (.exit id) E1 D1 S1 (fun ρ r a w Q hro hE hD hg hs hQ=>.of (h2 ρ r a w _ hro hE hD hg hs hQ)) h1
 | ret=>exact .mk .ret E1 D1 S1 (fun ρ r a w Q hro hE hD hg hs hQ=>.of (h2 ρ r a w _ hro hE hD hg hs hQ)) h1
/-- A loop that keeps the heap: an invariant of the frame alone. -/
theorem LP.induct0 {ro:Option Nat} {c:Code} {D:List Nat} {k:KT} {E:Env} {S:St} (n:Nat) (Inv:Nat→Env→Prop) (h0:Inv 0 E)
  (step:∀ j E,Inv j E→(∀ E',j < n→Inv (j+1) E'→LP P ro c E' D S k)→LP P ro c E D S k):LP P ro c E D S k :=
 LP.induct n (fun j E S'=>Inv j E∧S'=S) ⟨h0,rfl⟩ fun j E S' ⟨hi,hS⟩ ih=>by
  subst hS
  exact step j E hi fun E' hlt hi'=>ih E' S' hlt ⟨hi',rfl⟩

/-! Small heaps. -/
def numb:Nat→List O→List (Nat × O)
 | _,[]=>[]
 | n,o :: l=>(n,o) :: numb (n+1) l
theorem putAll_next:∀ (l:List (Nat × O)) (H:Hs),(putAll l H).next=H.next
 | [],_=>rfl
 | _ :: l,H=>putAll_next l _
theorem numb_get {i:Nat}:∀ {l:List O} {n:Nat} {H:Hs},(putAll (numb n l) H).get i=if n ≤ i∧i < n+l.length then l[i - n]? else H.get i
 | [],n,H=>by
   rw [if_neg (by simp)];rfl
 | o :: l,n,H=>by
   show (putAll (numb (n+1) l) (H.put n (some o))).get i=_
   rw [numb_get]
   by_cases h1:i=n
   ·subst h1
    rw [if_neg (by omega),if_pos (by simp)]
    simp [Hs.put]
   ·by_cases h2:n+1 ≤ i∧i < n+1+l.length
    ·rw [if_pos h2,if_pos (by simp;omega)]
     rw [show i - n=(i - (n+1))+1 by omega];rfl
    ·rw [if_neg h2,if_neg (by simp;omega)]
     simp [Hs.put,h1]
theorem nil_get (m i:Nat):(St.hs ⟨.nil,m⟩).get i=none:=by
 show T.get deep i .nil=none
 unfold T.get
 cases digs deep i with
 | none=>rfl
 | some l=>exact T.getL_nil l
/-- Objects that are new, and objects that are others now. -/
def newL:List O→Hs→Hs
 | [],H=>H
 | o :: l,H=>newL l (H.new o)
def updH:List (Nat × O)→Hs→Hs
 | [],H=>H
 | q :: l,H=>(updH l H).put q.1 (some q.2)
noncomputable def newsK (l:List O):St→(St→Prop)→Prop:=List.rec (motive:=fun _=>St→(St→Prop)→Prop) (fun S k=>k S) (fun o _ ih S k=>newK o S fun _ S=>ih S k) l
noncomputable def updK (l:List (Nat × O)):St→(St→Prop)→Prop:=List.rec (motive:=fun _=>St→(St→Prop)→Prop) (fun S k=>k S) (fun q _ ih S k=>ih S fun S=>putK q.1 (some q.2) S k) l
theorem newsK_spec:∀ {l:List O} {S:St} {k:St→Prop},newsK l S k→∃ S',k S'∧S'.hs=newL l S.hs
 | [],S,k,h=>⟨S,h,rfl⟩
 | o :: l,S,k,h=>by
   obtain ⟨S1,h1,h2⟩:=new_spec (show newK o S (fun _ S=>newsK l S k) from h)
   obtain ⟨S2,h3,h4⟩:=newsK_spec h1
   exact ⟨S2,h3,by rw [h4,h2];rfl⟩
theorem updK_spec:∀ {l:List (Nat × O)} {S:St} {k:St→Prop},updK l S k→∃ S',k S'∧S'.hs=updH l S.hs
 | [],S,k,h=>⟨S,h,rfl⟩
 | q :: l,S,k,h=>by
   obtain ⟨S1,h1,h2⟩:=updK_spec (show updK l S (fun S=>putK q.1 (some q.2) S k) from h)
   obtain ⟨S2,h3,h4⟩:=put_spec h1
   exact ⟨S2,h3,by rw [h4,h2];rfl⟩
theorem upd_next:∀ (l:List (Nat × O)) (H:Hs),(updH l H).next=H.next
 | [],_=>rfl
 | _ :: l,H=>upd_next l H
theorem upd_get {j:Nat} {o:O}:∀ {l:List (Nat × O)} {H:Hs},(updH l H).get j=some o→(∃ a:Nat,l[a]?=some (j,o)) ∨ (H.get j=some o∧∀ q ∈ l,q.1 ≠ j)
 | [],H,h=>.inr ⟨h,by simp⟩
 | q :: l,H,h=>by
   by_cases e:j=q.1
   ·subst e
    have:some q.2=some o:=by simpa [updH,Hs.put] using h
    cases this
    exact .inl ⟨0,rfl⟩
   ·have h':(updH l H).get j=some o:=by simpa [updH,Hs.put,e] using h
    rcases upd_get h' with ⟨a,ha⟩|⟨h1,h2⟩
    ·exact .inl ⟨a+1,by simpa using ha⟩
    ·exact .inr ⟨h1,fun x hx=>by
      rcases List.mem_cons.1 hx with rfl|hx
      ·exact fun e'=>e e'.symm
      ·exact h2 x hx⟩
theorem upd_same {H:Hs}:∀ {l:List (Nat × O)},(∀ q ∈ l,H.get q.1=some q.2)→updH l H=H
 | [],_=>rfl
 | q :: l,h=>by
   show (updH l H).put q.1 (some q.2)=H
   rw [upd_same fun x hx=>h x (by simp [hx])]
   exact Hs.put_self H (h q (by simp))
theorem newL_next:∀ (l:List O) (H:Hs),(newL l H).next=H.next+l.length
 | [],_=>rfl
 | o :: l,H=>by
   show (newL l (H.new o)).next=_
   rw [newL_next];simp [Hs.new];omega
theorem newL_get {j:Nat} {o:O}:∀ {l:List O} {H:Hs},(newL l H).get j=some o→(∃ a:Nat,l[a]?=some o∧j=H.next+a) ∨ H.get j=some o
 | [],H,h=>.inr h
 | x :: l,H,h=>by
   rcases newL_get (show (newL l (H.new x)).get j=some o from h) with ⟨a,h1,h2⟩|h1
   ·exact .inl ⟨a+1,by simpa using h1,by rw [h2];simp [Hs.new];omega⟩
   ·by_cases e:j=H.next
    ·subst e
     have:some x=some o:=by simpa [Hs.new] using h1
     cases this
     exact .inl ⟨0,rfl,rfl⟩
    ·exact .inr (by simpa [Hs.new,e] using h1)
def idF (ids:List Nat) (i:Nat):Nat:=if i < ngl then i else ids.getD (i - ngl) 0
theorem idF_at {ids:List Nat} {a i:Nat} (h:ids[a]?=some i):idF ids (ngl+a)=i:=by
 unfold idF
 rw [if_neg (by omega),show ngl+a - ngl=a by omega]
 simp [List.getD,h]
/-- What is for reading alone: the first 'q'. -/
def roF (q:Nat) (i:Nat):Bool:=Nat.ble ngl i && Nat.blt i (ngl+q)
theorem roF_low {q a:Nat} (h:a < q):roF q (ngl+a)=true:=by
 unfold roF
 rw [Bool.and_eq_true]
 exact ⟨Nat.ble_eq_true_of_le (by omega),Nat.ble_eq_true_of_le (by omega)⟩
theorem roF_hi {q a:Nat} (h:q ≤ a):roF q (ngl+a)=false:=by
 cases hr:roF q (ngl+a) with
 | false=>rfl
 | true =>
   unfold roF at hr
   rw [Bool.and_eq_true] at hr
   have:=Nat.le_of_ble_eq_true hr.2
   omega
theorem roF_glob {q i:Nat} (h:i < ngl):roF q i=false:=by
 cases hr:roF q i with
 | false=>rfl
 | true =>
   unfold roF at hr
   rw [Bool.and_eq_true] at hr
   have:=Nat.le_of_ble_eq_true hr.1
   omega
/-- Numbers outside and inside, at the start; inside and outside, at the end. -/
def Rin (ids:List Nat) (n:Nat):Nat→Nat→Prop:=fun j i=>i < n∧j=idF ids i
def Rou (q:Nat) (ids gs:List Nat) (n m m':Nat):Nat→Nat→Prop:=RF (roF q) (idF ids) (fun j=>gs.getD (j - m) 0) n m m'
theorem Rin.at {ids:List Nat} {n a i:Nat} (h:ids[a]?=some i) (hn:ngl+a < n):Rin ids n i (ngl+a):=⟨hn,(idF_at h).symm⟩
theorem Rin.glob {ids:List Nat} {n i:Nat} (h:i < ngl) (hn:i < n):Rin ids n i i:=⟨hn,by unfold idF;rw [if_pos h]⟩
theorem Rou.at {q:Nat} {ids gs:List Nat} {n m m' a i:Nat} (h:ids[a]?=some i) (hn:ngl+a < n) (hq:q ≤ a):Rou q ids gs n m m' (ngl+a) i:=.inl ⟨hn,(idF_at h).symm,roF_hi hq⟩
theorem Rou.glob {q:Nat} {ids gs:List Nat} {n m m' i:Nat} (h:i < ngl) (hn:i < n):Rou q ids gs n m m' i i:=.inl ⟨hn,by unfold idF;rw [if_pos h],roF_glob h⟩
theorem Rou.new {q:Nat} {ids gs:List Nat} {n m m' a g:Nat} (h:gs[a]?=some g) (hg:n ≤ g) (ha:m+a < m'):Rou q ids gs n m m' g (m+a) :=
 .inr ⟨hg,by omega,ha,by show g=gs.getD (m+a - m) 0;rw [show m+a - m=a by omega];simp [List.getD,h]⟩
/-- Objects that are held, at numbers from one on; at given numbers. -/
def Held (R:Nat→Nat→Prop) (S:St):Nat→List O→Prop
 | _,[]=>True
 | n,o :: l=>(∃ o1,T.get deep n S.hp=some o1∧OI R o1 o)∧Held R S (n+1) l
theorem Held.get {R:Nat→Nat→Prop} {S:St}:∀ {l:List O} {n a:Nat} {o:O},Held R S n l→l[a]?=some o→∃ o1,S.hs.get (n+a)=some o1∧OI R o1 o
 | [],_,_,_,_,h=>by simp at h
 | x :: l,n,0,o,hh,h=>by
   simp at h;subst h;exact hh.1
 | x :: l,n,a+1,o,hh,h=>by
   have:=Held.get hh.2 (a:=a) (o:=o) (by simpa using h)
   rw [show n+(a+1)=n+1+a by omega];exact this
def News (R:Nat→Nat→Prop) (S:St):List Nat→List O→Prop
 | [],[]=>True
 | g :: gs,o :: l=>(∃ o1,T.get deep g S.hp=some o1∧OI R o1 o)∧News R S gs l
 | _,_=>False
theorem News.get {R:Nat→Nat→Prop} {S:St}:∀ {gs:List Nat} {l:List O} {a:Nat} {o:O},News R S gs l→l[a]?=some o→∃ g o1,gs[a]?=some g∧S.hs.get g=some o1∧OI R o1 o
 | [],[],_,_,_,h=>by simp at h
 | g :: gs,x :: l,0,o,hh,h=>by
   simp at h;subst h
   obtain ⟨o1,p,q⟩:=hh.1
   exact ⟨g,o1,rfl,p,q⟩
 | g :: gs,x :: l,a+1,o,hh,h=>by
   obtain ⟨g',o1,p,q,r⟩:=News.get hh.2 (a:=a) (o:=o) (by simpa using h)
   exact ⟨g',o1,by simpa using p,q,r⟩
 | [],_ :: _,_,_,hh,_=>hh.elim
 | _ :: _,[],_,_,hh,_=>hh.elim
theorem nodup_inj {l:List Nat} (h:l.Nodup) {i j:Nat} (hi:i < l.length) (hj:j < l.length) (e:l[i]=l[j]):i=j:=by
 have hp:=List.pairwise_iff_getElem.1 h
 rcases Nat.lt_trichotomy i j with hlt|he|hgt
 ·exact absurd e (hp i j hi hj hlt)
 ·exact he
 ·exact absurd e.symm (hp j i hj hi hgt)
theorem News.length {R:Nat→Nat→Prop} {S:St}:∀ {gs:List Nat} {l:List O},News R S gs l→gs.length=l.length
 | [],[],_=>rfl
 | g :: gs,x :: l,hh=>by simp [News.length hh.2]
 | [],_ :: _,h=>h.elim
 | _ :: _,[],h=>h.elim
/-- What a small run ends with. -/
def Post (q:Nat) (ids:List Nat) (n m:Nat) (ks2 news:List O) (v2:V) (v:V) (S':St):Prop :=
 ∃ gs:List Nat,gs.Nodup∧(∀ g ∈ gs,n ≤ g)∧VI (Rou q ids gs n m (m+news.length)) v v2∧Held (Rou q ids gs n m (m+news.length)) S' (ngl+q) ks2∧News (Rou q ids gs n m (m+news.length)) S' gs news
set_option maxHeartbeats 1000000 in
theorem CallS.small {c:FuncId} {l l2:List V} (q:Nat) {ids:List Nat} {ks os ks2 news:List O} {S0 S':St} {K:Hs} {v v2:V} (h:CallS P c l S0.hs v S'.hs) (h0:S0.hs=putAll (numb ngl os) (St.hs ⟨.nil,ngl+os.length⟩))
  (hids:∀ a b i:Nat,q ≤ a→ids[a]?=some i→ids[b]?=some i→a=b) (hro:∀ (a:Nat) (o:O),a < q→os[a]?=some o→o.wr=false) (hlen:ids.length=os.length) (hlen1:ks.length=os.length) (hlen2:ks2.length+q=os.length)
  (hat:∀ (a i:Nat) (o:O),ids[a]?=some i→ks[a]?=some o→K.get i=some o)
  (hin:∀ (a:Nat) (o' o:O),ks[a]?=some o'→os[a]?=some o→OI (Rin ids (ngl+os.length)) o' o) (hl:VIs (Rin ids (ngl+os.length)) l2 l)
  (hw:∀ (a:Nat) (o:O),ks2[a]?=some o→o.wr=true) (hwn:∀ (a:Nat) (o:O),news[a]?=some o→o.wr=true) (hp:Post q ids (ngl+os.length) K.next ks2 news v2 v S') :
  CallS P c l2 K v2 (newL news (updH ((ids.drop q).zip ks2) K)):=by
 obtain ⟨gs,hnd,hge,hv,hheld,hnews⟩:=hp
 have hn0:S0.hs.next=ngl+os.length:=by rw [h0,putAll_next];rfl
 have hgl:=hnews.length
 have hn':(newL news (updH ((ids.drop q).zip ks2) K)).next=K.next+news.length:=by rw [newL_next,upd_next]
 have hg0:∀ i,S0.hs.get i=if ngl ≤ i∧i < ngl+os.length then os[i - ngl]? else none:=fun i=>by rw [h0,numb_get,nil_get]
 have hg1:∀ i,(S0.hs.get i).isSome→∃ a,i=ngl+a∧a < os.length:=fun i hi=>by
  rw [hg0] at hi
  by_cases hc:ngl ≤ i∧i < ngl+os.length
  ·exact ⟨i - ngl,by omega,by omega⟩
  ·rw [if_neg hc] at hi;cases hi
 have hid:∀ a (ha:a < os.length),ids[a]?=some (ids[a]'(by omega)):=fun a ha=>List.getElem?_eq_getElem _
 have hwr:∀ {R:Nat→Nat→Prop} {o1 o:O},OI R o1 o→o.wr=true→o1.wr=true:=fun h hw=>by
  cases h with
  | cells hc hf =>
    rename_i cs cs' e fl fl'
    cases fl' with
    | ro=>cases hw
    | ex=>cases fl <;> first|rfl|(exfalso;simp at hf)
    | rw=>cases fl <;> first|rfl|(exfalso;simp at hf)
  | part _=>cases hw
  | map _=>rfl
  | strIter _ _=>rfl
  | mapIter0=>rfl
  | mapIter _=>rfl
  | deferred=>rfl
 refine h.frame (roF q) (idF ids) (fun j=>gs.getD (j - K.next) 0) (by rw [hn0];omega) (fun i hi=>if_pos hi) (fun i i' hi hi' hr e=>?_) (fun i o ho=>?_) (by rw [hn0];exact hl) (by rw [hn0,hn'];exact hv) (by rw [hn'];omega)
  (fun j j' h1 h2 h3 h4 e=>?_) (fun j o ho=>?_)
 ·obtain ⟨a,rfl,ha⟩:=hg1 i hi
  obtain ⟨a',rfl,ha'⟩:=hg1 i' hi'
  rw [idF_at (hid a ha),idF_at (hid a' ha')] at e
  have hq:q ≤ a:=by
   rcases Nat.lt_or_ge a q with h'|h'
   ·rw [roF_low h'] at hr;cases hr
   ·exact h'
  have:=hids a a' _ hq (hid a ha) (by rw [hid a' ha',e])
  rw [this]
 ·obtain ⟨a,rfl,ha⟩:=hg1 i (by rw [ho];rfl)
  rw [hg0,if_pos ⟨by omega,by omega⟩,show ngl+a - ngl=a by omega] at ho
  have hk:ks[a]?=some (ks[a]'(by omega)):=List.getElem?_eq_getElem _
  refine ⟨by rw [hn0];omega,fun hr=>hro a o ?_ ho,ks[a]'(by omega),?_,?_⟩
  ·rcases Nat.lt_or_ge a q with h'|h'
   ·exact h'
   ·rw [roF_hi h'] at hr;cases hr
  ·rw [idF_at (hid a ha)];exact hat a _ _ (hid a ha) hk
  ·rw [hn0];exact hin a _ _ hk ho
 ·have e':gs.getD (j - K.next) 0=gs.getD (j' - K.next) 0:=e
  rw [hn'] at h2 h4
  have l1:j - K.next < gs.length:=by omega
  have l2:j' - K.next < gs.length:=by omega
  simp only [List.getD,List.getElem?_eq_getElem l1,List.getElem?_eq_getElem l2,Option.getD_some] at e'
  have:=nodup_inj hnd l1 l2 e'
  omega
 ·rw [hn0,hn']
  rcases newL_get ho with ⟨a,h1,h2⟩|h1
  ·rw [upd_next] at h2
   obtain ⟨g,o1,p,q',r⟩:=hnews.get h1
   subst h2
   refine .inl ⟨g,o1,Rou.new (q:=q) (ids:=ids) (gs:=gs) p (hge g (List.mem_of_getElem? p)) ?_,q',r,hwr r (hwn a o h1)⟩
   have:=(List.getElem?_eq_some_iff.1 h1).1
   omega
  ·rcases upd_get h1 with ⟨a,h2⟩|⟨h2,h3⟩
   ·rw [List.getElem?_zip_eq_some] at h2
    obtain ⟨o1,p,q'⟩:=hheld.get h2.2
    have hd:ids[q+a]?=some j:=by rw [← List.getElem?_drop];exact h2.1
    have ha:q+a < os.length:=by have:=(List.getElem?_eq_some_iff.1 hd).1;omega
    exact .inl ⟨ngl+q+a,o1,by rw [Nat.add_assoc];exact Rou.at (q:=q) (ids:=ids) (gs:=gs) hd (by omega) (by omega),p,q',hwr q' (hw a o h2.2)⟩
   ·refine .inr ⟨h2,fun i hi hj hr=>?_⟩
    cases hgi:S0.hs.get i with
    | none=>rfl
    | some o1 =>
      exfalso
      obtain ⟨a,rfl,ha⟩:=hg1 i (by rw [hgi];rfl)
      rw [idF_at (hid a ha)] at hj
      have hq:q ≤ a:=by
       rcases Nat.lt_or_ge a q with h'|h'
       ·rw [roF_low h'] at hr;cases hr
       ·exact h'
      have hz:((ids.drop q).zip ks2)[a - q]?=some (j,ks2[a - q]'(by omega)):=by
       rw [List.getElem?_zip_eq_some]
       refine ⟨?_,List.getElem?_eq_getElem _⟩
       rw [List.getElem?_drop,show q+(a - q)=a by omega,hid a ha,hj]
      exact h3 _ (List.mem_of_getElem? hz) rfl
/-- A function's code, from its arguments to its results. -/
noncomputable def runF (P:Program) (n:Nat) (rs:List ResultVar) (c:Code) (l:List V) (k:V→St→Prop) (S:St):Prop :=
 layArgs l 0 (blank n) fun E=>wk P (RC P) (RD P) (LP P) (evDraw P (RC P) (RD P)) none c E [] S fun x E D S=>X.casesOn x (popD D S fun S=>resK P E S rs fun l=>match l with|[v]=>k v S|l=>k (.tup l) S) (fun _=>False)
  (popD D S fun S=>resK P E S rs fun l=>match l with|[v]=>k v S|l=>k (.tup l) S)
/-- A function at hand. -/
structure FnAt (P:Program) (f:FuncId) (n:Nat) (rs:List ResultVar) (c:Code):Prop where
 at':∃ fn,P.funcs[f]?=some fn∧fn.body=some c∧fn.ntmps=n∧fn.results.toList=rs∧(fn.name == "runtime.NumGoroutine")=false
/-- A function's code. -/
def codeOf (fn:Func):Code:=match fn.body with|some c=>c|none=>.skip
theorem evCall_at {Xt:Exts} {f:FuncId} {args:List V} {S:St} {k:V→St→Prop} {n:Nat} {rs:List ResultVar} {c:Code} (hf:FnAt P f n rs c) (h:runF P n rs c args k S) :
  evCall P Xt (RC P) (RD P) (LP P) (evDraw P (RC P) (RD P)) f args S k:=by
 obtain ⟨fn,hfn,hb,rfl,rfl,h0⟩:=hf.at'
 unfold evCall
 rw [hfn]
 show Option.casesOn fn.body _ _
 rw [hb]
 show Bool.rec _ _ (fn.name == "runtime.NumGoroutine")
 rw [h0]
 have e:∀ (E:Env) (S:St),(resK P E S fn.results.toList fun l=>match l with|[v]=>k v S|l=>k (.tup l) S)=resultsK P fn E S fun v=>k v S:=fun E S=>by
  unfold resultsK
  congr 1
 simpa only [runF,e] using h
/-- A call, by a run from a small heap: objects change, objects are new. The first 'q' are for reading alone. -/
theorem RC.small (hm:P.follows .mixedOrders=true) {c:FuncId} {n:Nat} {rs:List ResultVar} {code:Code} (hf:FnAt P c n rs code) {l l2:List V} (q:Nat) (ids:List Nat) (ks os ks2 news:List O) {S:St} {v2:V} {k:V→St→Prop}
  (hids:∀ a b i:Nat,q ≤ a→ids[a]?=some i→ids[b]?=some i→a=b) (hro:∀ (a:Nat) (o:O),a < q→os[a]?=some o→o.wr=false) (hlen:ids.length=os.length) (hlen1:ks.length=os.length) (hlen2:ks2.length+q=os.length)
  (hat:∀ (a i:Nat) (o:O),ids[a]?=some i→ks[a]?=some o→S.hs.get i=some o)
  (hin:∀ (a:Nat) (o' o:O),ks[a]?=some o'→os[a]?=some o→OI (Rin ids (ngl+os.length)) o' o) (hl:VIs (Rin ids (ngl+os.length)) l2 l)
  (hw:∀ (a:Nat) (o:O),ks2[a]?=some o→o.wr=true) (hwn:∀ (a:Nat) (o:O),news[a]?=some o→o.wr=true)
  (hrun:buildK (numb ngl os) ⟨.nil,ngl+os.length⟩ (runF P n rs code l (Post q ids (ngl+os.length) S.next ks2 news v2)))
  (hk:updK ((ids.drop q).zip ks2) S fun S1=>newsK news S1 (k v2)):RC P c l2 S k:=by
 obtain ⟨S0,h1,h0⟩:=buildK_spec hrun
 have hX:ExtsOk P []:=fun q h=>by cases h
 obtain ⟨v,S',h2,h3⟩:=evCall_spec hX RC_ok RD_ok LP_ok (evDraw_ok hm RC_ok RD_ok) c l S0 _ (evCall_at hf h1)
 obtain ⟨S1,h4,h5⟩:=updK_spec hk
 obtain ⟨S2,h6,h7⟩:=newsK_spec h4
 have:=h3.small q h0 hids hro hlen hlen1 hlen2 hat hin hl hw hwn h2
 rw [← h5,← h7] at this
 exact .mk v2 S2 this h6
/-- The same, where objects are read alone. -/
theorem RC.read (hm:P.follows .mixedOrders=true) {c:FuncId} {n:Nat} {rs:List ResultVar} {code:Code} (hf:FnAt P c n rs code) {l l2:List V} (ids:List Nat) (ks os news:List O) {S:St} {v2:V} {k:V→St→Prop}
  (hro:∀ (a:Nat) (o:O),os[a]?=some o→o.wr=false) (hlen:ids.length=os.length) (hlen1:ks.length=os.length)
  (hat:∀ (a i:Nat) (o:O),ids[a]?=some i→ks[a]?=some o→S.hs.get i=some o)
  (hin:∀ (a:Nat) (o' o:O),ks[a]?=some o'→os[a]?=some o→OI (Rin ids (ngl+os.length)) o' o) (hl:VIs (Rin ids (ngl+os.length)) l2 l) (hwn:∀ (a:Nat) (o:O),news[a]?=some o→o.wr=true)
  (hrun:buildK (numb ngl os) ⟨.nil,ngl+os.length⟩ (runF P n rs code l (Post os.length ids (ngl+os.length) S.next [] news v2)))
  (hk:newsK news S (k v2)):RC P c l2 S k :=
 RC.small hm hf os.length ids ks os [] news (fun a b i ha hi _=>by have:=(List.getElem?_eq_some_iff.1 hi).1;omega) (fun a o _ h=>hro a o h) hlen hlen1 (by simp) hat hin hl (by simp) hwn hrun (by simpa [updK] using hk)
end Go.Am
