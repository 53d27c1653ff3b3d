/- Part 5 of the proof that BodyOwn returns true, and leaves its arguments as they were, for every input, over a start where the listed variables hold what the program lays: the statement Rows.BodyOwnCardSaid. -/
import Derived.Test.YtnfhhddmeikbpaaGreatDoorWAd
import Derived.KernelRfl
set_option linter.unusedVariables false
set_option linter.unusedSimpArgs false
/- Symbolic runs, part by part: what comes behind a part is held under a name. -/
namespace Go.Am
variable {P:Program} {rc:CallT} {rd:RoundT} {lp:LoopT} {dr:DrawT} {ro:Option Nat} {E:Env} {D:List Nat} {S:St} {k:KT}

theorem yw {a b:Code} (h:∀ K:KT,K=(fun x E D S=>X.casesOn x (wk P rc rd lp dr ro b E D S k) (fun id=>k (.exit id) E D S) (k .ret E D S))→wk P rc rd lp dr ro a E D S K):wk P rc rd lp dr ro (a.seq b) E D S k:=h _ rfl
theorem zX {id:Nat} {c:Code} (h:∀ K:KT,K=(fun x E D S=>X.casesOn x (k .normal E D S) (fun id'=>Bool.rec (motive:=fun _=>Prop) (k (.exit id') E D S) (k .normal E D S) (Nat.beq id' id)) (k .ret E D S))→wk P rc rd lp dr ro c E D S K):wk P rc rd lp dr ro (.block id c) E D S k:=h _ rfl
theorem xy {id:Nat} {ops:Array Oper} (h:∀ K:Env→St→Prop,K=(fun E S=>k .normal E D S)→evOps P rc rd ops.toList ops.toList E S K):wk P rc rd lp dr ro (.region id ops false) E D S k:=h _ rfl
theorem seg_draw {id:Nat} {ops:Array Oper} (h:∀ K:Env→St→Prop,K=(fun E S=>k .normal E D S)→dr ops E S K):wk P rc rd lp dr ro (.region id ops true) E D S k:=h _ rfl
theorem wX {c:Operand} {a b:Code} (t:Bool) (hc:∀ Q:Bool→Prop,Q t→opK E c fun v=>vBool v Q) (h1:t=true→wk P rc rd lp dr ro a E D S k) (h0:t=false→wk P rc rd lp dr ro b E D S k):wk P rc rd lp dr ro (.cond c a b) E D S k:=by
 refine hc (fun t=>Bool.rec (motive:=fun _=>Prop) (wk P rc rd lp dr ro b E D S k) (wk P rc rd lp dr ro a E D S k) t) ?_
 cases t
 ·exact h0 rfl
 ·exact h1 rfl
theorem zZ (h:k .normal E D S):wk P rc rd lp dr ro .skip E D S k:=h
theorem yy {id:Nat} (h:k (.exit id) E D S):wk P rc rd lp dr ro (.exit id) E D S k:=h
theorem yv (h:k .ret E D S):wk P rc rd lp dr ro .ret E D S k:=h
theorem yz {c:Code} (h:lp ro c E D S k):wk P rc rd lp dr ro (.loop c) E D S k:=h
theorem zq {c:Code} (h:wk P rc rd lp dr ro c E D S k):wk P rc rd lp dr ro (.scope c) E D S k:=h
/-! Ends of parts. -/
theorem yj {K:Env→St→Prop} (hK:K=fun E S=>k .normal E D S) (h:k .normal E D S):K E S:=by subst hK;exact h
theorem zw {K:KT} {B R:Env→List Nat→St→Prop} {C:Nat→Env→List Nat→St→Prop} (hK:K=fun x E D S=>X.casesOn x (B E D S) (fun id=>C id E D S) (R E D S)) (h:B E D S):K .normal E D S:=by subst hK;exact h
theorem yx {K:KT} {B R:Env→List Nat→St→Prop} {C:Nat→Env→List Nat→St→Prop} {id:Nat} (hK:K=fun x E D S=>X.casesOn x (B E D S) (fun id=>C id E D S) (R E D S)) (h:C id E D S):K (.exit id) E D S:=by subst hK;exact h
theorem yq {K:KT} {B R:Env→List Nat→St→Prop} {C:Nat→Env→List Nat→St→Prop} (hK:K=fun x E D S=>X.casesOn x (B E D S) (fun id=>C id E D S) (R E D S)) (h:R E D S):K .ret E D S:=by subst hK;exact h
/-- A function's code begins. -/
theorem wx {n:Nat} {rs:List ResultVar} {c:Code} {l:List V} {k:V→St→Prop} (E:Env) (hE:∀ Q:Env→Prop,Q E→layArgs l 0 (blank n) Q)
  (h:∀ K:KT,K=(fun x E D S=>X.casesOn x (popD D S fun S=>resK P E S rs fun l=>match l with|[v]=>k v S|l=>k (.tup l) S) (fun _=>False) (popD D S fun S=>resK P E S rs fun l=>match l with|[v]=>k v S|l=>k (.tup l) S)) →
   wk P (RC P) (RD P) (LP P) (evDraw P (RC P) (RD P)) none c E [] S K):runF P n rs c l k S:=hE _ (h _ rfl)
/-- Objects of a small heap. -/
theorem wy {l:List (Nat × O)} {S:St} {k:St→Prop} (S':St) (hS:∀ Q:St→Prop,Q S'→buildK l S Q) (h:k S'):buildK l S k:=hS _ h
/-- A loop's round: what comes of it. -/
theorem LP.gc' (hm:P.follows .mixedOrders=true) {b:Code} {E:Env} {S:St} {k:KT}
  (h:∀ K:KT,K=(fun x E1 D1 S1=>X.casesOn x (∃ S2,Drop S S1 S2∧D1=[]∧LP P none b (cleanE S2.next E1) [] S2 k) (fun id=>k (.exit id) E1 D1 S1) (k .ret E1 D1 S1)) →
   wk P (RC P) (RD P) (LP P) (evDraw P (RC P) (RD P)) none b E [] S K):LP P none b E [] S k:=LP.gc hm (h _ rfl)
theorem xw {b:Bool} {k:Bool→Prop} (hb:b=true) (h:k true):fB b k:=by subst hb;exact h
theorem xx {b:Bool} {k:Bool→Prop} (hb:b=false) (h:k false):fB b k:=by subst hb;exact h
theorem fB_split {b:Bool} {k:Bool→Prop} (h1:b=true→k true) (h0:b=false→k false):fB b k:=by
 cases b
 ·exact h0 rfl
 ·exact h1 rfl
theorem zY {c:Operand} {a b:Code} (hc:∀ Q:Bool→Prop,Q true→opK E c fun v=>vBool v Q) (h:wk P rc rd lp dr ro a E D S k):wk P rc rd lp dr ro (.cond c a b) E D S k:=wX true hc (fun _=>h) nofun
theorem zj {c:Operand} {a b:Code} (hc:∀ Q:Bool→Prop,Q false→opK E c fun v=>vBool v Q) (h:wk P rc rd lp dr ro b E D S k):wk P rc rd lp dr ro (.cond c a b) E D S k:=wX false hc nofun fun _=>h
theorem wq {a:IntKind} {x:Int} {k:Int→Prop} (n:Nat) (hx:x=Int.ofNat n) (hn:n ≤ topN a) (h:k (Int.ofNat n)):wrapK a x k:=by subst hx;exact wrapK_intro hn h
theorem wv {R:Nat→Nat→Prop}:∀ l:List Lab,VIs R (cellsOf l) (cellsOf l)
 | []=>.nil
 | _ :: l=>.cons (.str _) (.cons (.str _) (wv l))
theorem cellsOf_at:∀ {l:List Lab} {j:Nat} (h:j < l.length),(cellsOf l)[2 * j]?=some (.str l[j].1)∧(cellsOf l)[2 * j+1]?=some (.str l[j].2)
 | [],j,h=>by simp at h
 | q :: l,0,_=>⟨rfl,rfl⟩
 | q :: l,j+1,h=>by
   have:=cellsOf_at (l:=l) (j:=j) (by simpa using h)
   rw [show 2 * (j+1)=2 * j+1+1 by omega]
   simpa [cellsOf] using this
/-- One cell. -/
theorem vX {t:TypeId} (ha:aggP P t=some false) {cs:List V} {off:Nat} (off':Nat) (ho:off=off') {v:V} (hv:cs[off']?=some v) {k:V→Prop} (h:k v):yZ P t off cs k:=by
 subst ho
 unfold yZ
 rw [ha]
 show Option.rec (motive:=fun _=>Prop) False k (nth cs off)
 rw [nth_eq,hv];exact h
/-- What lies in a slot. -/
noncomputable def sl (E:Env) (t:Nat):V:=(tget E t).getD .any
theorem zz {E:Env} {t:Nat} {v:V} (h:tget E t=some v):tget E t=some (sl E t):=by unfold sl;rw [h];rfl
/-! Frames as trees. -/
def z0:N4 Unit:=⟨none,(),(),(),()⟩
def z1:N4 (N4 Unit):=⟨none,z0,z0,z0,z0⟩
def z2:N4 (N4 (N4 Unit)):=⟨none,z1,z1,z1,z1⟩
def z3:N4 (N4 (N4 (N4 Unit))):=⟨none,z2,z2,z2,z2⟩
theorem LP.tree {c:Code} {E:Env} {S:St} {k:KT} {L:List V} (hf:Fits E 0 L) (T:Env) (hT:T=envL L) (h:LP P ro c T D S k):LP P ro c E D S k:=.less (fun t v ht=>hf.le t v (by rw [← hT];exact ht)) h
end Go.Am
/- Drawn regions in symbolic runs, operation by operation. -/
namespace Go.Am
variable {P:Program} {rc:CallT} {rd:RoundT} {lp:LoopT} {ro:Option Nat} {E E1:Env} {D:List Nat} {S S1:St} {k:KT}
 {base i wr seen anc dw own wr' seen' sd:Nat} {ops:List Oper} {l:List Oper} {o:Oper} {ancs:List (Nat × Nat × Nat × Nat)} {pe pe':List (Nat × Nat × O)} {chs:List Ch} {rds:List Rd} {als:List (Nat × Nat)} {K:Dr→Prop} {v:V}

theorem zk {id:Nat} {ops:Array Oper} {hp:T O} {nx:Nat}
  (h:∀ K:Dr→Prop,K=(fun d=>rdsAll P d.chs d.st d.rds (alsAll d.chs d.st d.als (mergeAll d.pend d.st fun S=>k .normal d.env D S))) →
   drOps P rc rd nx ops.toList ops.toList 0 [] 0 0 ⟨E,⟨hp,Nat.add nx (len' ops.toList)⟩,[],[],[],[]⟩ K):wk P rc rd lp (evDraw P rc rd) ro (.region id ops true) E D ⟨hp,nx⟩ k:=by
 show evDraw P rc rd ops E ⟨hp,nx⟩ fun E S=>k .normal E D S
 unfold evDraw
 exact zy (h _ rfl)
theorem xZ (h:K ⟨E,S,pe,chs,rds,als⟩):drOps P rc rd base ops [] i ancs wr seen ⟨E,S,pe,chs,rds,als⟩ K:=h
theorem drOps_cons {d:Dr} (hs:stepS ops i ancs wr seen o=.ok anc dw own wr' seen') (h:guardK d.env ops o.guard (drOp P rc rd base i anc o.op d fun v d=>drPut d o.dst v fun d=>drOps P rc rd base ops l (Nat.succ i) ((anc,dw,slotN o.dst,own) :: ancs) wr' seen' d K)
  (drPut d o.dst undefV fun d=>drOps P rc rd base ops l (Nat.succ i) ((anc,dw,slotN o.dst,own) :: ancs) wr' seen' d K)):drOps P rc rd base ops (o :: l) i ancs wr seen d K:=by
 show Sx.rec (motive:=fun _=>Prop) _ False (stepS ops i ancs wr seen o)
 rw [hs]
 exact h
/-- An operation that is left out by its guard. -/
theorem xY (hs:stepS ops i ancs wr seen o=.ok anc dw own wr' seen') (hd:slotN o.dst=sd) (hg:∀ Y N:Prop,N→guardK E ops o.guard Y N) (hp:∀ Q:Env→Prop,Q E1→putDst E o.dst undefV Q)
  (h:drOps P rc rd base ops l (Nat.succ i) ((anc,dw,sd,own) :: ancs) wr' seen' ⟨E1,S,pe,chs,rds,als⟩ K):drOps P rc rd base ops (o :: l) i ancs wr seen ⟨E,S,pe,chs,rds,als⟩ K:=by
 subst hd
 exact drOps_cons hs (hg _ _ (hp _ h))
theorem xk {f:PureT} (hs:stepS ops i ancs wr seen o=.ok anc dw own wr' seen') (hd:slotN o.dst=sd) (hg:∀ Y N:Prop,Y→guardK E ops o.guard Y N) (hc:clOf P o.op=.pure f) (hf:∀ Q:V→Prop,Q v→f E Q) (hp:∀ Q:Env→Prop,Q E1→putDst E o.dst v Q)
  (h:drOps P rc rd base ops l (Nat.succ i) ((anc,dw,sd,own) :: ancs) wr' seen' ⟨E1,S,pe,chs,rds,als⟩ K):drOps P rc rd base ops (o :: l) i ancs wr seen ⟨E,S,pe,chs,rds,als⟩ K:=by
 subst hd
 refine drOps_cons hs (hg _ _ ?_)
 unfold drOp
 rw [hc]
 exact hf _ (hp _ h)
theorem xX (hs:stepS ops i ancs wr seen o=.ok anc dw own wr' seen') (hd:slotN o.dst=sd) (hg:∀ Y N:Prop,Y→guardK E ops o.guard Y N) (hc:clOf P o.op=.read (readK P o.op)) (hf:∀ Q:V→Prop,Q v→putsK 0 (aheadL anc pe) S fun S=>readK P o.op E S Q) (hp:∀ Q:Env→Prop,Q E1→putDst E o.dst v Q)
  (h:(∀ Q:V→Prop,Q v→putsK 0 (aheadL anc pe) S fun S=>readK P o.op E S Q)→drOps P rc rd base ops l (Nat.succ i) ((anc,dw,sd,own) :: ancs) wr' seen' ⟨E1,S,pe,chs,⟨o.op,i,anc,E,v,aheadL anc pe⟩ :: rds,als⟩ K):drOps P rc rd base ops (o :: l) i ancs wr seen ⟨E,S,pe,chs,rds,als⟩ K:=by
 subst hd
 refine drOps_cons hs (hg _ _ ?_)
 unfold drOp
 rw [hc]
 exact hf _ (hp _ (h hf))
theorem dr_alloc {f:AllocT} {ob:O} {mk:Nat→V} (hs:stepS ops i ancs wr seen o=.ok anc dw own wr' seen') (hd:slotN o.dst=sd) (hg:∀ Y N:Prop,Y→guardK E ops o.guard Y N) (hc:clOf P o.op=.alloc f) (hf:∀ Q:O→(Nat→V)→Prop,Q ob mk→f E Q) (hp:∀ Q:Env→Prop,Q E1→putDst E o.dst (mk (Nat.add base i)) Q)
  (h:drOps P rc rd base ops l (Nat.succ i) ((anc,dw,sd,own) :: ancs) wr' seen' ⟨E1,S,(i,Nat.add base i,ob) :: pe,chs,rds,(i,Nat.add base i) :: als⟩ K):drOps P rc rd base ops (o :: l) i ancs wr seen ⟨E,S,pe,chs,rds,als⟩ K:=by
 subst hd
 refine drOps_cons hs (hg _ _ ?_)
 unfold drOp
 rw [hc]
 exact hf _ (zy (hp _ h))
/-- An operation that acts: what it acts on is the heap with what lies ahead; the rest of its run is given. -/
theorem wz {f:CallT→RoundT→OpT} (hs:stepS ops i ancs wr seen o=.ok anc dw own wr' seen') (hd:slotN o.dst=sd) (hg:∀ Y N:Prop,Y→guardK E ops o.guard Y N) (hc:clOf P o.op=.chain f)
  (ha:List.rec (motive:=fun _=>Bool) true (fun c _ _=>bitN anc c.idx) chs=true) (hm:∀ Q:List (Nat × Nat × O)→St→Prop,Q pe' S1→mergeK anc pe S Q)
  (h:∀ Q:V→St→Prop,(∀ v S',Q v S'=putDst E o.dst v fun E1=>drOps P rc rd base ops l (Nat.succ i) ((anc,dw,sd,own) :: ancs) wr' seen' ⟨E1,S',pe',⟨i,anc,S⟩ :: chs,rds,als⟩ K)→f rc rd E S1 Q):drOps P rc rd base ops (o :: l) i ancs wr seen ⟨E,S,pe,chs,rds,als⟩ K:=by
 subst hd
 refine drOps_cons hs (hg _ _ ?_)
 unfold drOp
 rw [hc]
 show ifK _ _
 exact ifK_intro ha (hm _ (h _ fun _ _=>rfl))
/-! The end. -/
theorem rd_same {r:Rd} (hr:∀ Q:V→Prop,Q r.val→putsK 0 r.sel S fun S=>readK P r.op r.env S Q) (he:eqV 8 r.val r.val=true) {Q:Prop} (hQ:Q):∀ {chs:List Ch} {nxt:Option Nat},(chs=[] ∨ r.sel=[])→(∀ c ∈ chs,c.st.hp=S.hp∧c.st.next=S.next)→rdAll P r chs nxt S Q:=by
 have hat:∀ (prev:Nat) (nxt:Option Nat) (Q:Prop),(prev=0 ∨ r.sel=[])→Q→rdAt P r prev nxt S Q:=fun prev nxt Q hp hQ=>by
  have hrd:putsK prev r.sel S fun S=>readK P r.op r.env S fun v=>ifK (eqV 8 r.val v) Q:=by
   rcases hp with rfl|hp
   ·exact hr (fun v=>ifK (eqV 8 r.val v) Q) (ifK_intro he hQ)
   ·have h1:=hr (fun v=>ifK (eqV 8 r.val v) Q) (ifK_intro he hQ)
    rw [hp] at h1 ⊢
    exact h1
  unfold rdAt
  cases bitN prev r.idx with
  | true=>exact hQ
  | false =>
    cases nxt with
    | none=>exact hrd
    | some n =>
      show Bool.rec (motive:=fun _=>Prop) _ _ (bitN r.anc n)
      cases bitN r.anc n with
      | true=>exact hQ
      | false=>exact hrd
 intro chs
 induction chs with
 | nil=>exact fun _ _=>hat 0 _ _ (.inl rfl) hQ
 | cons c chs ih =>
   intro nxt hp hall
   have hsel:r.sel=[]:=by
    rcases hp with hp|hp
    ·cases hp
    ·exact hp
   obtain ⟨h1,h2⟩:=hall c (by simp)
   have hc:c.st=S:=by cases hcs:c.st;cases S;rw [hcs] at h1 h2;simp at h1 h2;rw [h1,h2]
   refine hat c.anc nxt _ (.inr hsel) ?_
   show rdAll P r chs (some c.idx) c.st Q
   rw [hc]
   exact ih (.inr hsel) fun x hx=>hall x (by simp [hx])
theorem wY {r:Rd} {Q:Prop} (hall:∀ c ∈ chs,c.st.hp=S.hp∧c.st.next=S.next) (hr:∀ Q:V→Prop,Q r.val→putsK 0 r.sel S fun S=>readK P r.op r.env S Q) (he:eqV 8 r.val r.val=true) (hs:chs=[] ∨ r.sel=[]) (h:rdsAll P chs S rds Q):rdsAll P chs S (r :: rds) Q:=rd_same hr he h hs hall
theorem vz {Q:Prop} (h:Q):rdsAll P chs S [] Q:=h
theorem ww {d:Dr} {R:Dr→Prop} (hK:K=R) (h:R d):K d:=by subst hK;exact h
theorem eqS_self (s:List UInt8):eqS s s=true:=by rw [eqS_eq];simp
theorem vq (s:List UInt8):eqV 8 (.str s) (.str s)=true:=eqS_self s
theorem vj (s t:List UInt8):eqV 8 (.agg [.str s,.str t]) (.agg [.str s,.str t])=true:=by
 have h:eqV 8 (.agg [.str s,.str t]) (.agg [.str s,.str t])=Bool.rec (motive:=fun _=>Bool) false (Bool.rec (motive:=fun _=>Bool) false true (eqS t t)) (eqS s s):=by kernel_rfl
 rw [h,eqS_self,eqS_self]
end Go.Am
/- The order of strings. -/
namespace Go.Am
theorem ltS_cons (x y:UInt8) (a b:List UInt8):ltS (x :: a) (y :: b)=if x.toNat=y.toNat then ltS a b else decide (x.toNat < y.toNat):=by
 show Bool.rec (motive:=fun _=>Bool) (Nat.blt x.toNat y.toNat) (ltS a b) (Nat.beq x.toNat y.toNat)=_
 by_cases h:x.toNat=y.toNat
 ·rw [if_pos h,h,Nat.beq_refl]
 ·rw [if_neg h]
  have:Nat.beq x.toNat y.toNat=false:=by
   cases hb:Nat.beq x.toNat y.toNat with
   | false=>rfl
   | true=>exact absurd (Nat.eq_of_beq_eq_true hb) h
  rw [this]
  show Nat.blt x.toNat y.toNat=decide (x.toNat < y.toNat)
  rw [Bool.eq_iff_iff]
  simp [Nat.blt_eq]
theorem ltS_nil (b:List UInt8):ltS b []=false:=by cases b <;> rfl
theorem ltS_irrefl:∀ a:List UInt8,ltS a a=false
 | []=>rfl
 | x :: a=>by rw [ltS_cons,if_pos rfl];exact ltS_irrefl a
theorem ltS_trans:∀ {a b c:List UInt8},ltS a b=true→ltS b c=true→ltS a c=true
 | a,b,[],h,k=>by rw [ltS_nil] at k;cases k
 | a,[],c,h,k=>by rw [ltS_nil] at h;cases h
 | [],y :: b,z :: c,h,k=>rfl
 | x :: a,y :: b,z :: c,h,k=>by
   rw [ltS_cons] at h k ⊢
   by_cases h1:x.toNat=y.toNat
   ·rw [if_pos h1] at h
    by_cases h2:y.toNat=z.toNat
    ·rw [if_pos h2] at k
     rw [if_pos (h1.trans h2)]
     exact ltS_trans h k
    ·rw [if_neg h2] at k
     rw [if_neg (by omega)]
     simp at k ⊢;omega
   ·rw [if_neg h1] at h
    by_cases h2:y.toNat=z.toNat
    ·rw [if_neg (by omega)]
     simp at h ⊢;omega
    ·rw [if_neg h2] at k
     simp at h k
     rw [if_neg (by omega)]
     simp;omega
theorem ltS_asymm {a b:List UInt8} (h:ltS a b=true):ltS b a=false:=by
 cases hb:ltS b a with
 | false=>rfl
 | true =>
   have:=ltS_trans h hb
   rw [ltS_irrefl] at this;cases this
theorem ltS_total:∀ {a b:List UInt8},ltS a b=false→ltS b a=false→a=b
 | [],[],_,_=>rfl
 | [],y :: b,h,_=>by cases h
 | x :: a,[],_,h=>by cases h
 | x :: a,y :: b,h,k=>by
   rw [ltS_cons] at h k
   by_cases h1:x.toNat=y.toNat
   ·rw [if_pos h1] at h
    rw [if_pos h1.symm] at k
    rw [ltS_total h k,UInt8.toNat_inj.1 h1]
   ·rw [if_neg h1] at h
    rw [if_neg (Ne.symm h1)] at k
    simp at h k;omega
theorem ltS_ne {a b:List UInt8} (h:ltS a b=true):a ≠ b:=fun e=>by rw [e,ltS_irrefl] at h;cases h
theorem eqS_ne {a b:List UInt8} (h:a ≠ b):eqS a b=false:=by rw [eqS_eq];simpa using h
end Go.Am
