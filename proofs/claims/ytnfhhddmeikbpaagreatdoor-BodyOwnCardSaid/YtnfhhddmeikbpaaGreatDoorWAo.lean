/- Part 15 of the proof that BodyOwn returns true, and leaves its arguments as they were, for every input, over a start where the listed variables hold what the program lays: the statement Rows.BodyOwnCardSaid. -/
import Derived.Maps.RangeRun
import Derived.Test.YtnfhhddmeikbpaaGreatDoorWAi
import Derived.Test.YtnfhhddmeikbpaaGreatDoorWAl
set_option linter.unusedVariables false
set_option linter.unusedSimpArgs false
/- Code whose end is not fixed: what draws from the tape without a fence; ranging over a map. -/
namespace Go.Am
variable {P:Program}

theorem EsR.mem {ρ:Rho}:∀ {es:List (V × V × Nat)} {es':List MapEntry} {e:MapEntry},EsR ρ es es'→e ∈ es'→∃ x ∈ es,VR ρ x.1 e.key∧VR ρ x.2.1 e.val∧x.2.2=e.born
 | [],[],_,_,h=>by cases h
 | x :: es,y :: es',e,⟨h1,h2,h3,h4⟩,h=>by
   rcases List.mem_cons.1 h with rfl|h
   ·exact ⟨x,by simp,h1,h2,h3⟩
   ·obtain ⟨z,hz,h5⟩:=h4.mem h
    exact ⟨z,by simp [hz],h5⟩
 | [],_ :: _,_,h,_=>h.elim
 | _ :: _,[],_,h,_=>h.elim
theorem EsR.mem2 {ρ:Rho}:∀ {es:List (V × V × Nat)} {es':List MapEntry} {x:V × V × Nat},EsR ρ es es'→x ∈ es→∃ e ∈ es',x.2.2=e.born
 | [],[],_,_,h=>by cases h
 | x :: es,y :: es',z,⟨h1,h2,h3,h4⟩,h=>by
   rcases List.mem_cons.1 h with rfl|h
   ·exact ⟨y,by simp,h3⟩
   ·obtain ⟨e,he,h5⟩:=h4.mem2 h
    exact ⟨e,by simp [he],h5⟩
 | [],_ :: _,_,h,_=>h.elim
 | _ :: _,[],_,h,_=>h.elim
/-- A step of the range over a map: nothing is left, or one entry that is left. -/
theorem next_run {tt:Tmp} {E:Env} {H:Hs} {i m since stepped clock:Nat} {seen:List Nat} {es:List (V × V × Nat)} (ht:tget E tt=some (.ptr i 0)) (hi:H.get i=some (.mapIter (some m) since seen stepped)) (hm:H.get m=some (.map es clock))
  (hold:∀ x ∈ es,x.2.2 < since) (hsc:since ≤ stepped) {ρ:Rho} {ev:Operand→Value} {x:Oper} {w:World} (hop:x.op=.next (.tmp tt) false) (hev:EvR ρ E ev x.op.operands.toList) (hs:Sim ρ H w) :
  ((∀ y ∈ es,y.2.2 ∈ seen)∧Nx P ρ H w (.tup [.bool false]) H ((execOp ev x).run P w)) ∨
  ∃ y ∈ es,y.2.2 ∉ seen∧Nx P ρ H w (.tup [.bool true,y.1,y.2.1]) (H.put i (some (.mapIter (some m) since (seen ++ [y.2.2]) clock))) ((execOp ev x).run P w):=by
 have hc:=hev.one (x:=.tmp tt) (v:=.ptr i 0) (by rw [hop];simp [Op.operands]) (show OpV E (.tmp tt) (.ptr i 0) from ht)
 generalize hce:ev (.tmp tt)=cv at hc
 cases hc with
 | ptr _ hl =>
 rename_i l
 obtain ⟨l',co,a,b,⟨hrw,h0⟩,m',rfl,hmm⟩:=hs.obj i _ hi
 rw [hl] at a;cases a
 obtain ⟨lm,hlm,rfl⟩:=hmm
 obtain ⟨lm',co2,a2,b2,hrw2,es',rfl,hes⟩:=hs.obj m _ hm
 rw [hlm] at a2;cases a2
 have hold':∀ y ∈ es'.toList,y.born < since:=fun y hy=>by
  obtain ⟨z,hz,_,_,h3⟩:=hes.mem hy
  rw [← h3];exact hold z hz
 rw [h0] at hce
 rcases run_next_at (P:=P) w x.type l.blk lm.blk since stepped ⟨seen⟩ es' clock b b2 hold' hsc with ⟨hz,hrun⟩|⟨e,he,w1,hw1,hrun⟩
 ·refine .inl ⟨fun y hy=>?_,?_⟩
  ·obtain ⟨e,he,h3⟩:=hes.mem2 hy
   have hnil:leftOf es' ⟨seen⟩=#[]:=Array.eq_empty_of_size_eq_zero hz
   unfold leftOf at hnil
   rw [Array.filter_eq_empty_iff] at hnil
   have:=hnil e (by simpa using he)
   simp at this
   rw [h3];exact this
  ·have hr:(execOp ev x).run P w=.ok (.value (.tuple #[.bool false])) w:=by
    simp only [execOp,hop,hce,Nat.zero_add,Sem.run_bind,hrun]
    rfl
   rw [hr]
   exact ⟨_,ρ,rfl,.tup (.cons (.bool false) .nil),hs,Ext.refl _ _ _⟩
 ·unfold leftOf at he
  simp at he
  obtain ⟨he1,he2⟩:=he
  obtain ⟨y,hy,hk,hv,hbn⟩:=hes.mem (by simpa using he1)
  refine .inr ⟨y,hy,by rw [hbn];exact he2,?_⟩
  have hr:(execOp ev x).run P w=.ok (.value (.tuple #[.bool true,e.key,e.val])) (ChangeMaps.setBlock w1 l.blk (.mapIter (some lm.blk) since ((⟨seen⟩:Array Nat).push e.born) clock)):=by
   simp only [execOp,hop,hce,Nat.zero_add,Sem.run_bind,hrun]
   rfl
  rw [hr]
  have hlt:l.blk < w.heap.size:=by
   rcases Nat.lt_or_ge l.blk w.heap.size with h'|h'
   ·exact h'
   ·simp [Array.getElem?_eq_none h'] at b
  have hh:w1.heap=w.heap∧w1.tape=w.tape∧w1.os=w.os∧w1.output=w.output∧w.drawn ≤ w1.drawn:=by
   rcases hw1 with rfl|rfl
   ·exact ⟨rfl,rfl,rfl,rfl,Nat.le_refl _⟩
   ·exact ⟨rfl,rfl,rfl,rfl,Nat.le_succ _⟩
  have hp:=hs.put_obj (w':=ChangeMaps.setBlock w1 l.blk (.mapIter (some lm.blk) since ((⟨seen⟩:Array Nat).push e.born) clock)) hi hl hrw (o':=.mapIter (some m) since (seen ++ [y.2.2]) clock)
   (co':=.mapIter (some lm.blk) since ((⟨seen⟩:Array Nat).push e.born) clock) (by simp [ChangeMaps.setBlock,hh.1,hlt]) (fun b' hb'=>by simp [ChangeMaps.setBlock,hh.1,Array.getElem?_setIfInBounds_ne (Ne.symm hb')])
   (by simp [ChangeMaps.setBlock,hh.1]) hh.2.1 hh.2.2.1 hh.2.2.2.1 ⟨⟨hrw,h0⟩,some lm.blk,by rw [hbn];simp,lm,hlm,rfl⟩ hh.2.2.2.2
  exact ⟨_,ρ,rfl,.tup (.cons (.bool true) (.cons hk (.cons hv .nil))),hp.1,hp.2⟩
end Go.Am
/- Code whose end is not fixed, continued. -/
namespace Go.Am
variable {P:Program}
theorem renum_step {b:Nat} {gs:List Nat} {S S1 S2:St} {ρ ρ1:Rho} {w w1:World} {E1:Env} {a1:Act} (hb:b ≤ S.next) (hgl:ngl ≤ b) (hd:Renum b gs S1 S2) (hg:Globs ρ) (b1:ER ρ1 E1 a1.tmps) (b2:DR ρ1 [] a1.defers) (b3:Sim ρ1 S1.hs w1) (b4:Ext ρ S.hs w ρ1 S1.hs w1) :
  ∃ ρ2,ER ρ2 (reE b gs E1) a1.tmps∧DR ρ2 [] a1.defers∧Globs ρ2∧Sim ρ2 S2.hs w1∧ExtB b ρ S.hs w ρ2 S2.hs w1:=by
 let ρ2:Rho:=fun j=>if j < b then ρ1 j else (gs[j - b]?).bind ρ1
 have hlow:∀ j,j < b→ρ2 j=ρ1 j:=fun j hj=>if_pos hj
 have hhi:∀ j,b ≤ j→ρ2 j=(gs[j - b]?).bind ρ1:=fun j hj=>if_neg (by omega)
 have hR0:∀ i j l,Rre b gs i j→ρ1 i=some l→ρ2 j=some l:=by
  rintro i j l (⟨hi,rfl⟩|⟨hj,_,hi⟩) hl
  ·rw [hlow _ hi];exact hl
  ·rw [hhi _ hj,hi];exact hl
 have hR:Tr ρ1 ρ2 (Rre b gs):=.of hR0
 have hheld:∀ id o,S2.hs.get id=some o→∃ i o1,Rre b gs i id∧S1.hs.get i=some o1∧OI (Rre b gs) o1 o:=fun id o ho=>hd.held.get ho
 have hinv:∀ id,(S2.hs.get id).isSome→∀ l,ρ2 id=some l→∃ i,Rre b gs i id∧(S1.hs.get i).isSome∧ρ1 i=some l:=fun id hi l hl=>by
  obtain ⟨o,ho⟩:=Option.isSome_iff_exists.1 hi
  obtain ⟨i,o1,r,ho1,_⟩:=hheld id o ho
  obtain ⟨l1,_,p,_,_⟩:=b3.obj i o1 ho1
  have:=hR0 i id l1 r p
  rw [hl] at this;cases this
  exact ⟨i,r,by rw [ho1];rfl,p⟩
 have hsim:Sim ρ2 S2.hs w1:=by
  refine ⟨fun j o ho=>?_,fun j j' lj lj' hj hj' hlj hlj' hrw hne=>?_,fun j hj=>?_⟩
  ·obtain ⟨i,o1,r,ho1,hoi⟩:=hheld j o ho
   obtain ⟨l,co,p,q,s⟩:=b3.obj i o1 ho1
   exact ⟨l,co,hR0 i j l r p,q,hoi.tr hR (.refl l) (fun _=>rfl) s⟩
  ·obtain ⟨i,r,hi,hli⟩:=hinv j hj lj hlj
   obtain ⟨i',r',hi',hli'⟩:=hinv j' hj' lj' hlj'
   refine b3.sep i i' lj lj' hi hi' hli hli' hrw fun e=>hne ?_
   subst e
   rcases r with ⟨p,q⟩|⟨p,q,s⟩
   ·rcases r' with ⟨p',q'⟩|⟨p',q',s'⟩
    ·rw [q,q']
    ·have:=hd.high i (List.mem_of_getElem? s');omega
   ·have:=hd.high i (List.mem_of_getElem? s)
    rcases r' with ⟨p',q'⟩|⟨p',q',s'⟩
    ·omega
    ·obtain ⟨u1,u2⟩:=List.getElem?_eq_some_iff.1 s
     obtain ⟨u3,u4⟩:=List.getElem?_eq_some_iff.1 s'
     have:=nodup_inj hd.nodup u1 u3 (by rw [u2,u4])
     omega
  ·have hj':S2.next ≤ j:=hj
   have:=hd.next
   rw [hhi j (by omega),List.getElem?_eq_none (by omega)];rfl
 have hrho:∀ j,j < b→ρ2 j=ρ j:=fun j hj=>by rw [hlow j hj];exact b4.rho j (Nat.lt_of_lt_of_le hj hb)
 have hext:ExtB b ρ S.hs w ρ2 S2.hs w1 :=
  { rho:=hrho
    next:=by show b ≤ S2.next;rw [hd.next];omega
    size:=b4.size,keep:=b4.keep
    own:=fun y ⟨j,l,p,q,s,t⟩=>by
     obtain ⟨i,_,hi,hli⟩:=hinv j p l q
     exact b4.own y ⟨i,l,hi,hli,s,t⟩
    has:=fun y ⟨j,l,p,q,t⟩=>by
     obtain ⟨i,_,hi,hli⟩:=hinv j p l q
     exact b4.has y ⟨i,l,hi,hli,t⟩
    tape:=b4.tape,os:=b4.os,output:=b4.output,drawn:=b4.drawn }
 have hER:ER ρ2 (reE b gs E1) a1.tmps:=fun t v hv=>by
  obtain ⟨u,hu,hi⟩:=reE_get hv
  obtain ⟨v',p,q⟩:=b1 t u hu
  exact ⟨v',p,hi.tr hR q⟩
 have hDR:DR ρ2 [] a1.defers:=by
  cases hdf:a1.defers with
  | nil=>trivial
  | cons y ys=>rw [hdf] at b2;exact b2.elim
 have hglob:Globs ρ2:=fun i hi=>by
  obtain ⟨l,p,q,r⟩:=hg i hi
  exact ⟨l,by rw [hrho i (by omega)];exact p,q,r⟩
 exact ⟨ρ2,hER,hDR,hglob,hsim,hext⟩
/-- The loop's rest, whatever way it takes. 'b': the numbers below it stay as they are. -/
def HeadD (b:Nat) (P:Program) (c:Code) (E:Env) (H:Hs) (R:X→Env→List Nat→Hs→Prop):Prop :=
 ∀ (ρ:Rho) (a:Act) (w:World) (Q:Exit→Act→World→Prop),ER ρ E a.tmps→DR ρ [] a.defers→Globs ρ→Sim ρ H w →
   (∀ x E' D' H' a' w',R x E' D' H'→AftB b ρ H w E' D' H' a' w'→Q x.toExit a' w')→HeadIn (W none) 0 P c Q a w
theorem AftB.mk' {b:Nat} {ρ:Rho} {H:Hs} {w:World} {E':Env} {D':List Nat} {H':Hs} {a':Act} {w':World} (h:Aft ρ H w E' D' H' a' w') (hb:b ≤ H.next):AftB b ρ H w E' D' H' a' w':=by
 obtain ⟨ρ',h1,h2,h3,h4⟩:=h
 exact ⟨ρ',h1,h2,h3,h4.b hb⟩
/-- A round of a range over a map. -/
theorem HeadD.next {b:Nat} {id:Nat} {ops:Array Oper} {o:Oper} {tail:List Oper} {rest:Code} {tt:Tmp} (hops:ops.toList=o :: tail) (hop:o.op=.next (.tmp tt) false) (hgd:o.guard=none) {E:Env} {S:St} {R:X→Env→List Nat→Hs→Prop}
  {i m since stepped clock:Nat} {seen:List Nat} {es:List (V × V × Nat)} (ht:tget E tt=some (.ptr i 0)) (hi:S.hs.get i=some (.mapIter (some m) since seen stepped)) (hm:S.hs.get m=some (.map es clock))
  (hold:∀ x ∈ es,x.2.2 < since) (hsc:since ≤ stepped) (hb:b ≤ S.next) (hgl:ngl ≤ b)
  (hend:(∀ y ∈ es,y.2.2 ∈ seen)→putDst E o.dst (.tup [.bool false]) fun E=>evOps P (RC P) (RD P) ops.toList tail E S fun E S=>wk P (RC P) (RD P) (LP P) (evDraw P (RC P) (RD P)) none rest E [] S fun x E1 D1 S1=>x ≠ .normal∧R x E1 D1 S1.hs)
  (hdr:P.follows .mixedOrders=true)
  (hstep:∀ y ∈ es,y.2.2 ∉ seen→putK i (some (.mapIter (some m) since (seen ++ [y.2.2]) clock)) S fun S1=>putDst E o.dst (.tup [.bool true,y.1,y.2.1]) fun E=>evOps P (RC P) (RD P) ops.toList tail E S1 fun E S=>wk P (RC P) (RD P) (LP P) (evDraw P (RC P) (RD P)) none rest E [] S fun x E1 D1 S1 =>
   x=.normal∧D1=[]∧∃ gs S2,Renum b gs S1 S2∧HeadD b P (.seq (.region id ops false) rest) (reE b gs E1) S2.hs R) :
  HeadD b P (.seq (.region id ops false) rest) E S.hs R:=by
 intro ρ a w Q hE hD hg hs hQ
 refine .of (wpIn_seq (wpIn_region ?_))
 have hnd:∀ c,o.op ≠ .defer c:=fun c e=>by rw [hop] at e;cases e
 have hi0:ops[0]?=some o:=by
  have:ops.toList[0]?=some o:=by rw [hops];rfl
  simpa using this
 have hl':ops.toList.drop (0+1)=tail:=by rw [hops];rfl
 have hsz:ops.size=tail.length+1:=by rw [← Array.length_toList,hops];rfl
 rw [List.range_eq_range',hsz,List.range'_succ]
 have hw:Region.wanted o (yielded ops a.tmps)=true:=by simp [Region.wanted,hgd]
 simp only [wpOpsIn,hi0,hw,if_true]
 refine ⟨fun f _=>trivial,?_⟩
 rw [Oper.semAt_eq _ _ _ hnd]
 have hev:EvR ρ E a.eval o.op.operands.toList:=by rw [eval_evT];exact EvR.of_ER hE hg _
 rcases next_run (P:=P) ht hi hm hold hsc hop hev hs with ⟨hall,hnx⟩|⟨y,hy,hns,hnx⟩
 ·refine hnx.upon fun v' w' ρ' hv hs' hx=>?_
  have hle:=hx.le hs
  obtain ⟨E1,h4,h5⟩:=putDst_spec (hend hall)
  obtain ⟨he',hdf⟩:=h5 ρ ρ' a v' hle hE hv
  obtain ⟨E2,S2,h6,h7⟩:=evOps_spec RC_ok RD_ok (ops:=ops) tail (0+1) E1 S _ hl' h4
  obtain ⟨x,E3,D3,S3,⟨hxn,hR⟩,h8⟩:=evCode_spec RC_ok RD_ok LP_ok (evDraw_ok hdr RC_ok RD_ok) none rest E2 [] S2 _ h6
  refine h7 none ρ' [] _ w' _ he' (by rw [hdf];exact hD.mono hle) (hg.mono hle) hs' fun a2 w2 ⟨ρ2,c1,c2,c3,c4⟩=>?_
  have hle2:=c4.le hs'
  refine h8 ρ2 none a2 w2 _ rfl c1 c2 ((hg.mono hle).mono hle2) c3 fun a3 w3 ⟨ρ3,d1,d2,d3,d4⟩=>?_
  have hq:=hQ x E3 D3 S3.hs a3 w3 hR ⟨ρ3,d1,d2,d3,((hx.trans c4).trans d4).b hb⟩
  cases x with
  | normal=>exact absurd rfl hxn
  | exit id=>exact hq
  | ret=>exact hq
 ·obtain ⟨S1,hk1,hS1⟩:=put_spec (hstep y hy hns)
  refine hnx.upon fun v' w' ρ' hv hs' hx=>?_
  have hle:=hx.le hs
  rw [← hS1] at hs' hx
  obtain ⟨E1,h4,h5⟩:=putDst_spec hk1
  obtain ⟨he',hdf⟩:=h5 ρ ρ' a v' hle hE hv
  obtain ⟨E2,S2,h6,h7⟩:=evOps_spec RC_ok RD_ok (ops:=ops) tail (0+1) E1 S1 _ hl' h4
  obtain ⟨x,E3,D3,S3,⟨rfl,rfl,gs,S4,hre,hH⟩,h8⟩:=evCode_spec RC_ok RD_ok LP_ok (evDraw_ok hdr RC_ok RD_ok) none rest E2 [] S2 _ h6
  refine h7 none ρ' [] _ w' _ he' (by rw [hdf];exact hD.mono hle) (hg.mono hle) hs' fun a2 w2 ⟨ρ2,c1,c2,c3,c4⟩=>?_
  have hle2:=c4.le hs'
  refine h8 ρ2 none a2 w2 _ rfl c1 c2 ((hg.mono hle).mono hle2) c3 fun a3 w3 ⟨ρ3,d1,d2,d3,d4⟩=>?_
  obtain ⟨ρ4,e1,e2,e3,e4,e5⟩:=renum_step hb hgl hre hg d1 d2 d3 ((hx.trans c4).trans d4)
  exact hH ρ4 a3 w3 Q e1 e2 e3 e4 fun x E' D' H' a' w' hR ⟨ρ5,f1,f2,f3,f4⟩=>hQ x E' D' H' a' w' hR ⟨ρ5,f1,f2,f3,e5.trans f4⟩
end Go.Am
/- Code whose end is not fixed: parts put together; a function of such code. -/
namespace Go.Am
variable {P:Program}
def CodeD (P:Program) (c:Code) (E:Env) (H:Hs) (R:X→Env→List Nat→Hs→Prop):Prop :=
 ∀ (ρ:Rho) (a:Act) (w:World) (Q:Exit→Act→World→Prop),ER ρ E a.tmps→DR ρ [] a.defers→Globs ρ→Sim ρ H w →
   (∀ x E' D' H' a' w',R x E' D' H'→Aft ρ H w E' D' H' a' w'→Q x.toExit a' w')→c.wpIn (W none) 0 P Q a w
theorem CodeD.ev (hm:P.follows .mixedOrders=true) {c:Code} {E:Env} {S:St} {R:X→Env→List Nat→Hs→Prop} (h:wk P (RC P) (RD P) (LP P) (evDraw P (RC P) (RD P)) none c E [] S fun x E D S=>R x E D S.hs):CodeD P c E S.hs R:=by
 obtain ⟨x,E1,D1,S1,h1,h2⟩:=evCode_spec RC_ok RD_ok LP_ok (evDraw_ok hm RC_ok RD_ok) none c E [] S _ h
 exact fun ρ a w Q hE hD hg hs hQ=>h2 ρ none a w _ rfl hE hD hg hs fun a' w' ha=>hQ _ _ _ _ _ _ h1 ha
theorem CodeD.seq {c1 c2:Code} {E:Env} {H:Hs} {R1 R:X→Env→List Nat→Hs→Prop} (h1:CodeD P c1 E H R1) (h2:∀ x E1 D1 H1,R1 x E1 D1 H1→x=.normal∧D1=[]∧CodeD P c2 E1 H1 R):CodeD P (.seq c1 c2) E H R:=fun ρ a w Q hE hD hg hs hQ=>by
 refine wpIn_seq (h1 ρ a w _ hE hD hg hs fun x E1 D1 H1 a1 w1 hR ⟨ρ1,b1,b2,b3,b4⟩=>?_)
 obtain ⟨rfl,rfl,h3⟩:=h2 x E1 D1 H1 hR
 exact h3 ρ1 a1 w1 Q b1 b2 (hg.mono (b4.le hs)) b3 fun x E2 D2 H2 a2 w2 hR2 ha=>hQ x E2 D2 H2 a2 w2 hR2 (by
  obtain ⟨ρ2,c1,c2,c3,c4⟩:=ha
  exact ⟨ρ2,c1,c2,c3,b4.trans c4⟩)
theorem CodeD.seqE (hm:P.follows .mixedOrders=true) {c1 c2:Code} {E:Env} {S:St} {R:X→Env→List Nat→Hs→Prop}
  (h:wk P (RC P) (RD P) (LP P) (evDraw P (RC P) (RD P)) none c1 E [] S fun x E1 D1 S1=>x=.normal∧D1=[]∧CodeD P c2 E1 S1.hs R):CodeD P (.seq c1 c2) E S.hs R :=
 CodeD.seq (CodeD.ev hm (R:=fun x E1 D1 H1=>x=.normal∧D1=[]∧CodeD P c2 E1 H1 R) h) fun _ _ _ _ h=>h
theorem CodeD.blockLoop {id:Nat} {c:Code} {E:Env} {S:St} {R1 R:X→Env→List Nat→Hs→Prop} (h:HeadD S.next P c E S.hs R1) (hR:∀ x E1 D1 H1,R1 x E1 D1 H1→x=.exit id∧R .normal E1 D1 H1):CodeD P (.block id (.loop c)) E S.hs R:=fun ρ a w Q hE hD hg hs hQ=>by
 refine wpIn_block (HeadIn.loop (h ρ a w _ hE hD hg hs fun x E1 D1 H1 a1 w1 hr ⟨ρ1,b1,b2,b3,b4⟩=>?_))
 obtain ⟨rfl,h2⟩:=hR x E1 D1 H1 hr
 show (if id=id then Q .normal a1 w1 else Q (.exit id) a1 w1)
 rw [if_pos rfl]
 exact hQ .normal E1 D1 H1 a1 w1 h2 ⟨ρ1,b1,b2,b3,b4.ext⟩
theorem CallS.ofD {f:FuncId} {n:Nat} {rs:List ResultVar} {c:Code} (hf:FnAt P f n rs c) {args:List V} {S:St} {v:V} {Hf:Hs}
  (h:layArgs args 0 (blank n) fun E=>CodeD P c E S.hs fun x E1 D1 H1=>(x=.normal ∨ x=.ret)∧D1=[]∧∃ S1:St,S1.hs=H1∧Sub Hf H1∧resK P E1 S1 rs fun l=>match l with|[u]=>u=v|l=>.tup l=v):CallS P f args S.hs v Hf:=by
 obtain ⟨fn,hfn,hb,rfl,rfl,hn⟩:=hf.at'
 obtain ⟨E,h2,h3⟩:=frame_ER h
 intro ρ w l' hg hs hl
 have h0:¬ fn.name = "runtime.NumGoroutine" := by simpa using hn
 have hcall:(callFunc f ⟨l'⟩).run P w=.ok (.enter f ⟨l'⟩) w:=by simp [callFunc,hfn,h0,hb]
 rw [hcall]
 show CallsIn (W none) 0 P f ⟨l'⟩ w _
 refine callsIn_of_wp_marks hfn hb trivial ?_
 refine h2 ρ _ w _ (h3 ρ l' hl) trivial hg hs fun x E1 D1 H1 a' w' hR ⟨ρ1,b1,b2,b3,b4⟩=>?_
 obtain ⟨hx,rfl,S1,rfl,hsub,hres⟩:=hR
 have hres':resultsK P fn E1 S1 fun u=>u=v:=by
  have e:(resK P E1 S1 fn.results.toList fun l=>match l with|[u]=>u=v|l=>.tup l=v)=resultsK P fn E1 S1 fun u=>u=v:=by
   unfold resultsK
   congr 1
  rw [← e];exact hres
 obtain ⟨u,rfl,h10⟩:=resultsK_spec hres'
 obtain ⟨S',h7,h8⟩:=popD_spec (P:=P) (fn:=fn) (tmps:=#[]) (R:=fun _ _=>True) (D:=[]) (S:=S1) (k:=fun S=>S=S1) rfl
 subst h7
 have key:LeavesInM (W none) 0 P fn a'.tmps (Rt ρ S.hs w u Hf) a'.defers .returning w':=by
  refine h8 ρ1 w' a'.defers _ a'.tmps fn b2 b3 fun w2 q1 q2=>?_
  obtain ⟨v',r1,r2⟩:=h10 ρ1 a'.tmps w2 b1 q1
  exact ⟨v',r1,v',ρ1,rfl,r2,q1.restrict hsub.1 hsub.2,(b4.trans q2).sub hsub⟩
 rcases hx with rfl|rfl
 ·exact key
 ·exact key
end Go.Am
/- (label.table).labels. -/
namespace Go.Am
open Go.Proofs
set_option maxRecDepth 100000
attribute [local irreducible] fN fI fB yZ wrapK bAppend evOps wk drOps rdsAll sl

theorem f37:FnAt Tryz.prog 37 19 [.tmp 2] (codeOf Tryz.f37):=⟨Tryz.f37,by kernel_rfl,rfl,by kernel_rfl,by kernel_rfl,by kernel_rfl⟩

theorem CodeD.tree {P:Program} {c:Code} {E:Env} {H:Hs} {R:X→Env→List Nat→Hs→Prop} {L:List V} (hf:Fits E 0 L) (T:Env) (hT:T=envL L) (h:CodeD P c T H R):CodeD P c E H R :=
 fun ρ a w Q hE hD hg hs hQ=>h ρ a w Q (fun t v ht=>hE t v (hf.le t v (by rw [← hT];exact ht))) hD hg hs hQ
theorem HeadD.tree {P:Program} {b:Nat} {c:Code} {E:Env} {H:Hs} {R:X→Env→List Nat→Hs→Prop} {L:List V} (hf:Fits E 0 L) (T:Env) (hT:T=envL L) (h:HeadD b P c T H R):HeadD b P c E H R :=
 fun ρ a w Q hE hD hg hs hQ=>h ρ a w Q (fun t v ht=>hE t v (hf.le t v (by rw [← hT];exact ht))) hD hg hs hQ
theorem Stamps.le:∀ {t:Tab} {p c:Nat},Stamps t p c→p ≤ c
 | [],_,_,h=>h
 | z :: t,p,c,h=>by
   have h1:=Stamps.le (t:=t) h.2
   have h2:=h.1
   omega
theorem Stamps.low:∀ {t:Tab} {p c:Nat},Stamps t p c→∀ x ∈ t,p ≤ x.2
 | [],_,_,_,x,hx=>by simp at hx
 | z :: t,p,c,h,x,hx=>by
   rcases List.mem_cons.1 hx with rfl|hx
   ·exact h.1
   ·have h1:=Stamps.low (t:=t) h.2 x hx
    have h2:=h.1
    omega
theorem Stamps.lt:∀ {t:Tab} {p c:Nat},Stamps t p c→∀ x ∈ t,x.2 < c
 | [],_,_,_,x,hx=>by simp at hx
 | y :: t,p,c,h,x,hx=>by
   rcases List.mem_cons.1 hx with rfl|hx
   ·have:=Stamps.le (t:=t) h.2;omega
   ·exact Stamps.lt (t:=t) h.2 x hx
theorem Stamps.inj:∀ {t:Tab} {p c:Nat},Stamps t p c→∀ x ∈ t,∀ y ∈ t,x.2=y.2→x=y
 | [],_,_,_,x,hx,_,_,_=>by simp at hx
 | z :: t,p,c,h,x,hx,y,hy,e=>by
   rcases List.mem_cons.1 hx with h1|h1
   ·rcases List.mem_cons.1 hy with h2|h2
    ·rw [h1,h2]
    ·have:=Stamps.low (t:=t) h.2 y h2;subst h1;omega
   ·rcases List.mem_cons.1 hy with h2|h2
    ·have:=Stamps.low (t:=t) h.2 x h1;subst h2;omega
    ·exact Stamps.inj (t:=t) h.2 x h1 y h2 e
theorem dist_ne:∀ {t:Tab},t.Pairwise (fun p q=>p.1.1 ≠ q.1.1)→∀ a ∈ t,∀ b ∈ t,a ≠ b→a.1.1 ≠ b.1.1
 | [],_,a,ha,_,_,_=>by simp at ha
 | z :: t,hp,a,ha,b,hb,hab=>by
   have hp':=List.pairwise_cons.1 hp
   rcases List.mem_cons.1 ha with h1|h1
   ·rcases List.mem_cons.1 hb with h2|h2
    ·exact absurd (h1.trans h2.symm) hab
    ·rw [h1];exact hp'.1 b h2
   ·rcases List.mem_cons.1 hb with h2|h2
    ·rw [h2];exact Ne.symm (hp'.1 a h1)
    ·exact dist_ne hp'.2 a h1 b h2 hab
theorem sub_all {S S2:St} (h:T.All (fun id o=>T.get deep id S.hp=some o) S2.hp 1 0) (hn:S.next ≤ S2.next):Sub S2.hs S.hs:=⟨fun id o ho=>h.get ho,hn⟩
/-- The heap with some entries met. -/
noncomputable def visS (t:Tab) (c:Nat) (vis:Tab):St:=match vis with
 | []=>mkS [(ngl,.map (ents t) c),(ngl+1,.mapIter (some ngl) c [] c)] (ngl+2)
 | v :: l=>mkS [(ngl,.map (ents t) c),(ngl+1,.mapIter (some ngl) c ((v :: l).map (·.2)) c),(ngl+2,.cells (cellsOf ((v :: l).map (·.1))) 40 .rw)] (ngl+3)
noncomputable def visF (t:Tab) (c:Nat):St:=match t with
 | []=>mkS [(ngl,.map (ents t) c)] (ngl+2)
 | _ :: _=>mkS [(ngl,.map (ents t) c),(ngl+2,.cells (cellsOf (sortL (t.map (·.1)) [])) 40 .rw)] (ngl+3)
/-- Entries that have been met. -/
structure VisOk (t vis:Tab):Prop where
 sub:∀ x ∈ vis,x ∈ t
 dist:vis.Pairwise fun p q=>p.1.1 ≠ q.1.1
theorem VisOk.add {t vis:Tab} {x:Lab × Nat} (h:VisOk t vis) (hp:t.Pairwise fun p q=>p.1.1 ≠ q.1.1) (hx:x ∈ t) (hn:x.2 ∉ vis.map (·.2)):VisOk t (vis ++ [x]):=by
 refine ⟨fun y hy=>?_,List.pairwise_append.2 ⟨h.dist,List.pairwise_singleton _ _,fun a ha b hb=>?_⟩⟩
 ·rcases List.mem_append.1 hy with hy|hy
  ·exact h.sub y hy
  ·rw [List.mem_singleton] at hy;subst hy;exact hx
 ·rw [List.mem_singleton] at hb
  subst hb
  intro e
  have hab:a ≠ b:=fun e2=>hn (by rw [← e2];exact List.mem_map.2 ⟨a,ha,rfl⟩)
  exact dist_ne hp a (h.sub a ha) b hx hab e
theorem VisOk.few {t vis:Tab} (h:VisOk t vis):vis.length ≤ t.length:=by
 have:=sub_length (a:=vis.map (·.1.1)) (b:=t.map (·.1.1)) (by rw [List.Nodup,List.pairwise_map];exact h.dist) fun y hy=>by
  obtain ⟨z,hz,rfl⟩:=List.mem_map.1 hy
  exact List.mem_map.2 ⟨z,h.sub z hz,rfl⟩
 simpa using this
theorem VisOk.all {t vis:Tab} {c:Nat} (h:VisOk t vis) (hs:Stamps t 0 c) (hp:t.Pairwise fun p q=>p.1.1 ≠ q.1.1) (ha:∀ x ∈ t,x.2 ∈ vis.map (·.2)):sortL (vis.map (·.1)) []=sortL (t.map (·.1)) []:=by
 refine asc_unique (sortL_asc .nil (by rw [List.pairwise_map];exact h.dist) (by simp)) (sortL_asc .nil (by rw [List.pairwise_map];exact hp) (by simp)) fun x=>?_
 rw [sortL_mem,sortL_mem]
 simp only [List.not_mem_nil,or_false]
 constructor
 ·intro hx
  obtain ⟨z,hz,rfl⟩:=List.mem_map.1 hx
  exact List.mem_map.2 ⟨z,h.sub z hz,rfl⟩
 ·intro hx
  obtain ⟨z,hz,rfl⟩:=List.mem_map.1 hx
  obtain ⟨y,hy,e⟩:=List.mem_map.1 (ha z hz)
  rw [hs.inj z hz y (h.sub y hy) e.symm]
  exact List.mem_map.2 ⟨y,hy,rfl⟩
theorem last_app {a:Nat} {l:List Nat} {b:Nat} (h:a :: (l ++ [b]) ≠ []):(a :: (l ++ [b])).getLast h=b:=by rw [List.getLast_cons (by simp)];simp
theorem ents_find {t:Tab} {x:Lab × Nat} {p c:Nat}:Stamps t p c→x ∈ t→(ents t).find? (fun e=>e.2.2 == x.2)=some (.str x.1.1,labV x.1,x.2):=fun hs hx=>by
 induction t generalizing p with
 | nil=>simp at hx
 | cons y t ih =>
   show ((V.str y.1.1,labV y.1,y.2) :: ents t).find? _=_
   rw [List.find?_cons]
   by_cases e:y.2=x.2
   ·rw [hs.inj y (by simp) x hx e];simp
   ·have hxt:x ∈ t:=by
     rcases List.mem_cons.1 hx with h|h
     ·exact absurd (by rw [h]) e
     ·exact h
    have e2:(y.2 == x.2)=false:=by simpa using e
    show (match y.2 == x.2 with|true=>_|false=>_)=_
    rw [e2]
    exact ih hs.2 hxt
theorem entry_intro {t:Tab} {x:Lab × Nat} {c b:Nat} {K:V→Prop} (hx:x ∈ t) (hs:Stamps t 0 c) (hb:b=x.2) (h:K (.tup [.str x.1.1,labV x.1])) :
  Option.rec (motive:=fun _=>Prop) False (fun e=>K (.tup [e.1,e.2.1])) ((ents t).find? fun e=>e.2.2 == b):=by
 subst hb
 rw [ents_find hs hx]
 exact h
/-- What the loop leaves. -/
def EndR (t:Tab) (c:Nat) (x:X) (E:Env) (D:List Nat) (H:Hs):Prop:=x=.exit 0∧D=[]∧∃ vis:Tab,VisOk t vis∧(∀ x ∈ t,x.2 ∈ vis.map (·.2))∧(visS t c vis).hs=H∧Fits E 0 [.map ngl,sl E 1,sl E 2,outV (vis.map (·.1)) (ngl+2),sl E 4,sl E 5,sl E 6,.ptr (ngl+1) 0,sl E 8,sl E 9,sl E 10,sl E 11,sl E 12,sl E 13,sl E 14,sl E 15,sl E 16,sl E 17,sl E 18]

theorem vis_ind {P:Program} {C:Code} {b:Nat} {R:X→Env→List Nat→Hs→Prop} {t:Tab} {c:Nat} {F:Tab→Env→Prop} (hp:t.Pairwise fun p q=>p.1.1 ≠ q.1.1)
  (step:∀ (vis:Tab) (E:Env),VisOk t vis→F vis E→(∀ (x:Lab × Nat) (E':Env),x ∈ t→x.2 ∉ vis.map (·.2)→F (vis ++ [x]) E'→HeadD b P C E' (visS t c (vis ++ [x])).hs R)→HeadD b P C E (visS t c vis).hs R) :
  ∀ (k:Nat) (vis:Tab) (E:Env),t.length ≤ vis.length+k→VisOk t vis→F vis E→HeadD b P C E (visS t c vis).hs R
 | 0,vis,E,hk,hv,hF=>step vis E hv hF fun x E' hx hn _=>by
   have:=(hv.add hp hx hn).few
   simp at this;omega
 | k+1,vis,E,hk,hv,hF=>step vis E hv hF fun x E' hx hn hF'=>vis_ind hp step k (vis ++ [x]) E' (by simp;omega) (hv.add hp hx hn) hF'
attribute [local irreducible] CodeD HeadD

set_option maxHeartbeats 4000000 in
theorem labels_at {t:Tab} {c:Nat} (hs:Stamps t 0 c) (hp:t.Pairwise fun p q=>p.1.1 ≠ q.1.1) (hl:t.length ≤ 4096) :
  CallS Tryz.prog 37 [.map ngl] (mkS [(ngl,.map (ents t) c)] (ngl+1)).hs (outV (sortL (t.map (·.1)) []) (ngl+2)) (visF t c).hs:=by
 refine CallS.ofD f37 ?_
 conv=>whnf
 unfold codeOf
 conv=>arg 2;whnf
 refine CodeD.seqE mixed ?_
 repeat(first|((first|refine yw ?_|refine zX ?_|refine yX ?_|refine zk ?_);intro _ _)|refine yz ?_|refine xz ?_|refine yj ‹_› ?_|refine zw ‹_› ?_|refine yx ‹_› ?_|refine yq ‹_› ?_|refine zZ ?_|refine yy ?_|refine yv ?_|refine zq ?_|refine zY (fun Q hQ=>by (conv=>whnf);exact hQ) ?_|refine zj (fun Q hQ=>by (conv=>whnf);exact hQ) ?_|(apply yk;(·intro _ _ hy;(conv=>whnf);exact hy);(·intro Q hQ;(conv=>whnf);repeat(first|exact hQ|((first|refine xw (by first|rfl|assumption) ?_|refine xx (by first|rfl|assumption) ?_|refine zy ?_|refine zx ?_|unfold yZ);(conv=>whnf))));(·intro Q hQ;(conv=>whnf);exact hQ))|(apply yY;(·intro _ _ hy;(conv=>whnf);exact hy);(·intro Q hQ;(conv=>whnf);exact hQ)))
 rename_i K1 hK1
 subst hK1
 refine ⟨rfl,rfl,?_⟩
 refine CodeD.seqE mixed ?_
 repeat(first|((first|refine yw ?_|refine zX ?_|refine yX ?_|refine zk ?_);intro _ _)|refine yz ?_|refine xz ?_|refine yj ‹_› ?_|refine zw ‹_› ?_|refine yx ‹_› ?_|refine yq ‹_› ?_|refine zZ ?_|refine yy ?_|refine yv ?_|refine zq ?_|refine zY (fun Q hQ=>by (conv=>whnf);exact hQ) ?_|refine zj (fun Q hQ=>by (conv=>whnf);exact hQ) ?_|(apply yk;(·intro _ _ hy;(conv=>whnf);exact hy);(·intro Q hQ;(conv=>whnf);repeat(first|exact hQ|((first|refine xw (by first|rfl|assumption) ?_|refine xx (by first|rfl|assumption) ?_|refine zy ?_|refine zx ?_|unfold yZ);(conv=>whnf))));(·intro Q hQ;(conv=>whnf);exact hQ))|(apply yY;(·intro _ _ hy;(conv=>whnf);exact hy);(·intro Q hQ;(conv=>whnf);exact hQ)))
 rename_i K1 hK1
 subst hK1
 refine ⟨rfl,rfl,?_⟩
 refine CodeD.seq (R1:=fun x E1 D1 H1=>x=.normal∧D1=[]∧∃ vis:Tab,VisOk t vis∧(∀ x ∈ t,x.2 ∈ vis.map (·.2))∧(visS t c vis).hs=H1∧Fits E1 0 [.map ngl,sl E1 1,sl E1 2,outV (vis.map (·.1)) (ngl+2),sl E1 4,sl E1 5,sl E1 6,.ptr (ngl+1) 0,sl E1 8,sl E1 9,sl E1 10,sl E1 11,sl E1 12,sl E1 13,sl E1 14,sl E1 15,sl E1 16,sl E1 17,sl E1 18]) ?_ ?_
 ·refine CodeD.seqE mixed ?_
  repeat(first|((first|refine yw ?_|refine zX ?_|refine yX ?_|refine zk ?_);intro _ _)|refine yz ?_|refine xz ?_|refine yj ‹_› ?_|refine zw ‹_› ?_|refine yx ‹_› ?_|refine yq ‹_› ?_|refine zZ ?_|refine yy ?_|refine yv ?_|refine zq ?_|refine zY (fun Q hQ=>by (conv=>whnf);exact hQ) ?_|refine zj (fun Q hQ=>by (conv=>whnf);exact hQ) ?_|(apply yk;(·intro _ _ hy;(conv=>whnf);exact hy);(·intro Q hQ;(conv=>whnf);repeat(first|exact hQ|((first|refine xw (by first|rfl|assumption) ?_|refine xx (by first|rfl|assumption) ?_|refine zy ?_|refine zx ?_|unfold yZ);(conv=>whnf))));(·intro Q hQ;(conv=>whnf);exact hQ))|(apply yY;(·intro _ _ hy;(conv=>whnf);exact hy);(·intro Q hQ;(conv=>whnf);exact hQ)))
  rename_i K1 hK1
  subst hK1
  refine ⟨rfl,rfl,?_⟩
  refine CodeD.blockLoop (R1:=EndR t c) ?_ (fun x E1 D1 H1 h=>⟨h.1,rfl,h.2⟩)
  refine vis_ind (F:=fun vis E=>Fits E 0 [.map ngl,sl E 1,sl E 2,outV (vis.map (·.1)) (ngl+2),sl E 4,sl E 5,sl E 6,.ptr (ngl+1) 0,sl E 8,sl E 9,sl E 10,sl E 11,sl E 12,sl E 13,sl E 14,sl E 15,sl E 16,sl E 17,sl E 18]) hp ?_ t.length [] _ (by simp) ⟨by simp,.nil⟩ ⟨rfl,zz rfl,zz rfl,rfl,zz rfl,zz rfl,zz rfl,rfl,zz rfl,zz rfl,zz rfl,zz rfl,zz rfl,zz rfl,zz rfl,zz rfl,zz rfl,zz rfl,zz rfl,trivial⟩
  intro vis E hok hf ih
  cases vis with
  | nil =>
    refine HeadD.tree hf (⟨some (.map ngl),⟨some (sl E 1),⟨some (sl E 5),z1,z1,z1,z1⟩,⟨some (sl E 9),z1,z1,z1,z1⟩,⟨some (sl E 13),z1,z1,z1,z1⟩,⟨some (sl E 17),z1,z1,z1,z1⟩⟩,⟨some (sl E 2),⟨some (sl E 6),z1,z1,z1,z1⟩,⟨some (sl E 10),z1,z1,z1,z1⟩,⟨some (sl E 14),z1,z1,z1,z1⟩,⟨some (sl E 18),z1,z1,z1,z1⟩⟩,⟨some (V.nilSlice),⟨some (.ptr (ngl+1) 0),z1,z1,z1,z1⟩,⟨some (sl E 11),z1,z1,z1,z1⟩,⟨some (sl E 15),z1,z1,z1,z1⟩,z2⟩,⟨some (sl E 4),⟨some (sl E 8),z1,z1,z1,z1⟩,⟨some (sl E 12),z1,z1,z1,z1⟩,⟨some (sl E 16),z1,z1,z1,z1⟩,z2⟩⟩) (by kernel_rfl) ?_
    clear hf
    refine HeadD.next (o:=_) (tail:=_) rfl rfl rfl (i:=ngl+1) (m:=ngl) (since:=c) (stepped:=c) (clock:=c) (seen:=([]:Tab).map (·.2)) (es:=ents t) rfl rfl rfl ?_ (Nat.le_refl _) (Nat.le_of_ble_eq_true rfl) (Nat.le_of_ble_eq_true rfl) ?_ mixed ?_
    ·intro x hx
     obtain ⟨y,hy,rfl⟩:=List.mem_map.1 hx
     exact hs.lt y hy
    ·intro hall
     conv=>whnf
     repeat(first|((first|refine yw ?_|refine zX ?_|refine yX ?_|refine zk ?_);intro _ _)|refine yz ?_|refine xz ?_|refine yj ‹_› ?_|refine zw ‹_› ?_|refine yx ‹_› ?_|refine yq ‹_› ?_|refine zZ ?_|refine yy ?_|refine yv ?_|refine zq ?_|refine zY (fun Q hQ=>by (conv=>whnf);exact hQ) ?_|refine zj (fun Q hQ=>by (conv=>whnf);exact hQ) ?_|(apply yk;(·intro _ _ hy;(conv=>whnf);exact hy);(·intro Q hQ;(conv=>whnf);repeat(first|exact hQ|((first|refine xw (by first|rfl|assumption) ?_|refine xx (by first|rfl|assumption) ?_|refine zy ?_|refine zx ?_|unfold yZ);(conv=>whnf))));(·intro Q hQ;(conv=>whnf);exact hQ))|(apply yY;(·intro _ _ hy;(conv=>whnf);exact hy);(·intro Q hQ;(conv=>whnf);exact hQ)))
     conv=>whnf
     repeat(first|((first|refine yw ?_|refine zX ?_|refine yX ?_|refine zk ?_);intro _ _)|refine yz ?_|refine xz ?_|refine yj ‹_› ?_|refine zw ‹_› ?_|refine yx ‹_› ?_|refine yq ‹_› ?_|refine zZ ?_|refine yy ?_|refine yv ?_|refine zq ?_|refine zY (fun Q hQ=>by (conv=>whnf);exact hQ) ?_|refine zj (fun Q hQ=>by (conv=>whnf);exact hQ) ?_|(apply yk;(·intro _ _ hy;(conv=>whnf);exact hy);(·intro Q hQ;(conv=>whnf);repeat(first|exact hQ|((first|refine xw (by first|rfl|assumption) ?_|refine xx (by first|rfl|assumption) ?_|refine zy ?_|refine zx ?_|unfold yZ);(conv=>whnf))));(·intro Q hQ;(conv=>whnf);exact hQ))|(apply yY;(·intro _ _ hy;(conv=>whnf);exact hy);(·intro Q hQ;(conv=>whnf);exact hQ)))
     exact ⟨by simp,rfl,rfl,([]:Tab),hok,fun x hx=>hall _ (List.mem_map.2 ⟨x,hx,rfl⟩),rfl,⟨rfl,zz rfl,zz rfl,rfl,zz rfl,zz rfl,zz rfl,rfl,zz rfl,zz rfl,zz rfl,zz rfl,zz rfl,zz rfl,zz rfl,zz rfl,zz rfl,zz rfl,zz rfl,trivial⟩⟩
    ·intro y hy hns
     obtain ⟨x,hx,rfl⟩:=List.mem_map.1 hy
     have hS:visS t c (([]:Tab) ++ [x])=mkS [(ngl,.map (ents t) c),(ngl+1,.mapIter (some ngl) c (([]:Tab).map (·.2) ++ [x.2]) c),(ngl+2,.cells (cellsOf (([]:Tab).map (·.1) ++ [x.1])) 40 .rw)] (ngl+3):=by
      rfl
     conv=>whnf
     repeat(first|((first|refine yw ?_|refine zX ?_|refine yX ?_|refine zk ?_);intro _ _)|refine yz ?_|refine xz ?_|refine yj ‹_› ?_|refine zw ‹_› ?_|refine yx ‹_› ?_|refine yq ‹_› ?_|refine zZ ?_|refine yy ?_|refine yv ?_|refine zq ?_|refine zY (fun Q hQ=>by (conv=>whnf);exact hQ) ?_|refine zj (fun Q hQ=>by (conv=>whnf);exact hQ) ?_|(apply yk;(·intro _ _ hy;(conv=>whnf);exact hy);(·intro Q hQ;(conv=>whnf);repeat(first|exact hQ|((first|refine xw (by first|rfl|assumption) ?_|refine xx (by first|rfl|assumption) ?_|refine zy ?_|refine zx ?_|unfold yZ);(conv=>whnf))));(·intro Q hQ;(conv=>whnf);exact hQ))|(apply yY;(·intro _ _ hy;(conv=>whnf);exact hy);(·intro Q hQ;(conv=>whnf);exact hQ)))
     conv=>whnf
     repeat(first|((first|refine yw ?_|refine zX ?_|refine yX ?_|refine zk ?_);intro _ _)|refine yz ?_|refine xz ?_|refine yj ‹_› ?_|refine zw ‹_› ?_|refine yx ‹_› ?_|refine yq ‹_› ?_|refine zZ ?_|refine yy ?_|refine yv ?_|refine zq ?_|refine zY (fun Q hQ=>by (conv=>whnf);exact hQ) ?_|refine zj (fun Q hQ=>by (conv=>whnf);exact hQ) ?_|(apply yk;(·intro _ _ hy;(conv=>whnf);exact hy);(·intro Q hQ;(conv=>whnf);repeat(first|exact hQ|((first|refine xw (by first|rfl|assumption) ?_|refine xx (by first|rfl|assumption) ?_|refine zy ?_|refine zx ?_|unfold yZ);(conv=>whnf))));(·intro Q hQ;(conv=>whnf);exact hQ))|(apply yY;(·intro _ _ hy;(conv=>whnf);exact hy);(·intro Q hQ;(conv=>whnf);exact hQ)))
     apply yk
     ·(intro _ _ hy;(conv=>whnf);exact hy)
     ·intro Q hQ
      conv=>whnf
      refine ifK_intro (Nat.beq_refl c) ?_
      refine entry_intro (K:=fun v=>Q v _) hx hs rfl ?_
      exact hQ
     ·(intro Q hQ;(conv=>whnf);exact hQ)
     repeat(first|((first|refine yw ?_|refine zX ?_|refine yX ?_|refine zk ?_);intro _ _)|refine yz ?_|refine xz ?_|refine yj ‹_› ?_|refine zw ‹_› ?_|refine yx ‹_› ?_|refine yq ‹_› ?_|refine zZ ?_|refine yy ?_|refine yv ?_|refine zq ?_|refine zY (fun Q hQ=>by (conv=>whnf);exact hQ) ?_|refine zj (fun Q hQ=>by (conv=>whnf);exact hQ) ?_|(apply yk;(·intro _ _ hy;(conv=>whnf);exact hy);(·intro Q hQ;(conv=>whnf);repeat(first|exact hQ|((first|refine xw (by first|rfl|assumption) ?_|refine xx (by first|rfl|assumption) ?_|refine zy ?_|refine zx ?_|unfold yZ);(conv=>whnf))));(·intro Q hQ;(conv=>whnf);exact hQ))|(apply yY;(·intro _ _ hy;(conv=>whnf);exact hy);(·intro Q hQ;(conv=>whnf);exact hQ)))
     apply xq
     ·(intro _ _ hy;(conv=>whnf);exact hy)
     intro Q hQ
     conv=>whnf
     refine app_nil (q:=x.1) rfl ?_
     conv=>whnf
     rw [hQ]
     conv=>whnf
     repeat(first|((first|refine yw ?_|refine zX ?_|refine yX ?_|refine zk ?_);intro _ _)|refine yz ?_|refine xz ?_|refine yj ‹_› ?_|refine zw ‹_› ?_|refine yx ‹_› ?_|refine yq ‹_› ?_|refine zZ ?_|refine yy ?_|refine yv ?_|refine zq ?_|refine zY (fun Q hQ=>by (conv=>whnf);exact hQ) ?_|refine zj (fun Q hQ=>by (conv=>whnf);exact hQ) ?_|(apply yk;(·intro _ _ hy;(conv=>whnf);exact hy);(·intro Q hQ;(conv=>whnf);repeat(first|exact hQ|((first|refine xw (by first|rfl|assumption) ?_|refine xx (by first|rfl|assumption) ?_|refine zy ?_|refine zx ?_|unfold yZ);(conv=>whnf))));(·intro Q hQ;(conv=>whnf);exact hQ))|(apply yY;(·intro _ _ hy;(conv=>whnf);exact hy);(·intro Q hQ;(conv=>whnf);exact hQ)))
     conv=>whnf
     refine ⟨rfl,rfl,[ngl+4],mkS [(ngl,.map (ents t) c),(ngl+1,.mapIter (some ngl) c (([]:Tab).map (·.2) ++ [x.2]) c),(ngl+2,.cells (cellsOf (([]:Tab).map (·.1) ++ [x.1])) 40 .rw)] (ngl+3),⟨rfl,nodup1 _,fun g hg=>by rw [List.mem_singleton] at hg;subst hg;exact Nat.le_of_ble_eq_true rfl,?_⟩,?_⟩
     ·repeat' (first
       | exact trivial
       | exact ⟨_,_,.inl ⟨Nat.le_of_ble_eq_true rfl,rfl⟩,rfl,.map (EI_ents _)⟩
       | exact ⟨_,_,.inl ⟨Nat.le_of_ble_eq_true rfl,rfl⟩,rfl,.mapIter (.inl ⟨Nat.le_of_ble_eq_true rfl,rfl⟩)⟩
       | exact ⟨_,_,.inr ⟨Nat.le_of_ble_eq_true rfl,Nat.le_of_ble_eq_true rfl,rfl⟩,rfl,.cells (wv _) (.inl rfl)⟩
       | apply And.intro)
     rw [← hS]
     exact ih x _ hx hns ⟨rfl,zz rfl,zz rfl,rfl,zz rfl,zz rfl,zz rfl,rfl,zz rfl,zz rfl,zz rfl,zz rfl,zz rfl,zz rfl,zz rfl,zz rfl,zz rfl,zz rfl,zz rfl,trivial⟩
  | cons v0 w0 =>
    refine HeadD.tree hf (⟨some (.map ngl),⟨some (sl E 1),⟨some (sl E 5),z1,z1,z1,z1⟩,⟨some (sl E 9),z1,z1,z1,z1⟩,⟨some (sl E 13),z1,z1,z1,z1⟩,⟨some (sl E 17),z1,z1,z1,z1⟩⟩,⟨some (sl E 2),⟨some (sl E 6),z1,z1,z1,z1⟩,⟨some (sl E 10),z1,z1,z1,z1⟩,⟨some (sl E 14),z1,z1,z1,z1⟩,⟨some (sl E 18),z1,z1,z1,z1⟩⟩,⟨some (.slice (ngl+2) 0 ((v0 :: w0).map (·.1)).length ((v0 :: w0).map (·.1)).length 2 false),⟨some (.ptr (ngl+1) 0),z1,z1,z1,z1⟩,⟨some (sl E 11),z1,z1,z1,z1⟩,⟨some (sl E 15),z1,z1,z1,z1⟩,z2⟩,⟨some (sl E 4),⟨some (sl E 8),z1,z1,z1,z1⟩,⟨some (sl E 12),z1,z1,z1,z1⟩,⟨some (sl E 16),z1,z1,z1,z1⟩,z2⟩⟩) (by kernel_rfl) ?_
    clear hf
    refine HeadD.next (o:=_) (tail:=_) rfl rfl rfl (i:=ngl+1) (m:=ngl) (since:=c) (stepped:=c) (clock:=c) (seen:=(v0 :: w0).map (·.2)) (es:=ents t) rfl rfl rfl ?_ (Nat.le_refl _) (Nat.le_of_ble_eq_true rfl) (Nat.le_of_ble_eq_true rfl) ?_ mixed ?_
    ·intro x hx
     obtain ⟨y,hy,rfl⟩:=List.mem_map.1 hx
     exact hs.lt y hy
    ·intro hall
     conv=>whnf
     repeat(first|((first|refine yw ?_|refine zX ?_|refine yX ?_|refine zk ?_);intro _ _)|refine yz ?_|refine xz ?_|refine yj ‹_› ?_|refine zw ‹_› ?_|refine yx ‹_› ?_|refine yq ‹_› ?_|refine zZ ?_|refine yy ?_|refine yv ?_|refine zq ?_|refine zY (fun Q hQ=>by (conv=>whnf);exact hQ) ?_|refine zj (fun Q hQ=>by (conv=>whnf);exact hQ) ?_|(apply yk;(·intro _ _ hy;(conv=>whnf);exact hy);(·intro Q hQ;(conv=>whnf);repeat(first|exact hQ|((first|refine xw (by first|rfl|assumption) ?_|refine xx (by first|rfl|assumption) ?_|refine zy ?_|refine zx ?_|unfold yZ);(conv=>whnf))));(·intro Q hQ;(conv=>whnf);exact hQ))|(apply yY;(·intro _ _ hy;(conv=>whnf);exact hy);(·intro Q hQ;(conv=>whnf);exact hQ)))
     conv=>whnf
     repeat(first|((first|refine yw ?_|refine zX ?_|refine yX ?_|refine zk ?_);intro _ _)|refine yz ?_|refine xz ?_|refine yj ‹_› ?_|refine zw ‹_› ?_|refine yx ‹_› ?_|refine yq ‹_› ?_|refine zZ ?_|refine yy ?_|refine yv ?_|refine zq ?_|refine zY (fun Q hQ=>by (conv=>whnf);exact hQ) ?_|refine zj (fun Q hQ=>by (conv=>whnf);exact hQ) ?_|(apply yk;(·intro _ _ hy;(conv=>whnf);exact hy);(·intro Q hQ;(conv=>whnf);repeat(first|exact hQ|((first|refine xw (by first|rfl|assumption) ?_|refine xx (by first|rfl|assumption) ?_|refine zy ?_|refine zx ?_|unfold yZ);(conv=>whnf))));(·intro Q hQ;(conv=>whnf);exact hQ))|(apply yY;(·intro _ _ hy;(conv=>whnf);exact hy);(·intro Q hQ;(conv=>whnf);exact hQ)))
     exact ⟨by simp,rfl,rfl,(v0 :: w0),hok,fun x hx=>hall _ (List.mem_map.2 ⟨x,hx,rfl⟩),rfl,⟨rfl,zz rfl,zz rfl,rfl,zz rfl,zz rfl,zz rfl,rfl,zz rfl,zz rfl,zz rfl,zz rfl,zz rfl,zz rfl,zz rfl,zz rfl,zz rfl,zz rfl,zz rfl,trivial⟩⟩
    ·intro y hy hns
     obtain ⟨x,hx,rfl⟩:=List.mem_map.1 hy
     have hS:visS t c ((v0 :: w0) ++ [x])=mkS [(ngl,.map (ents t) c),(ngl+1,.mapIter (some ngl) c ((v0 :: w0).map (·.2) ++ [x.2]) c),(ngl+2,.cells (cellsOf ((v0 :: w0).map (·.1) ++ [x.1])) 40 .rw)] (ngl+3):=by
      show mkS [(ngl,.map (ents t) c),(ngl+1,.mapIter (some ngl) c ((v0 :: (w0 ++ [x])).map (·.2)) c),(ngl+2,.cells (cellsOf ((v0 :: (w0 ++ [x])).map (·.1))) 40 .rw)] (ngl+3)=_
      rw [show (v0 :: (w0 ++ [x])).map (·.2)=(v0 :: w0).map (·.2) ++ [x.2] by simp,show (v0 :: (w0 ++ [x])).map (·.1)=(v0 :: w0).map (·.1) ++ [x.1] by simp]
     have hov:outV (((v0 :: w0) ++ [x]).map (·.1)) (ngl+2)=.slice (ngl+2) 0 (((v0 :: w0).map (·.1)).length+1) (((v0 :: w0).map (·.1)).length+1) 2 false:=by
      rw [outV_ne (by simp)]
      simp
     have hlt:((v0 :: w0).map (·.1)).length < 4096:=by
      have h1:=(hok.add hp hx hns).few
      simp at h1 ⊢
      omega
     conv=>whnf
     repeat(first|((first|refine yw ?_|refine zX ?_|refine yX ?_|refine zk ?_);intro _ _)|refine yz ?_|refine xz ?_|refine yj ‹_› ?_|refine zw ‹_› ?_|refine yx ‹_› ?_|refine yq ‹_› ?_|refine zZ ?_|refine yy ?_|refine yv ?_|refine zq ?_|refine zY (fun Q hQ=>by (conv=>whnf);exact hQ) ?_|refine zj (fun Q hQ=>by (conv=>whnf);exact hQ) ?_|(apply yk;(·intro _ _ hy;(conv=>whnf);exact hy);(·intro Q hQ;(conv=>whnf);repeat(first|exact hQ|((first|refine xw (by first|rfl|assumption) ?_|refine xx (by first|rfl|assumption) ?_|refine zy ?_|refine zx ?_|unfold yZ);(conv=>whnf))));(·intro Q hQ;(conv=>whnf);exact hQ))|(apply yY;(·intro _ _ hy;(conv=>whnf);exact hy);(·intro Q hQ;(conv=>whnf);exact hQ)))
     conv=>whnf
     repeat(first|((first|refine yw ?_|refine zX ?_|refine yX ?_|refine zk ?_);intro _ _)|refine yz ?_|refine xz ?_|refine yj ‹_› ?_|refine zw ‹_› ?_|refine yx ‹_› ?_|refine yq ‹_› ?_|refine zZ ?_|refine yy ?_|refine yv ?_|refine zq ?_|refine zY (fun Q hQ=>by (conv=>whnf);exact hQ) ?_|refine zj (fun Q hQ=>by (conv=>whnf);exact hQ) ?_|(apply yk;(·intro _ _ hy;(conv=>whnf);exact hy);(·intro Q hQ;(conv=>whnf);repeat(first|exact hQ|((first|refine xw (by first|rfl|assumption) ?_|refine xx (by first|rfl|assumption) ?_|refine zy ?_|refine zx ?_|unfold yZ);(conv=>whnf))));(·intro Q hQ;(conv=>whnf);exact hQ))|(apply yY;(·intro _ _ hy;(conv=>whnf);exact hy);(·intro Q hQ;(conv=>whnf);exact hQ)))
     apply yk
     ·(intro _ _ hy;(conv=>whnf);exact hy)
     ·intro Q hQ
      conv=>whnf
      refine ifK_intro (Nat.beq_refl c) ?_
      refine entry_intro (K:=fun v=>Q v _) hx hs (last_app _) ?_
      exact hQ
     ·(intro Q hQ;(conv=>whnf);exact hQ)
     repeat(first|((first|refine yw ?_|refine zX ?_|refine yX ?_|refine zk ?_);intro _ _)|refine yz ?_|refine xz ?_|refine yj ‹_› ?_|refine zw ‹_› ?_|refine yx ‹_› ?_|refine yq ‹_› ?_|refine zZ ?_|refine yy ?_|refine yv ?_|refine zq ?_|refine zY (fun Q hQ=>by (conv=>whnf);exact hQ) ?_|refine zj (fun Q hQ=>by (conv=>whnf);exact hQ) ?_|(apply yk;(·intro _ _ hy;(conv=>whnf);exact hy);(·intro Q hQ;(conv=>whnf);repeat(first|exact hQ|((first|refine xw (by first|rfl|assumption) ?_|refine xx (by first|rfl|assumption) ?_|refine zy ?_|refine zx ?_|unfold yZ);(conv=>whnf))));(·intro Q hQ;(conv=>whnf);exact hQ))|(apply yY;(·intro _ _ hy;(conv=>whnf);exact hy);(·intro Q hQ;(conv=>whnf);exact hQ)))
     apply xq
     ·(intro _ _ hy;(conv=>whnf);exact hy)
     intro Q hQ
     conv=>whnf
     show bAppend Tryz.prog #[28,28] (.slice (ngl+2) 0 ((v0 :: w0).map (·.1)).length ((v0 :: w0).map (·.1)).length 2 false) (.slice (ngl+3).succ 0 1 1 2 true) _ _
     refine app_lab (q:=x.1) (by rfl) (by rfl) hlt ?_
     conv=>whnf
     rw [hQ]
     conv=>whnf
     repeat(first|((first|refine yw ?_|refine zX ?_|refine yX ?_|refine zk ?_);intro _ _)|refine yz ?_|refine xz ?_|refine yj ‹_› ?_|refine zw ‹_› ?_|refine yx ‹_› ?_|refine yq ‹_› ?_|refine zZ ?_|refine yy ?_|refine yv ?_|refine zq ?_|refine zY (fun Q hQ=>by (conv=>whnf);exact hQ) ?_|refine zj (fun Q hQ=>by (conv=>whnf);exact hQ) ?_|(apply yk;(·intro _ _ hy;(conv=>whnf);exact hy);(·intro Q hQ;(conv=>whnf);repeat(first|exact hQ|((first|refine xw (by first|rfl|assumption) ?_|refine xx (by first|rfl|assumption) ?_|refine zy ?_|refine zx ?_|unfold yZ);(conv=>whnf))));(·intro Q hQ;(conv=>whnf);exact hQ))|(apply yY;(·intro _ _ hy;(conv=>whnf);exact hy);(·intro Q hQ;(conv=>whnf);exact hQ)))
     conv=>whnf
     refine ⟨rfl,rfl,[ngl+5],mkS [(ngl,.map (ents t) c),(ngl+1,.mapIter (some ngl) c ((v0 :: w0).map (·.2) ++ [x.2]) c),(ngl+2,.cells (cellsOf ((v0 :: w0).map (·.1) ++ [x.1])) 40 .rw)] (ngl+3),⟨rfl,nodup1 _,fun g hg=>by rw [List.mem_singleton] at hg;subst hg;exact Nat.le_of_ble_eq_true rfl,?_⟩,?_⟩
     ·repeat' (first
       | exact trivial
       | exact ⟨_,_,.inl ⟨Nat.le_of_ble_eq_true rfl,rfl⟩,rfl,.map (EI_ents _)⟩
       | exact ⟨_,_,.inl ⟨Nat.le_of_ble_eq_true rfl,rfl⟩,rfl,.mapIter (.inl ⟨Nat.le_of_ble_eq_true rfl,rfl⟩)⟩
       | exact ⟨_,_,.inr ⟨Nat.le_of_ble_eq_true rfl,Nat.le_of_ble_eq_true rfl,rfl⟩,rfl,.cells (wv _) (.inl rfl)⟩
       | apply And.intro)
     rw [← hS]
     exact ih x _ hx hns ⟨rfl,zz rfl,zz rfl,by rw [hov];rfl,zz rfl,zz rfl,zz rfl,rfl,zz rfl,zz rfl,zz rfl,zz rfl,zz rfl,zz rfl,zz rfl,zz rfl,zz rfl,zz rfl,zz rfl,trivial⟩
 ·rintro x E1 D1 H1 ⟨rfl,rfl,vis,hok,hall,rfl,hf⟩
  refine ⟨rfl,rfl,?_⟩
  have hso:=hok.all hs hp hall
  have hlv:vis.length ≤ 4096:=Nat.le_trans hok.few hl
  cases vis with
  | nil =>
    have ht:t=[]:=by
     cases t with
     | nil=>rfl
     | cons y t=>exact absurd (hall y (by simp)) (by simp)
    subst ht
    refine CodeD.tree hf (⟨some (.map ngl),⟨some (sl E1 1),⟨some (sl E1 5),z1,z1,z1,z1⟩,⟨some (sl E1 9),z1,z1,z1,z1⟩,⟨some (sl E1 13),z1,z1,z1,z1⟩,⟨some (sl E1 17),z1,z1,z1,z1⟩⟩,⟨some (sl E1 2),⟨some (sl E1 6),z1,z1,z1,z1⟩,⟨some (sl E1 10),z1,z1,z1,z1⟩,⟨some (sl E1 14),z1,z1,z1,z1⟩,⟨some (sl E1 18),z1,z1,z1,z1⟩⟩,⟨some (V.nilSlice),⟨some (.ptr (ngl+1) 0),z1,z1,z1,z1⟩,⟨some (sl E1 11),z1,z1,z1,z1⟩,⟨some (sl E1 15),z1,z1,z1,z1⟩,z2⟩,⟨some (sl E1 4),⟨some (sl E1 8),z1,z1,z1,z1⟩,⟨some (sl E1 12),z1,z1,z1,z1⟩,⟨some (sl E1 16),z1,z1,z1,z1⟩,z2⟩⟩) (by kernel_rfl) ?_
    clear hf
    refine CodeD.seqE mixed ?_
    repeat(first|((first|refine yw ?_|refine zX ?_|refine yX ?_|refine zk ?_);intro _ _)|refine yz ?_|refine xz ?_|refine yj ‹_› ?_|refine zw ‹_› ?_|refine yx ‹_› ?_|refine yq ‹_› ?_|refine zZ ?_|refine yy ?_|refine yv ?_|refine zq ?_|refine zY (fun Q hQ=>by (conv=>whnf);exact hQ) ?_|refine zj (fun Q hQ=>by (conv=>whnf);exact hQ) ?_|(apply yk;(·intro _ _ hy;(conv=>whnf);exact hy);(·intro Q hQ;(conv=>whnf);repeat(first|exact hQ|((first|refine xw (by first|rfl|assumption) ?_|refine xx (by first|rfl|assumption) ?_|refine zy ?_|refine zx ?_|unfold yZ);(conv=>whnf))));(·intro Q hQ;(conv=>whnf);exact hQ))|(apply yY;(·intro _ _ hy;(conv=>whnf);exact hy);(·intro Q hQ;(conv=>whnf);exact hQ)))
    apply xq
    ·(intro _ _ hy;(conv=>whnf);exact hy)
    intro Q hQ
    conv=>whnf
    refine sort61_nil ?_
    rw [hQ]
    conv=>whnf
    repeat(first|((first|refine yw ?_|refine zX ?_|refine yX ?_|refine zk ?_);intro _ _)|refine yz ?_|refine xz ?_|refine yj ‹_› ?_|refine zw ‹_› ?_|refine yx ‹_› ?_|refine yq ‹_› ?_|refine zZ ?_|refine yy ?_|refine yv ?_|refine zq ?_|refine zY (fun Q hQ=>by (conv=>whnf);exact hQ) ?_|refine zj (fun Q hQ=>by (conv=>whnf);exact hQ) ?_|(apply yk;(·intro _ _ hy;(conv=>whnf);exact hy);(·intro Q hQ;(conv=>whnf);repeat(first|exact hQ|((first|refine xw (by first|rfl|assumption) ?_|refine xx (by first|rfl|assumption) ?_|refine zy ?_|refine zx ?_|unfold yZ);(conv=>whnf))));(·intro Q hQ;(conv=>whnf);exact hQ))|(apply yY;(·intro _ _ hy;(conv=>whnf);exact hy);(·intro Q hQ;(conv=>whnf);exact hQ)))
    rename_i K1 hK1
    subst hK1
    refine ⟨rfl,rfl,?_⟩
    refine CodeD.seqE mixed ?_
    repeat(first|((first|refine yw ?_|refine zX ?_|refine yX ?_|refine zk ?_);intro _ _)|refine yz ?_|refine xz ?_|refine yj ‹_› ?_|refine zw ‹_› ?_|refine yx ‹_› ?_|refine yq ‹_› ?_|refine zZ ?_|refine yy ?_|refine yv ?_|refine zq ?_|refine zY (fun Q hQ=>by (conv=>whnf);exact hQ) ?_|refine zj (fun Q hQ=>by (conv=>whnf);exact hQ) ?_|(apply yk;(·intro _ _ hy;(conv=>whnf);exact hy);(·intro Q hQ;(conv=>whnf);repeat(first|exact hQ|((first|refine xw (by first|rfl|assumption) ?_|refine xx (by first|rfl|assumption) ?_|refine zy ?_|refine zx ?_|unfold yZ);(conv=>whnf))));(·intro Q hQ;(conv=>whnf);exact hQ))|(apply yY;(·intro _ _ hy;(conv=>whnf);exact hy);(·intro Q hQ;(conv=>whnf);exact hQ)))
    rename_i K1 hK1
    subst hK1
    refine ⟨rfl,rfl,?_⟩
    refine CodeD.ev mixed ?_
    repeat(first|((first|refine yw ?_|refine zX ?_|refine yX ?_|refine zk ?_);intro _ _)|refine yz ?_|refine xz ?_|refine yj ‹_› ?_|refine zw ‹_› ?_|refine yx ‹_› ?_|refine yq ‹_› ?_|refine zZ ?_|refine yy ?_|refine yv ?_|refine zq ?_|refine zY (fun Q hQ=>by (conv=>whnf);exact hQ) ?_|refine zj (fun Q hQ=>by (conv=>whnf);exact hQ) ?_|(apply yk;(·intro _ _ hy;(conv=>whnf);exact hy);(·intro Q hQ;(conv=>whnf);repeat(first|exact hQ|((first|refine xw (by first|rfl|assumption) ?_|refine xx (by first|rfl|assumption) ?_|refine zy ?_|refine zx ?_|unfold yZ);(conv=>whnf))));(·intro Q hQ;(conv=>whnf);exact hQ))|(apply yY;(·intro _ _ hy;(conv=>whnf);exact hy);(·intro Q hQ;(conv=>whnf);exact hQ)))
    refine ⟨.inr rfl,rfl,_,rfl,?_,?_⟩
    ·refine sub_all ?_ (Nat.le_of_ble_eq_true (by kernel_rfl))
     repeat' (first
      | exact trivial
      | exact rfl
      | apply And.intro)
    ·conv=>whnf
     exact rfl
  | cons v0 w0 =>
    have hv0:v0 ∈ t:=hok.sub v0 (by simp)
    have hT:visF t c=mkS [(ngl,.map (ents t) c),(ngl+2,.cells (cellsOf (sortL (t.map (·.1)) [])) 40 .rw)] (ngl+3):=by
     cases t with
     | nil=>simp at hv0
     | cons y t=>rfl
    rw [hT,← hso]
    have hov:outV (sortL ((v0 :: w0).map (·.1)) []) (ngl+2)=.slice (ngl+2) 0 ((v0 :: w0).map (·.1)).length ((v0 :: w0).map (·.1)).length 2 false:=by
     have hlen:(sortL ((v0 :: w0).map (·.1)) []).length=((v0 :: w0).map (·.1)).length:=by rw [sortL_length];simp
     rw [outV_ne (fun h=>by rw [h] at hlen;simp at hlen),hlen]
    rw [hov]
    refine CodeD.tree hf (⟨some (.map ngl),⟨some (sl E1 1),⟨some (sl E1 5),z1,z1,z1,z1⟩,⟨some (sl E1 9),z1,z1,z1,z1⟩,⟨some (sl E1 13),z1,z1,z1,z1⟩,⟨some (sl E1 17),z1,z1,z1,z1⟩⟩,⟨some (sl E1 2),⟨some (sl E1 6),z1,z1,z1,z1⟩,⟨some (sl E1 10),z1,z1,z1,z1⟩,⟨some (sl E1 14),z1,z1,z1,z1⟩,⟨some (sl E1 18),z1,z1,z1,z1⟩⟩,⟨some (.slice (ngl+2) 0 ((v0 :: w0).map (·.1)).length ((v0 :: w0).map (·.1)).length 2 false),⟨some (.ptr (ngl+1) 0),z1,z1,z1,z1⟩,⟨some (sl E1 11),z1,z1,z1,z1⟩,⟨some (sl E1 15),z1,z1,z1,z1⟩,z2⟩,⟨some (sl E1 4),⟨some (sl E1 8),z1,z1,z1,z1⟩,⟨some (sl E1 12),z1,z1,z1,z1⟩,⟨some (sl E1 16),z1,z1,z1,z1⟩,z2⟩⟩) (by kernel_rfl) ?_
    clear hf
    refine CodeD.seqE mixed ?_
    repeat(first|((first|refine yw ?_|refine zX ?_|refine yX ?_|refine zk ?_);intro _ _)|refine yz ?_|refine xz ?_|refine yj ‹_› ?_|refine zw ‹_› ?_|refine yx ‹_› ?_|refine yq ‹_› ?_|refine zZ ?_|refine yy ?_|refine yv ?_|refine zq ?_|refine zY (fun Q hQ=>by (conv=>whnf);exact hQ) ?_|refine zj (fun Q hQ=>by (conv=>whnf);exact hQ) ?_|(apply yk;(·intro _ _ hy;(conv=>whnf);exact hy);(·intro Q hQ;(conv=>whnf);repeat(first|exact hQ|((first|refine xw (by first|rfl|assumption) ?_|refine xx (by first|rfl|assumption) ?_|refine zy ?_|refine zx ?_|unfold yZ);(conv=>whnf))));(·intro Q hQ;(conv=>whnf);exact hQ))|(apply yY;(·intro _ _ hy;(conv=>whnf);exact hy);(·intro Q hQ;(conv=>whnf);exact hQ)))
    apply xq
    ·(intro _ _ hy;(conv=>whnf);exact hy)
    intro Q hQ
    conv=>whnf
    refine sort61_run (l:=(v0 :: w0).map (·.1)) (by rw [List.pairwise_map];exact hok.dist) (by simp) (by rw [List.length_map];exact hlv) (S:=visS t c (v0 :: w0)) (id:=ngl+2) (e:=40) (fl:=.rw) (by simp) rfl ?_
    conv=>whnf
    rw [hQ]
    conv=>whnf
    repeat(first|((first|refine yw ?_|refine zX ?_|refine yX ?_|refine zk ?_);intro _ _)|refine yz ?_|refine xz ?_|refine yj ‹_› ?_|refine zw ‹_› ?_|refine yx ‹_› ?_|refine yq ‹_› ?_|refine zZ ?_|refine yy ?_|refine yv ?_|refine zq ?_|refine zY (fun Q hQ=>by (conv=>whnf);exact hQ) ?_|refine zj (fun Q hQ=>by (conv=>whnf);exact hQ) ?_|(apply yk;(·intro _ _ hy;(conv=>whnf);exact hy);(·intro Q hQ;(conv=>whnf);repeat(first|exact hQ|((first|refine xw (by first|rfl|assumption) ?_|refine xx (by first|rfl|assumption) ?_|refine zy ?_|refine zx ?_|unfold yZ);(conv=>whnf))));(·intro Q hQ;(conv=>whnf);exact hQ))|(apply yY;(·intro _ _ hy;(conv=>whnf);exact hy);(·intro Q hQ;(conv=>whnf);exact hQ)))
    rename_i K1 hK1
    subst hK1
    refine ⟨rfl,rfl,?_⟩
    refine CodeD.seqE mixed ?_
    repeat(first|((first|refine yw ?_|refine zX ?_|refine yX ?_|refine zk ?_);intro _ _)|refine yz ?_|refine xz ?_|refine yj ‹_› ?_|refine zw ‹_› ?_|refine yx ‹_› ?_|refine yq ‹_› ?_|refine zZ ?_|refine yy ?_|refine yv ?_|refine zq ?_|refine zY (fun Q hQ=>by (conv=>whnf);exact hQ) ?_|refine zj (fun Q hQ=>by (conv=>whnf);exact hQ) ?_|(apply yk;(·intro _ _ hy;(conv=>whnf);exact hy);(·intro Q hQ;(conv=>whnf);repeat(first|exact hQ|((first|refine xw (by first|rfl|assumption) ?_|refine xx (by first|rfl|assumption) ?_|refine zy ?_|refine zx ?_|unfold yZ);(conv=>whnf))));(·intro Q hQ;(conv=>whnf);exact hQ))|(apply yY;(·intro _ _ hy;(conv=>whnf);exact hy);(·intro Q hQ;(conv=>whnf);exact hQ)))
    rename_i K1 hK1
    subst hK1
    refine ⟨rfl,rfl,?_⟩
    refine CodeD.ev mixed ?_
    repeat(first|((first|refine yw ?_|refine zX ?_|refine yX ?_|refine zk ?_);intro _ _)|refine yz ?_|refine xz ?_|refine yj ‹_› ?_|refine zw ‹_› ?_|refine yx ‹_› ?_|refine yq ‹_› ?_|refine zZ ?_|refine yy ?_|refine yv ?_|refine zq ?_|refine zY (fun Q hQ=>by (conv=>whnf);exact hQ) ?_|refine zj (fun Q hQ=>by (conv=>whnf);exact hQ) ?_|(apply yk;(·intro _ _ hy;(conv=>whnf);exact hy);(·intro Q hQ;(conv=>whnf);repeat(first|exact hQ|((first|refine xw (by first|rfl|assumption) ?_|refine xx (by first|rfl|assumption) ?_|refine zy ?_|refine zx ?_|unfold yZ);(conv=>whnf))));(·intro Q hQ;(conv=>whnf);exact hQ))|(apply yY;(·intro _ _ hy;(conv=>whnf);exact hy);(·intro Q hQ;(conv=>whnf);exact hQ)))
    refine ⟨.inr rfl,rfl,_,rfl,?_,?_⟩
    ·refine sub_all ?_ (Nat.le_of_ble_eq_true (by kernel_rfl))
     repeat' (first
      | exact trivial
      | exact rfl
      | apply And.intro)
    ·conv=>whnf


theorem RC.keepC {P:Program} {c:FuncId} {l l2:List V} (ids:List Nat) (ks os news:List O) {S S0 S':St} {v v2:V} {k:V→St→Prop}
  (hids:∀ a b i:Nat,0 ≤ a→ids[a]?=some i→ids[b]?=some i→a=b) (hlen:ids.length=os.length) (hlen1:ks.length=os.length) (hat:∀ (a i:Nat) (o:O),ids[a]?=some i→ks[a]?=some o→S.hs.get i=some o)
  (hin:∀ (a:Nat) (o' o:O),ks[a]?=some o'→os[a]?=some o→OI (Rin ids (ngl+os.length)) o' o) (hl:VIs (Rin ids (ngl+os.length)) l2 l) (hw:∀ (a:Nat) (o:O),ks[a]?=some o→o.wr=true) (hwn:∀ (a:Nat) (o:O),news[a]?=some o→o.wr=true)
  (h0:S0.hs=putAll (numb ngl os) (St.hs ⟨.nil,ngl+os.length⟩)) (h3:CallS P c l S0.hs v S'.hs) (h2:Post 0 ids (ngl+os.length) S.next ks news v2 v S')
  (hk:newsK news S (k v2)):RC P c l2 S k:=by
 obtain ⟨S2,h6,h7⟩:=newsK_spec hk
 have:=h3.small 0 h0 hids (by simp) hlen hlen1 (by simpa using hlen1) hat hin hl hw hwn h2
 rw [upd_same (fun q hq=>by
  obtain ⟨a,ha⟩:=List.getElem?_of_mem hq
  rw [List.getElem?_zip_eq_some] at ha
  exact hat a _ _ (by simpa using ha.1) ha.2),← h7] at this
 exact .mk v2 S2 this h6
theorem insK_spec {n v:List UInt8}:∀ {l:List Lab} {k:List Lab→Prop},l.Pairwise (fun p q=>ltS p.1 q.1=true)→insK n v l k→(∀ x ∈ l,x.1 ≠ n)∧k (insL (n,v) l)
 | [],k,_,h=>⟨by simp,h⟩
 | x :: l,k,hp,h=>by
   have hp':=List.pairwise_cons.1 hp
   have h':Bool.rec (motive:=fun _=>Prop) (Bool.rec (motive:=fun _=>Prop) False (insK n v l fun r=>k (x :: r)) (ltS x.1 n)) (k ((n,v) :: x :: l)) (ltS n x.1):=h
   unfold insL
   cases hb:ltS n x.1 with
   | true =>
     rw [hb] at h'
     refine ⟨fun y hy=>?_,by rw [if_pos rfl];exact h'⟩
     rcases List.mem_cons.1 hy with rfl|hy
     ·exact Ne.symm (ltS_ne hb)
     ·exact Ne.symm (ltS_ne (ltS_trans hb (hp'.1 y hy)))
   | false =>
     rw [hb] at h'
     cases hc:ltS x.1 n with
     | false=>rw [hc] at h';exact h'.elim
     | true =>
       rw [hc] at h'
       obtain ⟨h1,h2⟩:=insK_spec hp'.2 (show insK n v l fun r=>k (x :: r) from h')
       refine ⟨fun y hy=>?_,by rw [if_neg (by simp)];exact h2⟩
       rcases List.mem_cons.1 hy with rfl|hy
       ·exact ltS_ne hc
       ·exact h1 y hy
theorem sortK_spec:∀ {es:List (V × V × Nat)} {acc:List Lab} {k:List Lab→Prop},acc.Pairwise (fun p q=>ltS p.1 q.1=true)→sortK es acc k →
  ∃ t:Tab,es=ents t∧t.Pairwise (fun p q=>p.1.1 ≠ q.1.1)∧(∀ x ∈ t,∀ y ∈ acc,y.1 ≠ x.1.1)∧k (sortL (t.map (·.1)) acc)
 | [],acc,k,_,h=>⟨[],rfl,.nil,by simp,h⟩
 | e :: es,acc,k,hp,h=>by
   have h':(match e.1,e.2.1 with|.str m,.agg [.str n,.str v]=>ifK (eqS m n) (insK n v acc fun l=>sortK es l k)|_,_=>False):=h
   obtain ⟨a,b,st⟩:=e
   dsimp only at h'
   split at h'
   ·rename_i m n v
    obtain ⟨h1,h2⟩:=vY h'
    rw [eqS_eq] at h1
    have h1':m=n:=eq_of_beq h1
    subst h1'
    obtain ⟨h3,h4⟩:=insK_spec hp h2
    obtain ⟨t,h5,h6,h7,h8⟩:=sortK_spec (insL_asc hp h3) h4
    refine ⟨((m,v),st) :: t,by rw [h5];rfl,List.pairwise_cons.2 ⟨fun x hx=>?_,h6⟩,fun x hx y hy=>?_,h8⟩
    ·exact h7 x hx (m,v) (insL_mem.2 (.inl rfl))
    ·rcases List.mem_cons.1 hx with rfl|hx
     ·exact h3 y hy
     ·exact h7 x hx y (insL_mem.2 (.inr hy))
   ·exact h'.elim
theorem stampsK_spec:∀ {t:Tab} {p c:Nat},stampsK (ents t) p c=true→Stamps t p c
 | [],p,c,h=>Nat.le_of_ble_eq_true h
 | x :: t,p,c,h=>by
   have h':Bool.rec (motive:=fun _=>Bool) false (stampsK (ents t) (x.2+1) c) (Nat.ble p x.2)=true:=h
   cases hb:Nat.ble p x.2 with
   | false=>rw [hb] at h';cases h'
   | true=>rw [hb] at h';exact ⟨Nat.le_of_ble_eq_true hb,stampsK_spec h'⟩
theorem flatK_spec:∀ {l:List Lab} {k:List V→Prop},flatK l k→k (cellsOf l)
 | [],k,h=>h
 | q :: l,k,h=>flatK_spec (l:=l) (show flatK l fun r=>k (.str q.1 :: .str q.2 :: r) from h)
theorem labels_rc {t:Tab} {c m:Nat} (hs:Stamps t 0 c) (hp:t.Pairwise fun p q=>p.1.1 ≠ q.1.1) (hl:t.length ≤ 4096) {S:St} (hm:S.hs.get m=some (.map (ents t) c)) {k:V→St→Prop}
  (hk:newsK (outN (sortL (t.map (·.1)) [])) S (k (outV (sortL (t.map (·.1)) []) S.next))):RC Tryz.prog 37 [.map m] S k:=by
 refine RC.keepC [m] [.map (ents t) c] [.map (ents t) c] (outN (sortL (t.map (·.1)) [])) ?_ rfl rfl ?_ ?_ (.cons (.map (Rin.at (a:=0) rfl (by simp))) .nil) ?_ outN_wr (S0:=mkS [(ngl,.map (ents t) c)] (ngl+1)) (S':=visF t c) ?_ (labels_at hs hp hl) ?_ hk
 ·rintro (_|a) (_|b) x _ h1 h2 <;> simp at h1 h2 ⊢
 ·rintro (_|a) j o h1 h2
  ·simp at h1 h2;subst h1;subst h2;exact hm
  ·simp at h1
 ·rintro (_|a) o1 o2 h1 h2
  ·simp at h1 h2;subst h1;subst h2;exact .map (EI_ents t)
  ·simp at h1
 ·rintro (_|a) o h
  ·simp at h;subst h;rfl
  ·simp at h
 ·obtain ⟨S0,h1,h2⟩:=buildK_spec (l:=numb ngl [.map (ents t) c]) (S:=⟨.nil,ngl+1⟩) (k:=fun S=>S=mkS [(ngl,.map (ents t) c)] (ngl+1)) (by
   conv=>whnf
   exact rfl)
  subst h1
  exact h2
 ·cases t with
  | nil=>exact ⟨[],List.nodup_nil,by simp,.nilSlice,⟨⟨_,rfl,.map (EI_ents _)⟩,trivial⟩,trivial⟩
  | cons x t =>
    have hne:sortL ((x :: t).map (·.1)) [] ≠ []:=fun h=>by
     have h1:(sortL ((x :: t).map (·.1)) []).length=(x :: t).length:=by rw [sortL_length];simp
     rw [h] at h1;simp at h1
    rw [outN_ne hne,outV_ne hne,outV_ne hne]
    exact ⟨[ngl+2],nodup1 _,fun g hg=>by rw [List.mem_singleton] at hg;subst hg;exact Nat.le_of_ble_eq_true rfl,.slice _ _ _ _ _ _ _ (Rou.new (a:=0) rfl (Nat.le_of_ble_eq_true rfl) (by simp)) (.inl rfl) (Nat.le_refl _) (fun h=>⟨h,rfl⟩),⟨⟨_,rfl,.map (EI_ents _)⟩,trivial⟩,⟨⟨_,rfl,.cells (wv _) (.inl rfl)⟩,trivial⟩⟩
/-- (label.table).labels does what is said of it. -/
theorem labels_ok:LabelsOk Tryz.prog 37 40:=fun args S k h=>by
 have hrc:RC Tryz.prog 37 args S k:=by
  unfold labelsK at h
  split at h
  ·rename_i m
   obtain ⟨es,c,hm,h1⟩:=mapK_spec h
   obtain ⟨h2,h3⟩:=vY h1
   obtain ⟨t,rfl,hp,_,h4⟩:=sortK_spec .nil h3
   obtain ⟨h5,h6⟩:=vY h4
   have hlen:(sortL (t.map (·.1)) []).length=t.length:=by rw [sortL_length];simp
   have hl:t.length ≤ 4096:=by
    have:=Nat.le_of_ble_eq_true h5
    rw [len'_eq,hlen] at this
    exact this
   refine labels_rc (stampsK_spec h2) hp hl hm ?_
   generalize sortL (t.map (·.1)) []=L at h6 ⊢
   cases L with
   | nil=>exact h6
   | cons q L =>
     have h7:=flatK_spec (show flatK (q :: L) _ from h6)
     have h8:=fN_spec h7
     rw [len'_eq] at h8
     exact newsK_one h8
  ·exact h.elim
 cases hrc with
 | mk v S' h1 h2=>exact ⟨v,S',h2,h1⟩

end Go.Am
