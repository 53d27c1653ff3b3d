/- Part 8 of the proof that BodyWrong returns true, and leaves its arguments as they were, for every input, over a start where the listed variables hold what the program lays: the statement Rows.BodyWrongCardSaid. -/
import Derived.Test.YtigihhfdlgjhbaaGreatDoorWAe
import Derived.Test.YtigihhfdlgjhbaaGreatDoorWAg
import Derived.Test.YtigihhfdlgjhbaaGreatDoorWAf
import Derived.Test.YtigihhfdlgjhbaaGreatDoorWAa
import Derived.KernelRfl
import Derived.Test.YtigihhfdlgjhbaaGreatDoorWAc
import Derived.Lib.LaidU8
import Derived.Test.YtigihhfdlgjhbaaGreatDoorRows
import Derived.Deep.SlicePairs
import Derived.ProofKit
import Derived.PinnedBridge
import Derived.Lay
set_option linter.unusedVariables false
set_option linter.unusedSimpArgs false
set_option maxRecDepth 100000
set_option maxHeartbeats 400000000
open Go.Proofs.Tryz (prog)
namespace Go.Am
open Go.Proofs
attribute [local irreducible] fN fI fB cR eQ evCode evOps rD kOp aAj wF wH wG kGc aLE aLD kDr kMg drOps fU kK sl
section
attribute [local irreducible] aO bK cM bD
theorem aXm:bB prog 3 233 [.tmp 8] (aL Tryz.f3):=fq Tryz.f3
theorem aTM {lim:Int}{A:V->St->Prop}{S:St}(h:∀ x:Int,x < 1->A (.int .i64 x) S):Bool.rec (motive:=fun _=>Prop) (A (.int .i64 lim) S) (A (.int .i64 0) S) (qG 0 lim):=by
 cases hb:qG 0 lim with
 | true=>exact h 0 om
 | false=>exact h lim (by rw [bF] at hb;simp at hb;omega)
theorem aTL {lim:Int}{A:V->St->Prop}{S:St}(h:∀ x:Int,1000 < x->A (.int .i64 x) S):Bool.rec (motive:=fun _=>Prop) (A (.int .i64 lim) S) (A (.int .i64 1001) S) (qG lim 1001):=by
 cases hb:qG lim 1001 with
 | true=>exact h 1001 om
 | false=>exact h lim (by rw [bF] at hb;simp at hb;omega)
theorem aRS {tg:List aY}(okT:kF tg)(hT:∀ q ∈ tg,eP q.1=false){l:List jH}(hl:∀ x ∈ l,fD x)(hfl:l.length <= 12){B:Nat}{vx vk:V}{lim:Int}{aw:Nat}{S:St}(hTb:aAD B S)(hS:1000 <= S.next)(hn:S.next+2900 <= room)
  (hA:∀ k:V->St->Prop,k (.bool true) S->RC prog 4 [] S k)
  (hM:∀ k:V->St->Prop,(∀ S' v' L',(∀ id,id < S.next->S'.hs.get id=S.hs.get id)->S.next <= S'.next->S'.next <= S.next+360->oJ S.next S' v' L'->oI S.next S' L'->L'.map (·.1)=l->k (.tup [.str (dI l),v',.bool true]) S')->RC prog 5 [vx] S k)
  (hO:∀ S1:St,(∀ id,id < S.next->S1.hs.get id=S.hs.get id)->S.next <= S1.next->S1.next <= S.next+360->∀ k:V->St->Prop,(∀ S' v',Wf S'->(∀ id,id < S1.next->S'.hs.get id=S1.hs.get id)->S1.next <= S'.next->S'.next <= S1.next+3->LR S1.next S' v' tg->k (.tup [v',.bool true]) S')->RC prog 6 [vk] S1 k):RC prog 3 [vx,vk,.int .i64 lim,.int .u8 (.ofNat aw)] S fun v _=>v=.bool true:=by
 have hroom:room=4096:=rfl;have hngl:aI=1000:=rfl;refine RC.run mixed aS (aG aXm ?_);refine enter ?_;refine go ?_;refine hA _ ?_;refine go ?_;refine hM _ fun S1 all L1 kp1 a1 b1 hR1 hL1 hm1=>?_;have htl:=sF hl
 have hl1n:L1.length=l.length:=by rw [<- hm1,List.length_map]
 have hX:∀ {T:St} {nw:Nat->List O} {f:List aY->List aY} {rul:List V},aCR nw f->aKN rul nw->V.flat.V.flatL rul=true->∀ {vo:V} {r:Nat},aAD B T->1000 <= T.next->LWo T B vo tg->T.hs.get r=some (.cells rul 39 .ex)->aI <= r->r < T.next->r ≠ B->T.next+20 <= room->∀ {k:V->St->Prop},(∀ S',(∀ id,id < T.next->S'.hs.get id=T.hs.get id)->S'.next=T.next->k (.tup [.nilSlice,.int .i64 0,.int .i64 0,.int .i64 242]) S')->RC prog 11 [.str (dI l ++ [117,112,32,49]),vo,.slice r 0 1 1 7 true,.int .i64 1000] T k:=fun {T nw f rul} h1 h2 h3 {vo r} h4 h5 h6 h7 h8 h9 h10 h11 {k} hk=>by
  have:=aMk h1 h2 h3 okT hT hl hfl h4 h5 h6 h7 h8 h9 h10 h11 hk;rw [aRR] at this;exact this
 generalize dI l=s at *;refine go ?_;refine hO S1 kp1 a1 b1 _ fun S2 vo wf2 kp2 a2 b2 hLR=>?_;refine go ?_
 have hcv:∀ S':St,S'.hp=S2.hp->((tg=[]∧vo=.nilSlice) ∨ ∃ i c ex e fl,vo=.slice i 0 tg.length c 2 ex∧S'.hs.get i=some (.cells (cellsOf tg) e fl)):=fun S' e=>by
  rcases hLR with h|⟨m,_,h1,_,_,_,h2⟩
  ·exact .inl h
  ·obtain ⟨hp,nx⟩:=S';subst e;exact .inr ⟨m,_,_,_,_,h1,h2⟩
 have hfew:=okT.few;refine vX ?_;refine dK (pe':=[]) rfl (fun Q hQ=>by (conv=>whnf);exact hQ) (fun Q hQ=>by (conv=>whnf);exact hQ) ?_;refine aFL (S:=⟨S2.hp,Nat.add S2.next 13⟩) (hcv _ rfl) om (by show S2.next+13+1 < room;omega) fun S3 vc hA3 hv3=>?_;have a3:S2.next+13 <= S3.next:=hA3.lo;have b3:S3.next <= S2.next+13+1:=hA3.hi;have k3:∀ id,id < S2.next+13->S3.hs.get id=S2.hs.get id:=fun id g=>hA3.keep id g (by show id ≠ S2.next+13;omega);refine n_dopA ?_;refine vX ?_
 refine aV (v:=.ptr (Nat.add S2.next 5) (2 * (aw % 3))) rfl (by
  intro Q hQ
  conv=>whnf
  have h3:=Nat.mod_lt aw (show 0 < 3 by omega);refine ifK_intro (show Nat.blt (aw % 3) 3=true from ag h3) ?_;refine aP ?_;rw [show Nat.add 0 (Nat.mul (aw % 3) prog.types[34].size)=2 * (aw % 3) from (Nat.zero_add _).trans (Nat.mul_comm _ _)]
  exact hQ) ?_
 obtain ⟨q,hq,hqx⟩:∃ q:aY,aLd aw=q∧(q=([122],[]) ∨ q=([65,45],[49]) ∨ q=([95],[255])):=⟨_,rfl,aQc aw⟩
 have hbc:(List.drop (2 * (aw % 3)) [V.str [122],.str [],.str [65,45],.str [49],.str [95],.str [255]]).take 2=[.str q.1,.str q.2]:=by
  rw [<- hq];have:aw % 3=0 ∨ aw % 3=1 ∨ aw % 3=2:=om;unfold aLd
  rcases this with h|h|h <;> rw [h] <;> rfl
 have hbl:2 * (aw % 3)+2 <= 6:=by have:=Nat.mod_lt aw (show 0 < 3 by omega);omega
 generalize hw3:2 * (aw % 3)=w3 at *
 refine d_readA (v:=.agg [.str q.1,.str q.2]) [(5,S2.next+5,.cells [.str [122],.str [],.str [65,45],.str [49],.str [95],.str [255]] 34 .ex)] rfl (fun Q hQ=>by
  refine putsK1 ?_;refine aE (by show S2.next+5 < room;omega) fun T hT=>?_
  conv=>whnf
  refine aA (aR hT) ?_
  exact aX (n:=2) kr kr hbl hbc hQ) ?_
 refine vX ?_;obtain ⟨S4,hS4,p4⟩:=aIW (id:=Nat.add S2.next 10) (o:=some (.cells [.str q.1,.str q.2] 34 .ex)) (S:=S3) (by show S2.next+10 < room;omega);obtain ⟨S5,hS5,p5⟩:=aIW (id:=Nat.add S2.next 5) (o:=some (.cells [.str [122],.str [],.str [65,45],.str [49],.str [95],.str [255]] 34 .ex)) (S:=S4) (by show S2.next+5 < room;omega);have n4:=aK hS4;have n5:=aK hS5;refine dK (hs:=rfl) (pe':=[]) (S1:=S5) rfl (fun Q hQ=>mergeK_put (p4 _ (mergeK_put (p5 _ hQ)))) (fun Q hQ=>by (conv=>whnf);exact hQ) ?_;refine aSY (b:=S2.next+13) (o:=tg) (q:=q) ?_ om ((aB hS5 (show Nat.add S2.next 10 ≠ Nat.add S2.next 5 by show S2.next+10 ≠ S2.next+5;omega)).trans (aR hS4)) om om fun S6 mb hA6 hb1 hb2 hb3=>?_
 ·rcases hv3 with h|⟨m,h0,h1,h2,h3,h4,h5⟩
  ·exact .inl h
  ·exact .inr ⟨m,h0,h1,h2,om,h4,by rw [aB hS5 (show m ≠ S2.next+5 by have:S2.next+13 <= m:=h2;omega),aB hS4 (show m ≠ S2.next+10 by have:S2.next+13 <= m:=h2;omega)];exact h5⟩
 have a6:=hA6.lo;have b6:=hA6.hi;refine n_dopA ?_;refine vX ?_
 have hld:∀ (T0:St) (Q:V->Prop),Q (.agg [.str q.1,.str q.2])->bD (S2.next+5) (some (.cells [.str [122],.str [],.str [65,45],.str [49],.str [95],.str [255]] 34 .ex)) T0 fun S=>cM S (S2.next+5) fun cs _ _=>cR prog 34 w3 cs Q:=fun T0 Q hQ=>by
  refine aE om fun T hT=>?_;refine aA (aR hT) ?_;exact aX (n:=2) kr kr hbl hbc hQ
 have hnone:∀ m,S2.next <= m->m < S2.next+13->T.get fA m S3.hp=none∧T.get fA m S2.hp=none:=fun m h1 h2=>by
  have h3:S2.hs.get m=none:=wf2 m h1 om;exact ⟨(k3 m h2).trans h3,h3⟩
 refine eK (.inl kr) (.inr (.inr fun Q hQ=>putsK1 (hld _ Q hQ))) (.inr fun Q hQ=>putsK1 (hld _ Q hQ)) (vR _ _) ?_;refine jA ?_;refine kZ (.inl kr) (.inr (hnone _ (Nat.le_add_right _ _) (by show S2.next+10 < _;omega)).1) (hnone _ (Nat.le_add_right _ _) (by show S2.next+10 < _;omega)).2 ?_;refine kZ (.inl kr) (.inr (hnone _ (Nat.le_add_right _ _) (by show S2.next+5 < _;omega)).1) (hnone _ (Nat.le_add_right _ _) (by show S2.next+5 < _;omega)).2 ?_;refine vX ?_;refine go ?_;refine dM (aw % 26) rfl ?_;have hc26:=Nat.mod_lt aw (show 0 < 26 by omega);refine go ?_;refine bA (a:=.u8) (97+aw % 26) rfl (by show 97+aw % 26 <= 255;omega) ?_;refine go ?_;refine aD om fun S7 hS7=>?_;have n7:=aF hS7;refine go ?_;refine aA (aJ hS7) ?_
 conv=>whnf
 refine ifK_intro (show Nat.blt (97+aw % 26) 256=true from ag om) ?_;refine go ?_;refine aD (o:=.cells [.str [95,95,UInt8.ofNat (97+aw % 26)],.str [49]] 9 .ex) om fun S8 hS8=>?_;have n8:=aF hS8;refine go ?_;refine aRg om (af _) (aJ hS8) om fun S9 hS9=>?_;have n9:S9.next=S8.next+1:=aF hS9;have hh9:S9.hs.get S8.next=some (.cells [.str [95,95,UInt8.ofNat (97+aw % 26)],.str [49]] 34 .rw):=aJ hS9;refine go ?_;refine aMu om fun S10 hS10=>?_;have n10:S10.next=S9.next+1:=aF hS10;have hr10:S10.hs.get S9.next=some (.cells [.str [97]] 9 .ex):=aJ hS10;refine go ?_;refine dM (aw % 200) rfl ?_;have hc200:=Nat.mod_lt aw (show 0 < 200 by omega);refine go ?_;refine bA (a:=.u8) (10+aw % 200) rfl (by show 10+aw % 200 <= 255;omega) ?_;refine go ?_;refine aD (o:=.cells (aJd S9.next ++ aJe (aw % 200)) 39 .ex) om fun S11 hS11=>?_;have n11:=aF hS11;refine go ?_;refine aTM fun x1 hx1=>?_;refine go ?_;refine aTL fun x2 hx2=>?_;refine go ?_;refine aD (o:=.cells [.int .i64 x1,.int .i64 x2] 3 .ex) om fun S12 hS12=>?_;have n12:=aF hS12;have e8:S8.next=S7.next+1:=n8;have g11:∀ id,id < S11.next->S12.hs.get id=S11.hs.get id:=fun id g=>aC hS12 om;have g10:∀ id,id < S10.next->S12.hs.get id=S10.hs.get id:=fun id g=>(g11 id om).trans (aC hS11 om);have g9:∀ id,id < S9.next->S12.hs.get id=S9.hs.get id:=fun id g=>(g10 id om).trans (by rw [hS10];exact qJ g);have g8:∀ id,id < S8.next->S12.hs.get id=S8.hs.get id:=fun id g=>(g9 id om).trans (by rw [hS9];exact qJ g);have g6:∀ id,id < S6.next->S12.hs.get id=S6.hs.get id:=fun id g=>(g8 id om).trans (by rw [aC hS8 om,aC hS7 om])
 have g2:∀ id,id < S2.next->S12.hs.get id=S2.hs.get id:=fun id g=>by rw [g6 id om,hA6.keep id om om,aB hS5 (show id ≠ S2.next+5 by omega),aB hS4 (show id ≠ S2.next+10 by omega)];exact k3 id om
 have f1:S12.hs.get mb=some (.cells (cellsOf (tg ++ [q])) 34 .rw):=(g6 mb hb2).trans hb3;have f2:S12.hs.get S8.next=some (.cells [.str (fY (aw % 26)),.str [49]] 34 .rw):=(g9 _ om).trans hh9;have f3:S12.hs.get S9.next=some (.cells [.str [97]] 9 .ex):=(g10 _ om).trans hr10;have f4:S12.hs.get S10.next=some (.cells (aJd S9.next ++ aJe (aw % 200)) 39 .ex):=(g11 _ om).trans (aJ hS11);have f5:S12.hs.get S11.next=some (.cells [.int .i64 x1,.int .i64 x2] 3 .ex):=aJ hS12
 have f6:(vo=.nilSlice∧tg=[]) ∨ ∃ m,tg ≠ []∧vo=.slice m 0 tg.length tg.length 2 false∧S.next <= m∧m < S12.next∧S12.hs.get m=some (.cells (cellsOf tg) 34 .rw):=by
  rcases hLR with ⟨h1,h2⟩|⟨m,h0,h1,h2,h3,h4,h5⟩
  ·exact .inl ⟨h2,h1⟩
  ·exact .inr ⟨m,h0,h1,om,om,(g2 m h3).trans h5⟩
 have hR12:=hR1.keep (S':=S12) (fun id _ g=>(g2 id om).trans (kp2 id g)) om;have hL12:=hL1.keep (S':=S12) (fun id _ g=>(g2 id om).trans (kp2 id g)) om;have lb:mb < S12.next∧S8.next < S12.next∧S9.next < S12.next∧S10.next < S12.next∧S11.next < S12.next∧aI <= S9.next:=om;have l12:S12.next <= S.next+400:=om
 have kp12:∀ id,id < S.next->S12.hs.get id=S.hs.get id:=fun id g=>by rw [g2 id om,kp2 id om,kp1 id g]
 generalize hzc:aw % 26=z26 at *;generalize hza:aw % 200=z200 at *;generalize S8.next=mh at *;generalize S9.next=mr at *;generalize S10.next=mn at *;generalize S11.next=ml at *;clear hS12 hS11 hS10 hS9 hS8 hS7 g11 g10 g9 g8 g6 g2 hh9 hr10 hb3 hA6 hS5 hS4 k3 hv3 hA3 hcv;clear p4 p5;obtain ⟨l1,l2,l3,l4,l5,l6⟩:=lb
 have hB1:∀ (T:St) (u:V),(∀ id,id < S12.next->T.hs.get id=S12.hs.get id)->∀ k:V->St->Prop,k (.int .i64 240) T->RC prog 10 [.slice mb 0 (tg.length+1) (tg.length+1) 2 false,.slice mn 0 2 2 7 true,u] T k:=fun T u hT k hk =>
  uL (.inl rfl) (A:=fun S'=>S'=T) (fun k hk=>aKm okT hqx ((hT mb l1).trans f1) (af _) (hk T rfl)) (fun S' e=>by subst e;exact hk)
 have hB2:∀ (T:St) (u:V),(∀ id,id < S12.next->T.hs.get id=S12.hs.get id)->∀ k:V->St->Prop,k (.int .i64 240) T->RC prog 10 [.slice mh 0 1 1 2 false,.slice mn 0 2 2 7 true,u] T k:=fun T u hT k hk =>
  uL (.inl rfl) (A:=fun S'=>S'=T) (fun k hk=>aRq hc26 ((hT mh l2).trans f2) (hk T rfl)) (fun S' e=>by subst e;exact hk)
 have hlw:∀ T:St,(∀ id,id < S12.next->T.hs.get id=S12.hs.get id)->LW T vo tg:=fun T hT=>by
  rcases f6 with h|⟨m,_,h1,_,h2,h3⟩
  ·exact .inl h
  ·exact .inr ⟨m,_,_,h1,af _,(hT m h2).trans h3⟩
 have hB3:∀ (T:St) (u:V),(∀ id,id < S12.next->T.hs.get id=S12.hs.get id)->S12.next <= T.next->T.next+20 < room->∀ k:V->St->Prop,(∀ S',Abv T.next T.next T S' 20->k (.int .i64 120) S')->RC prog 10 [vo,.slice mn 0 2 2 7 true,u] T k:=fun T u hT' h1 h2 k hk =>
  uL (.inr rfl) (A:=fun S'=>Abv T.next T.next T S' 20) (fun k hk=>aGK okT hT (hlw T hT').lv hc200 om ((hT' mn l4).trans f4) l6 om ((hT' mr l3).trans f3) h2 hk) hk
 have hB4:∀ (T:St) (x:Int),(x < 1 ∨ 1000 < x)->(∀ id,id < S12.next->T.hs.get id=S12.hs.get id)->T.next+20 < room->∀ k:V->St->Prop,(∀ S',Abv T.next T.next T S' 20->k (.int .i64 2) S')->RC prog 10 [vo,.nilSlice,.int .i64 x] T k:=fun T x hx hT' h2 k hk =>
  aQX hx (fun k hk=>aKn okT hT (hlw T hT') h2 hk) hk
 have hRd:∀ (T:St) (s:V) (x:Int),(x < 1 ∨ 1000 < x)->(∀ id,id < S12.next->T.hs.get id=S12.hs.get id)->S12.next <= T.next->T.next+24 < room->∀ k:V->St->Prop,(∀ S',Abv T.next T.next T S' 24->k (.tup [.nilSlice,.int .i64 0,.int .i64 0,.int .i64 2]) S')->RC prog 11 [s,vo,.nilSlice,.int .i64 x] T k:=fun T s x hx hT' h1 h2 k hk =>
  aMi (n:=20) om (fun S2 hS2 h3 h4 k hk=>hB4 S2 x hx (fun id g=>(hS2 id om).trans (hT' id g)) om k hk) hk
 refine go ?_;refine LP.induct 2 (fun j E S'=>j <= 2∧Kn E 233 [(9,.str s),(10,all),(12,vo),(14,.slice mb 0 (tg.length+1) (tg.length+1) 2 false),(15,.slice mh 0 1 1 2 false),(16,.slice mn 0 2 2 7 true),(92,.slice ml 0 2 2 1 true),(93,.int .i64 2),(94,.int .i64 (.ofNat j))]∧(∀ id,id < S12.next->S'.hs.get id=S12.hs.get id)∧S12.next <= S'.next∧S'.next <= S12.next+80 * j) ⟨ai _,kq,fun _ _=>rfl,af _,af _⟩ ?_;rintro j E T0 ⟨hj,hf,kT,a0,b0⟩ ih;refine LP.kn mixed hf ?_;refine go ?_;refine bE (fun (hlt:j < 2)=>?_) (fun (hge:2 <= j)=>?_)
 ·refine go ?_;refine ifK_intro (show Nat.blt j 2=true from ag hlt) ?_;refine aP ?_;refine go ?_;refine aA ((kT ml l5).trans f5) ?_
  obtain ⟨x,hx,hxl⟩:∃ x:Int,[V.int .i64 x1,.int .i64 x2][j]?=some (.int .i64 x)∧(x < 1 ∨ 1000 < x):=by
   obtain rfl|rfl:j=0 ∨ j=1:=om
   ·exact ⟨x1,rfl,.inl hx1⟩
   ·exact ⟨x2,rfl,.inr hx2⟩
  refine aH kr j (by show 0+j * 1=j;omega) hx ?_;refine go ?_;refine hB1 T0 _ kT _ ?_;refine go ?_;refine hB2 T0 _ kT _ ?_;refine go ?_;refine hB3 T0 _ kT a0 om _ fun T1 hA1=>?_;have m1:=hA1.lo;have m1':=hA1.hi;have kT1:∀ id,id < S12.next->T1.hs.get id=S12.hs.get id:=fun id g=>(hA1.keep id om om).trans (kT id g);refine go ?_;refine hB4 T1 x hxl kT1 om _ fun T2 hA2=>?_;have m2:=hA2.lo;have m2':=hA2.hi;have kT2:∀ id,id < S12.next->T2.hs.get id=S12.hs.get id:=fun id g=>(hA2.keep id om om).trans (kT1 id g);refine go ?_;refine hRd T2 _ x hxl kT2 om om _ fun T3 hA3=>?_;have m3:=hA3.lo;have m3':=hA3.hi;have kT3:∀ id,id < S12.next->T3.hs.get id=S12.hs.get id:=fun id g=>(hA3.keep id om om).trans (kT2 id g);refine go ?_;refine bI 0 ?_;refine go ?_;refine bI 0 ?_;refine go ?_;refine bI (j+1) ?_;refine go ?_;refine ih _ T3 hlt ⟨hlt,kq,kT3,om,om⟩
 ·clear ih;refine go ?_;refine aKj (n:=0) (.inl rfl) om (fun S2 hS2 h1 h2 k hk=>aKm okT hqx ((hS2 mb om).trans ((kT mb l1).trans f1)) (af _) (hk S2 ⟨fun _ _ _=>rfl,af _,af _⟩)) fun T1 hA1=>?_;have m1:=hA1.lo;have m1':=hA1.hi;have kT1:∀ id,id < S12.next->T1.hs.get id=S12.hs.get id:=fun id g=>(hA1.keep id om om).trans (kT id g);refine go ?_;refine aD om fun T2 hT2=>?_;have m2:=aF hT2;refine go ?_;refine aA (aJ hT2) ?_;refine wrA (xs:=[.nilSlice,.int .u64 0,.bool false,.int .i64 0]) sm kr (by show 0 < 4;omega) rfl rfl ?_;refine aE om fun T3 hT3=>?_;have m3:=aK hT3
  have kT3:∀ id,id < S12.next->T3.hs.get id=S12.hs.get id:=fun id g=>by rw [aB hT3 om,aC hT2 om];exact kT1 id g
  refine go ?_;refine aKj (n:=20) (.inr rfl) om (fun S2 hS2 h1 h2 k hk=>aGK okT hT (hlw S2 fun id g=>(hS2 id om).trans (kT3 id g)).lv hc200 om ((hS2 mn om).trans ((kT3 mn l4).trans f4)) l6 om ((hS2 mr om).trans ((kT3 mr l3).trans f3)) om hk) fun T4 hA4=>?_;have m4:=hA4.lo;have m4':=hA4.hi;have kT4:∀ id,id < S12.next->T4.hs.get id=S12.hs.get id:=fun id g=>(hA4.keep id om om).trans (kT3 id g);refine go ?_;refine aD om fun T5 hT5=>?_;have m5:=aF hT5;refine go ?_;refine aA (aJ hT5) ?_;refine wrA (xs:=[.nilSlice,.int .u64 0,.bool false,.int .i64 0]) sm kr (by show 0 < 4;omega) rfl rfl ?_;refine aE om fun T6 hT6=>?_;have m6:=aK hT6
  have kT6:∀ id,id < S12.next->T6.hs.get id=S12.hs.get id:=fun id g=>by rw [aB hT6 om,aC hT5 om];exact kT4 id g
  refine go ?_;refine aOQ (n:=20) om (fun S2 hS2 h1 h2 k hk=>aKn okT hT (hlw S2 fun id g=>(hS2 id om).trans (kT6 id g)) om hk) fun T7 hA7=>?_;have m7:=hA7.lo;have m7':=hA7.hi;have kT7:∀ id,id < S12.next->T7.hs.get id=S12.hs.get id:=fun id g=>(hA7.keep id om om).trans (kT6 id g);refine go ?_;refine aD om fun T8 hT8=>?_;have m8:=aF hT8;refine go ?_;refine aA (aJ hT8) ?_;refine wrA (xs:=[.nilSlice,.int .u64 0,.bool false,.int .i64 0]) sm kr (by show 0 < 4;omega) rfl rfl ?_;refine aE om fun T9 hT9=>?_;have m9:=aK hT9
  have kT9:∀ id,id < S12.next->T9.hs.get id=S12.hs.get id:=fun id g=>by rw [aB hT9 om,aC hT8 om];exact kT7 id g
  refine go ?_;have hl1:∀ q ∈ L1,fD q.1:=fun q hq=>hl q.1 (by rw [<- hm1];exact List.mem_map.2 ⟨q,hq,rfl⟩);refine aQj om (hR12.keep (S':=T9) (fun id _ g=>kT9 id g) om) (hL12.keep (S':=T9) (fun id _ g=>kT9 id g) om) (fun q hq=>⟨List.ne_nil_of_mem (hl1 q hq).nm,by have:=(hl1 q hq).ok.few;omega⟩) om fun T10 v10 L10 hA10 hR10 hL10 hm10=>?_;have m10:=hA10.lo;have m10':=hA10.hi
  have hl10:∀ q ∈ L10,aKO q.1:=fun q hq=>by
   have h:q.1 ∈ L10.map (·.1):=List.mem_map.2 ⟨q,hq,rfl⟩;rw [hm10,hm1] at h;exact (hl q.1 h).r
  have hl10n:L10.length=L1.length:=by
   have:=congrArg List.length hm10;rwa [List.length_map,List.length_map] at this
  refine go ?_;refine aD (o:=.cells [.nilSlice,.int .u64 0,.bool false,.int .i64 1] 49 .ex) om fun T11 hT11=>?_;have m11:=aF hT11;refine go ?_;refine aUE (p:=T9.next) rfl (hR10.keep (S':=T11) (fun id _ g=>aC hT11 om) om) (hL10.keep (S':=T11) (fun id _ g=>aC hT11 om) om) om (aJ hT11) om om fun T12 m12 hA12 hLb12 hm12 hg12=>?_;have m12':=hA12.lo;have m12'':=hA12.hi
  have kT12:∀ id,id < S12.next->T12.hs.get id=S12.hs.get id:=fun id g=>by rw [hA12.keep id om om,aC hT11 om,hA10.keep id om om];exact kT9 id g
  refine go ?_;refine aJp (n:=60) om (fun k hk=>aBZ hl10 om hLb12 rfl rfl hm12 hg12 om (fun S' h1 h2 h3 k hk=>aGO (l:=[]) (fun _ _=>.inl ⟨rfl,rfl⟩) rfl ⟨sm,sm,sm,.nil⟩ rfl om hk) hk) fun T13 hA13=>?_;have m13:=hA13.lo;have m13':=hA13.hi;have kT13:∀ id,id < S12.next->T13.hs.get id=S12.hs.get id:=fun id g=>(hA13.keep id om om).trans (kT12 id g);refine go ?_
  have hvo:V.one vo=true∧vo.cells=[vo]:=by
   rcases f6 with ⟨rfl,_⟩|⟨m,_,rfl,_⟩ <;> exact ⟨rfl,rfl⟩
  rw [hvo.2];refine go ?_;refine aD (o:=.cells [vo,.int .u64 0,.bool false,.int .i64 0] 49 .ex) om fun T14 hT14=>?_;have m14:=aF hT14;have kT14:∀ id,id < S12.next->T14.hs.get id=S12.hs.get id:=fun id g=>(aC hT14 om).trans (kT13 id g);refine go ?_;refine aBZ (L:=[]) sm sm (b:=0) (fun q hq=>by cases hq) (y:=[vo,.int .u64 0,.bool false,.int .i64 0]) rfl (by unfold cQ;show Bool.rec (motive:=fun _=>Bool) false true (V.one vo)=true;rw [hvo.1]) om (aJ hT14) om (fun S' h1 h2 h3 k hk=>aGO (l:=tg) (fun S'' h=>(hlw S'' fun id g=>by rw [h id om,h1 id om];exact kT14 id g).lv) hvo.1 okT (nameT hT) om hk) fun T15 hA15=>?_;have m15:=hA15.lo;have m15':=hA15.hi;have kT15:∀ id,id < S12.next->T15.hs.get id=S12.hs.get id:=fun id g=>(hA15.keep id om om).trans (kT14 id g);refine go ?_;refine aD (o:=.cells (aMr ++ aMs ++ aMt) 39 .ex) om fun T16 hT16=>?_;have m16:=aF hT16;have hg16:=aJ hT16;have kT16:∀ id,id < S12.next->T16.hs.get id=S12.hs.get id:=fun id g=>(aC hT16 om).trans (kT15 id g);generalize T15.next=R at *;refine go ?_;have l16:T16.next <= S.next+1200:=om;have R16:R < T16.next:=om;have R1:1000 <= T16.next∧S12.next <= T16.next:=om;clear hA15 hT16 hT14 hA13 hA12 hT11 hA10;refine LP.induct 3 (fun j E S'=>j <= 3∧Kn E 233 [(9,.str s),(12,vo),(204,.slice R 0 3 3 7 true),(205,.int .i64 3),(206,.int .i64 (.ofNat j))]∧(∀ id,id < T16.next->S'.hs.get id=T16.hs.get id)∧T16.next <= S'.next∧S'.next <= T16.next+3 * j) ⟨ai _,kq,fun _ _=>rfl,af _,af _⟩ ?_;rintro j E U0 ⟨hj,hf,kU,a0,b0⟩ ih;refine LP.kn mixed hf ?_;refine go ?_;refine bE (fun (hlt:j < 3)=>?_) (fun (hge:3 <= j)=>?_)
  ·refine go ?_;refine ifK_intro (show Nat.blt j 3=true from ag hlt) ?_;refine aP ?_;refine go ?_;refine aA ((kU R R16).trans hg16) ?_
   obtain ⟨nw,f,va,vp,vt,vr,hr,hN,hrow⟩:∃ nw f va vp vt vr,aCR nw f∧aKN [.int .u8 va,.nilSlice,.str [],.str vp,.str vt,.str vr,.int .i64 0] nw∧(List.drop (7 * j) (aMr ++ aMs ++ aMt)).take 7=[.int .u8 va,.nilSlice,.str [],.str vp,.str vt,.str vr,.int .i64 0]:=by
    obtain rfl|rfl|rfl:j=0 ∨ j=1 ∨ j=2:=om
    ·exact ⟨_,_,_,_,_,_,aPj,aWi,rfl⟩
    ·exact ⟨_,_,_,_,_,_,aPk,aWj,rfl⟩
    ·exact ⟨_,_,_,_,_,_,aPl,aWk,rfl⟩
   rw [show Nat.add 0 (j.mul 7)=7 * j from (Nat.zero_add _).trans (Nat.mul_comm j 7)];refine aX (n:=7) (xs:=[.int .u8 va,.nilSlice,.str [],.str vp,.str vt,.str vr,.int .i64 0]) kr kr (by show 7 * j+7 <= 21;omega) hrow ?_;clear hrow;refine go ?_;refine aD om fun U1 hU1=>?_;have u1:=aF hU1;refine go ?_;refine aA (aJ hU1) ?_;refine wrA (xs:=[.int .u8 va,.nilSlice,.str [],.str vp,.str vt,.str vr,.int .i64 0]) sm kr (by show 0 < 7;omega) rfl rfl ?_;refine aE om fun U2 hU2=>?_;have u2:=aK hU2
   have k2:∀ id,id < T16.next->U2.hs.get id=T16.hs.get id:=fun id g=>by rw [aB hU2 om,aC hU1 om];exact kU id g
   refine go ?_;refine gM (by show s.length+4 <= _;omega) ?_;refine go ?_;refine aA (aR hU2) ?_;refine aX (n:=7) (xs:=[.int .u8 va,.nilSlice,.str [],.str vp,.str vt,.str vr,.int .i64 0]) kr kr (af 7) rfl ?_;refine go ?_;refine aD (o:=.cells [.int .u8 va,.nilSlice,.str [],.str vp,.str vt,.str vr,.int .i64 0] 39 .ex) om fun U3 hU3=>?_;have u3:=aF hU3;have k3:∀ id,id < T16.next->U3.hs.get id=T16.hs.get id:=fun id g=>(aC hU3 om).trans (k2 id g);refine go ?_;have hBn:=hTb.hn;refine hX hr hN rfl (hTb.keep (fun id g=>by rw [k3 id om,kT16 id om];exact kp12 id g) hS om) om ?_ (aJ hU3) om om om om fun U4 kU4 e4=>?_
   ·rcases f6 with ⟨h1,h2⟩|⟨m,h0,h1,h2,h3,h4⟩
    ·exact .inl ⟨h1,h2⟩
    ·exact .inr ⟨m,_,_,h1,af _,by rw [k3 m om,kT16 m h3];exact h4,om,om,om,om⟩
   refine go ?_;refine bI 0 ?_;refine go ?_;refine bI 0 ?_;refine go ?_;refine bI (j+1) ?_;refine go ?_;exact ih _ U4 hlt ⟨hlt,kq,fun id g=>(kU4 id om).trans (k3 id g),om,om⟩
  ·clear ih;refine go ?_;rfl
end
section
attribute [local irreducible] aO bK cM bD
theorem aUo {xs:List XS}{vx vk:V}{sk:List (Nat × Nat)}{lim:Int}{aw:Nat}{B:Nat}{S:St}(_:aw < 256)(hx:LX S vx xs)(hxo:∀ x ∈ xs,x.Ok)(hsk:∀ S':St,(∀ id,id < S.next->S'.hs.get id=S.hs.get id)->SV S' vk sk)(hT:aAD B S)(hS:1000 <= S.next)(hn:S.next+3060 <= room)
  (hA:∀ k:V->St->Prop,k (.bool true) S->RC prog 4 [] S k):RC prog 3 [vx,vk,.int .i64 lim,.int .u8 (.ofNat aw)] S fun v _=>v=.bool true:=by
 have hroom:room=4096:=rfl;refine aRS (ownS_ok sk) (ownS_hid sk) (l:=xs.map XS.smp) (fun y hy=>?_) (by rw [List.length_map];exact hx.few) hT hS om hA (fun k hk=>aLN hx hxo (hT.tabs hS) (af _) om hk) fun S1 h1 h2 h3 k hk=>?_
 ·obtain ⟨x,hx,rfl⟩:=List.mem_map.1 hy;exact XS.smp_ok (hxo x hx)
 ·refine RC.wf (aRk (hsk S1 h1) om fun S' v' g1 g2 g3 hLR S'' wf e1 e2=>hk S'' v' wf (fun id g=>(e2 id om).trans (g1 id g)) om om ?_)
  rcases hLR with h|⟨m,q0,q1,q2,q3,q4,q5⟩
  ·exact .inl h
  ·exact .inr ⟨m,q0,q1,q2,om,q4,(e2 m q3).trans q5⟩
end
end Go.Am
namespace Go.Am
def pS (e:Nat->TypeId):List (Nat × O):=[
 (8,.cells [.int .u8 (.ofNat 0),.int .u8 (.ofNat 1),.int .u8 (.ofNat 28),.int .u8 (.ofNat 2),.int .u8 (.ofNat 29),.int .u8 (.ofNat 14),.int .u8 (.ofNat 24),.int .u8 (.ofNat 3),.int .u8 (.ofNat 30),.int .u8 (.ofNat 22),.int .u8 (.ofNat 20),.int .u8 (.ofNat 15),.int .u8 (.ofNat 25),.int .u8 (.ofNat 17),.int .u8 (.ofNat 4),.int .u8 (.ofNat 8),.int .u8 (.ofNat 31),.int .u8 (.ofNat 27),.int .u8 (.ofNat 13),.int .u8 (.ofNat 23),.int .u8 (.ofNat 21),.int .u8 (.ofNat 19),.int .u8 (.ofNat 16),.int .u8 (.ofNat 7),.int .u8 (.ofNat 26),.int .u8 (.ofNat 12),.int .u8 (.ofNat 18),.int .u8 (.ofNat 6),.int .u8 (.ofNat 11),.int .u8 (.ofNat 5),.int .u8 (.ofNat 10),.int .u8 (.ofNat 9)] (e 8) .ro),
 (9,.cells [.int .u8 (.ofNat 0),.int .u8 (.ofNat 1),.int .u8 (.ofNat 56),.int .u8 (.ofNat 2),.int .u8 (.ofNat 57),.int .u8 (.ofNat 49),.int .u8 (.ofNat 28),.int .u8 (.ofNat 3),.int .u8 (.ofNat 61),.int .u8 (.ofNat 58),.int .u8 (.ofNat 42),.int .u8 (.ofNat 50),.int .u8 (.ofNat 38),.int .u8 (.ofNat 29),.int .u8 (.ofNat 17),.int .u8 (.ofNat 4),.int .u8 (.ofNat 62),.int .u8 (.ofNat 47),.int .u8 (.ofNat 59),.int .u8 (.ofNat 36),.int .u8 (.ofNat 45),.int .u8 (.ofNat 43),.int .u8 (.ofNat 51),.int .u8 (.ofNat 22),.int .u8 (.ofNat 53),.int .u8 (.ofNat 39),.int .u8 (.ofNat 33),.int .u8 (.ofNat 30),.int .u8 (.ofNat 24),.int .u8 (.ofNat 18),.int .u8 (.ofNat 12),.int .u8 (.ofNat 5),.int .u8 (.ofNat 63),.int .u8 (.ofNat 55),.int .u8 (.ofNat 48),.int .u8 (.ofNat 27),.int .u8 (.ofNat 60),.int .u8 (.ofNat 41),.int .u8 (.ofNat 37),.int .u8 (.ofNat 16),.int .u8 (.ofNat 46),.int .u8 (.ofNat 35),.int .u8 (.ofNat 44),.int .u8 (.ofNat 21),.int .u8 (.ofNat 52),.int .u8 (.ofNat 32),.int .u8 (.ofNat 23),.int .u8 (.ofNat 11),.int .u8 (.ofNat 54),.int .u8 (.ofNat 26),.int .u8 (.ofNat 40),.int .u8 (.ofNat 15),.int .u8 (.ofNat 34),.int .u8 (.ofNat 20),.int .u8 (.ofNat 31),.int .u8 (.ofNat 10),.int .u8 (.ofNat 25),.int .u8 (.ofNat 14),.int .u8 (.ofNat 19),.int .u8 (.ofNat 9),.int .u8 (.ofNat 13),.int .u8 (.ofNat 8),.int .u8 (.ofNat 7),.int .u8 (.ofNat 6)] (e 9) .ro),
 (10,.cells [.int .u64 (.ofNat 23),.int .u64 (.ofNat 8),.int .i64 (.negSucc 126)] (e 10) .ro),
 (12,.cells [.int .u64 (.ofNat 52),.int .u64 (.ofNat 11),.int .i64 (.negSucc 1022)] (e 12) .ro),
 (11,.cells [.bool true] (e 11) .ro),
 (4,.cells [.int .u64 (.ofNat 1),.int .u64 (.ofNat 10),.int .u64 (.ofNat 100),.int .u64 (.ofNat 1000),.int .u64 (.ofNat 10000),.int .u64 (.ofNat 100000),.int .u64 (.ofNat 1000000),.int .u64 (.ofNat 10000000),.int .u64 (.ofNat 100000000),.int .u64 (.ofNat 1000000000),.int .u64 (.ofNat 10000000000),.int .u64 (.ofNat 100000000000),.int .u64 (.ofNat 1000000000000),.int .u64 (.ofNat 10000000000000),.int .u64 (.ofNat 100000000000000),.int .u64 (.ofNat 1000000000000000),.int .u64 (.ofNat 10000000000000000),.int .u64 (.ofNat 100000000000000000),.int .u64 (.ofNat 1000000000000000000),.int .u64 (.ofNat 10000000000000000000)] (e 4) .ro),
 (2,.cells [.int .u8 (.ofNat 128),.int .u8 (.ofNat 191),.int .u8 (.ofNat 160),.int .u8 (.ofNat 191),.int .u8 (.ofNat 128),.int .u8 (.ofNat 159),.int .u8 (.ofNat 144),.int .u8 (.ofNat 191),.int .u8 (.ofNat 128),.int .u8 (.ofNat 143),.int .u8 (.ofNat 0),.int .u8 (.ofNat 0),.int .u8 (.ofNat 0),.int .u8 (.ofNat 0),.int .u8 (.ofNat 0),.int .u8 (.ofNat 0),.int .u8 (.ofNat 0),.int .u8 (.ofNat 0),.int .u8 (.ofNat 0),.int .u8 (.ofNat 0),.int .u8 (.ofNat 0),.int .u8 (.ofNat 0),.int .u8 (.ofNat 0),.int .u8 (.ofNat 0),.int .u8 (.ofNat 0),.int .u8 (.ofNat 0),.int .u8 (.ofNat 0),.int .u8 (.ofNat 0),.int .u8 (.ofNat 0),.int .u8 (.ofNat 0),.int .u8 (.ofNat 0),.int .u8 (.ofNat 0)] (e 2) .ro),
 (5,.cells [.int .i64 (.negSucc 0),.int .i64 (.negSucc 0)] (e 5) .ro),
 (1,.cells [.int .u8 (.ofNat 240),.int .u8 (.ofNat 240),.int .u8 (.ofNat 240),.int .u8 (.ofNat 240),.int .u8 (.ofNat 240),.int .u8 (.ofNat 240),.int .u8 (.ofNat 240),.int .u8 (.ofNat 240),.int .u8 (.ofNat 240),.int .u8 (.ofNat 240),.int .u8 (.ofNat 240),.int .u8 (.ofNat 240),.int .u8 (.ofNat 240),.int .u8 (.ofNat 240),.int .u8 (.ofNat 240),.int .u8 (.ofNat 240),.int .u8 (.ofNat 240),.int .u8 (.ofNat 240),.int .u8 (.ofNat 240),.int .u8 (.ofNat 240),.int .u8 (.ofNat 240),.int .u8 (.ofNat 240),.int .u8 (.ofNat 240),.int .u8 (.ofNat 240),.int .u8 (.ofNat 240),.int .u8 (.ofNat 240),.int .u8 (.ofNat 240),.int .u8 (.ofNat 240),.int .u8 (.ofNat 240),.int .u8 (.ofNat 240),.int .u8 (.ofNat 240),.int .u8 (.ofNat 240),.int .u8 (.ofNat 240),.int .u8 (.ofNat 240),.int .u8 (.ofNat 240),.int .u8 (.ofNat 240),.int .u8 (.ofNat 240),.int .u8 (.ofNat 240),.int .u8 (.ofNat 240),.int .u8 (.ofNat 240),.int .u8 (.ofNat 240),.int .u8 (.ofNat 240),.int .u8 (.ofNat 240),.int .u8 (.ofNat 240),.int .u8 (.ofNat 240),.int .u8 (.ofNat 240),.int .u8 (.ofNat 240),.int .u8 (.ofNat 240),.int .u8 (.ofNat 240),.int .u8 (.ofNat 240),.int .u8 (.ofNat 240),.int .u8 (.ofNat 240),.int .u8 (.ofNat 240),.int .u8 (.ofNat 240),.int .u8 (.ofNat 240),.int .u8 (.ofNat 240),.int .u8 (.ofNat 240),.int .u8 (.ofNat 240),.int .u8 (.ofNat 240),.int .u8 (.ofNat 240),.int .u8 (.ofNat 240),.int .u8 (.ofNat 240),.int .u8 (.ofNat 240),.int .u8 (.ofNat 240),.int .u8 (.ofNat 240),.int .u8 (.ofNat 240),.int .u8 (.ofNat 240),.int .u8 (.ofNat 240),.int .u8 (.ofNat 240),.int .u8 (.ofNat 240),.int .u8 (.ofNat 240),.int .u8 (.ofNat 240),.int .u8 (.ofNat 240),.int .u8 (.ofNat 240),.int .u8 (.ofNat 240),.int .u8 (.ofNat 240),.int .u8 (.ofNat 240),.int .u8 (.ofNat 240),.int .u8 (.ofNat 240),.int .u8 (.ofNat 240),.int .u8 (.ofNat 240),.int .u8 (.ofNat 240),.int .u8 (.ofNat 240),.int .u8 (.ofNat 240),.int .u8 (.ofNat 240),.int .u8 (.ofNat 240),.int .u8 (.ofNat 240),.int .u8 (.ofNat 240),.int .u8 (.ofNat 240),.int .u8 (.ofNat 240),.int .u8 (.ofNat 240),.int .u8 (.ofNat 240),.int .u8 (.ofNat 240),.int .u8 (.ofNat 240),.int .u8 (.ofNat 240),.int .u8 (.ofNat 240),.int .u8 (.ofNat 240),.int .u8 (.ofNat 240),.int .u8 (.ofNat 240),.int .u8 (.ofNat 240),.int .u8 (.ofNat 240),.int .u8 (.ofNat 240),.int .u8 (.ofNat 240),.int .u8 (.ofNat 240),.int .u8 (.ofNat 240),.int .u8 (.ofNat 240),.int .u8 (.ofNat 240),.int .u8 (.ofNat 240),.int .u8 (.ofNat 240),.int .u8 (.ofNat 240),.int .u8 (.ofNat 240),.int .u8 (.ofNat 240),.int .u8 (.ofNat 240),.int .u8 (.ofNat 240),.int .u8 (.ofNat 240),.int .u8 (.ofNat 240),.int .u8 (.ofNat 240),.int .u8 (.ofNat 240),.int .u8 (.ofNat 240),.int .u8 (.ofNat 240),.int .u8 (.ofNat 240),.int .u8 (.ofNat 240),.int .u8 (.ofNat 240),.int .u8 (.ofNat 240),.int .u8 (.ofNat 240),.int .u8 (.ofNat 240),.int .u8 (.ofNat 240),.int .u8 (.ofNat 240),.int .u8 (.ofNat 241),.int .u8 (.ofNat 241),.int .u8 (.ofNat 241),.int .u8 (.ofNat 241),.int .u8 (.ofNat 241),.int .u8 (.ofNat 241),.int .u8 (.ofNat 241),.int .u8 (.ofNat 241),.int .u8 (.ofNat 241),.int .u8 (.ofNat 241),.int .u8 (.ofNat 241),.int .u8 (.ofNat 241),.int .u8 (.ofNat 241),.int .u8 (.ofNat 241),.int .u8 (.ofNat 241),.int .u8 (.ofNat 241),.int .u8 (.ofNat 241),.int .u8 (.ofNat 241),.int .u8 (.ofNat 241),.int .u8 (.ofNat 241),.int .u8 (.ofNat 241),.int .u8 (.ofNat 241),.int .u8 (.ofNat 241),.int .u8 (.ofNat 241),.int .u8 (.ofNat 241),.int .u8 (.ofNat 241),.int .u8 (.ofNat 241),.int .u8 (.ofNat 241),.int .u8 (.ofNat 241),.int .u8 (.ofNat 241),.int .u8 (.ofNat 241),.int .u8 (.ofNat 241),.int .u8 (.ofNat 241),.int .u8 (.ofNat 241),.int .u8 (.ofNat 241),.int .u8 (.ofNat 241),.int .u8 (.ofNat 241),.int .u8 (.ofNat 241),.int .u8 (.ofNat 241),.int .u8 (.ofNat 241),.int .u8 (.ofNat 241),.int .u8 (.ofNat 241),.int .u8 (.ofNat 241),.int .u8 (.ofNat 241),.int .u8 (.ofNat 241),.int .u8 (.ofNat 241),.int .u8 (.ofNat 241),.int .u8 (.ofNat 241),.int .u8 (.ofNat 241),.int .u8 (.ofNat 241),.int .u8 (.ofNat 241),.int .u8 (.ofNat 241),.int .u8 (.ofNat 241),.int .u8 (.ofNat 241),.int .u8 (.ofNat 241),.int .u8 (.ofNat 241),.int .u8 (.ofNat 241),.int .u8 (.ofNat 241),.int .u8 (.ofNat 241),.int .u8 (.ofNat 241),.int .u8 (.ofNat 241),.int .u8 (.ofNat 241),.int .u8 (.ofNat 241),.int .u8 (.ofNat 241),.int .u8 (.ofNat 241),.int .u8 (.ofNat 241),.int .u8 (.ofNat 2),.int .u8 (.ofNat 2),.int .u8 (.ofNat 2),.int .u8 (.ofNat 2),.int .u8 (.ofNat 2),.int .u8 (.ofNat 2),.int .u8 (.ofNat 2),.int .u8 (.ofNat 2),.int .u8 (.ofNat 2),.int .u8 (.ofNat 2),.int .u8 (.ofNat 2),.int .u8 (.ofNat 2),.int .u8 (.ofNat 2),.int .u8 (.ofNat 2),.int .u8 (.ofNat 2),.int .u8 (.ofNat 2),.int .u8 (.ofNat 2),.int .u8 (.ofNat 2),.int .u8 (.ofNat 2),.int .u8 (.ofNat 2),.int .u8 (.ofNat 2),.int .u8 (.ofNat 2),.int .u8 (.ofNat 2),.int .u8 (.ofNat 2),.int .u8 (.ofNat 2),.int .u8 (.ofNat 2),.int .u8 (.ofNat 2),.int .u8 (.ofNat 2),.int .u8 (.ofNat 2),.int .u8 (.ofNat 2),.int .u8 (.ofNat 19),.int .u8 (.ofNat 3),.int .u8 (.ofNat 3),.int .u8 (.ofNat 3),.int .u8 (.ofNat 3),.int .u8 (.ofNat 3),.int .u8 (.ofNat 3),.int .u8 (.ofNat 3),.int .u8 (.ofNat 3),.int .u8 (.ofNat 3),.int .u8 (.ofNat 3),.int .u8 (.ofNat 3),.int .u8 (.ofNat 3),.int .u8 (.ofNat 35),.int .u8 (.ofNat 3),.int .u8 (.ofNat 3),.int .u8 (.ofNat 52),.int .u8 (.ofNat 4),.int .u8 (.ofNat 4),.int .u8 (.ofNat 4),.int .u8 (.ofNat 68),.int .u8 (.ofNat 241),.int .u8 (.ofNat 241),.int .u8 (.ofNat 241),.int .u8 (.ofNat 241),.int .u8 (.ofNat 241),.int .u8 (.ofNat 241),.int .u8 (.ofNat 241),.int .u8 (.ofNat 241),.int .u8 (.ofNat 241),.int .u8 (.ofNat 241),.int .u8 (.ofNat 241)] (e 1) .ro)]
end Go.Am
namespace Go.Am
open Go.Proofs
def isT (v:V):Prop:=match v with|.bool true=>True|_=>False
noncomputable def aSI (n:Nat):aMS:=nM prog xts (aET 62 (wI 34)) (cZ prog) n
noncomputable def aTc (e:Nat->TypeId):Prop:=dJ (pS e) ⟨.nil,1100⟩ fun S=>(aSI 1000).call 4 [] S (fun v _=>isT v)
theorem aNq (e:Nat->TypeId):aTc e=True:=kr
theorem aRB (n:Nat):dN prog (aSI n).call:=(sR aS (aIM sV) (fun _ _ hc hd=>evDraw_ok mixed hc hd) n).1
theorem aTH {v:V}(h:isT v):v=.bool true:=by
 unfold isT at h
 split at h
 ·rfl
 ·exact h.elim
theorem aBP:∀ {l:List (Nat × O)} {H:Hs} {i:Nat} {o:O},(dU l H).get i=some o->(i,o) ∈ l ∨ H.get i=some o
 | [],H,i,o,h=>.inr h
 | q :: l,H,i,o,h=>by
   rcases aBP (l:=l) (show (dU l (H.put q.1 (some q.2))).get i=some o from h) with h1|h1
   ·exact .inl (be _ h1)
   ·have h2:(if i=q.1 then some q.2 else H.get i)=some o:=h1;by_cases e:i=q.1
    ·rw [if_pos e] at h2;have:o=q.2:=(Option.some.inj h2).symm;subst this;subst e;exact .inl sm
    ·rw [if_neg e] at h2;exact .inr h2
def aIU (v:V):Bool:=match v with|.bool _=>true|.int _ _=>true|_=>false
def aPa (q:Nat × O):Bool:=match q.2 with|.cells cs _ .ro=>cs.all aIU && Nat.blt q.1 1100|_=>false
theorem aMc {R:Nat->Nat->Prop}{v:V}(h:aIU v=true):VI R v v:=by
 cases v <;> first|exact .bool _|exact .int _ _|cases h
theorem aBO {R:Nat->Nat->Prop}:∀ {l:List V},l.all aIU=true->mJ R l l
 | [],_=>.nil
 | v :: l,h=>by
   simp at h;exact .cons (aMc h.1) (aBO (by simpa using h.2))
theorem aHi (e:Nat->TypeId):(pS e).all aPa=true:=kr
theorem aNr (e:Nat->TypeId){S:St}{k:V->St->Prop}(hS:∀ q ∈ pS e,S.hs.get q.1=some q.2)(hk:k (.bool true) S):RC prog 4 [] S k:=by
 obtain ⟨S1,h2,h3⟩:=fF (of_eq_true (aNq e));obtain ⟨v,S',h4,h5⟩:=aRB 1000 _ _ _ _ h2;have hv:=aTH h4;subst hv
 have hmem:∀ i o,S1.hs.get i=some o->(i,o) ∈ pS e:=fun i o h=>by
  rw [h3] at h
  rcases aBP h with h|h
  ·exact h
  ·exact absurd h (by show ¬ T.get fA i .nil=some o;rw [xK];simp)
 have hnx:S1.hs.next=1100:=by rw [h3,iJ];rfl
 refine .mk (.bool true) S (h5.frame (fun _=>true) (fun i=>i) (fun i=>i) (by rw [hnx];decide) (fun i _=>rfl) (fun i i' _ _ h _=>by cases h) (fun i o h=>?_) .nil (.bool _) (af _) (fun j j' h1 h2 _ _ _=>by omega)
  (fun j o h=>.inr ⟨h,fun i _ _ h=>by cases h⟩)) hk
 have hq:=hmem i o h;have hp:=List.all_eq_true.1 (aHi e) _ hq;unfold aPa at hp
 split at hp
 ·rename_i cs t ho
  simp only [Bool.and_eq_true] at hp;have ho':o=.cells cs t .ro:=ho;subst ho';have hi:i < 1100:=ae hp.2;exact ⟨by rw [hnx];exact hi,fun _=>rfl,_,hS _ hq,.cells (aBO hp.1) (.inl rfl)⟩
 ·cases hp
end Go.Am
namespace Go.Am
open Go.Lib
mutual
def flatD:DataW Unit->List Value
 | .lit (.bool b)=>[.bool b]
 | .lit (.int k n)=>[.int k n]
 | .lit (.float k b)=>[.float k b]
 | .lit (.string bs)=>[.string ⟨⟨bs⟩⟩]
 | .agg ps=>flatDs ps
 | _=>[]
def flatDs:List (DataW Unit)->List Value
 | []=>[]
 | d :: ds=>flatD d ++ flatDs ds
end
theorem drop_take_add {cs:List Value}{o n m:Nat}:(cs.drop o).take (n+m)=(cs.drop o).take n ++ (cs.drop (o+n)).take m:=by
 rw [List.take_add,List.drop_drop]
def tileF (P:Program)(chk:TypeId->DataW Unit->Bool):Nat->List Field->List (DataW Unit)->Option Nat
 | o,[],[]=>some o
 | o,f :: fs,d :: ds=>if f.offset=o∧chk f.type d=true∧(flatD d).length=P.cellsOf f.type then tileF P chk (o+P.cellsOf f.type) fs ds else none
 | _,_,_=>none
def tiles (P:Program):Nat->TypeId->DataW Unit->Bool
 | 0,_,_=>false
 | n+1,t,d=>match P.underlying t,d with
   | some (.struct fs),.agg ps=>tileF P (tiles P n) 0 fs.toList ps == some (P.cellsOf t)
   | some (.array m e),.agg ps=>ps.length == m && P.cellsOf t == m * P.cellsOf e && ps.all fun d=>tiles P n e d && (flatD d).length == P.cellsOf e
   | some .bool,.lit _=>true
   | some (.int _),.lit _=>true
   | some (.float _),.lit _=>true
   | some .string,.lit _=>true
   | _,_=>false
section
variable {P:Program} {w:World} {base:Nat} {sp:Nat->Bool} {held:Bool}
theorem trod_float {fuel:Nat}{t:TypeId}{k:FloatKind}{cs:List Value}{x:DataW Unit × List MemPlace}(ht:P.underlying t=some (.float k))(h:DataW.trod (fun _=>()) P w base sp held fuel t cs=some x):∃ n,cs=[.float k n]∧x=(.lit (.float k n),[]):=by
 cases fuel with
 | zero=>simp [DataW.trod] at h
 | succ n =>
   unfold DataW.trod at h;rw [ht] at h
   split at h <;> simp_all
theorem trod_array {fuel:Nat}{t e:TypeId}{m:Nat}{cs:List Value}{x:DataW Unit × List MemPlace}(ht:P.underlying t=some (.array m e))(h:DataW.trod (fun _=>()) P w base sp held fuel t cs=some x) :
  ∃ (n:Nat) (xs:List (DataW Unit × List MemPlace)),fuel=n+1∧x=(.agg (xs.map (·.1)),xs.flatMap (·.2))∧cs.length=P.cellsOf t∧(List.range m).mapM (fun i=>DataW.trod (fun _=>()) P w base sp held n e ((cs.drop (i * P.cellsOf e)).take (P.cellsOf e)))=some xs:=by
 cases fuel with
 | zero=>simp [DataW.trod] at h
 | succ n =>
   unfold DataW.trod at h;rw [ht] at h
   have h':(if cs.length=P.cellsOf t then ((List.range m).mapM fun i=>DataW.trod (fun _=>()) P w base sp held n e ((cs.drop (i * P.cellsOf e)).take (P.cellsOf e))).map fun xs=>((.agg (xs.map (·.1)),xs.flatMap (·.2)):DataW Unit × List MemPlace) else none)=some x:=by
    split at h <;> simp_all
   split at h'
   ·rename_i hl
    obtain ⟨xs,h1,h2⟩:=Option.map_eq_some_iff.1 h';exact ⟨n,xs,rfl,h2.symm,hl,h1⟩
   ·cases h'
theorem mapM_at {α β:Type}{f:α->Option β}:∀ {l:List α} {xs:List β},l.mapM f=some xs->xs.length=l.length∧∀ (i:Nat) (a:α),l[i]?=some a->f a=xs[i]?
 | [],xs,h=>by simp at h;subst h;simp
 | a :: l,xs,h=>by
   rw [List.mapM_cons] at h
   cases ha:f a with
   | none=>rw [ha] at h;simp at h
   | some b =>
     rw [ha] at h
     cases hl:l.mapM f with
     | none=>rw [hl] at h;simp at h
     | some ys =>
       rw [hl] at h;simp at h;subst h;obtain ⟨h1,h2⟩:=mapM_at hl;refine ⟨by simp [h1],fun i x hx=>?_⟩
       cases i with
       | zero=>simp at hx;subst hx;simpa using ha
       | succ i=>simpa using h2 i x (by simpa using hx)
theorem tileF_cells {chk:TypeId->DataW Unit->Bool}{cs:List Value}:∀ {fs:List Field} {ds:List (DataW Unit)} {o e:Nat},tileF P chk o fs ds=some e ->
  (∀ (i:Nat) (f:Field) (d:DataW Unit),fs[i]?=some f->ds[i]?=some d->chk f.type d=true->(cs.drop f.offset).take (P.cellsOf f.type)=flatD d)->o <= e∧(cs.drop o).take (e - o)=flatDs ds
 | [],[],o,e,h,_=>by
   have h':some o=some e:=h;cases h';exact ⟨Nat.le_refl _,by simp [flatDs]⟩
 | f :: fs,d :: ds,o,e,h,hp=>by
   unfold tileF at h
   split at h
   ·rename_i hc
    obtain ⟨h1,h2,h3⟩:=hc;obtain ⟨h4,h5⟩:=tileF_cells (fs:=fs) (ds:=ds) h fun i f' d' hf hd hk=>hp (i+1) f' d' (by simpa using hf) (by simpa using hd) hk;refine ⟨by omega,?_⟩;have h6:=hp 0 f d rfl rfl h2;rw [h1] at h6;rw [show e - o=P.cellsOf f.type+(e - (o+P.cellsOf f.type)) by omega,drop_take_add,h6,h5];rfl
   ·cases h
 | [],_ :: _,_,_,h,_=>by cases h
 | _ :: _,[],_,_,h,_=>by cases h
theorem array_cells {cs:List Value}{c:Nat}:∀ {ds:List (DataW Unit)} {k:Nat},(∀ (i:Nat) (d:DataW Unit),ds[i]?=some d->(cs.drop ((k+i) * c)).take c=flatD d)->(cs.drop (k * c)).take (ds.length * c)=flatDs ds
 | [],k,_=>by simp [flatDs]
 | d :: ds,k,h=>by
   have h1:=h 0 d rfl
   have h2:=array_cells (ds:=ds) (k:=k+1) fun i d' hd=>by
    have:=h (i+1) d' (by simpa using hd);rw [show k+1+i=k+(i+1) by omega];exact this
   rw [List.length_cons,Nat.add_mul,Nat.one_mul,Nat.add_comm (ds.length * c) c,drop_take_add];rw [Nat.add_zero] at h1;rw [h1,show k * c+c=(k+1) * c by rw [Nat.add_mul,Nat.one_mul],h2];rfl
theorem flat_of_trod:∀ (n:Nat) {fuel:Nat} {t:TypeId} {d:DataW Unit} {cs:List Value} {p:List MemPlace},tiles P n t d=true->DataW.trod (fun _=>()) P w base sp held fuel t cs=some (d,p)->cs=flatD d
 | 0,_,_,_,_,_,h,_=>by cases h
 | n+1,fuel,t,d,cs,p,ht,h=>by
   unfold tiles at ht
   split at ht
   ·rename_i fs ps hu
    obtain ⟨xs,m,rfl,hx,hl,hxl,hall⟩:=DataW.trod_struct hu h;have e1:=congrArg Prod.fst hx;simp only [DataW.agg.injEq] at e1
    have ht':tileF P (tiles P n) 0 fs.toList ps=some (P.cellsOf t):=by simpa using ht
    obtain ⟨_,h2⟩:=tileF_cells (cs:=cs) ht' fun i f d' hf hd hk=>by
     have h3:=hall i f (by simpa using hf);rw [e1,List.getElem?_map] at hd;obtain ⟨y,hy,rfl⟩:=Option.map_eq_some_iff.1 hd;rw [hy] at h3;exact flat_of_trod n hk h3
    rw [List.drop_zero,Nat.sub_zero,List.take_of_length_le (by omega)] at h2;rw [h2];rfl
   ·rename_i m e ps hu
    obtain ⟨k,xs,rfl,hx,hl,hall⟩:=trod_array hu h;have e1:=congrArg Prod.fst hx;simp only [DataW.agg.injEq] at e1;simp only [Bool.and_eq_true,beq_iff_eq,List.all_eq_true] at ht;obtain ⟨⟨h1,h2⟩,h3⟩:=ht;obtain ⟨h4,h5⟩:=mapM_at hall
    have h6:=array_cells (cs:=cs) (c:=P.cellsOf e) (ds:=ps) (k:=0) fun i d' hd=>by
     have hi:i < m:=by rw [<- h1];exact (List.getElem?_eq_some_iff.1 hd).1
     have h7:=h5 i i (by simp [hi]);obtain ⟨q1,q2⟩:=h3 d' (List.mem_of_getElem? hd);rw [e1,List.getElem?_map] at hd;obtain ⟨y,hy,rfl⟩:=Option.map_eq_some_iff.1 hd;rw [hy] at h7;rw [Nat.zero_add];exact flat_of_trod n q1 h7
    rw [Nat.zero_mul,List.drop_zero,List.take_of_length_le (by rw [h1,<- h2,hl];exact Nat.le_refl _)] at h6;rw [h6];rfl
   ·rename_i l hu
    obtain ⟨b,rfl,hx⟩:=DataW.trod_bool hu h;cases hx;rfl
   ·rename_i k l hu
    obtain ⟨b,rfl,hx,_⟩:=DataW.trod_int hu h;cases hx;rfl
   ·rename_i k l hu
    obtain ⟨b,rfl,hx⟩:=trod_float hu h;cases hx;rfl
   ·rename_i l hu
    obtain ⟨b,rfl,hx,_⟩:=DataW.trod_string hu h;cases hx;show _=[Value.string ⟨⟨b.data.toList⟩⟩]
    simp
   ·cases ht
end
end Go.Am
namespace Go.Am
open Go.Proofs Go.Proofs.YtigihhfdlgjhbaaGreatDoor
attribute [local irreducible] fN fI fB cR eQ evCode evOps rD kOp aAj wF wH wG kGc aLE aLD kDr kMg drOps fU kK sl
def ten:List (Nat × DataW Unit):=[(8,Rows.laid_math_bits_deBruijn32tab),(9,Rows.laid_math_bits_deBruijn64tab),(10,Rows.laid_internal_strconv_float32info),(12,Rows.laid_internal_strconv_float64info),(11,Rows.laid_internal_strconv_optimize),(4,Rows.laid_internal_strconv_uint64pow10),(2,Rows.laid_unicode_utf8_acceptRanges),(5,Rows.laid_gauger_template_none),(1,Rows.laid_unicode_utf8_first),(18,Rows.laid_internal_strconv_pow10Tab)]
def aRK (e:Nat->TypeId)(x:Nat × DataW Unit):Nat × O:=(x.1,.cells ((flatD x.2).map ofV1) (e x.1) .ro)
theorem aMA (e:Nat->TypeId):pS e=(ten.take 9).map (aRK e):=kr
theorem aUg:(ten.all fun x=>(flatD x.2).all aCJ && Nat.blt x.1 1000)=true:=kr
def aJm (e:Nat->TypeId)(f:Nat->Option O):List (Nat × Option O):=(15,some (.cells [.slice aI 0 23 23 1 false] (e 15) .ro)) :: ((ten.map fun x=>((aRK e x).1,some (aRK e x).2)) ++ (List.range 15).map fun j=>(aI+j,f j))
theorem aAz:∀ {l:List (Nat × Option O)} {H:Hs} {q:Nat × Option O},(l.map (·.1)).Nodup->q ∈ l->(fO l H).get q.1=q.2
 | [],_,_,_,h=>by cases h
 | p :: l,H,q,hn,h=>by
   rw [List.map_cons,List.nodup_cons] at hn;show (if q.1=p.1 then p.2 else (fO l H).get q.1)=q.2
   rcases av.1 h with rfl|h
   ·exact if_pos rfl
   ·rw [if_neg fun e=>hn.1 (by rw [<- e];exact List.mem_map.2 ⟨q,h,rfl⟩)];exact aAz hn.2 h
theorem aKE:∀ {l:List (Nat × Option O)} {H:Hs} {i:Nat} {o:O},(fO l H).get i=some o->(i,some o) ∈ l ∨ H.get i=some o
 | [],_,_,_,h=>.inr h
 | p :: l,H,i,o,h=>by
   have h':(if i=p.1 then p.2 else (fO l H).get i)=some o:=h;by_cases e:i=p.1
   ·rw [if_pos e] at h';subst e;exact .inl (by rw [<- h'];simp)
   ·rw [if_neg e] at h'
    rcases aKE h' with h2|h2
    ·exact .inl (be _ h2)
    ·exact .inr h2
theorem aKC (e:Nat->TypeId)(f:Nat->Option O):(aJm e f).map (·.1)=15 :: (ten.map (·.1) ++ (List.range 15).map (aI+·)):=by
 unfold aJm;rw [List.map_cons,List.map_append,List.map_map,List.map_map];rfl
theorem yY (e:Nat->TypeId)(f:Nat->Option O):((aJm e f).map (·.1)).Nodup:=by
 rw [aKC];decide
noncomputable abbrev aCn (e:Nat->TypeId)(f:Nat->Option O):Hs:=fO (aJm e f) (St.hs ⟨.nil,aI+15⟩)
theorem yX (e:Nat->TypeId)(f:Nat->Option O):(aCn e f).next=aI+15:=fC _ _
theorem aPz {e:Nat->TypeId}{f:Nat->Option O}{j:Nat}(h:j < 15):(aCn e f).get (aI+j)=f j :=
 aAz (q:=(aI+j,f j)) (yY e f) (be _ (List.mem_append_right _ (List.mem_map.2 ⟨j,List.mem_range.2 h,rfl⟩)))
theorem pU {e:Nat->TypeId}{f:Nat->Option O}{x:Nat × DataW Unit}(h:x ∈ ten):(aCn e f).get x.1=some (.cells ((flatD x.2).map ofV1) (e x.1) .ro) :=
 aAz (q:=(x.1,some (aRK e x).2)) (yY e f) (be _ (List.mem_append_left _ (List.mem_map.2 ⟨x,h,rfl⟩)))
theorem aPA {e:Nat->TypeId}{f:Nat->Option O}:(aCn e f).get 15=some (.cells [.slice aI 0 23 23 1 false] (e 15) .ro) :=
 aAz (q:=(15,_)) (yY e f) (by simp [aJm])
theorem aMa:(flatD Rows.laid_internal_strconv_uint64pow10).map ofV1=aBL:=kr
theorem aMd:(flatD Rows.laid_internal_strconv_pow10Tab).map ofV1=aAl:=kr
theorem aLA:(flatD Rows.laid_internal_strconv_float64info).map ofV1=[.int .u64 52,.int .u64 11,.int .i64 (-1023)]:=kr
theorem aLZ:(flatD Rows.laid_internal_strconv_optimize).map ofV1=[.bool true]:=kr
theorem aLU:(flatD Rows.laid_gauger_template_none).map ofV1=[.int .i64 (.negSucc 0),.int .i64 (.negSucc 0)]:=kr
theorem aRO {e:Nat->TypeId}{f:Nat->Option O}{t:TypeId}(h0:f 0=some (.cells tC t .ro)){S:St}(hS:S.hs=aCn e f):aAD aI S:=by
 have hn:S.next=aI+15:=(congrArg Hs.next hS).trans (yX e f);refine ⟨dc,om,⟨e 4,?_⟩,⟨e 12,.ro,?_⟩,⟨e 15,.ro,t,.ro,false,?_,?_⟩,⟨e 11,.ro,?_⟩,⟨e 18,?_⟩,⟨e 5,?_⟩⟩
 ·rw [hS,<- aMa];exact pU (x:=(4,Rows.laid_internal_strconv_uint64pow10)) (by simp [ten])
 ·rw [hS,<- aLA];exact pU (x:=(12,Rows.laid_internal_strconv_float64info)) (by simp [ten])
 ·rw [hS];exact aPA
 ·rw [hS];exact (aPz (j:=0) dc).trans h0
 ·rw [hS,<- aLZ];exact pU (x:=(11,Rows.laid_internal_strconv_optimize)) (by simp [ten])
 ·rw [hS,<- aMd];exact pU (x:=(18,Rows.laid_internal_strconv_pow10Tab)) (by simp [ten])
 ·rw [hS,<- aLU];exact pU (x:=(5,Rows.laid_gauger_template_none)) (by simp [ten])
theorem aMD {e:Nat->TypeId}{f:Nat->Option O}{S:St}(hS:S.hs=aCn e f){k:V->St->Prop}(hk:k (.bool true) S):RC prog 4 [] S k :=
 aNr e (fun q hq=>by
  rw [aMA] at hq;obtain ⟨x,hx,rfl⟩:=List.mem_map.1 hq
  rw [hS];exact pU (List.mem_of_mem_take hx)) hk
theorem aME {e:Nat->TypeId}{f:Nat->Option O}{t:TypeId}(h0:f 0=some (.cells tC t .ro)){xs:List XS}{vx vk:V}{sk:List (Nat × Nat)}{lim:Int}{aw:Nat}(haw:aw < 256)
  (hx:∀ S:St,S.next=aI+15->(∀ j,j < 15->S.hs.get (aI+j)=f j)->LX S vx xs) (hxo:∀ x ∈ xs,x.Ok) (hk:∀ S:St,(∀ j,j < 15->S.hs.get (aI+j)=f j)->SV S vk sk)
  {ρ:Rho} {w:World} {l':List Value} (hg:dZ ρ) (hs:cP ρ (aCn e f) w) (hl:VRs ρ [vx,vk,.int .i64 lim,.int .u8 (.ofNat aw)] l') :
  Calls prog 3 ⟨l'⟩ w fun e' w'=>e'=.returned (.bool true)∧∃ ρ' H',Ext ρ (aCn e f) w ρ' H' w':=by
 have hngl:aI=1000:=rfl;have hroom:room=4096:=rfl
 obtain ⟨S0,h1⟩:=aFd (aJm e f) ⟨.nil,aI+15⟩ fun x hx=>by
  have:x.1 ∈ (aJm e f).map (·.1):=List.mem_map.2 ⟨x,hx,rfl⟩;rw [aKC] at this;exact (show ∀ i ∈ (15 :: (ten.map (·.1) ++ (List.range 15).map (aI+·))),i < room by decide) _ this
 have hn:S0.next=aI+15:=(congrArg Hs.next h1).trans (yX e f)
 have hf:∀ j,j < 15->S0.hs.get (aI+j)=f j:=fun j h=>by rw [h1];exact aPz h
 have h2:=aUo (lim:=lim) haw (hx S0 hn hf) hxo (sk:=sk) (vk:=vk) (fun S' h=>hk S' fun j hj=>(h _ om).trans (hf j hj)) (aRO h0 h1) om om (fun k h=>aMD h1 h)
 cases h2 with
 | mk v S' h3 h4 =>
   subst h4;rw [h1] at h3
   exact (h3.callsOf (fn:=Tryz.f3) kr dc rfl hg hs hl).mono fun e' w' ⟨v',ρ',he,hv,_,hx⟩=>by
    cases hv;exact ⟨he,ρ',_,hx⟩
end Go.Am
namespace Go.Am
open Go.Deep Go.Lib Go.Proofs Go.Proofs.YtigihhfdlgjhbaaGreatDoor
attribute [local irreducible] fN fI fB cR eQ evCode evOps rD kOp aAj wF wH wG kGc aLE aLD kDr kMg drOps fU kK sl
theorem aPx:∀ x ∈ ten,∃ n t,(n,x.2) ∈ Rows.bodyWrongRow.laid∧prog.globalNamed n=some x.1∧(prog.globals[x.1]?).map (·.type)=some t∧tiles prog 5 t x.2=true:=by
 intro x hx;simp only [ten,av,List.not_mem_nil,or_false] at hx
 rcases hx with rfl|rfl|rfl|rfl|rfl|rfl|rfl|rfl|rfl|rfl
 ·exact ⟨ "math/bits.deBruijn32tab", _,by simp [Rows.bodyWrongRow],kr,rfl,kr⟩
 ·exact ⟨ "math/bits.deBruijn64tab", _,by simp [Rows.bodyWrongRow],kr,rfl,kr⟩
 ·exact ⟨ "internal/strconv.float32info", _,by simp [Rows.bodyWrongRow],kr,rfl,kr⟩
 ·exact ⟨ "internal/strconv.float64info", _,by simp [Rows.bodyWrongRow],kr,rfl,kr⟩
 ·exact ⟨ "internal/strconv.optimize", _,by simp [Rows.bodyWrongRow],kr,rfl,kr⟩
 ·exact ⟨ "internal/strconv.uint64pow10", _,by simp [Rows.bodyWrongRow],kr,rfl,kr⟩
 ·exact ⟨ "unicode/utf8.acceptRanges", _,by simp [Rows.bodyWrongRow],kr,rfl,kr⟩
 ·exact ⟨ "gauger/template.none", _,by simp [Rows.bodyWrongRow],kr,rfl,kr⟩
 ·exact ⟨ "unicode/utf8.first", _,by simp [Rows.bodyWrongRow],kr,rfl,kr⟩
 ·exact ⟨ "internal/strconv.pow10Tab", _,by simp [Rows.bodyWrongRow],kr,rfl,kr⟩
theorem aDY {w:World}{n:String}{g:Nat}{cs:Array Value}(h2:prog.globalNamed n=some g)(hv:w.var? prog n=some cs):∃ t f,w.heap[g]?=some (.cells cs t f):=by
 unfold World.var? at hv;rw [h2] at hv;have hv':(match w.heap[g]? with|some (.cells cs _ _)=>some cs|_=>none)=some cs:=hv
 split at hv'
 ·rename_i cs' t' f he
  cases hv';exact ⟨t',f,he⟩
 ·cases hv'
theorem aMC {w:World}(hL:laidMet prog Rows.bodyWrongRow.laid w):∀ x ∈ ten,∃ cs t f,w.heap[x.1]?=some (.cells cs t f)∧cs.toList=flatD x.2:=by
 intro x hx;obtain ⟨n,t,h1,h2,h3,h4⟩:=aPx x hx;obtain ⟨g,t',cs,fuel,p,hg,ht,hv,hd⟩:=laidMet.reads hL h1;obtain rfl:=Option.some.inj (h2.symm.trans hg);obtain rfl:=Option.some.inj (h3.symm.trans ht);obtain ⟨t2,f,he⟩:=aDY h2 hv;exact ⟨cs,t2,f,he,flat_of_trod 5 h4 hd⟩
theorem pK {w:World}{a:Addr}{v:Value}(h:w.cell? a=some v):a.spot=none∧∃ c t f,w.heap[a.block]?=some (.cells c t f)∧c[a.off]?=some v:=by
 unfold World.cell? at h
 split at h
 ·rename_i c t f he
  split at h
  ·cases h
  ·rename_i hs
   exact ⟨by simpa using hs,c,t,f,he,h⟩
 ·cases h
theorem vJ {w:World}{b o n:Nat}{v:Value}(h:w.cell? ((⟨b,o,none⟩:Addr).add n)=some v){c:Array Value}{t:TypeId}{f:Nat × Nat}(hc:w.heap[b]?=some (.cells c t f)):c[o+n]?=some v:=by
 have e:(⟨b,o,none⟩:Addr).add n=⟨b,o+n,none⟩:=by
  unfold Addr.add
  split
  ·rename_i h0;subst h0;rfl
  ·rfl
 rw [e] at h;obtain ⟨_,c',t',f',h1,h2⟩:=pK h;rw [hc] at h1;cases h1;exact h2
theorem aHj:Rows.laid_internal_strconv_float64pow10=(DataW.slice ((List.range 23).map fun i=>.lit (.float .f64 (tB i))) []:DataW Unit):=kr
theorem aMe {w:World}(hL:laidMet prog Rows.bodyWrongRow.laid w):∃ b o cs t f c t2 f2,w.heap[15]?=some (.cells cs t f)∧cs.toList=[.slice (some ⟨b,o,none⟩) 23 23]∧w.heap[b]?=some (.cells c t2 f2)∧∀ i,i < 23->c[o+i]?=some (.float .f64 (tB i)):=by
 obtain ⟨g,t',cs,fuel,p,hg,ht,hv,hd⟩:=laidMet.reads hL (show ("internal/strconv.float64pow10", Rows.laid_internal_strconv_float64pow10) ∈ Rows.bodyWrongRow.laid by simp [Rows.bodyWrongRow]);obtain rfl:=Option.some.inj ((show prog.globalNamed "internal/strconv.float64pow10" = some 15 by kernel_rfl).symm.trans hg);obtain rfl:=Option.some.inj ((show (prog.globals[15]?).map (·.type)=some 471 from rfl).symm.trans ht);obtain ⟨t2,f,he⟩:=aDY hg hv
 rcases open_slice1 (show prog.underlying 471=some (.slice 262) by kernel_rfl) kr hd with ⟨_,h1⟩|⟨a,len,cap,m,n,V,D,Pl,h1,_,hlc,_,hm,hx,hat⟩
 ·rw [aHj] at h1;cases h1
 ·have hm':m=cap:=by rw [hm];rfl
  subst hm';have hx':=congrArg Prod.fst hx;rw [aHj] at hx'
  injection hx' with e1 e2
  have hlen:len=23:=by have:=congrArg List.length e1;simpa using this.symm
  have hcap:m=len:=by have:=congrArg List.length e2;simp at this;omega
  subst hlen;subst hcap
  have hV:∀ i,i < 23->V i=.float .f64 (tB i):=fun i hi=>by
   obtain ⟨k,h2,h3⟩:=trod_float (show prog.underlying 262=some (.float .f64) by kernel_rfl) (hat i hi).2
   have h4:((List.range 23).map fun i=>(DataW.lit (.float .f64 (tB i)):DataW Unit))[i]?=((List.range 23).map D)[i]?:=by rw [e1]
   rw [List.getElem?_map,List.getElem?_map,List.getElem?_range hi] at h4
   have h5:(DataW.lit (.float .f64 (tB i)):DataW Unit)=D i:=by simpa using h4
   have h6:=congrArg Prod.fst h3;rw [<- h5] at h6
   injection h6 with h6
   injection h6 with _ h6
   rw [h6];simpa using h2
  obtain ⟨blk,off,spot⟩:=a;obtain ⟨hs,c,t3,f3,hc,_⟩:=pK (hat 0 dc).1;have hs':spot=none:=hs;subst hs';exact ⟨blk,off,cs,t2,f,c,t3,f3,he,h1,hc,fun i hi=>by rw [<- hV i hi];exact vJ (hat i hi).1 hc⟩
end Go.Am
namespace Go.Am
open Go.Proofs
set_option maxRecDepth 100000
attribute [local irreducible] fN fI fB cR eQ evCode evOps rD kOp aAj wF wH wG kGc aLE aLD kDr kMg drOps fU kK sl
open Go.Proofs.YtigihhfdlgjhbaaGreatDoor Go.Lib Go.Deep
def eT (w:World)(i:Nat):TypeId:=match w.heap[i]? with|some (.cells _ t _)=>t|_=>0
def cszT (w:World)(i:Nat):Nat:=match w.heap[i]? with|some (.cells c _ _)=>c.size|_=>0
def rhoT (w:World)(pl:Loc)(lk lx:Option Loc)(ln:Nat->Option Loc):Rho:=fun i=>if i < aI then some ⟨i,0,cszT w i,false⟩ else if i=aI then some pl else if i=aI+1 then lk else if i=aI+2 then lx else if i < aI+15 then ln (i - (aI+3)) else none
def fT (t:TypeId)(mk mx:Option O)(mn:Nat->Option O):Nat->Option O:=fun j=>if j=0 then some (.cells tC t .ro) else if j=1 then mk else if j=2 then mx else mn (j - 3)
def ArgR (ρ:Rho)(w:World)(l:Option Loc)(m:Option O):Prop:=∀ o,m=some o->∃ l' co,l=some l'∧l'.rw=false∧w.heap[l'.blk]?=some co∧OR ρ l' o co
section
variable {w:World} {pl:Loc} {lk lx:Option Loc} {ln:Nat->Option Loc}
theorem rhoT_globs:dZ (rhoT w pl lk lx ln):=fun g hg=>⟨⟨g,0,cszT w g,false⟩,by simp [rhoT,hg],rfl,rfl⟩
theorem rhoT_p:rhoT w pl lk lx ln aI=some pl:=by
 show (if _ then _ else _)=_;rw [if_neg (by omega),if_pos rfl]
theorem rhoT_k:rhoT w pl lk lx ln (aI+1)=lk:=by
 show (if _ then _ else _)=_;rw [if_neg (by omega),if_neg (by omega),if_pos rfl]
theorem rhoT_x:rhoT w pl lk lx ln (aI+2)=lx:=by
 show (if _ then _ else _)=_;rw [if_neg (by omega),if_neg (by omega),if_neg (by omega),if_pos rfl]
theorem rhoT_n {j:Nat}(h:j < 12):rhoT w pl lk lx ln (aI+3+j)=ln j:=by
 show (if _ then _ else _)=_;rw [if_neg (by omega),if_neg (by omega),if_neg (by omega),if_neg (by omega),if_pos (by omega),show aI+3+j - (aI+3)=j by omega]
theorem tC_of {i:Nat}{v:V}(h:tC[i]?=some v):i < 23∧v=.float .f64 (tB i):=by
 unfold tC at h;rw [List.getElem?_map] at h;obtain ⟨y,hy,rfl⟩:=Option.map_eq_some_iff.1 h;obtain ⟨h1,h2⟩:=List.getElem?_eq_some_iff.1 hy;rw [List.length_range] at h1;rw [List.getElem_range] at h2;exact ⟨h1,by rw [<- h2]⟩
theorem tC_len:tC.length=23:=by unfold tC;rw [List.length_map,List.length_range]
theorem ten_or (hL:laidMet prog Rows.bodyWrongRow.laid w){x:Nat × DataW Unit}(hx:x ∈ ten):∃ l co,rhoT w pl lk lx ln x.1=some l∧w.heap[l.blk]?=some co∧OR (rhoT w pl lk lx ln) l (.cells ((flatD x.2).map ofV1) (eT w x.1) .ro) co∧l.rw=false:=by
 obtain ⟨cs,t,f,h1,h2⟩:=aMC hL x hx;have hok:=List.all_eq_true.1 aUg x hx;simp only [Bool.and_eq_true] at hok;have hlt:x.1 < aI:=Nat.le_of_ble_eq_true hok.2;refine ⟨⟨x.1,0,cszT w x.1,false⟩,_,by simp [rhoT,hlt],h1,?_,rfl⟩;refine ⟨cs,f,by simp [eT,h1],by simp [cszT,h1],?_,fun i v hv=>?_,fun hne=>absurd rfl hne,fun he=>by cases he⟩
 ·have:cs.size=(flatD x.2).length:=by rw [<- h2];simp
  show 0+_ <= _;simp [this]
 ·rw [List.getElem?_map] at hv;obtain ⟨y,hy,rfl⟩:=Option.map_eq_some_iff.1 hv;refine ⟨y,?_,VR.ofV1 (List.all_eq_true.1 hok.1 y (List.mem_of_getElem? hy))⟩;show cs[0+i]?=some y;rw [Nat.zero_add,<- Array.getElem?_toList,h2];exact hy
theorem top_get (hL:laidMet prog Rows.bodyWrongRow.laid w){b o:Nat}{cs:Array Value}{t:TypeId}{f:Nat × Nat}{c:Array Value}{t2:TypeId}{f2:Nat × Nat}(h1:w.heap[15]?=some (.cells cs t f))(h2:cs.toList=[.slice (some ⟨b,o,none⟩) 23 23])(h3:w.heap[b]?=some (.cells c t2 f2))(h4:∀ i,i < 23->c[o+i]?=some (.float .f64 (tB i)))
  {mk mx:Option O} {mn:Nat->Option O} (hk:ArgR (rhoT w ⟨b,o,c.size,false⟩ lk lx ln) w lk mk) (hx:ArgR (rhoT w ⟨b,o,c.size,false⟩ lk lx ln) w lx mx) (hn:∀ j,j < 12->ArgR (rhoT w ⟨b,o,c.size,false⟩ lk lx ln) w (ln j) (mn j))
  {i:Nat} {ob:O} (h:(aCn (eT w) (fT t2 mk mx mn)).get i=some ob):∃ l co,rhoT w ⟨b,o,c.size,false⟩ lk lx ln i=some l∧w.heap[l.blk]?=some co∧OR (rhoT w ⟨b,o,c.size,false⟩ lk lx ln) l ob co∧l.rw=false:=by
 have hngl:aI=1000:=rfl
 rcases aKE h with h5|h5
 ·rcases List.mem_cons.1 h5 with h6|h6
  ·obtain ⟨rfl,h7⟩:=Prod.mk.inj h6;obtain rfl:=Option.some.inj h7;refine ⟨⟨_,0,cszT w 15,false⟩,_,rfl,h1,⟨cs,f,by simp [eT,h1],by simp [cszT,h1],?_,fun i v hv=>?_,fun hne=>absurd rfl hne,fun he=>by cases he⟩,rfl⟩
   ·have:=congrArg List.length h2;simp at this;show 0+1 <= _;omega
   ·cases i with
    | succ i=>simp at hv
    | zero =>
      have hv':v=.slice aI 0 23 23 1 false:=by simpa using hv.symm
      subst hv';refine ⟨.slice (some ⟨b,o,none⟩) 23 23,?_,?_⟩
      ·show cs[0+0]?=_;rw [<- Array.getElem?_toList,h2];rfl
      ·have:=VR.slice (ρ:=rhoT w ⟨b,o,c.size,false⟩ lk lx ln) (id:=aI) 0 23 23 1 false 0 23 rhoT_p (fun _=>rfl) (Nat.le_refl _) (fun h=>by cases h) (Nat.le_refl _) (fun h=>by cases h);exact this
  ·rcases List.mem_append.1 h6 with h6|h6
   ·obtain ⟨x,hx,h7⟩:=List.mem_map.1 h6;obtain ⟨rfl,h8⟩:=Prod.mk.inj h7;obtain rfl:=Option.some.inj h8;exact ten_or hL hx
   ·obtain ⟨j,hj,h7⟩:=List.mem_map.1 h6;obtain ⟨rfl,h8⟩:=Prod.mk.inj h7;have hj:=List.mem_range.1 hj;unfold fT at h8;by_cases e0:j=0
    ·rw [if_pos e0] at h8;obtain rfl:=Option.some.inj h8;subst e0;refine ⟨_,_,rhoT_p,h3,⟨c,f2,rfl,rfl,?_,fun i v hv=>?_,fun hne=>absurd rfl hne,fun he=>by cases he⟩,rfl⟩
     ·rw [tC_len];have:=(Array.getElem?_eq_some_iff.1 (h4 22 (by decide))).1;show o+23 <= _;omega
     ·obtain ⟨hi,rfl⟩:=tC_of hv;exact ⟨_,h4 i hi,.float _ _⟩
    ·rw [if_neg e0] at h8;by_cases e1:j=1
     ·rw [if_pos e1] at h8;obtain ⟨l,co,g1,g2,g3,g4⟩:=hk _ h8;subst e1;exact ⟨l,co,rhoT_k.trans g1,g3,g4,g2⟩
     ·rw [if_neg e1] at h8;by_cases e2:j=2
      ·rw [if_pos e2] at h8;obtain ⟨l,co,g1,g2,g3,g4⟩:=hx _ h8;subst e2;exact ⟨l,co,rhoT_x.trans g1,g3,g4,g2⟩
      ·rw [if_neg e2] at h8;obtain ⟨l,co,g1,g2,g3,g4⟩:=hn (j - 3) (by omega) _ h8;have:=rhoT_n (w:=w) (pl:=⟨b,o,c.size,false⟩) (lk:=lk) (lx:=lx) (ln:=ln) (j:=j - 3) (by omega);rw [show aI+3+(j - 3)=aI+j by omega] at this;exact ⟨l,co,this.trans g1,g3,g4,g2⟩
 ·exact absurd h5 (by show ¬ T.get fA i .nil=some ob;rw [xK];simp)
theorem top_world (hL:laidMet prog Rows.bodyWrongRow.laid w){mk mx:Option O}{mn:Nat->Option O}{xs:List XS}{vx vk:V}{sk:List (Nat × Nat)}{lim:Int}{aw:Nat}{l':List Value}(haw:aw < 256)
  (hargs:∀ ρ:Rho,ρ (aI+1)=lk->ρ (aI+2)=lx->(∀ j,j < 12->ρ (aI+3+j)=ln j)->ArgR ρ w lk mk∧ArgR ρ w lx mx∧(∀ j,j < 12->ArgR ρ w (ln j) (mn j))∧VRs ρ [vx,vk,.int .i64 lim,.int .u8 (.ofNat aw)] l')
  (hx:∀ S:St,S.next=aI+15->S.hs.get (aI+2)=mx->(∀ j,j < 12->S.hs.get (aI+3+j)=mn j)->LX S vx xs) (hxo:∀ x ∈ xs,x.Ok) (hk:∀ S:St,S.hs.get (aI+1)=mk->SV S vk sk) :
  Calls prog 3 ⟨l'⟩ w fun e w'=>e=.returned (.bool true)∧RowKit.Below w.heap.size w w':=by
 obtain ⟨b,o,cs,t,f,c,t2,f2,h1,h2,h3,h4⟩:=aMe hL;obtain ⟨a1,a2,a3,a4⟩:=hargs (rhoT w ⟨b,o,c.size,false⟩ lk lx ln) rhoT_k rhoT_x fun j h=>rhoT_n h;have hget:=fun {i:Nat} {ob:O}=>top_get (i:=i) (ob:=ob) hL h1 h2 h3 h4 a1 a2 a3
 have hsim:cP (rhoT w ⟨b,o,c.size,false⟩ lk lx ln) (aCn (eT w) (fT t2 mk mx mn)) w:=by
  refine ⟨fun i ob h=>?_,fun i i' l l1 h h' hl hl' hr hne=>?_,fun i hi=>?_⟩
  ·obtain ⟨l,co,g1,g2,g3,_⟩:=hget h;exact ⟨l,co,g1,g2,g3⟩
  ·obtain ⟨ob,ho⟩:=Option.isSome_iff_exists.1 h;obtain ⟨l2,co,g1,_,_,g4⟩:=hget ho;cases g1.symm.trans hl;rw [g4] at hr;cases hr
  ·rw [yX] at hi;simp only [rhoT];rw [if_neg (by omega),if_neg (by omega),if_neg (by omega),if_neg (by omega),if_neg (by omega)]
 have hown:∀ k,¬ Own (rhoT w ⟨b,o,c.size,false⟩ lk lx ln) (aCn (eT w) (fT t2 mk mx mn)) k:=by
  rintro k ⟨i,l,h,hl,hr,_⟩;obtain ⟨ob,ho⟩:=Option.isSome_iff_exists.1 h;obtain ⟨l1,co,g1,_,_,g4⟩:=hget ho;cases g1.symm.trans hl;rw [g4] at hr;cases hr
 refine (aME (e:=eT w) (f:=fT t2 mk mx mn) (t:=t2) rfl haw (fun S hn hS=>hx S hn (hS 2 (by decide)) fun j h=>?_) hxo (fun S hS=>hk S (hS 1 (by decide))) rhoT_globs hsim a4).mono fun e w' ⟨he,ρ',H',hx'⟩ =>
  ⟨he,hx'.os,hx'.tape,hx'.output,hx'.size,fun k hk'=>hx'.keep k hk' (hown k)⟩
 have:=hS (3+j) (by omega);rw [show aI+(3+j)=aI+3+j by omega] at this;rw [this];unfold fT;rw [if_neg (by omega),if_neg (by omega),if_neg (by omega),show 3+j - 3=j by omega]
end
end Go.Am
namespace Go.Am
open Go.Proofs
set_option maxRecDepth 100000
attribute [local irreducible] fN fI fB cR eQ evCode evOps rD kOp aAj wF wH wG kGc aLE aLD kDr kMg drOps fU kK sl
open Go.Proofs.YtigihhfdlgjhbaaGreatDoor Go.Lib Go.Deep
section
variable {H:Type} {enc:TypeId × Value->H} {w:World}
theorem row_u8 {f:Nat}{v:Value}{y:DataW H × List MemPlace}(h:DataW.trod enc prog w 0 (fun _=>true) true f 5 [v]=some y):∃ n:Nat,v=.int .u8 (.ofNat n)∧n < 256:=by
 obtain ⟨n,h1,_,h2⟩:=DataW.trod_int Tryz.underlying5 h;cases h1
 have h3:IntKind.min .u8 <= n∧n <= IntKind.max .u8:=by simpa [Lit.wf] using h2
 simp [IntKind.min,IntKind.max,IntKind.signed,IntKind.bits] at h3;exact ⟨n.toNat,by rw [Int.ofNat_eq_natCast,Int.toNat_of_nonneg h3.1],by omega⟩
theorem add_none (b o n:Nat):(⟨b,o,none⟩:Addr).add n=⟨b,o+n,none⟩:=by
 unfold Addr.add
 split
 ·rename_i h0;subst h0;rfl
 ·rfl
theorem smallV_of:∀ (l:List (Nat × Nat)) (i:Nat) (v:V),(dR l)[i]?=some v->∃ s,l[i / 2]?=some s∧(i % 2=0∧v=.int .u8 (.ofNat s.1) ∨ i % 2=1∧v=.int .u8 (.ofNat s.2))
 | [],i,v,h=>by simp [dR] at h
 | s :: l,0,v,h=>⟨s,rfl,.inl ⟨rfl,by simpa [dR] using h.symm⟩⟩
 | s :: l,1,v,h=>⟨s,rfl,.inr ⟨rfl,by simpa [dR] using h.symm⟩⟩
 | s :: l,i+2,v,h=>by
   obtain ⟨s',h1,h2⟩:=smallV_of l i v (by simpa [dR] using h);exact ⟨s',by rw [show (i+2) / 2=i / 2+1 by omega];simpa using h1,by rw [show (i+2) % 2=i % 2 by omega];exact h2⟩
theorem range_get {α:Type}{q:Nat->α}{n i:Nat}{s:α}(h:((List.range n).map q)[i]?=some s):i < n∧s=q i:=by
 rw [List.getElem?_map] at h;obtain ⟨y,hy,rfl⟩:=Option.map_eq_some_iff.1 h;obtain ⟨h2,h3⟩:=List.getElem?_eq_some_iff.1 hy;rw [List.length_range] at h2;rw [List.getElem_range] at h3;exact ⟨h2,by rw [<- h3]⟩
theorem open_small {v:Value}{fuel:Nat}{x:DataW H × List MemPlace}(id:Nat)(hd:DataW.trod enc prog w 0 (fun _=>true) true fuel 23 [v]=some x) :
  ∃ (l:Option Loc) (m:Option O) (u:V) (s:List (Nat × Nat)),(∀ ρ,ArgR ρ w l m)∧(∀ S:St,S.hs.get id=m->SV S u s)∧∀ ρ:Rho,ρ id=l->VR ρ u v:=by
 rcases open_slice_pairs Tryz.underlying23 Tryz.underlying109 (by kernel_rfl) rfl rfl (by kernel_rfl) (by kernel_rfl) hd with ⟨h1,_⟩|⟨⟨blk,off,spot⟩,len,cap,m,n,V0,V1,D0,D1,P0,P1,h1,_,hlc,_,hm,_,hx⟩
 ·cases h1;exact ⟨none,none,.nilSlice,[],fun _ _ h=>(by cases h),fun _ _=>.inl ⟨rfl,.inl rfl⟩,fun _ _=>.nilSlice⟩
 ·cases h1
  have hm':m=cap:=by rw [hm];rfl
  subst hm'
  have hsp:0 < m->spot=none:=fun h=>by
   obtain ⟨h2,_⟩:=hx 0 h;exact (pK (a:=⟨blk,off,spot⟩) (by simpa [Addr.add] using h2)).1
  rcases Nat.eq_zero_or_pos len with h0|h0
  ·subst h0
   exact ⟨some ⟨blk,off,0,false⟩,none,.slice id 0 0 0 2 false,[],fun _ _ h=>(by cases h),fun _ _=>.inl ⟨rfl,.inr ⟨_,_,rfl⟩⟩,
    fun ρ hρ=>VR.sliceS 0 0 0 2 false 0 m spot hρ (fun h=>by omega) (Nat.zero_le _) (fun h=>by cases h) (Nat.le_refl _) (fun h=>by cases h) hsp⟩
  ·obtain rfl:=hsp (by omega);obtain ⟨_,c,row,f,hc,_⟩:=pK (a:=⟨blk,off,none⟩) (by simpa [Addr.add] using (hx 0 (by omega)).1)
   have hcell:∀ i,i < len->∃ q:Nat × Nat,c[off+i * 2]?=some (.int .u8 (.ofNat q.1))∧c[off+i * 2+1]?=some (.int .u8 (.ofNat q.2)):=by
    intro i hi;obtain ⟨h2,h3,h4,h5⟩:=hx i (by omega);obtain ⟨n0,e0,_⟩:=row_u8 h4;obtain ⟨n1,e1,_⟩:=row_u8 h5;rw [e0] at h2;rw [e1] at h3;exact ⟨(n0,n1),vJ h2 hc,by rw [Nat.add_assoc];exact vJ h3 hc⟩
   obtain ⟨q,hq⟩:=choose_lt hcell;refine ⟨some ⟨blk,off,c.size,false⟩,some (.cells (dR ((List.range len).map q)) row .ro),.slice id 0 len len 2 false,(List.range len).map q,?_,fun S hS=>.inr ⟨id,len,false,[],row,.ro,by simp,by simp,by rw [hS];simp⟩,fun ρ hρ=>?_⟩
   ·intro ρ o ho;cases ho;refine ⟨_,_,rfl,rfl,hc,⟨c,f,rfl,rfl,?_,fun i v hv=>?_,fun h=>absurd rfl h,fun h=>by cases h⟩⟩
    ·show off+(dR _).length <= _;rw [pC,List.length_map,List.length_range];have:=(Array.getElem?_eq_some_iff.1 (hq (len - 1) (by omega)).2).1;omega
    ·obtain ⟨s,h2,h3⟩:=smallV_of _ _ _ hv;obtain ⟨h4,rfl⟩:=range_get h2;show ∃ v',c[off+i]?=some v'∧_
     rcases h3 with ⟨h5,rfl⟩|⟨h5,rfl⟩
     ·refine ⟨_,?_,.int _ _⟩;have:=(hq _ h4).1;rwa [show off+i / 2 * 2=off+i by omega] at this
     ·refine ⟨_,?_,.int _ _⟩;have:=(hq _ h4).2;rwa [show off+i / 2 * 2+1=off+i by omega] at this
   ·exact VR.slice (ρ:=ρ) (id:=id) (l:=⟨blk,off,c.size,false⟩) 0 len len 2 false 0 m hρ (fun _=>rfl) hlc (fun h=>by cases h) (Nat.le_refl _) (fun h=>by cases h)
theorem cz:prog.cellsOf 60=5∧prog.cellsOf 5=1∧prog.cellsOf 23=1∧prog.cellsOf 47=1∧prog.cellsOf 3=1∧prog.cellsOf 4=1:=⟨by kernel_rfl,by kernel_rfl,by kernel_rfl,by kernel_rfl,by kernel_rfl,by kernel_rfl⟩
theorem open_row {fuel:Nat}{cs:List Value}{y:DataW H × List MemPlace}(h:DataW.trod enc prog w 0 (fun _=>true) true fuel 60 cs=some y) :
  ∃ (nm:Nat) (u:Value) (b:Nat) (t:Int) (timed:Bool),cs=[.int .u8 (.ofNat nm),u,.int .u64 (.ofNat b),.int .i64 t,.bool timed]∧b < 18446744073709551616∧-9223372036854775808 <= t∧t <= 9223372036854775807∧∃ (n:Nat) (x:DataW H × List MemPlace),DataW.trod enc prog w 0 (fun _=>true) true n 23 [u]=some x:=by
 obtain ⟨z1,z2,z3,z4,z5,z6⟩:=cz;obtain ⟨xs,n,rfl,hx,hl,hxl,hall⟩:=DataW.trod_struct Tryz.underlying60 h;rw [z1] at hl
 match cs,hl with
 | [v0,v1,v2,v3,v4],_ =>
   match xs,hxl with
   | [y0,y1,y2,y3,y4],_ =>
     have g0:=hall 0 _ rfl;have g1:=hall 1 _ rfl;have g2:=hall 2 _ rfl;have g3:=hall 3 _ rfl;have g4:=hall 4 _ rfl;simp [z2] at g0;simp [z3] at g1;simp [z4] at g2;simp [z5] at g3;simp [z6] at g4;obtain ⟨nm,rfl,_⟩:=row_u8 g0;obtain ⟨b,hb,_,hbw⟩:=DataW.trod_int Tryz.underlying47 g2;cases hb;obtain ⟨t,ht,_,htw⟩:=DataW.trod_int Tryz.underlying3 g3;cases ht;obtain ⟨z,hz,_⟩:=DataW.trod_bool Tryz.underlying4 g4;cases hz
     have b3:IntKind.min .u64 <= b∧b <= IntKind.max .u64:=by simpa [Lit.wf] using hbw
     have t3:IntKind.min .i64 <= t∧t <= IntKind.max .i64:=by simpa [Lit.wf] using htw
     simp [IntKind.min,IntKind.max,IntKind.signed,IntKind.bits] at b3 t3;obtain ⟨b',rfl⟩:=Int.eq_ofNat_of_zero_le b3.1;exact ⟨nm,v1,b',t,z,rfl,by omega,by omega,by omega,n,y1,g1⟩
structure RowG (w:World)(c:Array Value)(off id i:Nat)(q:XS × Option Loc × Option O):Prop where
 ok:q.1.Ok
 arg:∀ ρ,ArgR ρ w q.2.1 q.2.2
 sv:∀ S:St,S.hs.get (id+i)=q.2.2->SV S q.1.v q.1.s
 at':∀ ρ:Rho,ρ (id+i)=q.2.1->∀ k v,q.1.cs[k]?=some v->∃ v',c[off+i * 5+k]?=some v'∧VR ρ v v'
 all:∀ k,k < 5->off+i * 5+k < c.size
instance:Inhabited XS:=⟨⟨0,.nilSlice,[],0,0,false⟩⟩
theorem XS.cs_len (x:XS):x.cs.length=5:=rfl
theorem cs_of:∀ {xs:List XS} {i:Nat} {v:V},(xs.flatMap XS.cs)[i]?=some v->∃ x,xs[i / 5]?=some x∧x.cs[i % 5]?=some v
 | [],i,v,h=>by simp at h
 | x :: xs,i,v,h=>by
   rw [List.flatMap_cons] at h
   rcases Nat.lt_or_ge i 5 with h5|h5
   ·rw [List.getElem?_append_left (by rw [XS.cs_len];exact h5)] at h;exact ⟨x,by rw [Nat.div_eq_of_lt h5];rfl,by rw [Nat.mod_eq_of_lt h5];exact h⟩
   ·rw [List.getElem?_append_right (by rw [XS.cs_len];exact h5),XS.cs_len] at h;obtain ⟨y,h1,h2⟩:=cs_of h;exact ⟨y,by rw [show i / 5=(i - 5) / 5+1 by omega];simpa using h1,by rw [show i % 5=(i - 5) % 5 by omega];exact h2⟩
theorem cs_row:∀ {xs:List XS} {j:Nat} (h:j < xs.length),((xs.flatMap XS.cs).drop (5 * j)).take 5=xs[j].cs
 | x :: xs,0,_=>by
   rw [List.flatMap_cons];exact List.take_left' rfl
 | x :: xs,j+1,h=>by
   rw [List.flatMap_cons,show 5 * (j+1)=5+5 * j by omega,<- List.drop_drop];exact cs_row (xs:=xs) (by simpa using h)
theorem cs_size:∀ xs:List XS,(xs.flatMap XS.cs).length=5 * xs.length
 | []=>rfl
 | x :: xs=>by rw [List.flatMap_cons,List.length_append,cs_size xs,XS.cs_len,List.length_cons];omega
theorem open_rows {v:Value}{fuel:Nat}{x:DataW H × List MemPlace}(ix id:Nat)(hd:DataW.trod enc prog w 0 (fun _=>true) true fuel 22 [v]=some x) :
  ∃ (l:Option Loc) (m:Option O) (ln:Nat->Option Loc) (mn:Nat->Option O) (u:V) (xs:List XS),(∀ x ∈ xs,x.Ok)∧(∀ j ρ,ArgR ρ w (ln j) (mn j)) ∧
    (∀ S:St,ix < S.next->id+12 <= S.next->S.hs.get ix=m->(∀ j,j < 12->S.hs.get (id+j)=mn j)->LX S u xs) ∧
    ∀ ρ:Rho,ρ ix=l->(∀ j,j < 12->ρ (id+j)=ln j)->VR ρ u v∧ArgR ρ w l m:=by
 rcases open_slice Tryz.underlying22 hd with ⟨h1,_⟩|⟨⟨blk,off,spot⟩,len,cap,m,n,D,Pl,h1,_,hlc,_,hm,_,hx⟩
 ·cases h1;exact ⟨none,none,fun _=>none,fun _=>none,.nilSlice,[],fun _ h=>(by cases h),fun _ _ _ h=>(by cases h),fun _ _ _ _ _=>.inl ⟨rfl,.inl rfl⟩,fun _ _ _=>⟨.nilSlice,fun _ h=>(by cases h)⟩⟩
 ·cases h1
  have hm':m=cap:=by rw [hm];rfl
  subst hm'
  have hcells:∀ i,i < m->∃ cs' y,(∀ k,k < 5->∃ v',cs'[k]?=some v'∧w.cell? (((⟨blk,off,spot⟩:Addr).add (i * 5)).add k)=some v')∧cs'.length=5∧DataW.trod enc prog w 0 (fun _=>true) true n 60 cs'=some y:=fun i hi=>by
   obtain ⟨cs',h2,h3⟩:=hx i hi;rw [cz.1] at h2;unfold World.cells? at h2;rw [if_pos (Nat.zero_le _)] at h2;obtain ⟨h4,h5⟩:=mapM_at h2;rw [List.length_range] at h4;refine ⟨cs',_,fun k hk=>?_,h4,h3⟩;have h6:=h5 k k (by rw [List.getElem?_range hk]);rw [List.getElem?_eq_getElem (by omega)] at h6;exact ⟨_,List.getElem?_eq_getElem (by omega),h6⟩
  have hsp:0 < m->spot=none:=fun h=>by
   obtain ⟨cs',y,h2,_⟩:=hcells 0 h;obtain ⟨v',_,h3⟩:=h2 0 (by decide);exact (pK (a:=⟨blk,off,spot⟩) (by simpa [Addr.add] using h3)).1
  rcases Nat.eq_zero_or_pos len with h0|h0
  ·subst h0
   exact ⟨some ⟨blk,off,0,false⟩,none,fun _=>none,fun _=>none,.slice ix 0 0 0 5 false,[],fun _ h=>(by cases h),fun _ _ _ h=>(by cases h),fun _ _ _ _ _=>.inl ⟨rfl,.inr ⟨_,_,rfl⟩⟩,
    fun ρ hρ _=>⟨VR.sliceS 0 0 0 5 false 0 m spot hρ (fun h=>by omega) (Nat.zero_le _) (fun h=>by cases h) (Nat.le_refl _) (fun h=>by cases h) hsp,fun _ h=>(by cases h)⟩⟩
  ·obtain rfl:=hsp (by omega)
   obtain ⟨c,row,f,hc⟩:∃ c row f,w.heap[blk]?=some (.cells c row f):=by
    obtain ⟨cs',y,h2,_⟩:=hcells 0 (by omega);obtain ⟨v',_,h3⟩:=h2 0 (by decide);obtain ⟨_,c,row,f,hc,_⟩:=pK (a:=⟨blk,off,none⟩) (by simpa [Addr.add] using h3);exact ⟨c,row,f,hc⟩
   have hrow:∀ i,i < len->∃ q,RowG w c off id i q:=fun i hi=>by
    obtain ⟨cs',y,h2,h3,h4⟩:=hcells i (by omega);obtain ⟨nm,u,b,t,z,rfl,hb,ht1,ht2,n',x',h5⟩:=open_row h4;obtain ⟨l,mo,u',s,g1,g2,g3⟩:=open_small (id+i) h5
    have hat:∀ k,k < 5->∃ v',[Value.int .u8 (.ofNat nm),u,.int .u64 (.ofNat b),.int .i64 t,.bool z][k]?=some v'∧c[off+i * 5+k]?=some v':=fun k hk=>by
     obtain ⟨v',g4,g5⟩:=h2 k hk;rw [add_none] at g5;exact ⟨v',g4,vJ g5 hc⟩
    refine ⟨(⟨nm,u',s,b,t,z⟩,l,mo),⟨hb,ht1,ht2⟩,g1,g2,fun ρ hρ k v hv=>?_,fun k hk=>?_⟩
    ·have hk:k < 5:=(List.getElem?_eq_some_iff.1 hv).1;obtain ⟨v',g4,g5⟩:=hat k hk;refine ⟨v',g5,?_⟩;have hv':[V.int .u8 (.ofNat nm),u',.int .u64 (.ofNat b),.int .i64 t,.bool z][k]?=some v:=hv
     match k,hk with
     | 0,_=>simp at hv' g4;subst hv';subst g4;exact .int _ _
     | 1,_=>simp at hv' g4;subst hv';subst g4;exact g3 ρ hρ
     | 2,_=>simp at hv' g4;subst hv';subst g4;exact .int _ _
     | 3,_=>simp at hv' g4;subst hv';subst g4;exact .int _ _
     | 4,_=>simp at hv' g4;subst hv';subst g4;exact .bool _
    ·obtain ⟨v',_,g5⟩:=hat k hk;exact (Array.getElem?_eq_some_iff.1 g5).1
   obtain ⟨q,hq⟩:=choose_lt hrow
   let xs:=(List.range (min len 12)).map fun i=>(q i).1
   have hxl:xs.length=min len 12:=by simp [xs]
   have hxa:∀ (i:Nat) (x:XS),xs[i]?=some x->i < min len 12∧x=(q i).1:=fun i x h=>range_get h;refine ⟨some ⟨blk,off,c.size,false⟩,some (.cells (xs.flatMap XS.cs) row .ro),fun j=>if j < min len 12 then (q j).2.1 else none,fun j=>if j < min len 12 then (q j).2.2 else none,.slice ix 0 len len 5 false,xs,fun x hx=>?_,fun j ρ=>?_,fun S h2 h3 h4 h5=>?_,fun ρ hρ hn=>⟨?_,?_⟩⟩
   ·obtain ⟨i,hi⟩:=List.getElem?_of_mem hx;obtain ⟨h1,rfl⟩:=hxa i x hi;exact (hq i (by omega)).ok
   ·by_cases hj:j < min len 12
    ·simp only [if_pos hj];exact (hq j (by omega)).arg ρ
    ·simp only [if_neg hj];exact fun _ h=>by cases h
   ·refine .inr ⟨ix,len,len,false,_,row,.ro,rfl,hxl,Nat.le_refl _,h2,h4,fun j h=>cs_row h,fun x hx S' hS'=>?_⟩;obtain ⟨i,hi⟩:=List.getElem?_of_mem hx;obtain ⟨h1,rfl⟩:=hxa i x hi;refine (hq i (by omega)).sv S' ?_;exact (hS' _ (by omega)).trans ((h5 i (by omega)).trans (if_pos h1))
   ·exact VR.slice (ρ:=ρ) (id:=ix) (l:=⟨blk,off,c.size,false⟩) 0 len len 5 false 0 m hρ (fun _=>rfl) hlc (fun h=>by cases h) (Nat.le_refl _) (fun h=>by cases h)
   ·intro o ho;cases ho;refine ⟨_,_,rfl,rfl,hc,⟨c,f,rfl,rfl,?_,fun i v hv=>?_,fun h=>absurd rfl h,fun h=>by cases h⟩⟩
    ·show off+(xs.flatMap XS.cs).length <= _;rw [cs_size,hxl];have:=(hq (min len 12 - 1) (by omega)).all 4 (by decide);omega
    ·obtain ⟨x,h2,h3⟩:=cs_of hv;obtain ⟨h4,rfl⟩:=hxa _ _ h2;obtain ⟨v',g1,g2⟩:=(hq (i / 5) (by omega)).at' ρ ((hn _ (by omega)).trans (if_pos h4)) _ _ h3;refine ⟨v',?_,g2⟩;show c[off+i]?=_;rwa [show off+i / 5 * 5+i % 5=off+i by omega] at g1
end
end Go.Am
namespace Go.Am
open Go.ChangeAt Go.ChangeShapes Go.Deep Go.Lib Go.Proofs Go.Proofs.YtigihhfdlgjhbaaGreatDoor Go.RowKit Go.WideShapes
attribute [local irreducible] fN fI fB cR eQ evCode evOps rD kOp aAj wF wH wG kGc aLE aLD kDr kMg drOps fU kK sl
theorem aRj:ownKnob prog.godebug=none:=kr
theorem aAs:laidOutB prog=true:=kr
theorem aWc {W:World}{r:Reach}{base:Nat}{v:Value}(h:Value.okWide prog W r base 5 v):∃ k n,v=.int k n:=by
 simp only [Value.okWide,Tryz.underlying5] at h;unfold Cell.okWide at h;rw [Tryz.underlying5] at h;unfold Cell.ok at h;rw [Tryz.underlying5] at h
 cases v <;> first|exact ⟨_,_,rfl⟩|exact h.elim
theorem aTV {W:World}{r:Reach}{base:Nat}{v:Value}(h:Value.okWide prog W r base 3 v):∃ k n,v=.int k n:=by
 simp only [Value.okWide,Tryz.underlying3] at h;unfold Cell.okWide at h;rw [Tryz.underlying3] at h;unfold Cell.ok at h;rw [Tryz.underlying3] at h
 cases v <;> first|exact ⟨_,_,rfl⟩|exact h.elim
theorem aRv {H:Type}{enc:TypeId × Value->H}{w:World}{f:Nat}{v:Value}{y:DataW H × List MemPlace}(h:DataW.trod enc prog w 0 (fun _=>true) true f 3 [v]=some y):∃ n:Int,v=.int .i64 n:=by
 obtain ⟨n,h1,_,_⟩:=DataW.trod_int Tryz.underlying3 h;cases h1;exact ⟨n,rfl⟩
theorem aNz {H:Type}{enc:TypeId × Value->H}{W:World}{base:Nat}{v0 v1 v3 v2:Value}{d0 d1 d3 d2:DataW H}{p0 p1 p3 p2:List MemPlace}{r:Reach}(h0:DataW.Trod enc prog W 0 (fun _=>true) true 22 v0 d0 p0)(h1:DataW.Trod enc prog W 0 (fun _=>true) true 23 v1 d1 p1)(h3:DataW.Trod enc prog W 0 (fun _=>true) true 3 v3 d3 p3)(h2:DataW.Trod enc prog W 0 (fun _=>true) true 5 v2 d2 p2)
  (hv0:Value.okWide prog W r base 22 v0) (hv1:Value.okWide prog W r base 23 v1) (hv3:Value.okWide prog W r base 3 v3) (hv2:Value.okWide prog W r base 5 v2) (hL:laidMet prog Rows.bodyWrongRow.laid W) :
  Calls prog 3 #[v0,v1,v3,v2] W fun e w'=>e=.returned (.bool true)∧Below W.heap.size W w':=by
 have hngl:aI=1000:=rfl;obtain ⟨f0,g0⟩:=h0;obtain ⟨f1,g1⟩:=h1;obtain ⟨f2,g2⟩:=h2;obtain ⟨f3,g3⟩:=h3
 have e0:DataW.trod enc prog W 0 (fun _=>true) true f0 22 [v0]=some (d0,p0):=by
  obtain ⟨a,len,cap,rfl⟩:=okWide_slice Tryz.underlying22 hv0;exact g0
 have e1:DataW.trod enc prog W 0 (fun _=>true) true f1 23 [v1]=some (d1,p1):=by
  obtain ⟨a,len,cap,rfl⟩:=okWide_slice Tryz.underlying23 hv1;exact g1
 have e2:DataW.trod enc prog W 0 (fun _=>true) true f2 5 [v2]=some (d2,p2):=by
  obtain ⟨k,n,rfl⟩:=aWc hv2;exact g2
 have e3:DataW.trod enc prog W 0 (fun _=>true) true f3 3 [v3]=some (d3,p3):=by
  obtain ⟨k,n,rfl⟩:=aTV hv3;exact g3
 obtain ⟨aw,rfl,haw⟩:=row_u8 e2;obtain ⟨lim,rfl⟩:=aRv e3;obtain ⟨lk,mk,vk,sk,a1,a2,a3⟩:=open_small (aI+1) e1;obtain ⟨lx,mx,ln,mn,vx,xs,b1,b2,b3,b4⟩:=open_rows (aI+2) (aI+3) e0
 exact top_world hL haw (fun ρ r1 r2 r3=>⟨a1 ρ,(b4 ρ r2 r3).2,fun j _=>b2 j ρ,.cons (b4 ρ r2 r3).1 (.cons (a3 ρ r1) (.cons (.int _ _) (.cons (.int _ _) .nil)))⟩)
  (fun S hn hS hS'=>b3 S om om hS hS') b1 a2
end Go.Am
