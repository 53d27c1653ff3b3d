/- Part 8 of the proof that BodyLimits returns true, and leaves its arguments as they were, for every input, over a start where the listed variables hold what the program lays: the statement Rows.BodyLimitsCardSaid. -/
import Derived.Test.YtaohpnakjlokaaaGreatDoorWAg
import Derived.Test.YtaohpnakjlokaaaGreatDoorWAf
import Derived.Test.YtaohpnakjlokaaaGreatDoorWAa
import Derived.KernelRfl
import Derived.Test.YtaohpnakjlokaaaGreatDoorWAd
import Derived.Test.YtaohpnakjlokaaaGreatDoorWAc
import Derived.Lib.LaidU8
import Derived.Test.YtaohpnakjlokaaaGreatDoorRows
import Derived.Deep.SlicePairs
import Derived.ProofKit
import Derived.PinnedBridge
import Derived.Lay
set_option linter.unusedVariables false
set_option linter.unusedSimpArgs false
set_option maxRecDepth 100000
set_option maxHeartbeats 4000000
namespace Go.Am
open Go.Proofs
attribute [local irreducible] fN fI fB bX eR evCode evOps rX kOp aAv wW uM wX kGc aKT aKS kDr kMg drOps eN kT sl
section
attribute [local irreducible] aU bR eG bI
theorem aNe {v:Nat}(hv:v < 18446744073709551616):aHR (Int.ofNat v)=Int.ofNat (dG v):=by
 unfold aHR
 have e1:(Int.ofNat v).fdiv (2 ^ min 52 IntKind.u64.bits)=Int.ofNat (v / 2 ^ 52):=qA v (2 ^ 52)
 rw [e1,show (2047:Int)=Int.ofNat 2047 from rfl]
 have h1:v / 2 ^ 52 < 4096:=by omega
 rw [rS (b:=2047) om om,show (v / 2 ^ 52) &&& 2047=dG v from Nat.and_two_pow_sub_one_eq_mod (v / 2 ^ 52) 11]
 exact rQ .i64 _ (by simp [IntKind.min,IntKind.signed,IntKind.bits] <;> omega) (by have:dG v < 2048:=Nat.mod_lt _ dc;simp [IntKind.max,IntKind.signed,IntKind.bits] <;> omega)
theorem aKL {v:Nat}(hv:v < 18446744073709551616):aBC (Int.ofNat v)=Int.ofNat (kE v):=by
 unfold aBC
 rw [show (4503599627370495:Int)=Int.ofNat 4503599627370495 from rfl,rS (b:=4503599627370495) hv om]
 exact congrArg Int.ofNat (Nat.and_two_pow_sub_one_eq_mod v 52)
theorem aKV {v:Nat}(hv:v < 18446744073709551616):aBO (Int.ofNat v)=Int.ofNat (jJ v):=by
 unfold aBO jJ
 rw [aNe hv,aKL hv]
 simp only [jE,bH,beq_iff_eq,decide_eq_true_eq]
 have h0:∀ n:Nat,(0:Int) < Int.ofNat n ↔ 0 < n:=fun n=>by show (0:Int) < (n:Int) ↔ _;omega
 have h2:Int.ofNat (dG v)=2047 ↔ dG v=2047:=by show ((dG v:Nat):Int)=2047 ↔ _;omega
 have h3:Int.ofNat (kE v)=0 ↔ kE v=0:=by show ((kE v:Nat):Int)=0 ↔ _;omega
 simp only [h0,h2,h3]
 split <;> (try split) <;> (try split) <;> rfl
def bM (v:Nat):Nat:=if jJ v=4 then 4609434218613702656 else v
theorem aRI {v:Nat}(hv:v < 18446744073709551616):bN (Int.ofNat v)=Int.ofNat (bM v):=by
 unfold bN bM
 rw [aKV hv,jE]
 by_cases h:jJ v=4
 ·rw [h,if_pos rfl];rfl
 ·rw [if_neg h]
  have:(Int.ofNat (jJ v) == (4:Int))=false:=by
   rw [beq_eq_false_iff_ne]
   intro e
   have:(jJ v:Int)=4:=e
   omega
  rw [this]
theorem aSU {v:Nat}(hv:v < 18446744073709551616):bM v < 18446744073709551616:=by
 unfold bM;split <;> omega
theorem aOZ (v:Nat):jJ (bM v) ≠ 4:=by
 unfold bM
 split
 ·decide
 ·assumption
structure XS where
 nm:Nat
 v:V
 s:List (Nat × Nat)
 b:Nat
 t:Int
 st:Bool
def XS.cs (x:XS):List V:=[.int .u8 (.ofNat x.nm),x.v,.int .u64 (.ofNat x.b),.int .i64 x.t,.bool x.st]
structure XS.Ok (x:XS):Prop where
 b:x.b < 18446744073709551616
 t1:-9223372036854775808 ≤ x.t
 t2:x.t ≤ 9223372036854775807
noncomputable def XS.smp (x:XS):eA:=⟨eU (smpT (iO.getD (x.nm % 8) []) x.s),bM x.b,x.st,tmN x.st x.t⟩
theorem XS.met (x:XS):iO.getD (x.nm % 8) [] ∈ iO:=getD_in (Nat.mod_lt _ dc)
theorem XS.smp_ok {x:XS}(h:x.Ok):dX x.smp:=by
 have hok:nH x.smp.l:=Go.Am.smp_ok x.met x.s
 refine ⟨hok,smp_names x.s,fun q hq hn=>?_,?_,aSU h.b,aOZ _,?_,?_,fun e=>?_⟩
 ·rcases (smp_mem q).1 hq with h1|⟨_,h2⟩
  ·exact absurd (by rw [h1]) hn
  ·exact (made_names x.s q (ofS_mem h2).1).2
 ·have:getL aW x.smp.l=iO.getD (x.nm % 8) []:=jI (q:=(aW,iO.getD (x.nm % 8) [])) (iJ hok.asc) ((smp_mem _).2 (.inl rfl))
  rw [this];exact x.met
 ·show _ ≤ tmN x.st x.t
  cases x.st with
  | false=>show _ ≤ (0:Int);omega
  | true=>exact h.t1
 ·show tmN x.st x.t ≤ _
  cases x.st with
  | false=>show (0:Int) ≤ _;omega
  | true=>exact h.t2
 ·have e':x.st=false:=e
  show tmN x.st x.t=0
  rw [e'];rfl
def LX (S:St)(v:V)(xs:List XS):Prop:=(xs=[]∧(v=.nilSlice ∨ ∃ i ex,v=.slice i 0 0 0 5 ex)) ∨ ∃ i n c ex cs e fl,v=.slice i 0 n c 5 ex∧xs.length=min n 12∧n ≤ c∧i < S.next∧S.hs.get i=some (.cells cs e fl)∧(∀ j (h:j < xs.length),(cs.drop (5 * j)).take 5=xs[j].cs)∧∀ x ∈ xs,∀ S':St,(∀ id,id < S.next→S'.hs.get id=S.hs.get id)→SV S' x.v x.s
theorem LX.few {S:St}{v:V}{xs:List XS}(h:LX S v xs):xs.length ≤ 12:=by
 rcases h with ⟨rfl,_⟩|⟨i,n,c,ex,cs,e,fl,_,h,_⟩
 ·simp
 ·omega
theorem SV.one {S:St}{v:V}{s:List (Nat × Nat)}(h:SV S v s):V.one v=true:=by
 rcases h with ⟨_,rfl|⟨_,_,rfl⟩⟩|⟨_,_,_,_,_,_,rfl,_⟩ <;> rfl
theorem aVa:bA Tryz.prog 5 45 [.tmp 2,.tmp 3,.tmp 4] (aM Tryz.f5):=fq Tryz.f5
theorem aLc {xs:List XS}{v:V}{S:St}(h:LX S v xs)(hok:∀ x ∈ xs,x.Ok){t:Nat}(hT:qO t S)(ht:t ≤ S.next)(hn:S.next+700 ≤ room){k:V→St→Prop}
  (hk:∀ S' v' L',(∀ id,id < S.next→S'.hs.get id=S.hs.get id)→S.next ≤ S'.next→S'.next ≤ S.next+360→jV S.next S' v' L'→jU S.next S' L'→L'.map (·.1)=xs.map XS.smp→k (.tup [.str (bU (xs.map XS.smp)),v',.bool true]) S'):RC Tryz.prog 5 [v] S k:=by
 have hfew:=h.few
 refine RC.run mixed aV (aH aVa ?_)
 refine enter ?_
 rcases h with ⟨rfl,rfl|⟨i,ex,rfl⟩⟩|⟨i,n,c,ex,cs,e,fl,rfl,hlx,hnc,hi,hS,hat,hsv⟩
 ·refine go ?_
  refine LP.one mixed ?_
  refine go ?_
  refine zN (L:=[]) (l:=[]) rfl sm sm hT ht (.inl ⟨rfl,rfl⟩) (b:=S.next) (fun q hq=>by cases hq) om fun S2 hA2=>?_
  have a2:=hA2.lo
  have b2:=hA2.hi
  refine go ?_
  exact hk S2 .nilSlice [] (fun id g=>hA2.keep id g om) a2 om (.inl ⟨rfl,rfl⟩) (fun q hq=>by cases hq) rfl
 ·refine go ?_
  refine LP.one mixed ?_
  refine go ?_
  refine zN (L:=[]) (l:=[]) rfl sm sm hT ht (.inl ⟨rfl,rfl⟩) (b:=S.next) (fun q hq=>by cases hq) om fun S2 hA2=>?_
  have a2:=hA2.lo
  have b2:=hA2.hi
  refine go ?_
  exact hk S2 .nilSlice [] (fun id g=>hA2.keep id g om) a2 om (.inl ⟨rfl,rfl⟩) (fun q hq=>by cases hq) rfl
 ·refine go ?_
  refine rec_ltI _ _ (fun hgt=>?_) (fun hle=>?_)
  have hgt':12 < n:=by have:(12:Int) < (n:Int):=hgt;omega
  have hxl:xs.length=12:=by omega
  rw [show (12:Int)=Int.ofNat xs.length by rw [hxl];rfl]
  refine go ?_
  refine ifK_intro (Nat.ble_eq_true_of_le om) ?_
  refine aI (aI (aI ?_))
  refine go ?_
  rotate_left
  have hle':n ≤ 12:=by have:(n:Int) ≤ 12:=hle;omega
  have hxl:n=xs.length:=by omega
  subst hxl
  refine go ?_
  refine ifK_intro (Nat.ble_eq_true_of_le om) ?_
  refine aI (aI (aI ?_))
  refine go ?_
  all_goals
   refine LP.induct xs.length (fun j E S'=>∃ v' L',j ≤ xs.length∧Kn E 45 [(5,v'),(17,.slice i 0 xs.length c 5 ex),(18,.int .i64 (.ofNat xs.length)),(19,.int .i64 (.ofNat j))]∧(∀ id,id < S.next→S'.hs.get id=S.hs.get id)∧S.next ≤ S'.next∧S'.next ≤ S.next+22 * j∧jV S.next S' v' L'∧jU S.next S' L'∧L'.map (·.1)=(xs.take j).map XS.smp) ⟨.nilSlice,[],Nat.zero_le _,kq,fun _ _=>rfl,Nat.le_refl _,Nat.le_refl _,.inl ⟨rfl,rfl⟩,(fun q hq=>by cases hq),rfl⟩ ?_
   rintro j E S1 ⟨v',L',hj,hf,kp,a1,b1,hR,hLb,hLm⟩ ih
   refine LP.kn mixed hf ?_
   refine go ?_
   refine aZ (fun hlt=>?_) (fun hge=>?_)
   ·have htk:(xs.take (j+1)).map XS.smp=(xs.take j).map XS.smp ++ [xs[j].smp]:=by rw [List.take_succ_eq_append_getElem hlt,List.map_append];rfl
    have hx:=hat j hlt
    have hxs:=hsv xs[j] (List.getElem_mem hlt)
    have hxo:=hok xs[j] (List.getElem_mem hlt)
    generalize xs[j]=x at *
    refine go ?_
    refine ifK_intro (Nat.ble_eq_true_of_le hlt) ?_
    refine go ?_
    rw [show Nat.add 0 (j.mul 5)=5 * j from (Nat.zero_add _).trans (Nat.mul_comm j 5)]
    refine aA ((kp i hi).trans hS) ?_
    refine bO (n:=5) kr kr (by
     have:=congrArg List.length hx
     rw [List.length_take,List.length_drop] at this
     have h5:x.cs.length=5:=rfl
     omega) hx ?_
    refine go ?_
    refine aF om fun S2 hS2=>?_
    have n2:=aK hS2
    refine go ?_
    refine aA (aS hS2) ?_
    have hone:=(hxs S fun _ _=>rfl).one
    refine wrA (xs:=x.cs) sm kr (by show 0 < 5;omega) (by
     show Bool.rec (motive:=fun _=>Bool) false true x.v.one=true
     rw [hone]) rfl ?_
    refine aD om fun S3 hS3=>?_
    have n3:=aJ hS3
    have k3:∀ id,id < S1.next→S3.hs.get id=S1.hs.get id:=fun id g=>by rw [aB hS3 om,aC hS2 om]
    refine go ?_
    refine aA (aT hS3) ?_
    refine bO (n:=5) kr kr (Nat.le_refl 5) rfl ?_
    refine go ?_
    refine aIg tV (S:=S3) (fun S' hk'=>hxs S' fun id g=>(hk' id om).trans ((k3 id om).trans (kp id g))) om fun S4 m4 k4 g1 g2 n4 g4=>?_
    rw [aRI hxo.b]
    refine go ?_
    refine aF om fun S5 hS5=>?_
    have n5:=aK hS5
    refine go ?_
    refine aA (aS hS5) ?_
    refine wrA (xs:=SC (x.smp,m4)) sm kr (by show 0 < 4;omega) rfl rfl ?_
    refine aD om fun S6 hS6=>?_
    have n6:=aJ hS6
    refine go ?_
    refine aA (aT hS6) ?_
    refine bO (n:=4) kr kr (Nat.le_refl 4) rfl ?_
    refine go ?_
    refine aF (o:=.cells (SC (x.smp,m4)) 43 .ex) om fun S7 hS7=>?_
    have n7:=aK hS7
    refine go ?_
    have k7:∀ id,id < S1.next→S7.hs.get id=S1.hs.get id:=fun id g=>by rw [aC hS7 om,aB hS6 om,aC hS5 om,k4 id om];exact k3 id g
    have hR7:=hR.keep (S':=S7) (fun id _ g=>k7 id g) om
    have hL7:jU S.next S7 (L' ++ [(x.smp,m4)]):=fun y hy=>by
     rcases List.mem_append.1 hy with hy|hy
     ·obtain ⟨g1,g2,g3⟩:=hLb y hy
      exact ⟨g1,by omega,(k7 y.2 g2).trans g3⟩
     ·rw [List.mem_singleton] at hy
      subst hy
      refine ⟨by show S.next ≤ m4;omega,by show m4 < _;omega,?_⟩
      show S7.hs.get m4=_
      rw [aC hS7 om,aB hS6 om,aC hS5 om]
      exact g4
    have hL'n:L'.length=j:=by
     have:=congrArg List.length hLm
     rw [List.length_map,List.length_map,List.length_take] at this
     omega
    refine aAz hR7 hL7 om (aS hS7) om om fun S8 v8 hA8 hR8 hL8=>?_
    have a8:=hA8.lo
    have b8:=hA8.hi
    refine go ?_
    refine bF (j+1) ?_
    refine go ?_
    exact ih _ S8 hlt ⟨v8,L' ++ [(x.smp,m4)],hlt,kq,fun id g=>(hA8.keep id om om).trans ((k7 id om).trans (kp id g)),by omega,by omega,hR8,hL8,by rw [List.map_append,hLm,htk];rfl⟩
   ·have hje:j=xs.length:=by omega
    subst hje
    rw [List.take_length] at hLm
    refine go ?_
    refine zN (S:=S1) hLm (fun y hy=>by obtain ⟨x,hx,rfl⟩:=List.mem_map.1 hy;exact XS.smp_ok (hok x hx)) (by rw [List.length_map];exact hfew) (hT.keep fun id g=>kp id om) om hR hLb om fun S2 hA2=>?_
    have a2:=hA2.lo
    have b2:=hA2.hi
    refine go ?_
    exact hk S2 v' L' (fun id g=>(hA2.keep id om om).trans (kp id g)) om om (hR.keep (fun id _ g=>hA2.keep id g om) a2) (hLb.keep (fun id _ g=>hA2.keep id g om) a2) hLm
end
section
attribute [local irreducible] aU bR eG bI
theorem aUM:bA Tryz.prog 3 151 [.tmp 6] (aM Tryz.f3):=fq Tryz.f3
theorem zJ:∀ (l:List eA) (seen:List (List UInt8)) {x:eA},x ∈ lL seen l→x ∈ l
 | [],_,_,h=>by cases h
 | y :: l,seen,x,h=>by
   unfold lL at h
   split at h
   ·exact List.mem_cons_of_mem _ (zJ l seen h)
   ·rcases List.mem_cons.1 h with rfl|h
    ·exact .head _
    ·exact List.mem_cons_of_mem _ (zJ l _ h)
theorem LR.lwo {b B:Nat}{S:St}{v:V}{l:List bB}(h:LR b S v l)(hB:B < b)(hb:1000 ≤ b):LWo S B v l:=by
 have hngl:aN=1000:=rfl
 rcases h with ⟨rfl,rfl⟩|⟨m,_,rfl,h1,h2,h3,h4⟩
 ·exact .inl ⟨rfl,rfl⟩
 ·exact .inr ⟨m,_,false,rfl,Nat.le_refl _,h4,by omega,by omega,by omega,by omega⟩
set_option maxHeartbeats 16000000 in
theorem aRJ {xs:List XS}{vx vk:V}{sk:List (Nat × Nat)}{aw:Nat}{B:Nat}{S:St}(haw:aw < 256)(hx:LX S vx xs)(hxo:∀ x ∈ xs,x.Ok)(hsk:∀ S':St,(∀ id,id < S.next→S'.hs.get id=S.hs.get id)→SV S' vk sk)(hT:aCL B S)(hS:1000 ≤ S.next)(hn:S.next+3060 ≤ room)
  (hA:∀ k:V→St→Prop,k (.bool true) S→RC Tryz.prog 4 [] S k):RC Tryz.prog 3 [vx,vk,.int .u8 (.ofNat aw)] S fun v _=>v=.bool true:=by
 have hroom:room=4096:=rfl
 have hngl:aN=1000:=rfl
 have hfew:=hx.few
 have okT:=ownS_ok sk
 have hTh:=ownS_hid sk
 refine RC.run mixed aV (aH aUM ?_)
 refine enter ?_
 refine go ?_
 refine hA _ ?_
 refine go ?_
 refine aLc hx hxo (hT.tabs hS) (Nat.le_refl _) om fun S1 all L1 kp1 a1 b1 hR1 hL1 hm1=>?_
 have hl:∀ x ∈ xs.map XS.smp,dX x:=fun y hy=>by
  obtain ⟨x,hx,rfl⟩:=List.mem_map.1 hy
  exact XS.smp_ok (hxo x hx)
 have hfl:(xs.map XS.smp).length ≤ 12:=by rw [List.length_map];exact hfew
 generalize xs.map XS.smp=l at *
 have hL1n:L1.length=l.length:=by rw [← hm1,List.length_map]
 have hfull:∀ {lim:Nat} (h1:1 ≤ lim) (h2:lim ≤ 1000) {S:St} {vo:V} (hTb:aCL B S) (hS:1000 ≤ S.next) (hvo:LWo S B vo (ownS sk)) (hn:S.next+20 ≤ room) {k:V→St→Prop}
  (hkB:lim < l.length→∀ S',(∀ id,id < S.next→S'.hs.get id=S.hs.get id)→S'.next=S.next→k (.tup [.nilSlice,.int .i64 0,.int .i64 0,.int .i64 241]) S')
  (hkC:l.length ≤ lim→∀ S' v' L',(∀ id,id < S.next→S'.hs.get id=S.hs.get id)→S.next ≤ S'.next→S'.next ≤ S.next+13→jV S.next S' v' L'→jU S.next S' L'→L'.map (·.1)=lL [] (l.map (nI (ownS sk)))→k (.tup [v',.int .i64 0,.int .i64 (.ofNat (l.length - L'.length)),.int .i64 0]) S'),RC Tryz.prog 7 [.str (bU l),vo,.nilSlice,.int .i64 (.ofNat lim)] S k:=fun {lim} h1 h2 {S vo} hTb hS hvo hn {k} hkB hkC=>by
  have:=aDt (bz:=[]) okT hTh hl hfl (.inl rfl) (Nat.zero_le _) h1 h2 hTb hS hvo hn (k:=k) (fun h=>absurd rfl h) (fun _=>hkB) (fun _=>hkC)
  rw [List.append_nil] at this
  exact this
 have hspa:=fun {S:St} (hn:S.next+20 ≤ room) (k:V→St→Prop)=>aQp (S:=S) (k:=k) hl hfl hn
 generalize hs:bU l=s at *
 refine go ?_
 refine aQe (S:=S1) (hsk S1 kp1) om fun S2 vo kp2 a2 b2 hLR=>?_
 have hvo:=hLR.lwo (B:=B) (by have:=hT.hn;omega) om
 have kp20:∀ id,id < S.next→S2.hs.get id=S.hs.get id:=fun id g=>(kp2 id om).trans (kp1 id g)
 have hT2:=hT.keep kp20 hS om
 have hR2:=hR1.keep (S':=S2) (fun id _ g=>kp2 id g) a2
 clear hx hxo hsk hA hLR
 refine go ?_
 refine hfull (lim:=1000) om om hT2 om hvo om (fun h=>by omega) fun _ S3 v3 L3 kp3 a3 b3 hR3 hL3 hm3=>?_
 refine go ?_
 have hul:L3.length ≤ l.length:=by
  have h1:=oC (l:=l.map (nI (ownS sk))) (seen:=[])
  rw [← hm3,List.length_map,List.length_map] at h1
  exact h1
 have hL3l:∀ q ∈ L3,q.1.l.length ≤ 100:=fun q hq=>by
  have hq1:q.1 ∈ lL [] (l.map (nI (ownS sk))):=by rw [← hm3];exact List.mem_map.2 ⟨q,hq,rfl⟩
  obtain ⟨x,hx,e⟩:=List.mem_map.1 (zJ _ _ hq1)
  have:=(aJB okT hTh (hl x hx)).ok.few
  rw [e] at this
  omega
 have hR23:=hR2.keep (S':=S3) (fun id _ g=>kp3 id g) a3
 have hT3:=hT2.keep kp3 om om
 have hvo3:=hvo.keep kp3 a3
 have kp30:∀ id,id < S.next→S3.hs.get id=S.hs.get id:=fun id g=>(kp3 id om).trans (kp20 id g)
 refine LP.induct (l.length+1) (fun j E S'=>j ≤ l.length+1∧Kn E 151 [(2,.int .u8 (.ofNat aw)),(7,.str s),(8,all),(10,vo),(12,v3),(13,.int .i64 0),(14,.int .i64 (.ofNat (l.length - L3.length))),(16,.int .i64 (.ofNat (j+1)))]∧(∀ id,id < S3.next→S'.hs.get id=S3.hs.get id)∧S3.next ≤ S'.next∧S'.next ≤ S3.next+160 * j) ⟨Nat.zero_le _,kq,fun _ _=>rfl,Nat.le_refl _,Nat.le_refl _⟩ ?_
 rintro j E S4 ⟨hj,hf,kp4,a4,b4⟩ ih
 have hL10:L1=[]→l.length=0:=fun h=>by rw [← hL1n,h];rfl
 clear hR1 hL1
 rcases hR23 with ⟨h0,rfl⟩|⟨m,rfl,_⟩
 all_goals
  refine LP.kn mixed hf ?_
  refine go ?_
  refine bF (l.length+1) ?_ (by first|(rw [hL10 h0];rfl)|(rw [← hL1n];rfl)) om
  refine go ?_
  refine aZ (fun (hend:l.length+1 < j+1)=>?_) (fun (hgo:j+1 ≤ l.length+1)=>?_)
  ·have hT4:=hT3.keep kp4 om a4
   have hvo4:=hvo3.keep kp4 a4
   clear ih
   refine go ?_
   refine hspa om _ fun S5 kp5 n5 hg5=>?_
   refine go ?_
   refine bF aw ?_
   refine go ?_
   have hi:aw % (l.length+1) ≤ l.length:=by have:=Nat.mod_lt aw (show 0 < l.length+1 by omega);omega
   refine dH (aw % (l.length+1)) rfl ?_
   generalize aw % (l.length+1)=i at *
   refine go ?_
   have hpl:=aIu l
   have ht1:((fL l).take i).length=i:=by rw [List.length_take];omega
   have ht2:((fL l).drop i).length=l.length+1 - i:=by rw [List.length_drop];omega
   have hj1:=aGA hi
   have hj2:=aGz hi
   have hx1:=mW (l:=l.take i) fun x hx=>hl x (List.mem_of_mem_take hx)
   have hx2:=mW (l:=l.drop i) fun x hx=>hl x (List.mem_of_mem_drop hx)
   have hy1:=aAP (l.take i)
   have hy2:=aAP (l.drop i)
   rw [List.length_take,Nat.min_eq_left hi] at hx1 hy1
   rw [List.length_drop] at hx2 hy2
   have hg5':∀ S:St,S.hp=S5.hp→S.hs.get S4.next=some (.cells (dQ (fL l)) 9 .ex):=fun S e=>by
    obtain ⟨hp,nx⟩:=S
    subst e
    exact hg5
   have hcat:bU (l.take i) ++ [120,123,10] ++ bU (l.drop i)=bU (l.take i) ++ 120 :: 123 :: 10 :: bU (l.drop i):=by rw [List.append_assoc];rfl
   refine xX ?_
   refine aP (v:=.slice S4.next 0 i (l.length+1) 1 true) rfl (by intro Q hQ;(conv=>whnf);refine ifK_intro (Nat.ble_eq_true_of_le om) ?_;exact aI (aI (aI hQ))) ?_
   refine cI (pe':=[]) rfl (fun Q hQ=>by (conv=>whnf);exact hQ) (fun Q hQ=>by (conv=>whnf);exact hQ) ?_
   refine wV (l:=(fL l).take i) (sep:=[]) (S:=⟨S5.hp,Nat.add S5.next 11⟩) (.inr ⟨S4.next,0,l.length+1,true,_,_,_,by rw [ht1],by omega,by show S4.next < S5.next+11;omega,hg5' _ rfl,fun j h=>by
    rw [Nat.zero_add,rM om,List.getElem_take]⟩) (Nat.zero_le _) om (by rw [hj1];omega) (fun h=>by rw [hj1];omega) (by show S5.next+11+400 < room;omega) fun S6 hA6=>?_
   rw [hj1]
   have a6:S5.next+11 ≤ S6.next:=hA6.lo
   have b6:S6.next ≤ S5.next+11+(80+2 * ((fL l).take i).length):=hA6.hi
   rw [ht1] at b6
   have k6:∀ id,id < S5.next+11→S6.hs.get id=S5.hs.get id:=fun id g=>hA6.keep id g (by show id ≠ S5.next+11;omega)
   refine n_dopA ?_
   refine aP (v:=.str (bU (l.take i) ++ [120,123,10])) rfl (by intro Q hQ;(conv=>whnf);exact fV (by simp only [List.length_cons,List.length_nil];omega) hQ) ?_
   refine xX ?_
   refine aP (v:=.slice S4.next i (l.length+1 - i) (l.length+1 - i) 1 true) rfl (by
    intro Q hQ
    (conv=>whnf)
    refine ifK_intro (Nat.ble_eq_true_of_le om) ?_
    refine ifK_intro (Nat.ble_eq_true_of_le om) ?_
    refine aI (aI (aI ?_))
    have e:Nat.add 0 (Nat.mul i 1)=i:=(Nat.zero_add _).trans (Nat.mul_one i)
    rw [e]
    exact hQ) ?_
   refine cI (pe':=[]) rfl (fun Q hQ=>by (conv=>whnf);exact hQ) (fun Q hQ=>by (conv=>whnf);exact hQ) ?_
   refine wV (l:=(fL l).drop i) (sep:=[]) (S:=S6) (.inr ⟨S4.next,i,l.length+1 - i,true,_,_,_,by rw [ht2],by omega,by omega,(k6 _ om).trans hg5,fun j h=>by
    rw [rM om,List.getElem_drop]⟩) (Nat.zero_le _) om (by rw [hj2];omega) (fun h=>by rw [hj2];omega) om fun S7 hA7=>?_
   rw [hj2]
   have a7:=hA7.lo
   have b7:=hA7.hi
   rw [ht2] at b7
   have k7:∀ id,id < S6.next→S7.hs.get id=S6.hs.get id:=fun id g=>hA7.keep id g om
   refine n_dopA ?_
   refine aP (v:=.str (bU (l.take i) ++ 120 :: 123 :: 10 :: bU (l.drop i))) rfl (by
    intro Q hQ
    (conv=>whnf)
    refine fV (by simp only [List.length_cons,List.length_nil,List.length_append];omega) ?_
    rw [hcat];exact hQ) ?_
   refine xX ?_
   refine go ?_
   have k47:∀ id,id < S4.next→S7.hs.get id=S4.hs.get id:=fun id g=>(k7 id om).trans ((k6 id om).trans (kp5 id g))
   refine aDt (l:=l.take i) (bz:=120 :: 123 :: 10 :: bU (l.drop i)) okT hTh (fun x hx=>hl x (List.mem_of_mem_take hx)) (by rw [List.length_take];omega) (.inr ⟨_,rfl⟩) (by simp only [List.length_cons];omega) (lim:=1) om om (hT4.keep k47 om om) om (hvo4.keep k47 om) om (fun _ S8 _ _=>?_) (fun h=>by cases h) (fun h=>by cases h)
   refine go ?_
   refine bF 0 ?_
   refine go ?_
   refine bF 0 ?_
   refine go ?_
   exact rfl
  ·refine go ?_
   have hT4:=hT3.keep kp4 om a4
   have hvo4:=hvo3.keep kp4 a4
   refine hfull (lim:=j+1) om om hT4 om hvo4 om (fun hlt S5 kp5 n5=>?_) (fun hle S5 v5 L5 kp5 a5 b5 hR5 hL5 hm5=>?_)
   ·first
     | (exfalso;have:=hL10 h0;omega)
     | (refine go ?_
        refine aZ (fun _=>?_) (fun h=>by omega)
        refine go ?_
        refine bF 0 ?_
        refine go ?_
        refine bF 0 ?_
        refine go ?_
        refine aZ (fun _=>?_) (fun h=>by omega)
        refine go ?_
        refine bF (j+1+1) ?_
        refine go ?_
        exact ih _ S5 om ⟨by omega,kq,fun id g=>(kp5 id om).trans (kp4 id g),by omega,by omega⟩)
   ·have hL5n:L5.length=L3.length:=by rw [← List.length_map (f:=(·.1)),hm5,← hm3,List.length_map]
    have hss:=fun (k:V→St→Prop)=>aIC (S:=S5) (k:=k) (L:=L5) (L2:=L3) (hm5.trans hm3.symm) (fun q hq=>by
     obtain ⟨y,hy,e⟩:=List.mem_map.1 (show q.1 ∈ L3.map (·.1) by rw [hm3,← hm5];exact List.mem_map.2 ⟨q,hq,rfl⟩)
     rw [← e];exact hL3l y hy) om hR5 hL5 ((hR3.keep (S':=S4) (fun id _ g=>kp4 id g) a4).keep (S':=S5) (fun id _ g=>kp5 id g) a5) ((hL3.keep (S':=S4) (fun id _ g=>kp4 id g) a4).keep (S':=S5) (fun id _ g=>kp5 id g) a5) om
    rw [hL5n]
    refine go ?_
    first
     | (refine aZ (fun h=>by omega) (fun _=>?_)
        refine go ?_
        refine aZ (fun h=>by omega) (fun _=>?_)
        refine go ?_)
     | skip
    refine hss _ fun S6 kp6 a6 b6=>?_
    refine go ?_
    refine zW true (mP _) ?_
    refine go ?_
    refine bF (j+1+1) ?_
    refine go ?_
    exact ih _ S6 om ⟨by omega,kq,fun id g=>(kp6 id om).trans ((kp5 id om).trans (kp4 id g)),by omega,by omega⟩
end
end Go.Am
namespace Go.Am
def qJ (e:Nat→TypeId):List (Nat × O):=[
 (8,.cells [.int .u8 (.ofNat 0),.int .u8 (.ofNat 1),.int .u8 (.ofNat 28),.int .u8 (.ofNat 2),.int .u8 (.ofNat 29),.int .u8 (.ofNat 14),.int .u8 (.ofNat 24),.int .u8 (.ofNat 3),.int .u8 (.ofNat 30),.int .u8 (.ofNat 22),.int .u8 (.ofNat 20),.int .u8 (.ofNat 15),.int .u8 (.ofNat 25),.int .u8 (.ofNat 17),.int .u8 (.ofNat 4),.int .u8 (.ofNat 8),.int .u8 (.ofNat 31),.int .u8 (.ofNat 27),.int .u8 (.ofNat 13),.int .u8 (.ofNat 23),.int .u8 (.ofNat 21),.int .u8 (.ofNat 19),.int .u8 (.ofNat 16),.int .u8 (.ofNat 7),.int .u8 (.ofNat 26),.int .u8 (.ofNat 12),.int .u8 (.ofNat 18),.int .u8 (.ofNat 6),.int .u8 (.ofNat 11),.int .u8 (.ofNat 5),.int .u8 (.ofNat 10),.int .u8 (.ofNat 9)] (e 8) .ro),
 (9,.cells [.int .u8 (.ofNat 0),.int .u8 (.ofNat 1),.int .u8 (.ofNat 56),.int .u8 (.ofNat 2),.int .u8 (.ofNat 57),.int .u8 (.ofNat 49),.int .u8 (.ofNat 28),.int .u8 (.ofNat 3),.int .u8 (.ofNat 61),.int .u8 (.ofNat 58),.int .u8 (.ofNat 42),.int .u8 (.ofNat 50),.int .u8 (.ofNat 38),.int .u8 (.ofNat 29),.int .u8 (.ofNat 17),.int .u8 (.ofNat 4),.int .u8 (.ofNat 62),.int .u8 (.ofNat 47),.int .u8 (.ofNat 59),.int .u8 (.ofNat 36),.int .u8 (.ofNat 45),.int .u8 (.ofNat 43),.int .u8 (.ofNat 51),.int .u8 (.ofNat 22),.int .u8 (.ofNat 53),.int .u8 (.ofNat 39),.int .u8 (.ofNat 33),.int .u8 (.ofNat 30),.int .u8 (.ofNat 24),.int .u8 (.ofNat 18),.int .u8 (.ofNat 12),.int .u8 (.ofNat 5),.int .u8 (.ofNat 63),.int .u8 (.ofNat 55),.int .u8 (.ofNat 48),.int .u8 (.ofNat 27),.int .u8 (.ofNat 60),.int .u8 (.ofNat 41),.int .u8 (.ofNat 37),.int .u8 (.ofNat 16),.int .u8 (.ofNat 46),.int .u8 (.ofNat 35),.int .u8 (.ofNat 44),.int .u8 (.ofNat 21),.int .u8 (.ofNat 52),.int .u8 (.ofNat 32),.int .u8 (.ofNat 23),.int .u8 (.ofNat 11),.int .u8 (.ofNat 54),.int .u8 (.ofNat 26),.int .u8 (.ofNat 40),.int .u8 (.ofNat 15),.int .u8 (.ofNat 34),.int .u8 (.ofNat 20),.int .u8 (.ofNat 31),.int .u8 (.ofNat 10),.int .u8 (.ofNat 25),.int .u8 (.ofNat 14),.int .u8 (.ofNat 19),.int .u8 (.ofNat 9),.int .u8 (.ofNat 13),.int .u8 (.ofNat 8),.int .u8 (.ofNat 7),.int .u8 (.ofNat 6)] (e 9) .ro),
 (10,.cells [.int .u64 (.ofNat 23),.int .u64 (.ofNat 8),.int .i64 (.negSucc 126)] (e 10) .ro),
 (12,.cells [.int .u64 (.ofNat 52),.int .u64 (.ofNat 11),.int .i64 (.negSucc 1022)] (e 12) .ro),
 (11,.cells [.bool true] (e 11) .ro),
 (4,.cells [.int .u64 (.ofNat 1),.int .u64 (.ofNat 10),.int .u64 (.ofNat 100),.int .u64 (.ofNat 1000),.int .u64 (.ofNat 10000),.int .u64 (.ofNat 100000),.int .u64 (.ofNat 1000000),.int .u64 (.ofNat 10000000),.int .u64 (.ofNat 100000000),.int .u64 (.ofNat 1000000000),.int .u64 (.ofNat 10000000000),.int .u64 (.ofNat 100000000000),.int .u64 (.ofNat 1000000000000),.int .u64 (.ofNat 10000000000000),.int .u64 (.ofNat 100000000000000),.int .u64 (.ofNat 1000000000000000),.int .u64 (.ofNat 10000000000000000),.int .u64 (.ofNat 100000000000000000),.int .u64 (.ofNat 1000000000000000000),.int .u64 (.ofNat 10000000000000000000)] (e 4) .ro),
 (2,.cells [.int .u8 (.ofNat 128),.int .u8 (.ofNat 191),.int .u8 (.ofNat 160),.int .u8 (.ofNat 191),.int .u8 (.ofNat 128),.int .u8 (.ofNat 159),.int .u8 (.ofNat 144),.int .u8 (.ofNat 191),.int .u8 (.ofNat 128),.int .u8 (.ofNat 143),.int .u8 (.ofNat 0),.int .u8 (.ofNat 0),.int .u8 (.ofNat 0),.int .u8 (.ofNat 0),.int .u8 (.ofNat 0),.int .u8 (.ofNat 0),.int .u8 (.ofNat 0),.int .u8 (.ofNat 0),.int .u8 (.ofNat 0),.int .u8 (.ofNat 0),.int .u8 (.ofNat 0),.int .u8 (.ofNat 0),.int .u8 (.ofNat 0),.int .u8 (.ofNat 0),.int .u8 (.ofNat 0),.int .u8 (.ofNat 0),.int .u8 (.ofNat 0),.int .u8 (.ofNat 0),.int .u8 (.ofNat 0),.int .u8 (.ofNat 0),.int .u8 (.ofNat 0),.int .u8 (.ofNat 0)] (e 2) .ro),
 (5,.cells [.int .i64 (.negSucc 0),.int .i64 (.negSucc 0)] (e 5) .ro),
 (1,.cells [.int .u8 (.ofNat 240),.int .u8 (.ofNat 240),.int .u8 (.ofNat 240),.int .u8 (.ofNat 240),.int .u8 (.ofNat 240),.int .u8 (.ofNat 240),.int .u8 (.ofNat 240),.int .u8 (.ofNat 240),.int .u8 (.ofNat 240),.int .u8 (.ofNat 240),.int .u8 (.ofNat 240),.int .u8 (.ofNat 240),.int .u8 (.ofNat 240),.int .u8 (.ofNat 240),.int .u8 (.ofNat 240),.int .u8 (.ofNat 240),.int .u8 (.ofNat 240),.int .u8 (.ofNat 240),.int .u8 (.ofNat 240),.int .u8 (.ofNat 240),.int .u8 (.ofNat 240),.int .u8 (.ofNat 240),.int .u8 (.ofNat 240),.int .u8 (.ofNat 240),.int .u8 (.ofNat 240),.int .u8 (.ofNat 240),.int .u8 (.ofNat 240),.int .u8 (.ofNat 240),.int .u8 (.ofNat 240),.int .u8 (.ofNat 240),.int .u8 (.ofNat 240),.int .u8 (.ofNat 240),.int .u8 (.ofNat 240),.int .u8 (.ofNat 240),.int .u8 (.ofNat 240),.int .u8 (.ofNat 240),.int .u8 (.ofNat 240),.int .u8 (.ofNat 240),.int .u8 (.ofNat 240),.int .u8 (.ofNat 240),.int .u8 (.ofNat 240),.int .u8 (.ofNat 240),.int .u8 (.ofNat 240),.int .u8 (.ofNat 240),.int .u8 (.ofNat 240),.int .u8 (.ofNat 240),.int .u8 (.ofNat 240),.int .u8 (.ofNat 240),.int .u8 (.ofNat 240),.int .u8 (.ofNat 240),.int .u8 (.ofNat 240),.int .u8 (.ofNat 240),.int .u8 (.ofNat 240),.int .u8 (.ofNat 240),.int .u8 (.ofNat 240),.int .u8 (.ofNat 240),.int .u8 (.ofNat 240),.int .u8 (.ofNat 240),.int .u8 (.ofNat 240),.int .u8 (.ofNat 240),.int .u8 (.ofNat 240),.int .u8 (.ofNat 240),.int .u8 (.ofNat 240),.int .u8 (.ofNat 240),.int .u8 (.ofNat 240),.int .u8 (.ofNat 240),.int .u8 (.ofNat 240),.int .u8 (.ofNat 240),.int .u8 (.ofNat 240),.int .u8 (.ofNat 240),.int .u8 (.ofNat 240),.int .u8 (.ofNat 240),.int .u8 (.ofNat 240),.int .u8 (.ofNat 240),.int .u8 (.ofNat 240),.int .u8 (.ofNat 240),.int .u8 (.ofNat 240),.int .u8 (.ofNat 240),.int .u8 (.ofNat 240),.int .u8 (.ofNat 240),.int .u8 (.ofNat 240),.int .u8 (.ofNat 240),.int .u8 (.ofNat 240),.int .u8 (.ofNat 240),.int .u8 (.ofNat 240),.int .u8 (.ofNat 240),.int .u8 (.ofNat 240),.int .u8 (.ofNat 240),.int .u8 (.ofNat 240),.int .u8 (.ofNat 240),.int .u8 (.ofNat 240),.int .u8 (.ofNat 240),.int .u8 (.ofNat 240),.int .u8 (.ofNat 240),.int .u8 (.ofNat 240),.int .u8 (.ofNat 240),.int .u8 (.ofNat 240),.int .u8 (.ofNat 240),.int .u8 (.ofNat 240),.int .u8 (.ofNat 240),.int .u8 (.ofNat 240),.int .u8 (.ofNat 240),.int .u8 (.ofNat 240),.int .u8 (.ofNat 240),.int .u8 (.ofNat 240),.int .u8 (.ofNat 240),.int .u8 (.ofNat 240),.int .u8 (.ofNat 240),.int .u8 (.ofNat 240),.int .u8 (.ofNat 240),.int .u8 (.ofNat 240),.int .u8 (.ofNat 240),.int .u8 (.ofNat 240),.int .u8 (.ofNat 240),.int .u8 (.ofNat 240),.int .u8 (.ofNat 240),.int .u8 (.ofNat 240),.int .u8 (.ofNat 240),.int .u8 (.ofNat 240),.int .u8 (.ofNat 240),.int .u8 (.ofNat 240),.int .u8 (.ofNat 240),.int .u8 (.ofNat 240),.int .u8 (.ofNat 240),.int .u8 (.ofNat 240),.int .u8 (.ofNat 240),.int .u8 (.ofNat 240),.int .u8 (.ofNat 240),.int .u8 (.ofNat 241),.int .u8 (.ofNat 241),.int .u8 (.ofNat 241),.int .u8 (.ofNat 241),.int .u8 (.ofNat 241),.int .u8 (.ofNat 241),.int .u8 (.ofNat 241),.int .u8 (.ofNat 241),.int .u8 (.ofNat 241),.int .u8 (.ofNat 241),.int .u8 (.ofNat 241),.int .u8 (.ofNat 241),.int .u8 (.ofNat 241),.int .u8 (.ofNat 241),.int .u8 (.ofNat 241),.int .u8 (.ofNat 241),.int .u8 (.ofNat 241),.int .u8 (.ofNat 241),.int .u8 (.ofNat 241),.int .u8 (.ofNat 241),.int .u8 (.ofNat 241),.int .u8 (.ofNat 241),.int .u8 (.ofNat 241),.int .u8 (.ofNat 241),.int .u8 (.ofNat 241),.int .u8 (.ofNat 241),.int .u8 (.ofNat 241),.int .u8 (.ofNat 241),.int .u8 (.ofNat 241),.int .u8 (.ofNat 241),.int .u8 (.ofNat 241),.int .u8 (.ofNat 241),.int .u8 (.ofNat 241),.int .u8 (.ofNat 241),.int .u8 (.ofNat 241),.int .u8 (.ofNat 241),.int .u8 (.ofNat 241),.int .u8 (.ofNat 241),.int .u8 (.ofNat 241),.int .u8 (.ofNat 241),.int .u8 (.ofNat 241),.int .u8 (.ofNat 241),.int .u8 (.ofNat 241),.int .u8 (.ofNat 241),.int .u8 (.ofNat 241),.int .u8 (.ofNat 241),.int .u8 (.ofNat 241),.int .u8 (.ofNat 241),.int .u8 (.ofNat 241),.int .u8 (.ofNat 241),.int .u8 (.ofNat 241),.int .u8 (.ofNat 241),.int .u8 (.ofNat 241),.int .u8 (.ofNat 241),.int .u8 (.ofNat 241),.int .u8 (.ofNat 241),.int .u8 (.ofNat 241),.int .u8 (.ofNat 241),.int .u8 (.ofNat 241),.int .u8 (.ofNat 241),.int .u8 (.ofNat 241),.int .u8 (.ofNat 241),.int .u8 (.ofNat 241),.int .u8 (.ofNat 241),.int .u8 (.ofNat 241),.int .u8 (.ofNat 241),.int .u8 (.ofNat 2),.int .u8 (.ofNat 2),.int .u8 (.ofNat 2),.int .u8 (.ofNat 2),.int .u8 (.ofNat 2),.int .u8 (.ofNat 2),.int .u8 (.ofNat 2),.int .u8 (.ofNat 2),.int .u8 (.ofNat 2),.int .u8 (.ofNat 2),.int .u8 (.ofNat 2),.int .u8 (.ofNat 2),.int .u8 (.ofNat 2),.int .u8 (.ofNat 2),.int .u8 (.ofNat 2),.int .u8 (.ofNat 2),.int .u8 (.ofNat 2),.int .u8 (.ofNat 2),.int .u8 (.ofNat 2),.int .u8 (.ofNat 2),.int .u8 (.ofNat 2),.int .u8 (.ofNat 2),.int .u8 (.ofNat 2),.int .u8 (.ofNat 2),.int .u8 (.ofNat 2),.int .u8 (.ofNat 2),.int .u8 (.ofNat 2),.int .u8 (.ofNat 2),.int .u8 (.ofNat 2),.int .u8 (.ofNat 2),.int .u8 (.ofNat 19),.int .u8 (.ofNat 3),.int .u8 (.ofNat 3),.int .u8 (.ofNat 3),.int .u8 (.ofNat 3),.int .u8 (.ofNat 3),.int .u8 (.ofNat 3),.int .u8 (.ofNat 3),.int .u8 (.ofNat 3),.int .u8 (.ofNat 3),.int .u8 (.ofNat 3),.int .u8 (.ofNat 3),.int .u8 (.ofNat 3),.int .u8 (.ofNat 35),.int .u8 (.ofNat 3),.int .u8 (.ofNat 3),.int .u8 (.ofNat 52),.int .u8 (.ofNat 4),.int .u8 (.ofNat 4),.int .u8 (.ofNat 4),.int .u8 (.ofNat 68),.int .u8 (.ofNat 241),.int .u8 (.ofNat 241),.int .u8 (.ofNat 241),.int .u8 (.ofNat 241),.int .u8 (.ofNat 241),.int .u8 (.ofNat 241),.int .u8 (.ofNat 241),.int .u8 (.ofNat 241),.int .u8 (.ofNat 241),.int .u8 (.ofNat 241),.int .u8 (.ofNat 241)] (e 1) .ro)]
end Go.Am
namespace Go.Am
open Go.Proofs
def isT (v:V):Prop:=match v with|.bool true=>True|_=>False
noncomputable def aRq (n:Nat):aMg:=oL Tryz.prog xts (aFb 60 (wY 85)) (cW Tryz.prog) n
noncomputable def aRF (e:Nat→TypeId):Prop:=dY (qJ e) ⟨.nil,1100⟩ fun S=>(aRq 1000).call 4 [] S (fun v _=>isT v)
theorem aMF (e:Nat→TypeId):aRF e=True:=by kernel_rfl
theorem aQn (n:Nat):eH Tryz.prog (aRq n).call:=(tS aV (aIm tV) (fun _ _ hc hd=>evDraw_ok mixed hc hd) n).1
theorem aSn {v:V}(h:isT v):v=.bool true:=by
 unfold isT at h
 split at h
 ·rfl
 ·exact h.elim
theorem aCg:∀ {l:List (Nat × O)} {H:Hs} {i:Nat} {o:O},(eM l H).get i=some o→(i,o) ∈ l ∨ H.get i=some o
 | [],H,i,o,h=>.inr h
 | q :: l,H,i,o,h=>by
   rcases aCg (l:=l) (show (eM l (H.put q.1 (some q.2))).get i=some o from h) with h1|h1
   ·exact .inl (List.mem_cons_of_mem _ h1)
   ·have h2:(if i=q.1 then some q.2 else H.get i)=some o:=h1
    by_cases e:i=q.1
    ·rw [if_pos e] at h2
     have:o=q.2:=(Option.some.inj h2).symm
     subst this;subst e
     exact .inl sm
    ·rw [if_neg e] at h2;exact .inr h2
def aIv (v:V):Bool:=match v with|.bool _=>true|.int _ _=>true|_=>false
def aOi (q:Nat × O):Bool:=match q.2 with|.cells cs _ .ro=>cs.all aIv && Nat.blt q.1 1100|_=>false
theorem aLq {R:Nat→Nat→Prop}{v:V}(h:aIv v=true):VI R v v:=by
 cases v <;> first|exact .bool _|exact .int _ _|cases h
theorem aCe {R:Nat→Nat→Prop}:∀ {l:List V},l.all aIv=true→oG R l l
 | [],_=>.nil
 | v :: l,h=>by
   simp at h
   exact .cons (aLq h.1) (aCe (by simpa using h.2))
theorem aGV (e:Nat→TypeId):(qJ e).all aOi=true:=by kernel_rfl
theorem aMG (e:Nat→TypeId){S:St}{k:V→St→Prop}(hS:∀ q ∈ qJ e,S.hs.get q.1=some q.2)(hk:k (.bool true) S):RC Tryz.prog 4 [] S k:=by
 obtain ⟨S1,h2,h3⟩:=gI (of_eq_true (aMF e))
 obtain ⟨v,S',h4,h5⟩:=aQn 1000 _ _ _ _ h2
 have hv:=aSn h4
 subst hv
 have hmem:∀ i o,S1.hs.get i=some o→(i,o) ∈ qJ e:=fun i o h=>by
  rw [h3] at h
  rcases aCg h with h|h
  ·exact h
  ·exact absurd h (by show ¬ T.get fU i .nil=some o;rw [yA];simp)
 have hnx:S1.hs.next=1100:=by rw [h3,iP];rfl
 refine .mk (.bool true) S (h5.frame (fun _=>true) (fun i=>i) (fun i=>i) (by rw [hnx];decide) (fun i _=>rfl) (fun i i' _ _ h _=>by cases h) (fun i o h=>?_) .nil (.bool _) (Nat.le_refl _) (fun j j' h1 h2 _ _ _=>by omega)
  (fun j o h=>.inr ⟨h,fun i _ _ h=>by cases h⟩)) hk
 have hq:=hmem i o h
 have hp:=List.all_eq_true.1 (aGV e) _ hq
 unfold aOi at hp
 split at hp
 ·rename_i cs t ho
  simp only [Bool.and_eq_true] at hp
  have ho':o=.cells cs t .ro:=ho
  subst ho'
  have hi:i < 1100:=Nat.le_of_ble_eq_true hp.2
  exact ⟨by rw [hnx];exact hi,fun _=>rfl,_,hS _ hq,.cells (aCe hp.1) (.inl rfl)⟩
 ·cases hp
end Go.Am
namespace Go.Am
open Go.Lib
mutual
def flatD:DataW Unit→List Value
 | .lit (.bool b)=>[.bool b]
 | .lit (.int k n)=>[.int k n]
 | .lit (.float k b)=>[.float k b]
 | .lit (.string bs)=>[.string ⟨⟨bs⟩⟩]
 | .agg ps=>flatDs ps
 | _=>[]
def flatDs:List (DataW Unit)→List Value
 | []=>[]
 | d :: ds=>flatD d ++ flatDs ds
end
theorem drop_take_add {cs:List Value}{o n m:Nat}:(cs.drop o).take (n+m)=(cs.drop o).take n ++ (cs.drop (o+n)).take m:=by
 rw [List.take_add,List.drop_drop]
def tileF (P:Program)(chk:TypeId→DataW Unit→Bool):Nat→List Field→List (DataW Unit)→Option Nat
 | o,[],[]=>some o
 | o,f :: fs,d :: ds=>if f.offset=o∧chk f.type d=true∧(flatD d).length=P.cellsOf f.type then tileF P chk (o+P.cellsOf f.type) fs ds else none
 | _,_,_=>none
def tiles (P:Program):Nat→TypeId→DataW Unit→Bool
 | 0,_,_=>false
 | n+1,t,d=>match P.underlying t,d with
   | some (.struct fs),.agg ps=>tileF P (tiles P n) 0 fs.toList ps == some (P.cellsOf t)
   | some (.array m e),.agg ps=>ps.length == m && P.cellsOf t == m * P.cellsOf e && ps.all fun d=>tiles P n e d && (flatD d).length == P.cellsOf e
   | some .bool,.lit _=>true
   | some (.int _),.lit _=>true
   | some (.float _),.lit _=>true
   | some .string,.lit _=>true
   | _,_=>false
section
variable {P:Program} {w:World} {base:Nat} {sp:Nat→Bool} {held:Bool}
theorem trod_float {fuel:Nat}{t:TypeId}{k:FloatKind}{cs:List Value}{x:DataW Unit × List MemPlace}(ht:P.underlying t=some (.float k))(h:DataW.trod (fun _=>()) P w base sp held fuel t cs=some x):∃ n,cs=[.float k n]∧x=(.lit (.float k n),[]):=by
 cases fuel with
 | zero=>simp [DataW.trod] at h
 | succ n =>
   unfold DataW.trod at h
   rw [ht] at h
   split at h <;> simp_all
theorem trod_array {fuel:Nat}{t e:TypeId}{m:Nat}{cs:List Value}{x:DataW Unit × List MemPlace}(ht:P.underlying t=some (.array m e))(h:DataW.trod (fun _=>()) P w base sp held fuel t cs=some x) :
  ∃ (n:Nat) (xs:List (DataW Unit × List MemPlace)),fuel=n+1∧x=(.agg (xs.map (·.1)),xs.flatMap (·.2))∧cs.length=P.cellsOf t∧(List.range m).mapM (fun i=>DataW.trod (fun _=>()) P w base sp held n e ((cs.drop (i * P.cellsOf e)).take (P.cellsOf e)))=some xs:=by
 cases fuel with
 | zero=>simp [DataW.trod] at h
 | succ n =>
   unfold DataW.trod at h
   rw [ht] at h
   have h':(if cs.length=P.cellsOf t then ((List.range m).mapM fun i=>DataW.trod (fun _=>()) P w base sp held n e ((cs.drop (i * P.cellsOf e)).take (P.cellsOf e))).map fun xs=>((.agg (xs.map (·.1)),xs.flatMap (·.2)):DataW Unit × List MemPlace) else none)=some x:=by
    split at h <;> simp_all
   split at h'
   ·rename_i hl
    obtain ⟨xs,h1,h2⟩:=Option.map_eq_some_iff.1 h'
    exact ⟨n,xs,rfl,h2.symm,hl,h1⟩
   ·cases h'
theorem mapM_at {α β:Type}{f:α→Option β}:∀ {l:List α} {xs:List β},l.mapM f=some xs→xs.length=l.length∧∀ (i:Nat) (a:α),l[i]?=some a→f a=xs[i]?
 | [],xs,h=>by simp at h;subst h;simp
 | a :: l,xs,h=>by
   rw [List.mapM_cons] at h
   cases ha:f a with
   | none=>rw [ha] at h;simp at h
   | some b =>
     rw [ha] at h
     cases hl:l.mapM f with
     | none=>rw [hl] at h;simp at h
     | some ys =>
       rw [hl] at h
       simp at h
       subst h
       obtain ⟨h1,h2⟩:=mapM_at hl
       refine ⟨by simp [h1],fun i x hx=>?_⟩
       cases i with
       | zero=>simp at hx;subst hx;simpa using ha
       | succ i=>simpa using h2 i x (by simpa using hx)
theorem tileF_cells {chk:TypeId→DataW Unit→Bool}{cs:List Value}:∀ {fs:List Field} {ds:List (DataW Unit)} {o e:Nat},tileF P chk o fs ds=some e →
  (∀ (i:Nat) (f:Field) (d:DataW Unit),fs[i]?=some f→ds[i]?=some d→chk f.type d=true→(cs.drop f.offset).take (P.cellsOf f.type)=flatD d)→o ≤ e∧(cs.drop o).take (e - o)=flatDs ds
 | [],[],o,e,h,_=>by
   have h':some o=some e:=h
   cases h'
   exact ⟨Nat.le_refl _,by simp [flatDs]⟩
 | f :: fs,d :: ds,o,e,h,hp=>by
   unfold tileF at h
   split at h
   ·rename_i hc
    obtain ⟨h1,h2,h3⟩:=hc
    obtain ⟨h4,h5⟩:=tileF_cells (fs:=fs) (ds:=ds) h fun i f' d' hf hd hk=>hp (i+1) f' d' (by simpa using hf) (by simpa using hd) hk
    refine ⟨by omega,?_⟩
    have h6:=hp 0 f d rfl rfl h2
    rw [h1] at h6
    rw [show e - o=P.cellsOf f.type+(e - (o+P.cellsOf f.type)) by omega,drop_take_add,h6,h5]
    rfl
   ·cases h
 | [],_ :: _,_,_,h,_=>by cases h
 | _ :: _,[],_,_,h,_=>by cases h
theorem array_cells {cs:List Value}{c:Nat}:∀ {ds:List (DataW Unit)} {k:Nat},(∀ (i:Nat) (d:DataW Unit),ds[i]?=some d→(cs.drop ((k+i) * c)).take c=flatD d)→(cs.drop (k * c)).take (ds.length * c)=flatDs ds
 | [],k,_=>by simp [flatDs]
 | d :: ds,k,h=>by
   have h1:=h 0 d rfl
   have h2:=array_cells (ds:=ds) (k:=k+1) fun i d' hd=>by
    have:=h (i+1) d' (by simpa using hd)
    rw [show k+1+i=k+(i+1) by omega];exact this
   rw [List.length_cons,Nat.add_mul,Nat.one_mul,Nat.add_comm (ds.length * c) c,drop_take_add]
   rw [Nat.add_zero] at h1
   rw [h1,show k * c+c=(k+1) * c by rw [Nat.add_mul,Nat.one_mul],h2]
   rfl
theorem flat_of_trod:∀ (n:Nat) {fuel:Nat} {t:TypeId} {d:DataW Unit} {cs:List Value} {p:List MemPlace},tiles P n t d=true→DataW.trod (fun _=>()) P w base sp held fuel t cs=some (d,p)→cs=flatD d
 | 0,_,_,_,_,_,h,_=>by cases h
 | n+1,fuel,t,d,cs,p,ht,h=>by
   unfold tiles at ht
   split at ht
   ·rename_i fs ps hu
    obtain ⟨xs,m,rfl,hx,hl,hxl,hall⟩:=DataW.trod_struct hu h
    have e1:=congrArg Prod.fst hx
    simp only [DataW.agg.injEq] at e1
    have ht':tileF P (tiles P n) 0 fs.toList ps=some (P.cellsOf t):=by simpa using ht
    obtain ⟨_,h2⟩:=tileF_cells (cs:=cs) ht' fun i f d' hf hd hk=>by
     have h3:=hall i f (by simpa using hf)
     rw [e1,List.getElem?_map] at hd
     obtain ⟨y,hy,rfl⟩:=Option.map_eq_some_iff.1 hd
     rw [hy] at h3
     exact flat_of_trod n hk h3
    rw [List.drop_zero,Nat.sub_zero,List.take_of_length_le (by omega)] at h2
    rw [h2];rfl
   ·rename_i m e ps hu
    obtain ⟨k,xs,rfl,hx,hl,hall⟩:=trod_array hu h
    have e1:=congrArg Prod.fst hx
    simp only [DataW.agg.injEq] at e1
    simp only [Bool.and_eq_true,beq_iff_eq,List.all_eq_true] at ht
    obtain ⟨⟨h1,h2⟩,h3⟩:=ht
    obtain ⟨h4,h5⟩:=mapM_at hall
    have h6:=array_cells (cs:=cs) (c:=P.cellsOf e) (ds:=ps) (k:=0) fun i d' hd=>by
     have hi:i < m:=by rw [← h1];exact (List.getElem?_eq_some_iff.1 hd).1
     have h7:=h5 i i (by simp [hi])
     obtain ⟨q1,q2⟩:=h3 d' (List.mem_of_getElem? hd)
     rw [e1,List.getElem?_map] at hd
     obtain ⟨y,hy,rfl⟩:=Option.map_eq_some_iff.1 hd
     rw [hy] at h7
     rw [Nat.zero_add]
     exact flat_of_trod n q1 h7
    rw [Nat.zero_mul,List.drop_zero,List.take_of_length_le (by rw [h1,← h2,hl];exact Nat.le_refl _)] at h6
    rw [h6];rfl
   ·rename_i l hu
    obtain ⟨b,rfl,hx⟩:=DataW.trod_bool hu h
    cases hx;rfl
   ·rename_i k l hu
    obtain ⟨b,rfl,hx,_⟩:=DataW.trod_int hu h
    cases hx;rfl
   ·rename_i k l hu
    obtain ⟨b,rfl,hx⟩:=trod_float hu h
    cases hx;rfl
   ·rename_i l hu
    obtain ⟨b,rfl,hx,_⟩:=DataW.trod_string hu h
    cases hx
    show _=[Value.string ⟨⟨b.data.toList⟩⟩]
    simp
   ·cases ht
end
end Go.Am
namespace Go.Am
open Go.Proofs Go.Proofs.YtaohpnakjlokaaaGreatDoor
attribute [local irreducible] fN fI fB bX eR evCode evOps rX kOp aAv wW uM wX kGc aKT aKS kDr kMg drOps eN kT sl
def ten:List (Nat × DataW Unit):=[(8,Rows.laid_math_bits_deBruijn32tab),(9,Rows.laid_math_bits_deBruijn64tab),(10,Rows.laid_internal_strconv_float32info),(12,Rows.laid_internal_strconv_float64info),(11,Rows.laid_internal_strconv_optimize),(4,Rows.laid_internal_strconv_uint64pow10),(2,Rows.laid_unicode_utf8_acceptRanges),(5,Rows.laid_gauger_template_none),(1,Rows.laid_unicode_utf8_first),(18,Rows.laid_internal_strconv_pow10Tab)]
def aQu (e:Nat→TypeId)(x:Nat × DataW Unit):Nat × O:=(x.1,.cells ((flatD x.2).map ofV1) (e x.1) .ro)
theorem aLG (e:Nat→TypeId):qJ e=(ten.take 9).map (aQu e):=by kernel_rfl
theorem aSG:(ten.all fun x=>(flatD x.2).all aDa && Nat.blt x.1 1000)=true:=by kernel_rfl
def aII (e:Nat→TypeId)(f:Nat→Option O):List (Nat × Option O):=(15,some (.cells [.slice aN 0 23 23 1 false] (e 15) .ro)) :: ((ten.map fun x=>((aQu e x).1,some (aQu e x).2)) ++ (List.range 15).map fun j=>(aN+j,f j))
theorem aAQ:∀ {l:List (Nat × Option O)} {H:Hs} {q:Nat × Option O},(l.map (·.1)).Nodup→q ∈ l→(fQ l H).get q.1=q.2
 | [],_,_,_,h=>by cases h
 | p :: l,H,q,hn,h=>by
   rw [List.map_cons,List.nodup_cons] at hn
   show (if q.1=p.1 then p.2 else (fQ l H).get q.1)=q.2
   rcases List.mem_cons.1 h with rfl|h
   ·exact if_pos rfl
   ·rw [if_neg fun e=>hn.1 (by rw [← e];exact List.mem_map.2 ⟨q,h,rfl⟩)]
    exact aAQ hn.2 h
theorem aJW:∀ {l:List (Nat × Option O)} {H:Hs} {i:Nat} {o:O},(fQ l H).get i=some o→(i,some o) ∈ l ∨ H.get i=some o
 | [],_,_,_,h=>.inr h
 | p :: l,H,i,o,h=>by
   have h':(if i=p.1 then p.2 else (fQ l H).get i)=some o:=h
   by_cases e:i=p.1
   ·rw [if_pos e] at h'
    subst e
    exact .inl (by rw [← h'];simp)
   ·rw [if_neg e] at h'
    rcases aJW h' with h2|h2
    ·exact .inl (List.mem_cons_of_mem _ h2)
    ·exact .inr h2
theorem aJU (e:Nat→TypeId)(f:Nat→Option O):(aII e f).map (·.1)=15 :: (ten.map (·.1) ++ (List.range 15).map (aN+·)):=by
 unfold aII
 rw [List.map_cons,List.map_append,List.map_map,List.map_map];rfl
theorem zI (e:Nat→TypeId)(f:Nat→Option O):((aII e f).map (·.1)).Nodup:=by
 rw [aJU];decide
noncomputable abbrev aCD (e:Nat→TypeId)(f:Nat→Option O):Hs:=fQ (aII e f) (St.hs ⟨.nil,aN+15⟩)
theorem zH (e:Nat→TypeId)(f:Nat→Option O):(aCD e f).next=aN+15:=fF _ _
theorem aOC {e:Nat→TypeId}{f:Nat→Option O}{j:Nat}(h:j < 15):(aCD e f).get (aN+j)=f j :=
 aAQ (q:=(aN+j,f j)) (zI e f) (List.mem_cons_of_mem _ (List.mem_append_right _ (List.mem_map.2 ⟨j,List.mem_range.2 h,rfl⟩)))
theorem tE {e:Nat→TypeId}{f:Nat→Option O}{x:Nat × DataW Unit}(h:x ∈ ten):(aCD e f).get x.1=some (.cells ((flatD x.2).map ofV1) (e x.1) .ro) :=
 aAQ (q:=(x.1,some (aQu e x).2)) (zI e f) (List.mem_cons_of_mem _ (List.mem_append_left _ (List.mem_map.2 ⟨x,h,rfl⟩)))
theorem aOD {e:Nat→TypeId}{f:Nat→Option O}:(aCD e f).get 15=some (.cells [.slice aN 0 23 23 1 false] (e 15) .ro) :=
 aAQ (q:=(15,_)) (zI e f) (by simp [aII])
theorem aLn:(flatD Rows.laid_internal_strconv_uint64pow10).map ofV1=aDc:=by kernel_rfl
theorem aLr:(flatD Rows.laid_internal_strconv_pow10Tab).map ofV1=aCf:=by kernel_rfl
theorem aKQ:(flatD Rows.laid_internal_strconv_float64info).map ofV1=[.int .u64 52,.int .u64 11,.int .i64 (-1023)]:=by kernel_rfl
theorem aLl:(flatD Rows.laid_internal_strconv_optimize).map ofV1=[.bool true]:=by kernel_rfl
theorem aQy {e:Nat→TypeId}{f:Nat→Option O}{t:TypeId}(h0:f 0=some (.cells tC t .ro)){S:St}(hS:S.hs=aCD e f):aCL aN S:=by
 have hn:S.next=aN+15:=(congrArg Hs.next hS).trans (zH e f)
 refine ⟨by decide,by omega,⟨e 4,?_⟩,⟨e 12,.ro,?_⟩,⟨e 15,.ro,t,.ro,false,?_,?_⟩,⟨e 11,.ro,?_⟩,⟨e 18,?_⟩⟩
 ·rw [hS,← aLn];exact tE (x:=(4,Rows.laid_internal_strconv_uint64pow10)) (by simp [ten])
 ·rw [hS,← aKQ];exact tE (x:=(12,Rows.laid_internal_strconv_float64info)) (by simp [ten])
 ·rw [hS];exact aOD
 ·rw [hS];exact (aOC (j:=0) dc).trans h0
 ·rw [hS,← aLl];exact tE (x:=(11,Rows.laid_internal_strconv_optimize)) (by simp [ten])
 ·rw [hS,← aLr];exact tE (x:=(18,Rows.laid_internal_strconv_pow10Tab)) (by simp [ten])
theorem aLM {e:Nat→TypeId}{f:Nat→Option O}{S:St}(hS:S.hs=aCD e f){k:V→St→Prop}(hk:k (.bool true) S):RC Tryz.prog 4 [] S k :=
 aMG e (fun q hq=>by
  rw [aLG] at hq
  obtain ⟨x,hx,rfl⟩:=List.mem_map.1 hq
  rw [hS];exact tE (List.mem_of_mem_take hx)) hk
theorem aLN {e:Nat→TypeId}{f:Nat→Option O}{t:TypeId}(h0:f 0=some (.cells tC t .ro)){xs:List XS}{vx vk:V}{sk:List (Nat × Nat)}{aw:Nat}(haw:aw < 256)
  (hx:∀ S:St,S.next=aN+15→(∀ j,j < 15→S.hs.get (aN+j)=f j)→LX S vx xs) (hxo:∀ x ∈ xs,x.Ok) (hk:∀ S:St,(∀ j,j < 15→S.hs.get (aN+j)=f j)→SV S vk sk)
  {ρ:Rho} {w:World} {l':List Value} (hg:dW ρ) (hs:cP ρ (aCD e f) w) (hl:VRs ρ [vx,vk,.int .u8 (.ofNat aw)] l') :
  Calls Tryz.prog 3 ⟨l'⟩ w fun e' w'=>e'=.returned (.bool true)∧∃ ρ' H',Ext ρ (aCD e f) w ρ' H' w':=by
 have hngl:aN=1000:=rfl
 have hroom:room=4096:=rfl
 obtain ⟨S0,h1⟩:=aFl (aII e f) ⟨.nil,aN+15⟩ fun x hx=>by
  have:x.1 ∈ (aII e f).map (·.1):=List.mem_map.2 ⟨x,hx,rfl⟩
  rw [aJU] at this
  exact (show ∀ i ∈ (15 :: (ten.map (·.1) ++ (List.range 15).map (aN+·))),i < room by decide) _ this
 have hn:S0.next=aN+15:=(congrArg Hs.next h1).trans (zH e f)
 have hf:∀ j,j < 15→S0.hs.get (aN+j)=f j:=fun j h=>by rw [h1];exact aOC h
 have h2:=aRJ haw (hx S0 hn hf) hxo (sk:=sk) (vk:=vk) (fun S' h=>hk S' fun j hj=>(h _ om).trans (hf j hj)) (aQy h0 h1) om om (fun k h=>aLM h1 h)
 cases h2 with
 | mk v S' h3 h4 =>
   subst h4
   rw [h1] at h3
   exact (h3.callsOf (fn:=Tryz.f3) kr dc rfl hg hs hl).mono fun e' w' ⟨v',ρ',he,hv,_,hx⟩=>by
    cases hv
    exact ⟨he,ρ',_,hx⟩
end Go.Am
namespace Go.Am
open Go.Deep Go.Lib Go.Proofs Go.Proofs.YtaohpnakjlokaaaGreatDoor
attribute [local irreducible] fN fI fB bX eR evCode evOps rX kOp aAv wW uM wX kGc aKT aKS kDr kMg drOps eN kT sl
theorem aOA:∀ x ∈ ten,∃ n t,(n,x.2) ∈ Rows.bodyLimitsRow.laid∧Tryz.prog.globalNamed n=some x.1∧(Tryz.prog.globals[x.1]?).map (·.type)=some t∧tiles Tryz.prog 5 t x.2=true:=by
 intro x hx
 simp only [ten,List.mem_cons,List.not_mem_nil,or_false] at hx
 rcases hx with rfl|rfl|rfl|rfl|rfl|rfl|rfl|rfl|rfl|rfl
 ·exact ⟨ "math/bits.deBruijn32tab", _,by simp [Rows.bodyLimitsRow],by kernel_rfl,rfl,by kernel_rfl⟩
 ·exact ⟨ "math/bits.deBruijn64tab", _,by simp [Rows.bodyLimitsRow],by kernel_rfl,rfl,by kernel_rfl⟩
 ·exact ⟨ "internal/strconv.float32info", _,by simp [Rows.bodyLimitsRow],by kernel_rfl,rfl,by kernel_rfl⟩
 ·exact ⟨ "internal/strconv.float64info", _,by simp [Rows.bodyLimitsRow],by kernel_rfl,rfl,by kernel_rfl⟩
 ·exact ⟨ "internal/strconv.optimize", _,by simp [Rows.bodyLimitsRow],by kernel_rfl,rfl,by kernel_rfl⟩
 ·exact ⟨ "internal/strconv.uint64pow10", _,by simp [Rows.bodyLimitsRow],by kernel_rfl,rfl,by kernel_rfl⟩
 ·exact ⟨ "unicode/utf8.acceptRanges", _,by simp [Rows.bodyLimitsRow],by kernel_rfl,rfl,by kernel_rfl⟩
 ·exact ⟨ "gauger/template.none", _,by simp [Rows.bodyLimitsRow],by kernel_rfl,rfl,by kernel_rfl⟩
 ·exact ⟨ "unicode/utf8.first", _,by simp [Rows.bodyLimitsRow],by kernel_rfl,rfl,by kernel_rfl⟩
 ·exact ⟨ "internal/strconv.pow10Tab", _,by simp [Rows.bodyLimitsRow],by kernel_rfl,rfl,by kernel_rfl⟩
theorem aEl {w:World}{n:String}{g:Nat}{cs:Array Value}(h2:Tryz.prog.globalNamed n=some g)(hv:w.var? Tryz.prog n=some cs):∃ t f,w.heap[g]?=some (.cells cs t f):=by
 unfold World.var? at hv
 rw [h2] at hv
 have hv':(match w.heap[g]? with|some (.cells cs _ _)=>some cs|_=>none)=some cs:=hv
 split at hv'
 ·rename_i cs' t' f he
  cases hv'
  exact ⟨t',f,he⟩
 ·cases hv'
theorem aLL {w:World}(hL:laidMet Tryz.prog Rows.bodyLimitsRow.laid w):∀ x ∈ ten,∃ cs t f,w.heap[x.1]?=some (.cells cs t f)∧cs.toList=flatD x.2:=by
 intro x hx
 obtain ⟨n,t,h1,h2,h3,h4⟩:=aOA x hx
 obtain ⟨g,t',cs,fuel,p,hg,ht,hv,hd⟩:=laidMet.reads hL h1
 obtain rfl:=Option.some.inj (h2.symm.trans hg)
 obtain rfl:=Option.some.inj (h3.symm.trans ht)
 obtain ⟨t2,f,he⟩:=aEl h2 hv
 exact ⟨cs,t2,f,he,flat_of_trod 5 h4 hd⟩
theorem pZ {w:World}{a:Addr}{v:Value}(h:w.cell? a=some v):a.spot=none∧∃ c t f,w.heap[a.block]?=some (.cells c t f)∧c[a.off]?=some v:=by
 unfold World.cell? at h
 split at h
 ·rename_i c t f he
  split at h
  ·cases h
  ·rename_i hs
   exact ⟨by simpa using hs,c,t,f,he,h⟩
 ·cases h
theorem wD {w:World}{b o n:Nat}{v:Value}(h:w.cell? ((⟨b,o,none⟩:Addr).add n)=some v){c:Array Value}{t:TypeId}{f:Nat × Nat}(hc:w.heap[b]?=some (.cells c t f)):c[o+n]?=some v:=by
 have e:(⟨b,o,none⟩:Addr).add n=⟨b,o+n,none⟩:=by
  unfold Addr.add
  split
  ·rename_i h0;subst h0;rfl
  ·rfl
 rw [e] at h
 obtain ⟨_,c',t',f',h1,h2⟩:=pZ h
 rw [hc] at h1
 cases h1
 exact h2
theorem aGW:Rows.laid_internal_strconv_float64pow10=(DataW.slice ((List.range 23).map fun i=>.lit (.float .f64 (tB i))) []:DataW Unit):=by kernel_rfl
theorem aLs {w:World}(hL:laidMet Tryz.prog Rows.bodyLimitsRow.laid w):∃ b o cs t f c t2 f2,w.heap[15]?=some (.cells cs t f)∧cs.toList=[.slice (some ⟨b,o,none⟩) 23 23]∧w.heap[b]?=some (.cells c t2 f2)∧∀ i,i < 23→c[o+i]?=some (.float .f64 (tB i)):=by
 obtain ⟨g,t',cs,fuel,p,hg,ht,hv,hd⟩:=laidMet.reads hL (show ("internal/strconv.float64pow10", Rows.laid_internal_strconv_float64pow10) ∈ Rows.bodyLimitsRow.laid by simp [Rows.bodyLimitsRow])
 obtain rfl:=Option.some.inj ((show Tryz.prog.globalNamed "internal/strconv.float64pow10" = some 15 by kernel_rfl).symm.trans hg)
 obtain rfl:=Option.some.inj ((show (Tryz.prog.globals[15]?).map (·.type)=some 468 from rfl).symm.trans ht)
 obtain ⟨t2,f,he⟩:=aEl hg hv
 rcases open_slice1 (show Tryz.prog.underlying 468=some (.slice 261) by kernel_rfl) kr hd with ⟨_,h1⟩|⟨a,len,cap,m,n,V,D,Pl,h1,_,hlc,_,hm,hx,hat⟩
 ·rw [aGW] at h1;cases h1
 ·have hm':m=cap:=by rw [hm];rfl
  subst hm'
  have hx':=congrArg Prod.fst hx
  rw [aGW] at hx'
  injection hx' with e1 e2
  have hlen:len=23:=by have:=congrArg List.length e1;simpa using this.symm
  have hcap:m=len:=by have:=congrArg List.length e2;simp at this;omega
  subst hlen
  subst hcap
  have hV:∀ i,i < 23→V i=.float .f64 (tB i):=fun i hi=>by
   obtain ⟨k,h2,h3⟩:=trod_float (show Tryz.prog.underlying 261=some (.float .f64) by kernel_rfl) (hat i hi).2
   have h4:((List.range 23).map fun i=>(DataW.lit (.float .f64 (tB i)):DataW Unit))[i]?=((List.range 23).map D)[i]?:=by rw [e1]
   rw [List.getElem?_map,List.getElem?_map,List.getElem?_range hi] at h4
   have h5:(DataW.lit (.float .f64 (tB i)):DataW Unit)=D i:=by simpa using h4
   have h6:=congrArg Prod.fst h3
   rw [← h5] at h6
   injection h6 with h6
   injection h6 with _ h6
   rw [h6];simpa using h2
  obtain ⟨blk,off,spot⟩:=a
  obtain ⟨hs,c,t3,f3,hc,_⟩:=pZ (hat 0 dc).1
  have hs':spot=none:=hs
  subst hs'
  exact ⟨blk,off,cs,t2,f,c,t3,f3,he,h1,hc,fun i hi=>by rw [← hV i hi];exact wD (hat i hi).1 hc⟩
end Go.Am
namespace Go.Am
open Go.Proofs
set_option maxRecDepth 100000
attribute [local irreducible] fN fI fB bX eR evCode evOps rX kOp aAv wW uM wX kGc aKT aKS kDr kMg drOps eN kT sl
open Go.Proofs.YtaohpnakjlokaaaGreatDoor Go.Lib Go.Deep
def eT (w:World)(i:Nat):TypeId:=match w.heap[i]? with|some (.cells _ t _)=>t|_=>0
def cszT (w:World)(i:Nat):Nat:=match w.heap[i]? with|some (.cells c _ _)=>c.size|_=>0
def rhoT (w:World)(pl:Loc)(lk lx:Option Loc)(ln:Nat→Option Loc):Rho:=fun i=>if i < aN then some ⟨i,0,cszT w i,false⟩ else if i=aN then some pl else if i=aN+1 then lk else if i=aN+2 then lx else if i < aN+15 then ln (i - (aN+3)) else none
def fT (t:TypeId)(mk mx:Option O)(mn:Nat→Option O):Nat→Option O:=fun j=>if j=0 then some (.cells tC t .ro) else if j=1 then mk else if j=2 then mx else mn (j - 3)
def ArgR (ρ:Rho)(w:World)(l:Option Loc)(m:Option O):Prop:=∀ o,m=some o→∃ l' co,l=some l'∧l'.rw=false∧w.heap[l'.blk]?=some co∧OR ρ l' o co
section
variable {w:World} {pl:Loc} {lk lx:Option Loc} {ln:Nat→Option Loc}
theorem rhoT_globs:dW (rhoT w pl lk lx ln):=fun g hg=>⟨⟨g,0,cszT w g,false⟩,by simp [rhoT,hg],rfl,rfl⟩
theorem rhoT_p:rhoT w pl lk lx ln aN=some pl:=by
 show (if _ then _ else _)=_
 rw [if_neg (by omega),if_pos rfl]
theorem rhoT_k:rhoT w pl lk lx ln (aN+1)=lk:=by
 show (if _ then _ else _)=_
 rw [if_neg (by omega),if_neg (by omega),if_pos rfl]
theorem rhoT_x:rhoT w pl lk lx ln (aN+2)=lx:=by
 show (if _ then _ else _)=_
 rw [if_neg (by omega),if_neg (by omega),if_neg (by omega),if_pos rfl]
theorem rhoT_n {j:Nat}(h:j < 12):rhoT w pl lk lx ln (aN+3+j)=ln j:=by
 show (if _ then _ else _)=_
 rw [if_neg (by omega),if_neg (by omega),if_neg (by omega),if_neg (by omega),if_pos (by omega),show aN+3+j - (aN+3)=j by omega]
theorem tC_of {i:Nat}{v:V}(h:tC[i]?=some v):i < 23∧v=.float .f64 (tB i):=by
 unfold tC at h
 rw [List.getElem?_map] at h
 obtain ⟨y,hy,rfl⟩:=Option.map_eq_some_iff.1 h
 obtain ⟨h1,h2⟩:=List.getElem?_eq_some_iff.1 hy
 rw [List.length_range] at h1
 rw [List.getElem_range] at h2
 exact ⟨h1,by rw [← h2]⟩
theorem tC_len:tC.length=23:=by unfold tC;rw [List.length_map,List.length_range]
theorem ten_or (hL:laidMet Tryz.prog Rows.bodyLimitsRow.laid w){x:Nat × DataW Unit}(hx:x ∈ ten):∃ l co,rhoT w pl lk lx ln x.1=some l∧w.heap[l.blk]?=some co∧OR (rhoT w pl lk lx ln) l (.cells ((flatD x.2).map ofV1) (eT w x.1) .ro) co∧l.rw=false:=by
 obtain ⟨cs,t,f,h1,h2⟩:=aLL hL x hx
 have hok:=List.all_eq_true.1 aSG x hx
 simp only [Bool.and_eq_true] at hok
 have hlt:x.1 < aN:=Nat.le_of_ble_eq_true hok.2
 refine ⟨⟨x.1,0,cszT w x.1,false⟩,_,by simp [rhoT,hlt],h1,?_,rfl⟩
 refine ⟨cs,f,by simp [eT,h1],by simp [cszT,h1],?_,fun i v hv=>?_,fun hne=>absurd rfl hne,fun he=>by cases he⟩
 ·have:cs.size=(flatD x.2).length:=by rw [← h2];simp
  show 0+_ ≤ _
  simp [this]
 ·rw [List.getElem?_map] at hv
  obtain ⟨y,hy,rfl⟩:=Option.map_eq_some_iff.1 hv
  refine ⟨y,?_,VR.ofV1 (List.all_eq_true.1 hok.1 y (List.mem_of_getElem? hy))⟩
  show cs[0+i]?=some y
  rw [Nat.zero_add,← Array.getElem?_toList,h2];exact hy
theorem top_get (hL:laidMet Tryz.prog Rows.bodyLimitsRow.laid w){b o:Nat}{cs:Array Value}{t:TypeId}{f:Nat × Nat}{c:Array Value}{t2:TypeId}{f2:Nat × Nat}(h1:w.heap[15]?=some (.cells cs t f))(h2:cs.toList=[.slice (some ⟨b,o,none⟩) 23 23])(h3:w.heap[b]?=some (.cells c t2 f2))(h4:∀ i,i < 23→c[o+i]?=some (.float .f64 (tB i)))
  {mk mx:Option O} {mn:Nat→Option O} (hk:ArgR (rhoT w ⟨b,o,c.size,false⟩ lk lx ln) w lk mk) (hx:ArgR (rhoT w ⟨b,o,c.size,false⟩ lk lx ln) w lx mx) (hn:∀ j,j < 12→ArgR (rhoT w ⟨b,o,c.size,false⟩ lk lx ln) w (ln j) (mn j))
  {i:Nat} {ob:O} (h:(aCD (eT w) (fT t2 mk mx mn)).get i=some ob):∃ l co,rhoT w ⟨b,o,c.size,false⟩ lk lx ln i=some l∧w.heap[l.blk]?=some co∧OR (rhoT w ⟨b,o,c.size,false⟩ lk lx ln) l ob co∧l.rw=false:=by
 have hngl:aN=1000:=rfl
 rcases aJW h with h5|h5
 ·rcases List.mem_cons.1 h5 with h6|h6
  ·obtain ⟨rfl,h7⟩:=Prod.mk.inj h6
   obtain rfl:=Option.some.inj h7
   refine ⟨⟨_,0,cszT w 15,false⟩,_,rfl,h1,⟨cs,f,by simp [eT,h1],by simp [cszT,h1],?_,fun i v hv=>?_,fun hne=>absurd rfl hne,fun he=>by cases he⟩,rfl⟩
   ·have:=congrArg List.length h2
    simp at this
    show 0+1 ≤ _
    omega
   ·cases i with
    | succ i=>simp at hv
    | zero =>
      have hv':v=.slice aN 0 23 23 1 false:=by simpa using hv.symm
      subst hv'
      refine ⟨.slice (some ⟨b,o,none⟩) 23 23,?_,?_⟩
      ·show cs[0+0]?=_
       rw [← Array.getElem?_toList,h2];rfl
      ·have:=VR.slice (ρ:=rhoT w ⟨b,o,c.size,false⟩ lk lx ln) (id:=aN) 0 23 23 1 false 0 23 rhoT_p (fun _=>rfl) (Nat.le_refl _) (fun h=>by cases h) (Nat.le_refl _) (fun h=>by cases h)
       exact this
  ·rcases List.mem_append.1 h6 with h6|h6
   ·obtain ⟨x,hx,h7⟩:=List.mem_map.1 h6
    obtain ⟨rfl,h8⟩:=Prod.mk.inj h7
    obtain rfl:=Option.some.inj h8
    exact ten_or hL hx
   ·obtain ⟨j,hj,h7⟩:=List.mem_map.1 h6
    obtain ⟨rfl,h8⟩:=Prod.mk.inj h7
    have hj:=List.mem_range.1 hj
    unfold fT at h8
    by_cases e0:j=0
    ·rw [if_pos e0] at h8
     obtain rfl:=Option.some.inj h8
     subst e0
     refine ⟨_,_,rhoT_p,h3,⟨c,f2,rfl,rfl,?_,fun i v hv=>?_,fun hne=>absurd rfl hne,fun he=>by cases he⟩,rfl⟩
     ·rw [tC_len]
      have:=(Array.getElem?_eq_some_iff.1 (h4 22 (by decide))).1
      show o+23 ≤ _
      omega
     ·obtain ⟨hi,rfl⟩:=tC_of hv
      exact ⟨_,h4 i hi,.float _ _⟩
    ·rw [if_neg e0] at h8
     by_cases e1:j=1
     ·rw [if_pos e1] at h8
      obtain ⟨l,co,g1,g2,g3,g4⟩:=hk _ h8
      subst e1
      exact ⟨l,co,rhoT_k.trans g1,g3,g4,g2⟩
     ·rw [if_neg e1] at h8
      by_cases e2:j=2
      ·rw [if_pos e2] at h8
       obtain ⟨l,co,g1,g2,g3,g4⟩:=hx _ h8
       subst e2
       exact ⟨l,co,rhoT_x.trans g1,g3,g4,g2⟩
      ·rw [if_neg e2] at h8
       obtain ⟨l,co,g1,g2,g3,g4⟩:=hn (j - 3) (by omega) _ h8
       have:=rhoT_n (w:=w) (pl:=⟨b,o,c.size,false⟩) (lk:=lk) (lx:=lx) (ln:=ln) (j:=j - 3) (by omega)
       rw [show aN+3+(j - 3)=aN+j by omega] at this
       exact ⟨l,co,this.trans g1,g3,g4,g2⟩
 ·exact absurd h5 (by show ¬ T.get fU i .nil=some ob;rw [yA];simp)
theorem top_world (hL:laidMet Tryz.prog Rows.bodyLimitsRow.laid w){mk mx:Option O}{mn:Nat→Option O}{xs:List XS}{vx vk:V}{sk:List (Nat × Nat)}{aw:Nat}{l':List Value}(haw:aw < 256)
  (hargs:∀ ρ:Rho,ρ (aN+1)=lk→ρ (aN+2)=lx→(∀ j,j < 12→ρ (aN+3+j)=ln j)→ArgR ρ w lk mk∧ArgR ρ w lx mx∧(∀ j,j < 12→ArgR ρ w (ln j) (mn j))∧VRs ρ [vx,vk,.int .u8 (.ofNat aw)] l')
  (hx:∀ S:St,S.next=aN+15→S.hs.get (aN+2)=mx→(∀ j,j < 12→S.hs.get (aN+3+j)=mn j)→LX S vx xs) (hxo:∀ x ∈ xs,x.Ok) (hk:∀ S:St,S.hs.get (aN+1)=mk→SV S vk sk) :
  Calls Tryz.prog 3 ⟨l'⟩ w fun e w'=>e=.returned (.bool true)∧RowKit.Below w.heap.size w w':=by
 obtain ⟨b,o,cs,t,f,c,t2,f2,h1,h2,h3,h4⟩:=aLs hL
 obtain ⟨a1,a2,a3,a4⟩:=hargs (rhoT w ⟨b,o,c.size,false⟩ lk lx ln) rhoT_k rhoT_x fun j h=>rhoT_n h
 have hget:=fun {i:Nat} {ob:O}=>top_get (i:=i) (ob:=ob) hL h1 h2 h3 h4 a1 a2 a3
 have hsim:cP (rhoT w ⟨b,o,c.size,false⟩ lk lx ln) (aCD (eT w) (fT t2 mk mx mn)) w:=by
  refine ⟨fun i ob h=>?_,fun i i' l l1 h h' hl hl' hr hne=>?_,fun i hi=>?_⟩
  ·obtain ⟨l,co,g1,g2,g3,_⟩:=hget h
   exact ⟨l,co,g1,g2,g3⟩
  ·obtain ⟨ob,ho⟩:=Option.isSome_iff_exists.1 h
   obtain ⟨l2,co,g1,_,_,g4⟩:=hget ho
   cases g1.symm.trans hl
   rw [g4] at hr;cases hr
  ·rw [zH] at hi
   simp only [rhoT]
   rw [if_neg (by omega),if_neg (by omega),if_neg (by omega),if_neg (by omega),if_neg (by omega)]
 have hown:∀ k,¬ Own (rhoT w ⟨b,o,c.size,false⟩ lk lx ln) (aCD (eT w) (fT t2 mk mx mn)) k:=by
  rintro k ⟨i,l,h,hl,hr,_⟩
  obtain ⟨ob,ho⟩:=Option.isSome_iff_exists.1 h
  obtain ⟨l1,co,g1,_,_,g4⟩:=hget ho
  cases g1.symm.trans hl
  rw [g4] at hr;cases hr
 refine (aLN (e:=eT w) (f:=fT t2 mk mx mn) (t:=t2) rfl haw (fun S hn hS=>hx S hn (hS 2 (by decide)) fun j h=>?_) hxo (fun S hS=>hk S (hS 1 (by decide))) rhoT_globs hsim a4).mono fun e w' ⟨he,ρ',H',hx'⟩ =>
  ⟨he,hx'.os,hx'.tape,hx'.output,hx'.size,fun k hk'=>hx'.keep k hk' (hown k)⟩
 have:=hS (3+j) (by omega)
 rw [show aN+(3+j)=aN+3+j by omega] at this
 rw [this]
 unfold fT
 rw [if_neg (by omega),if_neg (by omega),if_neg (by omega),show 3+j - 3=j by omega]
end
end Go.Am
namespace Go.Am
open Go.Proofs
set_option maxRecDepth 100000
attribute [local irreducible] fN fI fB bX eR evCode evOps rX kOp aAv wW uM wX kGc aKT aKS kDr kMg drOps eN kT sl
open Go.Proofs.YtaohpnakjlokaaaGreatDoor Go.Lib Go.Deep
section
variable {H:Type} {enc:TypeId × Value→H} {w:World}
theorem row_u8 {f:Nat}{v:Value}{y:DataW H × List MemPlace}(h:DataW.trod enc Tryz.prog w 0 (fun _=>true) true f 5 [v]=some y):∃ n:Nat,v=.int .u8 (.ofNat n)∧n < 256:=by
 obtain ⟨n,h1,_,h2⟩:=DataW.trod_int Tryz.underlying5 h
 cases h1
 have h3:IntKind.min .u8 ≤ n∧n ≤ IntKind.max .u8:=by simpa [Lit.wf] using h2
 simp [IntKind.min,IntKind.max,IntKind.signed,IntKind.bits] at h3
 exact ⟨n.toNat,by rw [Int.ofNat_eq_natCast,Int.toNat_of_nonneg h3.1],by omega⟩
theorem add_none (b o n:Nat):(⟨b,o,none⟩:Addr).add n=⟨b,o+n,none⟩:=by
 unfold Addr.add
 split
 ·rename_i h0;subst h0;rfl
 ·rfl
theorem smallV_of:∀ (l:List (Nat × Nat)) (i:Nat) (v:V),(dM l)[i]?=some v→∃ s,l[i / 2]?=some s∧(i % 2=0∧v=.int .u8 (.ofNat s.1) ∨ i % 2=1∧v=.int .u8 (.ofNat s.2))
 | [],i,v,h=>by simp [dM] at h
 | s :: l,0,v,h=>⟨s,rfl,.inl ⟨rfl,by simpa [dM] using h.symm⟩⟩
 | s :: l,1,v,h=>⟨s,rfl,.inr ⟨rfl,by simpa [dM] using h.symm⟩⟩
 | s :: l,i+2,v,h=>by
   obtain ⟨s',h1,h2⟩:=smallV_of l i v (by simpa [dM] using h)
   exact ⟨s',by rw [show (i+2) / 2=i / 2+1 by omega];simpa using h1,by rw [show (i+2) % 2=i % 2 by omega];exact h2⟩
theorem range_get {α:Type}{q:Nat→α}{n i:Nat}{s:α}(h:((List.range n).map q)[i]?=some s):i < n∧s=q i:=by
 rw [List.getElem?_map] at h
 obtain ⟨y,hy,rfl⟩:=Option.map_eq_some_iff.1 h
 obtain ⟨h2,h3⟩:=List.getElem?_eq_some_iff.1 hy
 rw [List.length_range] at h2
 rw [List.getElem_range] at h3
 exact ⟨h2,by rw [← h3]⟩
theorem open_small {v:Value}{fuel:Nat}{x:DataW H × List MemPlace}(id:Nat)(hd:DataW.trod enc Tryz.prog w 0 (fun _=>true) true fuel 23 [v]=some x) :
  ∃ (l:Option Loc) (m:Option O) (u:V) (s:List (Nat × Nat)),(∀ ρ,ArgR ρ w l m)∧(∀ S:St,S.hs.get id=m→SV S u s)∧∀ ρ:Rho,ρ id=l→VR ρ u v:=by
 rcases open_slice_pairs Tryz.underlying23 Tryz.underlying99 (by kernel_rfl) rfl rfl (by kernel_rfl) (by kernel_rfl) hd with ⟨h1,_⟩|⟨⟨blk,off,spot⟩,len,cap,m,n,V0,V1,D0,D1,P0,P1,h1,_,hlc,_,hm,_,hx⟩
 ·cases h1
  exact ⟨none,none,.nilSlice,[],fun _ _ h=>(by cases h),fun _ _=>.inl ⟨rfl,.inl rfl⟩,fun _ _=>.nilSlice⟩
 ·cases h1
  have hm':m=cap:=by rw [hm];rfl
  subst hm'
  have hsp:0 < m→spot=none:=fun h=>by
   obtain ⟨h2,_⟩:=hx 0 h
   exact (pZ (a:=⟨blk,off,spot⟩) (by simpa [Addr.add] using h2)).1
  rcases Nat.eq_zero_or_pos len with h0|h0
  ·subst h0
   exact ⟨some ⟨blk,off,0,false⟩,none,.slice id 0 0 0 2 false,[],fun _ _ h=>(by cases h),fun _ _=>.inl ⟨rfl,.inr ⟨_,_,rfl⟩⟩,
    fun ρ hρ=>VR.sliceS 0 0 0 2 false 0 m spot hρ (fun h=>by omega) (Nat.zero_le _) (fun h=>by cases h) (Nat.le_refl _) (fun h=>by cases h) hsp⟩
  ·obtain rfl:=hsp (by omega)
   obtain ⟨_,c,row,f,hc,_⟩:=pZ (a:=⟨blk,off,none⟩) (by simpa [Addr.add] using (hx 0 (by omega)).1)
   have hcell:∀ i,i < len→∃ q:Nat × Nat,c[off+i * 2]?=some (.int .u8 (.ofNat q.1))∧c[off+i * 2+1]?=some (.int .u8 (.ofNat q.2)):=by
    intro i hi
    obtain ⟨h2,h3,h4,h5⟩:=hx i (by omega)
    obtain ⟨n0,e0,_⟩:=row_u8 h4
    obtain ⟨n1,e1,_⟩:=row_u8 h5
    rw [e0] at h2;rw [e1] at h3
    exact ⟨(n0,n1),wD h2 hc,by rw [Nat.add_assoc];exact wD h3 hc⟩
   obtain ⟨q,hq⟩:=choose_lt hcell
   refine ⟨some ⟨blk,off,c.size,false⟩,some (.cells (dM ((List.range len).map q)) row .ro),.slice id 0 len len 2 false,(List.range len).map q,?_,fun S hS=>.inr ⟨id,len,false,[],row,.ro,by simp,by simp,by rw [hS];simp⟩,fun ρ hρ=>?_⟩
   ·intro ρ o ho
    cases ho
    refine ⟨_,_,rfl,rfl,hc,⟨c,f,rfl,rfl,?_,fun i v hv=>?_,fun h=>absurd rfl h,fun h=>by cases h⟩⟩
    ·show off+(dM _).length ≤ _
     rw [pR,List.length_map,List.length_range]
     have:=(Array.getElem?_eq_some_iff.1 (hq (len - 1) (by omega)).2).1
     omega
    ·obtain ⟨s,h2,h3⟩:=smallV_of _ _ _ hv
     obtain ⟨h4,rfl⟩:=range_get h2
     show ∃ v',c[off+i]?=some v'∧_
     rcases h3 with ⟨h5,rfl⟩|⟨h5,rfl⟩
     ·refine ⟨_,?_,.int _ _⟩
      have:=(hq _ h4).1
      rwa [show off+i / 2 * 2=off+i by omega] at this
     ·refine ⟨_,?_,.int _ _⟩
      have:=(hq _ h4).2
      rwa [show off+i / 2 * 2+1=off+i by omega] at this
   ·exact VR.slice (ρ:=ρ) (id:=id) (l:=⟨blk,off,c.size,false⟩) 0 len len 2 false 0 m hρ (fun _=>rfl) hlc (fun h=>by cases h) (Nat.le_refl _) (fun h=>by cases h)
theorem cz:Tryz.prog.cellsOf 48=5∧Tryz.prog.cellsOf 5=1∧Tryz.prog.cellsOf 23=1∧Tryz.prog.cellsOf 41=1∧Tryz.prog.cellsOf 3=1∧Tryz.prog.cellsOf 4=1:=⟨by kernel_rfl,by kernel_rfl,by kernel_rfl,by kernel_rfl,by kernel_rfl,by kernel_rfl⟩
theorem open_row {fuel:Nat}{cs:List Value}{y:DataW H × List MemPlace}(h:DataW.trod enc Tryz.prog w 0 (fun _=>true) true fuel 48 cs=some y) :
  ∃ (nm:Nat) (u:Value) (b:Nat) (t:Int) (timed:Bool),cs=[.int .u8 (.ofNat nm),u,.int .u64 (.ofNat b),.int .i64 t,.bool timed]∧b < 18446744073709551616∧-9223372036854775808 ≤ t∧t ≤ 9223372036854775807∧∃ (n:Nat) (x:DataW H × List MemPlace),DataW.trod enc Tryz.prog w 0 (fun _=>true) true n 23 [u]=some x:=by
 obtain ⟨z1,z2,z3,z4,z5,z6⟩:=cz
 obtain ⟨xs,n,rfl,hx,hl,hxl,hall⟩:=DataW.trod_struct Tryz.underlying48 h
 rw [z1] at hl
 match cs,hl with
 | [v0,v1,v2,v3,v4],_ =>
   match xs,hxl with
   | [y0,y1,y2,y3,y4],_ =>
     have g0:=hall 0 _ rfl
     have g1:=hall 1 _ rfl
     have g2:=hall 2 _ rfl
     have g3:=hall 3 _ rfl
     have g4:=hall 4 _ rfl
     simp [z2] at g0
     simp [z3] at g1
     simp [z4] at g2
     simp [z5] at g3
     simp [z6] at g4
     obtain ⟨nm,rfl,_⟩:=row_u8 g0
     obtain ⟨b,hb,_,hbw⟩:=DataW.trod_int Tryz.underlying41 g2
     cases hb
     obtain ⟨t,ht,_,htw⟩:=DataW.trod_int Tryz.underlying3 g3
     cases ht
     obtain ⟨z,hz,_⟩:=DataW.trod_bool Tryz.underlying4 g4
     cases hz
     have b3:IntKind.min .u64 ≤ b∧b ≤ IntKind.max .u64:=by simpa [Lit.wf] using hbw
     have t3:IntKind.min .i64 ≤ t∧t ≤ IntKind.max .i64:=by simpa [Lit.wf] using htw
     simp [IntKind.min,IntKind.max,IntKind.signed,IntKind.bits] at b3 t3
     obtain ⟨b',rfl⟩:=Int.eq_ofNat_of_zero_le b3.1
     exact ⟨nm,v1,b',t,z,rfl,by omega,by omega,by omega,n,y1,g1⟩
structure RowG (w:World)(c:Array Value)(off id i:Nat)(q:XS × Option Loc × Option O):Prop where
 ok:q.1.Ok
 arg:∀ ρ,ArgR ρ w q.2.1 q.2.2
 sv:∀ S:St,S.hs.get (id+i)=q.2.2→SV S q.1.v q.1.s
 at':∀ ρ:Rho,ρ (id+i)=q.2.1→∀ k v,q.1.cs[k]?=some v→∃ v',c[off+i * 5+k]?=some v'∧VR ρ v v'
 all:∀ k,k < 5→off+i * 5+k < c.size
instance:Inhabited XS:=⟨⟨0,.nilSlice,[],0,0,false⟩⟩
theorem XS.cs_len (x:XS):x.cs.length=5:=rfl
theorem cs_of:∀ {xs:List XS} {i:Nat} {v:V},(xs.flatMap XS.cs)[i]?=some v→∃ x,xs[i / 5]?=some x∧x.cs[i % 5]?=some v
 | [],i,v,h=>by simp at h
 | x :: xs,i,v,h=>by
   rw [List.flatMap_cons] at h
   rcases Nat.lt_or_ge i 5 with h5|h5
   ·rw [List.getElem?_append_left (by rw [XS.cs_len];exact h5)] at h
    exact ⟨x,by rw [Nat.div_eq_of_lt h5];rfl,by rw [Nat.mod_eq_of_lt h5];exact h⟩
   ·rw [List.getElem?_append_right (by rw [XS.cs_len];exact h5),XS.cs_len] at h
    obtain ⟨y,h1,h2⟩:=cs_of h
    exact ⟨y,by rw [show i / 5=(i - 5) / 5+1 by omega];simpa using h1,by rw [show i % 5=(i - 5) % 5 by omega];exact h2⟩
theorem cs_row:∀ {xs:List XS} {j:Nat} (h:j < xs.length),((xs.flatMap XS.cs).drop (5 * j)).take 5=xs[j].cs
 | x :: xs,0,_=>by
   rw [List.flatMap_cons]
   exact List.take_left' rfl
 | x :: xs,j+1,h=>by
   rw [List.flatMap_cons,show 5 * (j+1)=5+5 * j by omega,← List.drop_drop]
   exact cs_row (xs:=xs) (by simpa using h)
theorem cs_size:∀ xs:List XS,(xs.flatMap XS.cs).length=5 * xs.length
 | []=>rfl
 | x :: xs=>by rw [List.flatMap_cons,List.length_append,cs_size xs,XS.cs_len,List.length_cons];omega
theorem open_rows {v:Value}{fuel:Nat}{x:DataW H × List MemPlace}(ix id:Nat)(hd:DataW.trod enc Tryz.prog w 0 (fun _=>true) true fuel 22 [v]=some x) :
  ∃ (l:Option Loc) (m:Option O) (ln:Nat→Option Loc) (mn:Nat→Option O) (u:V) (xs:List XS),(∀ x ∈ xs,x.Ok)∧(∀ j ρ,ArgR ρ w (ln j) (mn j)) ∧
    (∀ S:St,ix < S.next→id+12 ≤ S.next→S.hs.get ix=m→(∀ j,j < 12→S.hs.get (id+j)=mn j)→LX S u xs) ∧
    ∀ ρ:Rho,ρ ix=l→(∀ j,j < 12→ρ (id+j)=ln j)→VR ρ u v∧ArgR ρ w l m:=by
 rcases open_slice Tryz.underlying22 hd with ⟨h1,_⟩|⟨⟨blk,off,spot⟩,len,cap,m,n,D,Pl,h1,_,hlc,_,hm,_,hx⟩
 ·cases h1
  exact ⟨none,none,fun _=>none,fun _=>none,.nilSlice,[],fun _ h=>(by cases h),fun _ _ _ h=>(by cases h),fun _ _ _ _ _=>.inl ⟨rfl,.inl rfl⟩,fun _ _ _=>⟨.nilSlice,fun _ h=>(by cases h)⟩⟩
 ·cases h1
  have hm':m=cap:=by rw [hm];rfl
  subst hm'
  have hcells:∀ i,i < m→∃ cs' y,(∀ k,k < 5→∃ v',cs'[k]?=some v'∧w.cell? (((⟨blk,off,spot⟩:Addr).add (i * 5)).add k)=some v')∧cs'.length=5∧DataW.trod enc Tryz.prog w 0 (fun _=>true) true n 48 cs'=some y:=fun i hi=>by
   obtain ⟨cs',h2,h3⟩:=hx i hi
   rw [cz.1] at h2
   unfold World.cells? at h2
   rw [if_pos (Nat.zero_le _)] at h2
   obtain ⟨h4,h5⟩:=mapM_at h2
   rw [List.length_range] at h4
   refine ⟨cs',_,fun k hk=>?_,h4,h3⟩
   have h6:=h5 k k (by rw [List.getElem?_range hk])
   rw [List.getElem?_eq_getElem (by omega)] at h6
   exact ⟨_,List.getElem?_eq_getElem (by omega),h6⟩
  have hsp:0 < m→spot=none:=fun h=>by
   obtain ⟨cs',y,h2,_⟩:=hcells 0 h
   obtain ⟨v',_,h3⟩:=h2 0 (by decide)
   exact (pZ (a:=⟨blk,off,spot⟩) (by simpa [Addr.add] using h3)).1
  rcases Nat.eq_zero_or_pos len with h0|h0
  ·subst h0
   exact ⟨some ⟨blk,off,0,false⟩,none,fun _=>none,fun _=>none,.slice ix 0 0 0 5 false,[],fun _ h=>(by cases h),fun _ _ _ h=>(by cases h),fun _ _ _ _ _=>.inl ⟨rfl,.inr ⟨_,_,rfl⟩⟩,
    fun ρ hρ _=>⟨VR.sliceS 0 0 0 5 false 0 m spot hρ (fun h=>by omega) (Nat.zero_le _) (fun h=>by cases h) (Nat.le_refl _) (fun h=>by cases h) hsp,fun _ h=>(by cases h)⟩⟩
  ·obtain rfl:=hsp (by omega)
   obtain ⟨c,row,f,hc⟩:∃ c row f,w.heap[blk]?=some (.cells c row f):=by
    obtain ⟨cs',y,h2,_⟩:=hcells 0 (by omega)
    obtain ⟨v',_,h3⟩:=h2 0 (by decide)
    obtain ⟨_,c,row,f,hc,_⟩:=pZ (a:=⟨blk,off,none⟩) (by simpa [Addr.add] using h3)
    exact ⟨c,row,f,hc⟩
   have hrow:∀ i,i < len→∃ q,RowG w c off id i q:=fun i hi=>by
    obtain ⟨cs',y,h2,h3,h4⟩:=hcells i (by omega)
    obtain ⟨nm,u,b,t,z,rfl,hb,ht1,ht2,n',x',h5⟩:=open_row h4
    obtain ⟨l,mo,u',s,g1,g2,g3⟩:=open_small (id+i) h5
    have hat:∀ k,k < 5→∃ v',[Value.int .u8 (.ofNat nm),u,.int .u64 (.ofNat b),.int .i64 t,.bool z][k]?=some v'∧c[off+i * 5+k]?=some v':=fun k hk=>by
     obtain ⟨v',g4,g5⟩:=h2 k hk
     rw [add_none] at g5
     exact ⟨v',g4,wD g5 hc⟩
    refine ⟨(⟨nm,u',s,b,t,z⟩,l,mo),⟨hb,ht1,ht2⟩,g1,g2,fun ρ hρ k v hv=>?_,fun k hk=>?_⟩
    ·have hk:k < 5:=(List.getElem?_eq_some_iff.1 hv).1
     obtain ⟨v',g4,g5⟩:=hat k hk
     refine ⟨v',g5,?_⟩
     have hv':[V.int .u8 (.ofNat nm),u',.int .u64 (.ofNat b),.int .i64 t,.bool z][k]?=some v:=hv
     match k,hk with
     | 0,_=>simp at hv' g4;subst hv';subst g4;exact .int _ _
     | 1,_=>simp at hv' g4;subst hv';subst g4;exact g3 ρ hρ
     | 2,_=>simp at hv' g4;subst hv';subst g4;exact .int _ _
     | 3,_=>simp at hv' g4;subst hv';subst g4;exact .int _ _
     | 4,_=>simp at hv' g4;subst hv';subst g4;exact .bool _
    ·obtain ⟨v',_,g5⟩:=hat k hk
     exact (Array.getElem?_eq_some_iff.1 g5).1
   obtain ⟨q,hq⟩:=choose_lt hrow
   let xs:=(List.range (min len 12)).map fun i=>(q i).1
   have hxl:xs.length=min len 12:=by simp [xs]
   have hxa:∀ (i:Nat) (x:XS),xs[i]?=some x→i < min len 12∧x=(q i).1:=fun i x h=>range_get h
   refine ⟨some ⟨blk,off,c.size,false⟩,some (.cells (xs.flatMap XS.cs) row .ro),fun j=>if j < min len 12 then (q j).2.1 else none,fun j=>if j < min len 12 then (q j).2.2 else none,.slice ix 0 len len 5 false,xs,fun x hx=>?_,fun j ρ=>?_,fun S h2 h3 h4 h5=>?_,fun ρ hρ hn=>⟨?_,?_⟩⟩
   ·obtain ⟨i,hi⟩:=List.getElem?_of_mem hx
    obtain ⟨h1,rfl⟩:=hxa i x hi
    exact (hq i (by omega)).ok
   ·by_cases hj:j < min len 12
    ·simp only [if_pos hj];exact (hq j (by omega)).arg ρ
    ·simp only [if_neg hj];exact fun _ h=>by cases h
   ·refine .inr ⟨ix,len,len,false,_,row,.ro,rfl,hxl,Nat.le_refl _,h2,h4,fun j h=>cs_row h,fun x hx S' hS'=>?_⟩
    obtain ⟨i,hi⟩:=List.getElem?_of_mem hx
    obtain ⟨h1,rfl⟩:=hxa i x hi
    refine (hq i (by omega)).sv S' ?_
    exact (hS' _ (by omega)).trans ((h5 i (by omega)).trans (if_pos h1))
   ·exact VR.slice (ρ:=ρ) (id:=ix) (l:=⟨blk,off,c.size,false⟩) 0 len len 5 false 0 m hρ (fun _=>rfl) hlc (fun h=>by cases h) (Nat.le_refl _) (fun h=>by cases h)
   ·intro o ho
    cases ho
    refine ⟨_,_,rfl,rfl,hc,⟨c,f,rfl,rfl,?_,fun i v hv=>?_,fun h=>absurd rfl h,fun h=>by cases h⟩⟩
    ·show off+(xs.flatMap XS.cs).length ≤ _
     rw [cs_size,hxl]
     have:=(hq (min len 12 - 1) (by omega)).all 4 (by decide)
     omega
    ·obtain ⟨x,h2,h3⟩:=cs_of hv
     obtain ⟨h4,rfl⟩:=hxa _ _ h2
     obtain ⟨v',g1,g2⟩:=(hq (i / 5) (by omega)).at' ρ ((hn _ (by omega)).trans (if_pos h4)) _ _ h3
     refine ⟨v',?_,g2⟩
     show c[off+i]?=_
     rwa [show off+i / 5 * 5+i % 5=off+i by omega] at g1
end
end Go.Am
namespace Go.Am
open Go.ChangeAt Go.ChangeShapes Go.Deep Go.Lib Go.Proofs Go.Proofs.YtaohpnakjlokaaaGreatDoor Go.RowKit Go.WideShapes
attribute [local irreducible] fN fI fB bX eR evCode evOps rX kOp aAv wW uM wX kGc aKT aKS kDr kMg drOps eN kT sl
theorem aQd:ownKnob Tryz.prog.godebug=none:=by kernel_rfl
theorem aEU:laidOutB Tryz.prog=true:=by kernel_rfl
theorem aUj {W:World}{r:Reach}{base:Nat}{v:Value}(h:Value.okWide Tryz.prog W r base 5 v):∃ k n,v=.int k n:=by
 simp only [Value.okWide,Tryz.underlying5] at h
 unfold Cell.okWide at h
 rw [Tryz.underlying5] at h
 unfold Cell.ok at h
 rw [Tryz.underlying5] at h
 cases v <;> first|exact ⟨_,_,rfl⟩|exact h.elim
theorem aMM {H:Type}{enc:TypeId × Value→H}{W:World}{base:Nat}{v0 v1 v2:Value}{d0 d1 d2:DataW H}{p0 p1 p2:List MemPlace}{r:Reach}(h0:DataW.Trod enc Tryz.prog W 0 (fun _=>true) true 22 v0 d0 p0)(h1:DataW.Trod enc Tryz.prog W 0 (fun _=>true) true 23 v1 d1 p1)(h2:DataW.Trod enc Tryz.prog W 0 (fun _=>true) true 5 v2 d2 p2)
  (hv0:Value.okWide Tryz.prog W r base 22 v0) (hv1:Value.okWide Tryz.prog W r base 23 v1) (hv2:Value.okWide Tryz.prog W r base 5 v2) (hL:laidMet Tryz.prog Rows.bodyLimitsRow.laid W) :
  Calls Tryz.prog 3 #[v0,v1,v2] W fun e w'=>e=.returned (.bool true)∧Below W.heap.size W w':=by
 have hngl:aN=1000:=rfl
 obtain ⟨f0,g0⟩:=h0
 obtain ⟨f1,g1⟩:=h1
 obtain ⟨f2,g2⟩:=h2
 have e0:DataW.trod enc Tryz.prog W 0 (fun _=>true) true f0 22 [v0]=some (d0,p0):=by
  obtain ⟨a,len,cap,rfl⟩:=okWide_slice Tryz.underlying22 hv0
  exact g0
 have e1:DataW.trod enc Tryz.prog W 0 (fun _=>true) true f1 23 [v1]=some (d1,p1):=by
  obtain ⟨a,len,cap,rfl⟩:=okWide_slice Tryz.underlying23 hv1
  exact g1
 have e2:DataW.trod enc Tryz.prog W 0 (fun _=>true) true f2 5 [v2]=some (d2,p2):=by
  obtain ⟨k,n,rfl⟩:=aUj hv2
  exact g2
 obtain ⟨aw,rfl,haw⟩:=row_u8 e2
 obtain ⟨lk,mk,vk,sk,a1,a2,a3⟩:=open_small (aN+1) e1
 obtain ⟨lx,mx,ln,mn,vx,xs,b1,b2,b3,b4⟩:=open_rows (aN+2) (aN+3) e0
 exact top_world hL haw (fun ρ r1 r2 r3=>⟨a1 ρ,(b4 ρ r2 r3).2,fun j _=>b2 j ρ,.cons (b4 ρ r2 r3).1 (.cons (a3 ρ r1) (.cons (.int _ _) .nil))⟩)
  (fun S hn hS hS'=>b3 S om om hS hS') b1 a2
end Go.Am
