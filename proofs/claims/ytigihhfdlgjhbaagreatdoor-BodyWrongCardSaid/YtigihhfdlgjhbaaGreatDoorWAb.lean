/- Part 2 of the proof that BodyWrong returns true, and leaves its arguments as they were, for every input, over a start where the listed variables hold what the program lays: the statement Rows.BodyWrongCardSaid. -/
import Derived.Test.YtigihhfdlgjhbaaGreatDoorWAa
import Derived.Lib.UnsafeStr
import Derived.Lib.Bytealg
import Derived.Lib.MakeNoZero
import Derived.Lib.ConvBytes
import Derived.Laws.BytesArg
import Derived.RangeFuncLeaves
import Derived.OrdersIn
set_option linter.unusedVariables false
set_option linter.unusedSimpArgs false
set_option maxRecDepth 100000
set_option maxHeartbeats 400000000
namespace Go.Am
section
variable {P:Program} {E:Env}
theorem wV (g o:Nat)(t:TypeId)(f:Nat × Nat):∀ (vs:List Value) (i:Nat) (cur:Array Value) (w:World),w.heap[g]?=some (.cells cur t f)->o+i+vs.length <= cur.size ->
  (∀ off,off < cur.size->¬ (f.1 <= off∧off < f.2))->(∀ v ∈ vs,v.oneCell'=true) ->
  ∃ w' cur',(storeCells ⟨g,o,none⟩ vs i).run P w=.ok () w'∧w'.heap[g]?=some (.cells cur' t f)∧cur'.size=cur.size∧(∀ j v,vs[j]?=some v->cur'[o+i+j]?=some v) ∧
    (∀ j,j < o+i->cur'[j]?=cur[j]?)∧(∀ b,b ≠ g->w'.heap[b]?=w.heap[b]?)∧w'.heap.size=w.heap.size∧w'.tape=w.tape∧w'.os=w.os∧w'.output=w.output∧w'.drawn=w.drawn
 | [],i,cur,w,hg,_,_,_=>⟨w,cur,by simp [storeCells],hg,rfl,sm,sm,sm,rfl,rfl,rfl,rfl,rfl⟩
 | v :: rest,i,cur,w,hg,hl,hf,h1=>by
   have hi:o+i < cur.size:=by simp at hl;omega
   have hadd:(⟨g,o,none⟩:Addr).add i=⟨g,o+i,none⟩:=by unfold Addr.add;split <;> simp_all
   have hcell:w.cell? ⟨g,o+i,none⟩=some cur[o+i]:=by simp [World.cell?,hg,hi]
   have hfr:w.frozen? ⟨g,o+i,none⟩=false:=by
    have:=hf (o+i) hi;simp [World.frozen?,hg];omega
   have hw1:(w.setCell ⟨g,o+i,none⟩ v).heap[g]?=some (.cells (cur.setIfInBounds (o+i) v) t f):=by
    simp only [World.setCell,Array.getElem?_modify,if_true,hg,Option.map_some];rfl
   obtain ⟨w',cur',a,b,c,d,e,k,l,m,n,p,pd⟩:=wV g o t f rest (i+1) _ (w.setCell ⟨g,o+i,none⟩ v) hw1 (by simp at hl ⊢;omega) (by simpa using hf) (fun x hx=>h1 x (by simp [hx]));refine ⟨w',cur',?_,b,by simpa using c,fun j u hu=>?_,fun j hj=>?_,fun b' hb'=>?_,by simpa using l,m,n,p,pd⟩
   ·simp only [storeCells,Sem.run_bind,hadd];rw [run_store _ _ _ _ _ (h1 v sm),hcell,hfr];exact a
   ·cases j with
    | zero =>
      simp at hu;subst hu;rw [Nat.add_zero,e (o+i) om];simp [hi]
    | succ j =>
      have:=d j u (by simpa using hu);rwa [show o+(i+1)+j=o+i+(j+1) by omega] at this
   ·rw [e j om,Array.getElem?_setIfInBounds_ne om]
   ·rw [k b' hb'];exact heap_setCell_other _ _ _ _ hb'
theorem cP.forget {ρ:Rho}{H:Hs}{w:World}(hs:cP ρ H w)(id:Nat):cP ρ (H.put id none) w where
 obj i o h:=by
  by_cases e:i=id
  ·subst e;simp [Hs.put] at h
  ·simp [Hs.put,e] at h;exact hs.obj i o h
 sep i j li lj hi hj:=by
  have hget:∀ i,((H.put id none).get i).isSome->(H.get i).isSome:=fun i hi=>by
   by_cases e:i=id
   ·subst e;simp [Hs.put] at hi
   ·simpa [Hs.put,e] using hi
  exact hs.sep i j li lj (hget i hi) (hget j hj)
 fresh:=hs.fresh
theorem Ext.forget (ρ:Rho)(H:Hs)(w:World)(id:Nat):Ext ρ H w ρ (H.put id none) w where
 rho _ _:=rfl
 next:=af _
 size:=af _
 keep _ _ _:=rfl
 own b:=fun ⟨i,l,hi,hl,hr,hb⟩=>.inr ⟨i,l,by
  by_cases e:i=id
  ·subst e;simp [Hs.put] at hi
  ·simpa [Hs.put,e] using hi,hl,hr,hb⟩
 has b:=fun ⟨i,l,hi,hl,hb⟩=>.inr ⟨i,l,by
  by_cases e:i=id
  ·subst e;simp [Hs.put] at hi
  ·simpa [Hs.put,e] using hi,hl,hb⟩
 tape:=rfl
 os:=rfl
 output:=rfl
 drawn:=af _
theorem cP.rename {ρ:Rho}{H:Hs}{w w':World}(hs:cP ρ H w){id:Nat}{o:O}(h:H.get id=some o)
  {l:Loc} (hl:ρ id=some l) (hrw:l.rw=true) {l':Loc} (hbl:l'.blk=l.blk) (hrw':l'.rw=true) {o':O} {co':Obj} (hb:w'.heap[l.blk]?=some co') (hoth:∀ b,b ≠ l.blk->w'.heap[b]?=w.heap[b]?)
  (hsz:w'.heap.size=w.heap.size) (ht:w'.tape=w.tape) (hos:w'.os=w.os) (hout:w'.output=w.output) (ho:OR (ρ.put H.next l') l' o' co') (hdr:w.drawn <= w'.drawn:=by exact af _) :
  cP (ρ.put H.next l') ((H.put id none).new o') w'∧Ext ρ H w (ρ.put H.next l') ((H.put id none).new o') w':=by
 have hsome:(H.get id).isSome:=by rw [h];rfl
 have h0:ρ H.next=none:=hs.fresh _ (af _);have hidlt:id < H.next:=hs.lt hl
 have hget:∀ i,i ≠ H.next->∀ x,((H.put id none).new o').get i=some x->i ≠ id∧H.get i=some x:=fun i hi x hx=>by
  have h1:((H.put id none).new o').get i=if i=H.next then some o' else if i=id then none else H.get i:=rfl
  rw [h1,if_neg hi] at hx;by_cases e:i=id
  ·rw [if_pos e] at hx;cases hx
  ·rw [if_neg e] at hx;exact ⟨e,hx⟩
 have hnew:((H.put id none).new o').get H.next=some o':=by
  show (if H.next=H.next then some o' else _)=_;rw [if_pos rfl]
 refine ⟨⟨fun i x hx=>?_,fun i j li lj hi hj hli hlj hr hne=>?_,fun i hi=>?_⟩,?_⟩
 ·by_cases e:i=H.next
  ·subst e;rw [hnew] at hx;cases hx;exact ⟨l',co',Rho.put_self _ _ _,by rw [hbl];exact hb,ho⟩
  ·obtain ⟨e',hx'⟩:=hget i e x hx;obtain ⟨li,co,a,b,c⟩:=hs.obj i x hx';refine ⟨li,co,by rw [Rho.put_ne _ _ e];exact a,?_,c.mono (Rho.le_put h0 _)⟩;rw [hoth _ (fun hbe=>hs.sep id i l li hsome (by rw [hx'];rfl) hl a hrw (Ne.symm e') hbe.symm)];exact b
 ·obtain ⟨xi,hxi⟩:=bc.1 hi;obtain ⟨xj,hxj⟩:=bc.1 hj;by_cases e:i=H.next
  ·subst e;rw [Rho.put_self] at hli;cases hli;obtain ⟨e',hx'⟩:=hget j (Ne.symm hne) xj hxj;rw [Rho.put_ne _ _ (Ne.symm hne)] at hlj;rw [hbl];exact hs.sep id j l lj hsome (by rw [hx'];rfl) hl hlj hrw (Ne.symm e')
  ·obtain ⟨ei,hx'⟩:=hget i e xi hxi;rw [Rho.put_ne _ _ e] at hli;by_cases e2:j=H.next
   ·subst e2;rw [Rho.put_self] at hlj;cases hlj;rw [hbl];exact hs.sep i id li l (by rw [hx'];rfl) hsome hli hl hr ei
   ·obtain ⟨ej,hxj'⟩:=hget j e2 xj hxj;rw [Rho.put_ne _ _ e2] at hlj;exact hs.sep i j li lj (by rw [hx'];rfl) (by rw [hxj'];rfl) hli hlj hr hne
 ·have:H.next+1 <= i:=hi;rw [Rho.put_ne _ _ om];exact hs.fresh i om
 ·exact {
   rho:=fun i hi=>Rho.put_ne _ _ om
   next:=Nat.le_succ _
   size:=Nat.le_of_eq hsz.symm
   keep:=fun b _ hn=>hoth b fun hbe=>hn ⟨id,l,hsome,hl,hrw,hbe.symm⟩
   own:=fun b ⟨i,li,hi,hli,hr,hbb⟩=>by
    by_cases e:i=H.next
    ·subst e;rw [Rho.put_self] at hli;cases hli;exact .inr ⟨id,l,hsome,hl,hrw,by rw [<- hbb,hbl]⟩
    ·obtain ⟨xi,hxi⟩:=bc.1 hi;obtain ⟨_,hx'⟩:=hget i e xi hxi;rw [Rho.put_ne _ _ e] at hli;exact .inr ⟨i,li,by rw [hx'];rfl,hli,hr,hbb⟩
   has:=fun b ⟨i,li,hi,hli,hbb⟩=>by
    by_cases e:i=H.next
    ·subst e;rw [Rho.put_self] at hli;cases hli;exact .inr ⟨id,l,hsome,hl,by rw [<- hbb,hbl]⟩
    ·obtain ⟨xi,hxi⟩:=bc.1 hi;obtain ⟨_,hx'⟩:=hget i e xi hxi;rw [Rho.put_ne _ _ e] at hli;exact .inr ⟨i,li,by rw [hx'];rfl,hli,hbb⟩
   tape:=ht,os:=hos,output:=hout,drawn:=hdr }
theorem pD:∀ {s:List UInt8} {k:List V->Prop},pT s k->k (s.map fun b=>.int .u8 b.toNat)
 | [],_,h=>h
 | b :: s,k,h=>by
   have h1:=bV (n:=b.toNat) (k:=fun n=>pT s fun r=>k (.int .u8 (Int.ofNat n) :: r)) h;exact pD (k:=fun r=>k (.int .u8 (Int.ofNat b.toNat) :: r)) h1
theorem VRs.bytes {ρ:Rho}:∀ (s:List UInt8),VRs ρ (s.map fun b=>.int .u8 b.toNat) (s.map fun b=>Value.int .u8 b.toNat)
 | []=>.nil
 | b :: s=>.cons (.int .u8 _) (VRs.bytes s)
theorem jR (a:Addr)(w:World):(loadCells a 0).run P w=.ok #[] w:=by simp [loadCells,loadCellsFrom]
theorem aDR {es:Nat}{S:St}{x:V}{k:List V->Nat->Prop}(h:aRG es S x k) :
  ∃ xs m,k xs m∧xs.length=m * es∧∀ (ρ:Rho) (w:World) (x':Value),cP ρ S.hs w->VR ρ x x'->(Builtin.lenOf x').run P w=.ok m w ∧
    ∀ q,q <= m->∃ xs',(Builtin.firstCells es q x').run P w=.ok ⟨xs'⟩ w∧VRs ρ (xs.take (q * es)) xs':=by
 unfold aRG at h
 split at h
 ·refine ⟨_,_,h,sm,fun ρ w x' hs hx=>?_⟩;cases hx;exact ⟨by simp [Builtin.lenOf],fun q hq=>⟨[],by simp [Builtin.firstCells],by simp;exact .nil⟩⟩
 ·rename_i s
  obtain ⟨he,h1⟩:=aT h;have he:=aj he;subst he;have h2:=pD h1;refine ⟨_,_,h2,by rw [aM];simp,fun ρ w x' hs hx=>?_⟩;cases hx;refine ⟨by rw [aM];simp [Builtin.lenOf];rfl,fun q hq=>⟨(s.take q).map fun b=>Value.int .u8 b.toNat,?_,?_⟩⟩
  ·have:((⟨⟨s⟩⟩:ByteArray).extract 0 q).data=⟨s.take q⟩:=by
    simp [ByteArray.data_extract]
   simp [Builtin.firstCells,this]
  ·rw [Nat.mul_one,<- List.map_take];exact VRs.bytes _
 ·rename_i id off n c es' ex
  obtain ⟨he,h1⟩:=aT h;have he:=aj he;subst he;obtain ⟨cs,e,fl,hg,h2⟩:=fV h1;obtain ⟨h3,h4⟩:=iD h2;obtain ⟨h5,h6⟩:=gP h4;refine ⟨_,_,h6,by simp at h5 ⊢;omega,fun ρ w x' hs hx=>?_⟩
  cases hx with
  | sliceS _ _ _ _ _ off' cap' sp hl ho hc hx hlen hr hsp =>
    refine ⟨by simp [Builtin.lenOf],fun q hq=>?_⟩;by_cases hz:0 < c
    ·obtain rfl:=hsp om;rw [ho hz];have hqe:q * es <= n * es:=bi _ hq;obtain ⟨c',h7,h8⟩:=hs.loadCells (P:=P) hg hl (off:=off) (n:=q * es) (by simp at h5;omega);refine ⟨c',by simp [Builtin.firstCells,h7],?_⟩;have e1:n.mul es=n * es:=rfl;rw [e1,List.take_take,Nat.min_eq_left hqe];exact h8
    ·have:q=0:=om;subst this;exact ⟨[],by simp [Builtin.firstCells,jR],by simp;exact .nil⟩
 ·exact h.elim
theorem nK {t e:TypeId}(h:qY P t=some e):P.underlying t=some (.slice e):=by
 unfold qY at h;split at h
 ·cases h;assumption
 ·cases h
theorem aGC {ts:Array TypeId}(h:yI P ts=true):ts[1]?=none ∨ ∃ t d,ts[1]?=some t∧P.underlying t=some d∧∀ k,d ≠ .int k:=by
 unfold yI at h
 split at h
 ·exact .inl (by assumption)
 ·rename_i t ht
  split at h
  ·cases h
  ·cases h
  ·rename_i d hk hd
   exact .inr ⟨t,d,ht,hd,fun k e=>hk k e⟩
theorem iM {ts:Array TypeId}{ty t e:TypeId}{i:TypeInfo}(hn:yI P ts=true)(ht:ts[0]?=some t)(hu:P.underlying t=some (.slice e))(hi:P.info? e=some i)
  {base:Option Addr} {n c m:Nat} {x:Value} {w:World} (hm:(Builtin.lenOf x).run P w=.ok m w) :
  (Builtin.append_ ts ty #[.slice base n c,x]).run P w=(if n+m <= c then (do
    let new <- Builtin.firstCells i.size m x
    if let some a:=base then storeCells (a.add (n * i.size)) new.toList
    pure (.slice base (n+m) c))
   else (do
    if ((n+m:Nat):Int) > IntKind.i64.max∧(false=true ∨ (<- typeInfo e).bytes=0) then runtimePanic (.error "growslice: len out of range")
    if Builtin.nextslicecap (n+m) c * (<- typeInfo e).bytes > 2 ^ 48 then (if false=true then runtimePanic (.error "growslice: len out of range") else do
     if !(<- Builtin.mayShare i.size n m base x) then mark .noRoom
     unsupported (.resourceLimit "append: a slice or a string whose bytes no memory bears"))
    let newCap <- choose (.appendCap (n+m) c e)
    askRoom (newCap * (<- typeInfo e).bytes)
    let old <- Builtin.firstCells i.size n (.slice base n c)
    let new <- Builtin.firstCells i.size m x
    let rest:=Builtin.zeroCells (<- zeroValue e).cells (newCap - (n+m))
    pure (.slice (some (<- newRow e (old ++ new ++ rest))) (n+m) newCap)):Sem Value).run P w:=by
 rcases aGC hn with h1|⟨t1,d1,h1,h2,h3⟩
 ·simp only [Builtin.append_,ht,h1,Sem.run_bind,run_underlying hu,Result.andThen_ok,bP hi,Sem.run_pure,hm,Bool.false_eq_true,if_false,Bool.not_false,if_true,List.getElem?_toArray,List.getElem?_cons_zero,List.getElem?_cons_succ]
  split <;> simp [Sem.run_bind] <;> rfl
 ·cases d1 <;> first
   | exact absurd rfl (h3 _)
   | (simp only [Builtin.append_,ht,h1,Sem.run_bind,run_underlying hu,run_underlying h2,Result.andThen_ok,bP hi,Sem.run_pure,hm,Bool.false_eq_true,if_false,Bool.not_false,if_true,List.getElem?_toArray,List.getElem?_cons_zero,List.getElem?_cons_succ]
      split <;> simp [Sem.run_bind] <;> rfl)
end
section
variable {P:Program} {E:Env}
theorem aAK (b o i:Nat):(⟨b,o,none⟩:Addr).add i=⟨b,o+i,none⟩:=by
 unfold Addr.add;by_cases h0:i=0
 ·subst h0;simp
 ·simp [h0]
theorem aBU {ts:Array TypeId}{ty t e:TypeId}{i:TypeInfo}{zv:Value}(hn:yI P ts=true)(ht:ts[0]?=some t)(hu:P.underlying t=some (.slice e))(hi:P.info? e=some i)(hz:i.zero=some zv)
  {base:Option Addr} {n c m:Nat} {x:Value} {w:World} (hm:(Builtin.lenOf x).run P w=.ok m w) (hc:c < n+m) (hb:(n+m) * (i.bytes+1) <= 70368744177664)
  {os ns:List Value} (ho:(Builtin.firstCells i.size n (.slice base n c)).run P w.drew=.ok ⟨os⟩ w.drew) (hx:(Builtin.firstCells i.size m x).run P w.drew=.ok ⟨ns⟩ w.drew) :
  (Builtin.append_ ts ty #[.slice base n c,x]).run P w=.ok (.slice (some ⟨w.heap.size,0,none⟩) (n+m) (grownCap w (n+m) c e))
   (w.drew.alloc (.cells (⟨os ++ ns⟩ ++ Builtin.zeroCells zv.cells (grownCap w (n+m) c e - (n+m))) e)):=by
 rw [iM hn ht hu hi hm,if_neg om];rw [Nat.mul_add] at hb;have h63:¬ (9223372036854775807 < ((n:Int)+(m:Int))):=om
 have h2:∀ r:Array Value,(⟨os⟩:Array Value) ++ (⟨ns⟩ ++ r)=⟨os ++ ns⟩ ++ r:=fun r=>by apply Array.ext';simp
 have h48:=growslice_fits (bytes:=i.bytes) hc om;have h48':¬ (281474976710656 < Builtin.nextslicecap (n+m) c * i.bytes):=om;simp [h63,h48',pB hi,Question.forced,ho,hx,dA hi hz,newRow,grownCap,h2]
theorem OR.cells_row {ρ:Rho}{cs:List V}{cs' rest:List Value}(h:VRs ρ cs cs')(b:Nat)(t:TypeId):OR ρ ⟨b,0,cs'.length+rest.length,true⟩ (.cells cs t .rw) (.cells ⟨cs' ++ rest⟩ t):=by
 refine ⟨⟨cs' ++ rest⟩,(0,0),rfl,sm,by simp [h.length],fun i v hi=>?_,fun _=>⟨rfl,fun off _=>by simp⟩,fun h=>by cases h⟩;obtain ⟨v',a,b⟩:=h.get hi;refine ⟨v',?_,b⟩
 have:i < cs'.length:=by
  rcases Nat.lt_or_ge i cs'.length with h'|h'
  ·exact h'
  ·simp [List.getElem?_eq_none h'] at a
 simp [List.getElem?_append_left this,a]
theorem cP.firstCells {ρ:Rho}{H:Hs}{w:World}(hs:cP ρ H w){id off n c es:Nat}{ex:Bool}{s':Value}(hv:VR ρ (.slice id off n c es ex) s'){cs:List V}{e:TypeId}{fl:Fl}(hg:H.get id=some (.cells cs e fl))
  (h1:off <= cs.length) (h2:n * es <= (cs.drop off).length) :
  ∃ os,(Builtin.firstCells es n s').run P w=.ok ⟨os⟩ w∧VRs ρ ((cs.drop off).take (n * es)) os:=by
 cases hv with
 | sliceS _ _ _ _ _ off' cap' sp hl ho hc hx hlen hr hsp =>
   by_cases hz:0 < c
   ·obtain rfl:=hsp om;rw [ho hz];obtain ⟨c',h7,h8⟩:=hs.loadCells (P:=P) hg hl (off:=off) (n:=n * es) (by simp at h2;omega);exact ⟨c',by simp [Builtin.firstCells,h7],h8⟩
   ·have:n=0:=om;subst this;exact ⟨[],by simp [Builtin.firstCells,jR],by simp;exact .nil⟩
theorem aOP {ρ:Rho}:∀ {vs:List V} {vs':List Value},VRs ρ vs vs'->cQ vs=true->∀ v ∈ vs',v.oneCell'=true
 | _,_,.nil,_,v,hv=>by cases hv
 | u :: l,_,.cons h hs,ha,v,hv=>by
   rcases av.1 hv with rfl|hv
   ·rw [h.one];exact jU ha u sm
   ·refine aOP hs ?_ v hv;have h':Bool.rec (motive:=fun _=>Bool) false (cQ l) u.one=true:=ha
    cases hu:u.one with
    | false=>rw [hu] at h';cases h'
    | true=>rw [hu] at h';exact h'
def Ap (P:Program)(f:World->Value->Value->Result Value)(S:Hs)(s x:V)(v:V)(S':Hs):Prop :=
 ∀ (ρ:Rho) (w:World) (s' x':Value),cP ρ S w->VR ρ s s'->VR ρ x x'->∃ v' w' ρ',f w s' x'=.ok v' w'∧VR ρ' v v'∧cP ρ' S' w'∧Ext ρ S w ρ' S' w'
theorem aAL {ts:Array TypeId}{ty t e:TypeId}{i:TypeInfo}{zv:Value}(hn:yI P ts=true)(ht:ts[0]?=some t)(hu:P.underlying t=some (.slice e))(hi:P.info? e=some i)(hz:i.zero=some zv)(hzs:zv.cells.size=i.size)
  {base:Option Addr} {n c m:Nat} {x:Value} {w:World} (hm:(Builtin.lenOf x).run P w=.ok m w) (hc:c < n+m) (hb:(n+m) * (i.bytes+1) <= 70368744177664)
  {ρ:Rho} {H H':Hs} (hs:cP ρ H w) {os:List V} {os':List Value} (hos:VRs ρ os os') (hol:os.length=n * i.size) (hor:(Builtin.firstCells i.size n (.slice base n c)).run P w.drew=.ok ⟨os'⟩ w.drew)
  {xs:List V} {xs':List Value} (hxs:VRs ρ xs xs') (hxl:xs.length=m * i.size) (hxr:(Builtin.firstCells i.size m x).run P w.drew=.ok ⟨xs'⟩ w.drew) (hH:H'=H.new (.cells (os ++ xs) e .rw)) :
  ∃ v' w' ρ',(Builtin.append_ ts ty #[.slice base n c,x]).run P w=.ok v' w'∧VR ρ' (.slice H.next 0 (n+m) (n+m) i.size false) v'∧cP ρ' H' w'∧Ext ρ H w ρ' H' w':=by
 have hr:=aBU (ty:=ty) hn ht hu hi hz hm hc hb hor hxr;have hge:=grownCap_ge w (n+m) c e;generalize grownCap w (n+m) c e=cap at hr hge;generalize hrest:(Builtin.zeroCells zv.cells (cap - (n+m)))=rest at hr
 have hrs:rest.size=(cap - (n+m)) * i.size:=by rw [<- hrest];simp [Builtin.zeroCells,hzs]
 have e1:(⟨os' ++ xs'⟩ ++ rest:Array Value)=⟨(os' ++ xs') ++ rest.toList⟩:=by apply Array.ext';simp
 rw [e1] at hr;have hsd:=hs.drew;have h0:ρ H.next=none:=hs.fresh _ (af _);have ho:=OR.cells_row (ρ:=ρ.put H.next ⟨w.heap.size,0,(os' ++ xs').length+rest.toList.length,true⟩) (rest:=rest.toList) ((hos.append hxs).mono (Rho.le_put h0 _)) w.heap.size e;obtain ⟨h1,h2⟩:=hsd.alloc (csz:=(os' ++ xs').length+rest.toList.length) ho;refine ⟨_,_,_,hr,?_,by rw [hH];exact h1,by rw [hH];exact (Ext.drew ρ H w).trans h2⟩
 have hlen:(os' ++ xs').length+rest.toList.length=cap * i.size:=by
  have a:=hos.length;have b:=hxs.length;simp [hrs];rw [<- a,<- b,hol,hxl,<- Nat.add_mul,<- Nat.add_mul]
  congr 1;omega
 have:=VR.slice (ρ:=ρ.put H.next ⟨w.heap.size,0,(os' ++ xs').length+rest.toList.length,true⟩) 0 (n+m) (n+m) i.size false 0 cap (Rho.put_self _ _ _) (fun _=>rfl) hge (fun h=>by cases h) (af _) (fun _=>by
  show 0+0+cap * i.size <= (os' ++ xs').length+rest.toList.length
  omega)
 simpa using this
theorem aEm {ts:Array TypeId}{s x:V}{S:St}{k:V->St->Prop}(h:aO P ts s x S k) :
  ∃ v S',k v S'∧∀ ty,Ap P (fun w s' x'=>(Builtin.append_ ts ty #[s',x']).run P w) S.hs s x v S'.hs:=by
 obtain ⟨hn,h1⟩:=aT h;obtain ⟨t,ht,h2⟩:=aQ h1;obtain ⟨e,he,h3⟩:=aQ h2;obtain ⟨i,hi,h4⟩:=aQ h3;obtain ⟨z,hz,h5⟩:=aQ h4;obtain ⟨hzl,h6⟩:=aT h5;obtain ⟨xs,m,h7,hxl,hx⟩:=aDR h6;have hu:=nK he;obtain ⟨i',zv,hi',hzv,hok,rfl⟩:=lV hz;rw [hi] at hi';cases hi'
 have hzs:zv.cells.size=i.size:=by
  rw [aM] at hzl;have:=aj hzl;have h2:=(VR.ofV (ρ:=fun _=>none) hok).cells.length;simp at h2;omega
 split at h7
 ·cases m with
  | zero =>
    refine ⟨_,S,h7,fun ty ρ w s' x' hs hsv hxv=>?_⟩;cases hsv;obtain ⟨hm,hf⟩:=hx ρ w x' hs hxv;obtain ⟨xs',hf1,_⟩:=hf 0 (af _);refine ⟨.slice none 0 0,w,ρ,?_,.nilSlice,hs,Ext.refl _ _ _⟩;show (Builtin.append_ ts ty #[.slice none 0 0,x']).run P w=_;rw [iM hn ht hu hi hm];simp [hf1]
  | succ m =>
    obtain ⟨hb,h8⟩:=aT h7;obtain ⟨S',h9,hS⟩:=eI h8;refine ⟨_,S',h9,fun ty ρ w s' x' hs hsv hxv=>?_⟩;cases hsv;obtain ⟨hm,_⟩:=hx ρ w x' hs hxv;obtain ⟨xs',hf1,hf2⟩:=(hx ρ w.drew x' hs.drew hxv).2 (m+1) (af _);rw [bd om] at hf2
    have:=aAL (ty:=ty) hn ht hu hi hzv hzs hm (n:=0) (c:=0) (base:=none) om (by
     have:=ae hb
     simpa using this) hs (os:=[]) .nil sm (by simp [Builtin.firstCells]) hf2 hxl hf1 (H':=S'.hs) hS
    rw [Nat.zero_add] at this;exact this
 ·rename_i id off n c es ex
  obtain ⟨hes,h8⟩:=aT h7;have hes:=aj hes;subst hes;have h9:=bV (k:=fun need=>Bool.rec (motive:=fun _=>Prop) _ _ (Nat.ble need c)) h8;have eadd:Nat.add n m=n+m:=rfl;rw [eadd] at h9
  cases hble:Nat.ble (n+m) c with
  | true =>
    rw [hble] at h9;have hle:=ae hble
    cases m with
    | zero =>
      refine ⟨_,S,h9,fun ty ρ w s' x' hs hsv hxv=>?_⟩;obtain ⟨hm,hf⟩:=hx ρ w x' hs hxv;obtain ⟨xs',hf1,hf2⟩:=hf 0 (af _);have hsv':=hsv
      cases hsv with
      | sliceS _ _ _ _ _ off' cap' sp hl ho hc hxx hlen hr hsp =>
        refine ⟨_,w,ρ,?_,hsv',hs,Ext.refl _ _ _⟩;show (Builtin.append_ ts ty #[.slice _ n cap',x']).run P w=_;rw [iM hn ht hu hi hm,if_pos om]
        have:xs'=[]:=by
         have:=hf2.length;simp at this;exact List.eq_nil_of_length_eq_zero this.symm
        subst this;simp [hf1,storeCells]
    | succ m =>
      obtain ⟨hpos,h10⟩:=aT h9;obtain ⟨cs,e',fl,hg,h11⟩:=fV h10;obtain ⟨hfl,h12⟩:=pW h11;obtain ⟨hone,h13⟩:=aT h12;obtain ⟨hov,h14⟩:=nC h13;obtain ⟨S',h15,hS⟩:=bS h14;refine ⟨_,S',h15,fun ty ρ w s' x' hs hsv hxv=>?_⟩;obtain ⟨hm,hf⟩:=hx ρ w x' hs hxv;obtain ⟨xs',hf1,hf2⟩:=hf (m+1) (af _);rw [bd om] at hf2
      have hpos':0 < i.size:=by simpa using hpos
      have hxne:xs ≠ []:=fun hz=>by
       rw [hz] at hxl;have:0 < (m+1) * i.size:=Nat.mul_pos (Nat.succ_pos m) hpos';rw [<- hxl] at this;exact absurd this (Nat.lt_irrefl _)
      have emul:Nat.add off (Nat.mul n i.size)=off+n * i.size:=rfl;rw [if_neg hxne,Nat.add_zero,emul] at hov
      cases hsv with
      | sliceS _ _ _ _ _ off' cap' sp hl ho hc hxx hlen hr hsp =>
        rename_i l
        obtain rfl:=hsp om;obtain ⟨w',hr1,hs1,he1⟩:=cP.storeCells (P:=P) hfl hl (off:=off+n * i.size) hf2 (jU hone) (i:=0) hs hg om;have hoff:=ho om;subst hoff;refine ⟨.slice (some ⟨l.blk,l.base+off',none⟩) (n+(m+1)) cap',w',ρ,?_,.slice off' (n+(m+1)) c i.size ex off' cap' hl ho hc hxx hle hr,by rw [hS];exact hs1,by rw [hS];exact he1⟩;show (Builtin.append_ ts ty #[.slice _ n cap',x']).run P w=_;rw [iM hn ht hu hi hm,if_pos om]
        have ha:(⟨l.blk,l.base+off',none⟩:Addr).add (n * i.size)=⟨l.blk,l.base+(off'+n * i.size),none⟩:=by
         rw [aAK,Nat.add_assoc]
        simp [hf1,ha,hr1]
  | false =>
    rw [hble] at h9
    have hgt:c < n+m:=by
     rcases Nat.lt_or_ge c (n+m) with h'|h'
     ·exact h'
     ·rw [ag h'] at hble;cases hble
    obtain ⟨hb,h10⟩:=aT h9;obtain ⟨cs,e',fl,hg,h11⟩:=fV h10;obtain ⟨h12,h13⟩:=iD h11;obtain ⟨h14,h15⟩:=gP h13;have h16:=jV h15;have emul:n.mul i.size=n * i.size:=rfl;rw [emul] at h14 h16;have hb':(n+m) * (i.bytes+1) <= 70368744177664:=ae hb
    have hol:((cs.drop off).take (n * i.size)).length=n * i.size:=by rw [bh];omega
    -- what a new row makes
    have fresh:∀ (ty:TypeId) (ρ:Rho) (w:World) (H H':Hs) (s' x':Value) (b:Option Addr) (cap:Nat),s'=.slice b n cap->cap < n+m->cP ρ S.hs w->cP ρ H w->H'=H.new (.cells ((cs.drop off).take (n * i.size) ++ xs) e .rw)->VR ρ (.slice id off n c i.size ex) s'->VR ρ x x' ->
      ∃ v' w' ρ',(Builtin.append_ ts ty #[s',x']).run P w=.ok v' w'∧VR ρ' (.slice H.next 0 (n+m) (n+m) i.size false) v'∧cP ρ' H' w'∧Ext ρ H w ρ' H' w':=by
     intro ty ρ w H H' s' x' b cap hs' hcap hs hsH hH' hsv hxv;obtain ⟨hm,_⟩:=hx ρ w x' hs hxv;obtain ⟨xs',hf1,hf2⟩:=(hx ρ w.drew x' hs.drew hxv).2 m (af _);rw [bd om] at hf2;obtain ⟨os',ho1,ho2⟩:=hs.drew.firstCells (P:=P) hsv hg h12 h14;subst hs';exact aAL (ty:=ty) hn ht hu hi hzv hzs hm hcap hb' hsH ho2 hol ho1 hf2 hxl hf1 hH'
    cases ex with
    | true =>
      obtain ⟨S',h17,hS⟩:=eI h16;refine ⟨_,S',h17,fun ty ρ w s' x' hs hsv hxv=>?_⟩;have hsv':=hsv
      cases hsv with
      | sliceS _ _ _ _ _ off' cap' sp hl ho hc hxx hlen hr hsp =>
        have:=hxx rfl;subst this;exact fresh ty ρ w S.hs S'.hs _ x' _ _ rfl hgt hs hs hS hsv' hxv
    | false =>
      obtain ⟨hfl,h17⟩:=pW h16;obtain ⟨hee,h18⟩:=aT h17;have hee:=aj hee;subst hee;obtain ⟨hone,h19⟩:=aT h18;obtain ⟨S1,h20,hS1⟩:=bS h19;obtain ⟨S',h21,hS⟩:=eI h20;have hnext:S1.next=S.next:=congrArg Hs.next hS1;rw [hnext] at h21;refine ⟨_,S',h21,fun ty ρ w s' x' hs hsv hxv=>?_⟩;have hsv':=hsv
      cases hsv with
      | sliceS _ _ _ _ _ off' cap' sp hl ho hc hxx hlen hr hsp =>
        rename_i l
        by_cases hin:n+m <= cap'
        ·-- there is room behind the cells that are known
         obtain rfl:=hsp om;obtain ⟨hm,hf⟩:=hx ρ w x' hs hxv;obtain ⟨xs',hf1,hf2⟩:=hf m (af _);rw [bd om] at hf2;obtain ⟨l',co,a,b,cc,fr,rfl,hsz,hle,hcells,hfr,_⟩:=hs.obj id _ hg;rw [hl] at a;cases a;obtain ⟨hrw,hunf⟩:=hfr hfl;have hroom:=hr hrw
         have hxl':xs'.length=m * i.size:=by rw [<- hf2.length];exact hxl
         have hmm:(n+m) * i.size <= cap' * i.size:=bi _ hin;rw [Nat.add_mul] at hmm;obtain ⟨w',cur',g1,g2,g3,g4,g5,g6,g7,g8,g9,g10,g11⟩:=wV (P:=P) l.blk (l.base+off'+n * i.size) e fr xs' 0 cc w b om hunf (aOP hf2 hone);have h0:ρ S.hs.next=none:=hs.fresh _ (af _)
         obtain ⟨k1,k2⟩:=hs.rename hg hl hrw (l':=⟨l.blk,l.base+off',l.csz,true⟩) rfl rfl (o':=.cells ((cs.drop off).take (n * i.size) ++ xs) e .rw) (co':=.cells cur' e fr) (w':=w') (hdr:=Nat.le_of_eq g11.symm) g2 g6 g7 g8 g9 g10 (by
          refine ⟨cur',fr,rfl,by rw [g3];exact hsz,?_,fun j v hj=>?_,fun _=>⟨rfl,by rw [g3];exact hunf⟩,fun h=>by cases h⟩
          ·rw [aq,hol,hxl,g3];show l.base+off'+_ <= _;omega
          ·by_cases hjn:j < n * i.size
           ·rw [List.getElem?_append_left om,List.getElem?_take,if_pos hjn,List.getElem?_drop] at hj
            have hn0:0 < n:=Nat.pos_of_ne_zero fun hz=>by subst hz;simp at hjn
            have hoff:=ho om;obtain ⟨v',c1,c2⟩:=hcells (off+j) v hj;refine ⟨v',?_,c2.mono (Rho.le_put h0 _)⟩;show cur'[l.base+off'+j]?=_;rw [g5 _ om,hoff,<- c1]
            congr 1;omega
           ·rw [List.getElem?_append_right om,hol] at hj;obtain ⟨v',c1,c2⟩:=hf2.get hj;refine ⟨v',?_,c2.mono (Rho.le_put h0 _)⟩;show cur'[l.base+off'+j]?=_;rw [<- g4 _ _ c1]
            congr 1;omega)
         refine ⟨.slice (some ⟨l.blk,l.base+off',none⟩) (n+m) cap',w',_,?_,?_,by rw [hS,hS1];exact k1,by rw [hS,hS1];exact k2⟩
         ·show (Builtin.append_ ts ty #[.slice _ n cap',x']).run P w=_;rw [iM hn ht hu hi hm,if_pos hin]
          have ha:(⟨l.blk,l.base+off',none⟩:Addr).add (n * i.size)=⟨l.blk,l.base+off'+n * i.size,none⟩:=by
           rw [aAK]
          simp [hf1,ha,g1]
         ·have:=VR.slice (ρ:=ρ.put S.hs.next ⟨l.blk,l.base+off',l.csz,true⟩) 0 (n+m) (n+m) i.size false 0 cap' (Rho.put_self _ _ _) (fun _=>rfl) hin (fun h=>by cases h) (af _) (fun _=>by
           show l.base+off'+0+cap' * i.size <= l.csz
           omega)
          have hn:S.hs.next=S.next:=rfl;rw [hn] at this ⊢;simpa using this
        ·obtain ⟨v',w',ρ',r1,r2,r3,r4⟩:=fresh ty ρ w (S.hs.put id none) S'.hs _ x' _ _ rfl om hs (hs.forget id) (by rw [hS,hS1]) hsv' hxv;exact ⟨v',w',ρ',r1,r2,r3,(Ext.forget ρ S.hs w id).trans r4⟩
 ·exact h7.elim
end
noncomputable def aNs (P:Program)(ts:Array TypeId)(v:V)(S:St)(k:V->St->Prop):Prop :=
 Option.casesOn (ts[0]?) False fun t=>Option.casesOn (P.underlying t) False fun d=>match v with
 | .nilSlice=>k (.tup []) S
 | .nilMap=>k (.tup []) S
 | .map id=>mC S id fun _ c=>bD id (some (.map [] c)) S fun S=>k (.tup []) S
 | .slice id off n _ es _=>match d with
   | .slice e=>Option.casesOn (uD P e) False fun z=>dD (Nat.beq (dH z) es) (dD (Nat.blt 0 es) (dD (cQ z) (Nat.casesOn n (k (.tup []) S) fun _=>cM S id fun cs e' fl=>wrK fl (eJ (repl z n) off cs fun cs=>bD id (some (.cells cs e' fl)) S fun S=>k (.tup []) S))))
   | _=>False
 | _=>False
noncomputable def aQb (v u:V)(k:V->Prop):Prop:=aHm v fun a x=>aHm u fun _ y=>Bool.rec (k (.int a x)) (k (.int a y)) (qG y x)
noncomputable def aQa (v u:V)(k:V->Prop):Prop:=aHm v fun a x=>aHm u fun _ y=>Bool.rec (k (.int a x)) (k (.int a y)) (qG x y)
noncomputable def lC (v:V)(k:V->Prop):Prop:=match v with
 | .nilSlice=>k .nilPtr
 | .slice id off _ c _ _=>dD (Nat.blt 0 c) (k (.ptr id off))
 | _=>False
noncomputable def xR (cs:List V):(List UInt8->Prop)->Prop :=
 List.rec (motive:=fun _=>(List UInt8->Prop)->Prop) (fun k=>k []) (fun v _ ih k=>match v with
  | .int .u8 (.ofNat n)=>dD (Nat.blt n 256) (ih fun r=>k (UInt8.ofNat n :: r))
  | _=>False) cs
def aEI (P:Program)(d:TypeId):Bool:=match P.underlying d with|some .string=>true|_=>false
def aAr (P:Program)(e:TypeId):Bool:=match P.underlying e with|some (.int .u8)=>true|_=>false
noncomputable def sL (P:Program)(s d:TypeId)(x:Operand):OpT:=fun E S k=>eZ E x fun v=>aFg v fun b=>dD (aEI P s) (Option.casesOn (qY P d) False fun e=>dD (aAr P e)
 (pT b fun cs=>fN (dH b) fun n=>bK (.cells cs e .rw) S fun id S=>k (.slice id 0 n n 1 false) S))
noncomputable def aCS (P:Program)(s d:TypeId)(x:Operand):tS:=fun E S k=>eZ E x fun v=>dD (aEI P d) (Option.casesOn (qY P s) False fun e=>dD (aAr P e) (match v with
 | .nilSlice=>k (.str [])
 | .slice id off n _ es _=>dD (Nat.beq es 1) (cM S id fun cs _ _=>kM off cs fun r=>fX n r fun r=>xR r fun s=>k (.str s))
 | _=>False))
def aTW (P:Program)(t:TypeId):Option TypeId:=match P.underlying t with|some (.pointer e)=>some e|_=>none
noncomputable def aJH (P:Program)(ts:Array TypeId)(p n:V)(S:St)(k:V->St->Prop):Prop:=aHn n fun n=>dD (Nat.ble n 9223372036854775807)
 (Option.casesOn (ts[0]?) False fun t=>Option.casesOn (aTW P t) False fun e=>match p with
 | .nilPtr=>Nat.casesOn n (k (.str []) S) fun _=>False
 | .ptr id off=>Nat.casesOn n (k (.str []) S) fun _=>cM S id fun cs e' fl=>dD (Nat.beq e e') (dD (Nat.beq (P.cellsOf e) 1) (wrK fl (kM off cs fun r=>fX n r fun r=>xR r fun s=>bD id (some (.cells cs e' .ro)) S fun S=>k (.str s) S)))
 | _=>False)
noncomputable def aIa {α:Type}(l:List α):Nat->(List α->Prop)->Prop :=
 List.rec (motive:=fun _=>Nat->(List α->Prop)->Prop) (fun _ _=>False) (fun x l ih n k=>Nat.casesOn n (k l) fun n=>ih n fun r=>k (x :: r)) l
noncomputable def aJG (P:Program)(ts:Array TypeId)(m key:V)(S:St)(k:V->St->Prop):Prop:=Option.casesOn (ts[0]?) False fun t=>Option.casesOn (aIH P t) False fun q=>Option.casesOn (aGm P q.1) False fun c=>match m with
 | .nilMap=>k (.tup []) S
 | .map id=>mC S id fun es n=>Option.casesOn (nQ c key es 0) False fun r=>Option.casesOn r (bD id (some (.map es n)) S fun S=>k (.tup []) S)
   fun r=>aIa es r.1 fun es=>bD id (some (.map es n)) S fun S=>k (.tup []) S
 | _=>False
noncomputable def oO (l:List V)(k:V->Prop):Prop:=match l with|[v]=>k v|_=>False
noncomputable def pI (l:List V)(k:V->V->Prop):Prop:=match l with|[v,u]=>k v u|_=>False
noncomputable def pJ (P:Program)(b:Builtin)(ts:Array TypeId)(l:List V)(S:St)(k:V->St->Prop):Prop:=match b with
 | .append=>pI l fun s x=>aO P ts s x S k
 | .copy=>pI l fun d x=>aSa P ts d x S k
 | .len=>oO l fun v=>Option.casesOn (ts[0]?) False fun t=>aTe P t v S fun v=>k v S
 | .cap=>oO l fun v=>Option.casesOn (ts[0]?) False fun t=>aTd P t v fun v=>k v S
 | .min=>pI l fun v u=>aQb v u fun v=>k v S
 | .max=>pI l fun v u=>aQa v u fun v=>k v S
 | .delete=>pI l fun m key=>aJG P ts m key S k
 | .clear=>oO l fun v=>aNs P ts v S k
 | .unsafeSliceData=>oO l fun v=>lC v fun v=>k v S
 | .unsafeString=>pI l fun p n=>aJH P ts p n S k
 | _=>False
section
variable {P:Program} {E:Env}
theorem aUK {n:Nat}{k:Nat->Prop}(h:fN n k):∃ q,n=q∧k q:=⟨n,rfl,bV h⟩
theorem aHT {ts:Array TypeId}{d x:V}{S:St}{k:V->St->Prop}(h:aSa P ts d x S k) :
  ∃ v S',k v S'∧∀ ty,Ap P (fun w d' x'=>(Builtin.copy_ ts ty #[d',x']).run P w) S.hs d x v S'.hs:=by
 obtain ⟨t,ht,h1⟩:=aQ h;obtain ⟨e,he,h2⟩:=aQ h1;obtain ⟨i,hi,h3⟩:=eX h2;obtain ⟨hpos,h4⟩:=aT h3;obtain ⟨xs,m,h5,hxl,hx⟩:=aDR (P:=P) h4;have hu:=nK he
 have hpos':0 < i.size:=by simpa using hpos
 split at h5
 ·refine ⟨_,S,h5,fun ty ρ w d' x' hs hd hxv=>?_⟩;cases hd;obtain ⟨hm,hf⟩:=hx ρ w x' hs hxv;obtain ⟨xs',hf1,hf2⟩:=hf 0 (ai _);refine ⟨_,w,ρ,?_,.int .i64 0,hs,Ext.refl _ _ _⟩;simp [Builtin.copy_,ht,run_underlying hu,hm,bP hi,hf1,goInt]
 ·rename_i id off n c es ex
  obtain ⟨hes,h6⟩:=aT h5;have hes:=aj hes;subst hes;obtain ⟨q,hq,h7⟩:=aUK h6
  have hqm:q <= m:=by rw [<- hq];exact Nat.min_le_left _ _
  have hqn:q <= n:=by rw [<- hq];exact Nat.min_le_right _ _
  obtain ⟨h8,h9⟩:=gP h7;have emul:Nat.mul q i.size=q * i.size:=rfl;rw [emul] at h8 h9
  cases q with
  | zero =>
    refine ⟨_,S,h9,fun ty ρ w d' x' hs hd hxv=>?_⟩;obtain ⟨hm,hf⟩:=hx ρ w x' hs hxv;obtain ⟨xs',hf1,hf2⟩:=hf 0 (ai _)
    have:xs'=[]:=by
     have:=hf2.length;simp at this;exact List.eq_nil_of_length_eq_zero this.symm
    subst this
    cases hd with
    | sliceS _ _ _ _ _ off' cap' sp hl ho hc hxx hlen hr hsp =>
      refine ⟨_,w,ρ,?_,.int .i64 0,hs,Ext.refl _ _ _⟩;simp [Builtin.copy_,ht,run_underlying hu,hm,bP hi,hq,hf1,goInt,storeCells]
  | succ q =>
    obtain ⟨cs,e',fl,hg,h10⟩:=fV h9;obtain ⟨hfl,h11⟩:=pW h10;obtain ⟨hone,h12⟩:=aT h11;obtain ⟨hov,h13⟩:=nC h12;obtain ⟨S',h14,hS⟩:=bS h13;refine ⟨_,S',h14,fun ty ρ w d' x' hs hd hxv=>?_⟩;obtain ⟨hm,hf⟩:=hx ρ w x' hs hxv;obtain ⟨xs',hf1,hf2⟩:=hf (q+1) hqm
    have hlen1:(xs.take ((q+1) * i.size)).length=(q+1) * i.size:=by rw [bh];omega
    have hne:xs.take ((q+1) * i.size) ≠ []:=fun hz=>by
     have:0 < (q+1) * i.size:=Nat.mul_pos (Nat.succ_pos q) hpos';rw [<- hlen1,hz] at this;exact absurd this (Nat.lt_irrefl _)
    rw [if_neg hne,Nat.add_zero] at hov
    cases hd with
    | sliceS _ _ _ _ _ off' cap' sp hl ho hc hxx hlen hr hsp =>
      rename_i l
      obtain rfl:=hsp om;obtain ⟨w',hr1,hs1,he1⟩:=cP.storeCells (P:=P) hfl hl (off:=off) hf2 (jU hone) (i:=0) hs hg om;have hoff:=ho om;subst hoff;refine ⟨_,w',ρ,?_,.int .i64 _,by rw [hS];exact hs1,by rw [hS];exact he1⟩;simp [Builtin.copy_,ht,run_underlying hu,hm,bP hi,hq,hf1,goInt,hr1]
 ·exact h5.elim
def BuS (P:Program)(b:Builtin)(ts:Array TypeId)(l:List V)(S:Hs)(v:V)(S':Hs):Prop :=
 ∀ (ρ:Rho) (w:World) (l':List Value) (ty:TypeId) (cs:Array Bool),cP ρ S w->VRs ρ l l'->∃ v' w' ρ',(builtin b ts ty cs ⟨l'⟩).run P w=.ok (.value v') w'∧VR ρ' v v'∧cP ρ' S' w'∧Ext ρ S w ρ' S' w'
theorem VRs.one {ρ:Rho}{v:V}{l':List Value}(h:VRs ρ [v] l'):∃ v',l'=[v']∧VR ρ v v':=Am.arg1 h
theorem aCg {ρ:Rho}{H:Hs}{w:World}(hs:cP ρ H w){id:Nat}{cs:List V}{e:TypeId}{fl:Fl}(hfl:fl ≠ .ro)(hg:H.get id=some (.cells cs e fl)){l:Loc}(hl:ρ id=some l){off:Nat}{vs:List V}{vs':List Value}
  (hv:VRs ρ vs vs') (ho:cQ vs=true) (hle:off+vs.length <= cs.length) :
  ∃ w',(storeCells ⟨l.blk,l.base+off,none⟩ vs').run P w=.ok () w'∧cP ρ (H.put id (some (.cells (over vs off cs) e fl))) w'∧Ext ρ H w ρ (H.put id (some (.cells (over vs off cs) e fl))) w':=by
 obtain ⟨w',a,b,c⟩:=cP.storeCells (P:=P) hfl hl (off:=off) hv (jU ho) (i:=0) hs hg om;exact ⟨w',a,b,c⟩
theorem aFj {z:Array Value}{n m:Nat}(h:z.size=m):Builtin.zeroCells z n=⟨repl z.toList n⟩:=by
 rw [<- xX z n m h];simp [Builtin.zeroCells,h]
theorem aFB {z:List V}(h:cQ z=true):∀ n,cQ (repl z n)=true:=by
 have app:∀ {a b:List V},cQ a=true->cQ b=true->cQ (a ++ b)=true:=by
  intro a
  induction a with
  | nil=>intro b _ hb;exact hb
  | cons v a ih =>
    intro b ha hb;have h':Bool.rec (motive:=fun _=>Bool) false (cQ a) v.one=true:=ha;show Bool.rec (motive:=fun _=>Bool) false (cQ (a ++ b)) v.one=true
    cases hu:v.one with
    | false=>rw [hu] at h';cases h'
    | true=>rw [hu] at h';exact ih h' hb
 intro n
 induction n with
 | zero=>rfl
 | succ n ih=>exact app h ih
theorem aDg {α:Type}:∀ {l:List α} {n:Nat} {k:List α->Prop},aIa l n k->n < l.length∧k (l.eraseIdx n)
 | [],_,_,h=>h.elim
 | x :: l,0,k,h=>⟨sm,h⟩
 | x :: l,n+1,k,h=>by
   have:=aDg (l:=l) (n:=n) (k:=fun r=>k (x :: r)) h;exact ⟨by simpa using this.1,by simpa using this.2⟩
theorem uZ.erase {ρ:Rho}:∀ {a:List (V × V × Nat)} {b:List MapEntry} (i:Nat),uZ ρ a b->uZ ρ (a.eraseIdx i) (b.eraseIdx i)
 | [],[],_,_=>by simp [uZ]
 | (_,_,_) :: _,_ :: _,0,⟨_,_,_,t⟩=>t
 | (_,_,_) :: _,_ :: _,i+1,⟨x,y,z,t⟩=>⟨x,y,z,t.erase i⟩
 | [],_ :: _,_,h=>h.elim
 | _ :: _,[],_,h=>by cases h
theorem aEn {ts:Array TypeId}{m key:V}{S:St}{k:V->St->Prop}(h:aJG P ts m key S k):∃ r S',k r S'∧BuS P .delete ts [m,key] S.hs r S'.hs:=by
 obtain ⟨t,ht,h1⟩:=aQ h;obtain ⟨q,hq,h2⟩:=aQ h1;obtain ⟨c,hc,h3⟩:=aQ h2;have hu:=tE hq;obtain ⟨d,hd,_⟩:=pO hc
 split at h3
 ·refine ⟨_,S,h3,fun ρ w l' ty cs hs hL=>?_⟩;obtain ⟨v',u',rfl,hv,hu'⟩:=Am.arg2 hL;cases hv;exact ⟨.tuple #[],w,ρ,by simp [builtin,Builtin.delete_,ht,run_underlying hu,gO hc],.tup .nil,hs,Ext.refl _ _ _⟩
 ·rename_i id
  obtain ⟨es,n,hg,h4⟩:=gV h3;obtain ⟨r,hr,h5⟩:=aQ h4
  cases r with
  | none =>
    obtain ⟨S',h6,hS⟩:=bS h5;refine ⟨_,S',h6,fun ρ w l' ty cs hs hL=>?_⟩;obtain ⟨v',u',rfl,hv,hk⟩:=Am.arg2 hL
    cases hv with
    | map hl =>
      rename_i l
      obtain ⟨es',hb,hE⟩:=hs.map hg hl;obtain ⟨r',hf,hrr⟩:=lI hd hc hk hr hE
      cases r' with
      | some _=>exact hrr.elim
      | none =>
        have hrw:l.rw=true:=by
         obtain ⟨l',co,a,b,hr,_⟩:=hs.obj _ _ hg;rw [hl] at a;cases a;exact hr
        have hp:=iL hs hg hl hrw hb (o':=.map es n) (co':=.map es' n) ⟨hrw,es',rfl,hE⟩;refine ⟨.tuple #[],_,ρ,?_,.tup .nil,by rw [hS];exact hp.1,by rw [hS];exact hp.2⟩;simp only [builtin,Builtin.delete_,ht,Sem.run_bind,run_underlying hu,Result.andThen_ok,dQ hb,gO hc,List.getElem?_toArray,List.getElem?_cons_zero,List.getElem?_cons_succ];rw [kB hd hf];simp [iN hb]
  | some p =>
    obtain ⟨hlt,h6'⟩:=aDg (show aIa es p.1 _ from h5);obtain ⟨S',h6,hS⟩:=bS h6';refine ⟨_,S',h6,fun ρ w l' ty cs hs hL=>?_⟩;obtain ⟨v',u',rfl,hv,hk⟩:=Am.arg2 hL
    cases hv with
    | map hl =>
      rename_i l
      obtain ⟨es',hb,hE⟩:=hs.map hg hl;obtain ⟨r',hf,hrr⟩:=lI hd hc hk hr hE
      cases r' with
      | none=>exact hrr.elim
      | some p' =>
        have hii:p.1=p'.1:=hrr.1
        have hrw:l.rw=true:=by
         obtain ⟨l',co,a,b,hr,_⟩:=hs.obj _ _ hg;rw [hl] at a;cases a;exact hr
        have hp:=iL hs hg hl hrw hb (o':=.map (es.eraseIdx p.1) n) (co':=.map (es'.eraseIdxIfInBounds p'.1) n) ⟨hrw,_,rfl,by
         have:=hE.erase p.1;rw [hii] at this ⊢
         simpa using this⟩
        refine ⟨.tuple #[],_,ρ,?_,.tup .nil,by rw [hS];exact hp.1,by rw [hS];exact hp.2⟩;simp only [builtin,Builtin.delete_,ht,Sem.run_bind,run_underlying hu,Result.andThen_ok,dQ hb,gO hc,List.getElem?_toArray,List.getElem?_cons_zero,List.getElem?_cons_succ];rw [kB hd hf];simp [iN hb]
 ·exact h3.elim
theorem aFF {ts:Array TypeId}{v:V}{S:St}{k:V->St->Prop}(h:aNs P ts v S k):∃ r S',k r S'∧BuS P .clear ts [v] S.hs r S'.hs:=by
 obtain ⟨t,ht,h1⟩:=aQ h;obtain ⟨d,hd,h2⟩:=aQ h1
 split at h2
 ·refine ⟨_,S,h2,fun ρ w l' ty cs hs hL=>?_⟩;obtain ⟨v',rfl,hv⟩:=hL.one;cases hv;exact ⟨.tuple #[],w,ρ,by simp [builtin,Builtin.clear_,ht,run_underlying hd],.tup .nil,hs,Ext.refl _ _ _⟩
 ·refine ⟨_,S,h2,fun ρ w l' ty cs hs hL=>?_⟩;obtain ⟨v',rfl,hv⟩:=hL.one;cases hv;exact ⟨.tuple #[],w,ρ,by simp [builtin,Builtin.clear_,ht,run_underlying hd],.tup .nil,hs,Ext.refl _ _ _⟩
 ·obtain ⟨es,n,hg,h3⟩:=gV h2;obtain ⟨S',h4,hS⟩:=bS h3;refine ⟨_,S',h4,fun ρ w l' ty cs hs hL=>?_⟩;obtain ⟨v',rfl,hv⟩:=hL.one
  cases hv with
  | map hl =>
    rename_i l
    obtain ⟨es',hb,hE⟩:=hs.map hg hl
    have hrw:l.rw=true:=by
     obtain ⟨l',co,a,b,hr,_⟩:=hs.obj _ _ hg;rw [hl] at a;cases a;exact hr
    have hp:=iL hs hg hl hrw hb (o':=.map [] n) (co':=.map #[] n) ⟨hrw,#[],rfl,trivial⟩;refine ⟨.tuple #[],_,ρ,?_,.tup .nil,by rw [hS];exact hp.1,by rw [hS];exact hp.2⟩;simp [builtin,Builtin.clear_,ht,run_underlying hd,dQ hb,iN hb]
 ·rename_i id off n c es ex
  split at h2
  ·rename_i e
   obtain ⟨z,hz,h3⟩:=aQ h2;obtain ⟨i,zv,hi,hzv,hok,rfl⟩:=lV hz;obtain ⟨hzl,h4⟩:=aT h3;obtain ⟨hpos,h5⟩:=aT h4;obtain ⟨hone,h6⟩:=aT h5;rw [aM] at hzl;have hzl:=aj hzl
   have hpos':0 < es:=by simpa using hpos
   cases n with
   | zero =>
     refine ⟨_,S,h6,fun ρ w l' ty cs hs hL=>?_⟩;obtain ⟨v',rfl,hv⟩:=hL.one;cases hv;exact ⟨.tuple #[],w,ρ,by simp [builtin,Builtin.clear_,ht,run_underlying hd],.tup .nil,hs,Ext.refl _ _ _⟩
   | succ n =>
     obtain ⟨cs,e',fl,hg,h7⟩:=fV h6;obtain ⟨hfl,h8⟩:=pW h7;obtain ⟨hov,h9⟩:=nC h8;obtain ⟨S',h10,hS⟩:=bS h9;refine ⟨_,S',h10,fun ρ w l' ty _ hs hL=>?_⟩;obtain ⟨v',rfl,hv⟩:=hL.one
     have hlen1:(repl (ofV zv).cells (n+1)).length=(n+1) * es:=by rw [kA,hzl]
     have hne:repl (ofV zv).cells (n+1) ≠ []:=fun hz=>by
      have:0 < (n+1) * es:=Nat.mul_pos (Nat.succ_pos n) hpos';rw [<- hlen1,hz] at this;exact absurd this (Nat.lt_irrefl _)
     rw [if_neg hne,Nat.add_zero] at hov
     cases hv with
     | sliceS _ _ _ _ _ off' cap' sp hl ho hc hxx hlen hr hsp =>
       rename_i l
       obtain rfl:=hsp om;have hoff:=ho om;subst hoff;have hzr:=(VR.ofV (ρ:=ρ) hok).cells;obtain ⟨w',r1,r2,r3⟩:=aCg (P:=P) hs hfl hg hl (hzr.repl (n+1)) (aFB hone _) hov;refine ⟨.tuple #[],w',ρ,?_,.tup .nil,by rw [hS];exact r2,by rw [hS];exact r3⟩;have hz2:=aFj (z:=zv.cells) (n:=n+1) rfl;simp [builtin,Builtin.clear_,ht,run_underlying hd,dA hi hzv,hz2,r1]
  ·exact h2.elim
 ·exact h2.elim
theorem aLc {ts:Array TypeId}{v u:V}{k:V->Prop}(h:aQb v u k):∃ r,k r∧∀ H,BuS P .min ts [v,u] H r H:=by
 obtain ⟨a,x,rfl,h1⟩:=gW h;obtain ⟨b,y,rfl,h2⟩:=gW h1
 have fin:∀ H,BuS P .min ts [.int a x,.int b y] H (.int a (if y < x then y else x)) H:=fun H ρ w l' ty cs hs hL=>by
  obtain ⟨v',u',rfl,hv,hu⟩:=Am.arg2 hL;cases hv;cases hu;exact ⟨_,w,ρ,by simp [builtin,Builtin.min_,Builtin.min2],.int _ _,hs,Ext.refl _ _ _⟩
 rw [bF] at h2;by_cases hlt:y < x
 ·rw [decide_eq_true hlt] at h2;rw [if_pos hlt] at fin;exact ⟨_,h2,fin⟩
 ·rw [decide_eq_false hlt] at h2;rw [if_neg hlt] at fin;exact ⟨_,h2,fin⟩
theorem aLa {ts:Array TypeId}{v u:V}{k:V->Prop}(h:aQa v u k):∃ r,k r∧∀ H,BuS P .max ts [v,u] H r H:=by
 obtain ⟨a,x,rfl,h1⟩:=gW h;obtain ⟨b,y,rfl,h2⟩:=gW h1
 have fin:∀ H,BuS P .max ts [.int a x,.int b y] H (.int a (if y > x then y else x)) H:=fun H ρ w l' ty cs hs hL=>by
  obtain ⟨v',u',rfl,hv,hu⟩:=Am.arg2 hL;cases hv;cases hu;exact ⟨_,w,ρ,by simp [builtin,Builtin.max_,Builtin.max2],.int _ _,hs,Ext.refl _ _ _⟩
 rw [bF] at h2;by_cases hlt:x < y
 ·rw [decide_eq_true hlt] at h2;rw [if_pos hlt] at fin;exact ⟨_,h2,fin⟩
 ·rw [decide_eq_false hlt] at h2;rw [if_neg hlt] at fin;exact ⟨_,h2,fin⟩
theorem aAi {ts:Array TypeId}{v:V}{k:V->Prop}(h:lC v k):∃ r,k r∧∀ H,BuS P .unsafeSliceData ts [v] H r H:=by
 unfold lC at h
 split at h
 ·refine ⟨_,h,fun H ρ w l' ty cs hs hL=>?_⟩;obtain ⟨v',rfl,hv⟩:=hL.one;cases hv;exact ⟨_,w,ρ,by simp only [builtin,Sem.run_bind];rw [Lib.run_unsafeSliceData_nil w ts ty 0 0];rfl,.nilPtr,hs,Ext.refl _ _ _⟩
 ·rename_i id off n c es ex
  obtain ⟨hc0,h1⟩:=aT h
  have hc0':0 < c:=by simpa using hc0
  refine ⟨_,h1,fun H ρ w l' ty cs hs hL=>?_⟩;obtain ⟨v',rfl,hv⟩:=hL.one
  cases hv with
  | sliceS _ _ _ _ _ off' cap' sp hl ho hc hxx hlen hr hsp =>
    have hoff:=ho hc0';obtain rfl:=hsp om;subst hoff;have hne:cap' ≠ 0:=om;exact ⟨_,w,ρ,by simp only [builtin,Sem.run_bind];rw [Lib.run_unsafeSliceData_row w ts ty _ _ _ hne];rfl,.ptr off' hl,hs,Ext.refl _ _ _⟩
 ·exact h.elim
theorem rK {ρ:Rho}:∀ {cs:List V} {k:List UInt8->Prop},xR cs k->∃ s,k s∧cs=s.map fun b=>.int .u8 b.toNat
 | [],k,h=>⟨[],h,rfl⟩
 | v :: cs,k,h=>by
   change (match (generalizing:=false) v with
    | .int .u8 (.ofNat n)=>dD (Nat.blt n 256) (xR cs fun r=>k (UInt8.ofNat n :: r))
    | _=>False) at h
   split at h
   ·rename_i n
    obtain ⟨hn,h1⟩:=aT h;obtain ⟨s,h2,h3⟩:=rK (ρ:=ρ) h1;refine ⟨_,h2,?_⟩
    have hn':n < 256:=by simpa using hn
    have:(UInt8.ofNat n).toNat=n:=by simp [Nat.mod_eq_of_lt hn']
    simp [h3,this]
   ·exact h.elim
theorem aMf {t e:TypeId}(h:aTW P t=some e):P.underlying t=some (.pointer e):=by
 unfold aTW at h;split at h
 ·cases h;assumption
 ·cases h
theorem aIE {e:TypeId}(hc:P.cellsOf e=1)(count off n:Nat)(hn:off+n <= count):liesAt P P.depth e count off e n=true:=by
 have hd:P.depth=(2 * (P.types.size+Made.depth)+1)+1:=rfl;rw [hd];simp only [liesAt,Bool.or_eq_true]
 left
 rw [hd];simp [rowAt,hc,hn,sameLayout,Nat.mod_one]
theorem VRs.of_bytes {ρ:Rho}:∀ {s:List UInt8} {l':List Value},VRs ρ (s.map fun b=>.int .u8 b.toNat) l'->l'=s.map fun b=>Value.int .u8 b.toNat
 | [],_,h=>by cases h;rfl
 | b :: s,_,h=>by
   cases h with
   | cons hv hs =>
     cases hv;rw [VRs.of_bytes hs];rfl
theorem mO (ts:Array TypeId)(ty:TypeId)(p:Option Addr)(len_:Value):Builtin.unsafeString_ ts ty #[.pointer p,len_]=(do
  let n <- asInt len_
  let some pt:=ts[0]?|stuck "unsafe.String: no argument types"
  if n < 0 then runtimePanic (.error "unsafe.String: len out of range")
  if n > IntKind.i64.max then unsupported (.unsafePointer "String: a length above the largest int")
  match p with
  | none =>
    if n=0 then pure (.string .empty)
    else runtimePanic (.error "unsafe.String: ptr is nil and len is not zero")
  | some a =>
    if n=0 then pure (.string .empty)
    else if <- variablesAt a (<- elemOf pt) n.toNat then do
     let s <- loadBytes a .empty n.toNat
     freeze a n.toNat
     pure (.string s)
    else unsupported (.unsafePointer "String: not so many bytes at ptr")):=rfl
theorem aEo {ts:Array TypeId}{p n:V}{S:St}{k:V->St->Prop}(h:aJH P ts p n S k):∃ r S',k r S'∧BuS P .unsafeString ts [p,n] S.hs r S'.hs:=by
 obtain ⟨a,n,rfl,h1⟩:=lS h;obtain ⟨hmax,h2⟩:=aT h1;obtain ⟨t,ht,h3⟩:=aQ h2;obtain ⟨e,he,h4⟩:=aQ h3;have hu:=aMf he;have hmax':n <= 9223372036854775807:=ae hmax;have hnm:¬ (9223372036854775807 < (n:Int)):=om;have hnn:¬ ((n:Int) < 0):=om;have hm:IntKind.i64.max=9223372036854775807:=rfl
 split at h4
 ·cases n with
  | succ n=>exact h4.elim
  | zero =>
    refine ⟨_,S,h4,fun ρ w l' ty cs hs hL=>?_⟩;obtain ⟨v',u',rfl,hv,hu'⟩:=Am.arg2 hL;cases hv;cases hu';refine ⟨.string .empty,w,ρ,?_,.str [],hs,Ext.refl _ _ _⟩;simp [builtin,mO,asInt,asIntOf,ht,hm]
 ·rename_i id off
  cases n with
  | zero =>
    refine ⟨_,S,h4,fun ρ w l' ty cs hs hL=>?_⟩;obtain ⟨v',u',rfl,hv,hu'⟩:=Am.arg2 hL;cases hv;cases hu';refine ⟨.string .empty,w,ρ,?_,.str [],hs,Ext.refl _ _ _⟩;simp [builtin,mO,asInt,asIntOf,ht,hm]
  | succ n =>
    obtain ⟨cs,e',fl,hg,h5⟩:=fV h4;obtain ⟨hee,h6⟩:=aT h5;have hee:=aj hee;subst hee;obtain ⟨hce,h7⟩:=aT h6;have hce:=aj hce;obtain ⟨hfl,h8⟩:=pW h7;obtain ⟨h9,h10⟩:=iD h8;obtain ⟨h11,h12⟩:=gP h10;obtain ⟨s,h13,hs'⟩:=rK (ρ:=fun _=>none) h12;obtain ⟨S',h14,hS⟩:=bS h13;refine ⟨_,S',h14,fun ρ w l' ty _ hs hL=>?_⟩;obtain ⟨v',u',rfl,hv,hu'⟩:=Am.arg2 hL;cases hu'
    cases hv with
    | ptr _ hl =>
      rename_i l
      obtain ⟨l',co,x1,x2,cc,fr,rfl,hsz,hle,hcells,hfr,_⟩:=hs.obj id _ hg;rw [hl] at x1;cases x1;obtain ⟨hrw,hunf⟩:=hfr hfl;obtain ⟨c',y1,y2⟩:=hs.loadCells (P:=P) hg hl (off:=off) (n:=n+1) (by simp at h11;omega);rw [hs'] at y2;have hc':=y2.of_bytes
      have hslen:s.length=n+1:=by
       have h1:=congrArg List.length hs';rw [bh,List.length_map] at h1;omega
      have hcell:∀ j x,s[j]?=some x->w.cell? ((⟨l.blk,l.base+off,none⟩:Addr).add j)=some (.int .u8 x.toNat):=fun j x hj=>by
       rw [aAK]
       have hjl:j < n+1:=by
        rcases Nat.lt_or_ge j s.length with h'|h'
        ·omega
        ·simp [List.getElem?_eq_none h'] at hj
       have h2:cs[off+j]?=some (.int .u8 x.toNat):=by
        have h3:((cs.drop off).take (n+1))[j]?=some (.int .u8 x.toNat):=by rw [hs'];simp [hj]
        rw [List.getElem?_take,if_pos hjl,List.getElem?_drop] at h3;exact h3
       obtain ⟨v',z1,z2⟩:=hs.cell hg hl h2;cases z2;rw [Nat.add_assoc];exact z1
      have hlb:=Lib.run_loadBytes (P:=P) w s ⟨l.blk,l.base+off,none⟩ .empty hcell;rw [hslen] at hlb
      have hsh:w.shape? l.blk=some (e,cc.size):=by simp [World.shape?,x2]
      have hva:(variablesAt ⟨l.blk,l.base+off,none⟩ e (n+1)).run P w=.ok true w:=by
       have:liesAt P P.depth e (cc.size / P.cellsOf e) (l.base+off) e (n+1)=true:=by
        rw [hce,Nat.div_one];have hce':P.cellsOf e=1:=hce;have:=h11;simp at this;exact aIE hce' _ _ _ om
       simp [variablesAt,hsh,this]
      have hfz:(w.freeze ⟨l.blk,l.base+off,none⟩ (n+1)).heap[l.blk]?=some (.cells cc e (if fr.1 == fr.2 then (l.base+off,l.base+off+(n+1)) else (min fr.1 (l.base+off),max fr.2 (l.base+off+(n+1))))):=by
       simp [World.freeze,Array.getElem?_modify,x2]
      obtain ⟨k1,k2⟩:=hs.put_cells hg hl hrw (cs':=cs) (fl':=.ro) (w':=w.freeze ⟨l.blk,l.base+off,none⟩ (n+1)) hfz (fun b hb=>by
        simp only [World.freeze,Nat.succ_ne_zero,if_false]
        rw [Array.getElem?_modify,if_neg (Ne.symm hb)]) (by simp [World.freeze]) (by simp [World.freeze]) (by simp [World.freeze]) (by simp [World.freeze])
        ⟨cc,_,rfl,hsz,hle,hcells,fun h=>absurd rfl h,fun h=>by cases h⟩
      refine ⟨_,_,ρ,?_,.str s,by rw [hS];exact k1,by rw [hS];exact k2⟩;have e1:((n:Int)+1).toNat=n+1:=om;have e2:¬ (9223372036854775807 < ((n:Int)+1)):=om;have e3:¬ (((n:Int)+1) < 0):=om;have e4:¬ (((n:Int)+1)=0):=om
      have e5:(⟨(ByteArray.empty).data ++ s.toArray⟩:ByteArray)=⟨⟨s⟩⟩:=by
       apply ByteArray.ext;simp
      rw [e5] at hlb;simp [builtin,mO,asInt,asIntOf,ht,hm,e1,e2,e3,e4,elemOf,run_underlying hu,hva,hlb]
 ·exact h4.elim
theorem eH {l:List V}{k:V->Prop}(h:oO l k):∃ v,l=[v]∧k v:=by
 unfold oO at h;split at h
 ·exact ⟨_,rfl,h⟩
 ·exact h.elim
theorem eR {l:List V}{k:V->V->Prop}(h:pI l k):∃ v u,l=[v,u]∧k v u:=by
 unfold pI at h;split at h
 ·exact ⟨_,_,rfl,h⟩
 ·exact h.elim
theorem Ap.bu {b:Builtin}{ts:Array TypeId}{f:TypeId->World->Value->Value->Result Value}{s x v:V}{H H':Hs}(h:∀ ty,Ap P (f ty) H s x v H')
  (hb:∀ ty w s' x' cs,(builtin b ts ty cs #[s',x']).run P w=(f ty w s' x').andThen fun v w=>.ok (.value v) w):BuS P b ts [s,x] H v H':=fun ρ w l' ty cs hs hL=>by
 obtain ⟨v',u',rfl,hv,hu⟩:=Am.arg2 hL;obtain ⟨r,w',ρ',h1,h2,h3,h4⟩:=h ty ρ w v' u' hs hv hu;exact ⟨r,w',ρ',by show (builtin b ts ty cs #[v',u']).run P w=_;rw [hb,h1];rfl,h2,h3,h4⟩
theorem aCz {b:Builtin}{ts:Array TypeId}{l:List V}{S:St}{k:V->St->Prop}(h:pJ P b ts l S k) :
  ∃ v S',k v S'∧BuS P b ts l S.hs v S'.hs:=by
 unfold pJ at h
 split at h
 ·obtain ⟨s,x,rfl,h1⟩:=eR h;obtain ⟨v,S',h2,h3⟩:=aEm h1;exact ⟨v,S',h2,Ap.bu h3 fun ty w s' x' cs=>by simp [builtin,Sem.run_bind]⟩
 ·obtain ⟨s,x,rfl,h1⟩:=eR h;obtain ⟨v,S',h2,h3⟩:=aHT h1;exact ⟨v,S',h2,Ap.bu h3 fun ty w s' x' cs=>by simp [builtin,Sem.run_bind]⟩
 ·obtain ⟨s,rfl,h1⟩:=eH h;obtain ⟨t,ht,h2⟩:=aQ h1;obtain ⟨r,h3,h4⟩:=aCY h2;refine ⟨r,S,h3,fun ρ w l' ty cs hs hL=>?_⟩;obtain ⟨v',rfl,hv⟩:=hL.one;obtain ⟨r',h5,h6⟩:=h4 ρ w v' ts ty ht hs hv;exact ⟨r',w,ρ,by simp [builtin,Sem.run_bind,h5],h6,hs,Ext.refl _ _ _⟩
 ·obtain ⟨s,rfl,h1⟩:=eH h;obtain ⟨t,ht,h2⟩:=aQ h1;obtain ⟨r,h3,h4⟩:=aCX h2;refine ⟨r,S,h3,fun ρ w l' ty cs hs hL=>?_⟩;obtain ⟨v',rfl,hv⟩:=hL.one;obtain ⟨r',h5,h6⟩:=h4 ρ w v' ts ty ht hv;exact ⟨r',w,ρ,by simp [builtin,Sem.run_bind,h5],h6,hs,Ext.refl _ _ _⟩
 ·obtain ⟨s,x,rfl,h1⟩:=eR h;obtain ⟨r,h2,h3⟩:=aLc (P:=P) (ts:=ts) h1;exact ⟨r,S,h2,h3 _⟩
 ·obtain ⟨s,x,rfl,h1⟩:=eR h;obtain ⟨r,h2,h3⟩:=aLa (P:=P) (ts:=ts) h1;exact ⟨r,S,h2,h3 _⟩
 ·obtain ⟨s,x,rfl,h1⟩:=eR h;exact aEn h1
 ·obtain ⟨s,rfl,h1⟩:=eH h;exact aFF h1
 ·obtain ⟨s,rfl,h1⟩:=eH h;obtain ⟨r,h2,h3⟩:=aAi (P:=P) (ts:=ts) h1;exact ⟨r,S,h2,h3 _⟩
 ·obtain ⟨s,x,rfl,h1⟩:=eR h;exact aEo h1
 ·exact h.elim
end
noncomputable def eM (n:Nat)(s:List UInt8):Nat->Option Nat :=
 List.rec (motive:=fun _=>Nat->Option Nat) (fun _=>none) (fun x _ ih i=>Bool.rec (ih (Nat.succ i)) (some i) (Nat.beq x.toNat n)) s
noncomputable def vL (n:Nat)(s:List UInt8):Nat->Nat :=
 List.rec (motive:=fun _=>Nat->Nat) (fun c=>c) (fun x _ ih c=>Bool.rec (ih c) (ih (Nat.succ c)) (Nat.beq x.toNat n)) s
noncomputable def aKF (v:V)(k:Nat->Prop):Prop:=match v with|.int .u8 (.ofNat n)=>dD (Nat.blt n 256) (k n)|_=>False
abbrev xJ:=List (FuncId × Nat × TypeId)
noncomputable def aQq (X:xJ)(f:FuncId):Option (Nat × TypeId) :=
 List.rec (motive:=fun _=>Option (Nat × TypeId)) none (fun q _ ih=>Bool.rec ih (some q.2) (Nat.beq q.1 f)) X
noncomputable def aEA (P:Program)(X:xJ)(f:FuncId)(l:List V)(S:St)(k:V->St->Prop):Prop:=Option.casesOn (aQq X f) False fun q=>match q.1 with
 | 1=>pI l fun s c=>aFg s fun s=>aKF c fun c=>Option.casesOn (eM c s 0) (k (.int .i64 (Int.negSucc 0)) S) fun n=>fN n fun n=>k (.int .i64 (Int.ofNat n)) S
 | 2=>pI l fun a b=>aFg a fun a=>aFg b fun b=>Bool.rec (Bool.rec (k (.int .i64 1) S) (k (.int .i64 0) S) (kG a b)) (k (.int .i64 (Int.negSucc 0)) S) (jJ a b)
 | 3=>oO l fun v=>k v S
 | 4=>oO l fun v=>match v with|.float .f64 b=>k (.int .u64 (Int.ofNat b)) S|_=>False
 | 5=>pI l fun s c=>aFg s fun s=>aKF c fun c=>fN (vL c s 0) fun n=>k (.int .i64 (Int.ofNat n)) S
 | 6=>oO l fun v=>match v with
   | .int .i64 (.ofNat n)=>dD (Nat.ble n 281474976710656) (Option.casesOn (qY P q.2) False fun e=>bK (.cells (List.replicate n .any) e .rw) S fun id S=>k (.slice id 0 n n 1 false) S)
   | _=>False
 | 7=>oO l fun v=>match v with
   | .iface t (.map id)=>mC S id fun es c=>bK (.map es c) S fun id S=>k (.iface t (.map id)) S
   | _=>False
 | 8=>oO l fun v=>match v with|.int .u64 (.ofNat b)=>k (.float .f64 b) S|_=>False
 | _=>False
def aSd (n:Nat)(t:TypeId):Array Value->Sem Value:=match n with
 | 1=>Extern.BytealgIndexByte.indexByte
 | 2=>Extern.BytealgCompare.compare
 | 3=>Extern.AbiNoEscape.same
 | 4=>Extern.MathFloatBits.float64bits
 | 5=>Extern.BytealgCount.count
 | 6=>Extern.BytealgMakeNoZero.makeNoZero #[] #[t]
 | 7=>Extern.MapsClone.clone
 | 8=>Extern.MathFloatBits.float64frombits
 | _=>fun _=>stuck ""
def aRU (P:Program)(q:FuncId × Nat × TypeId):Prop:=∃ fn,P.funcs[q.1]?=some fn∧(fn.name == "runtime.NumGoroutine")=false∧fn.body.isNone=true∧Extern.findNext fn=none∧Extern.find fn=some (aSd q.2.1 q.2.2)
def oY (P:Program)(X:xJ):Prop:=∀ q ∈ X,aRU P q
section
variable {P:Program} {E:Env}
theorem aFH {x:UInt8}{n:Nat}(hn:n < 256):Nat.beq x.toNat n=(x == (n:Int).toNat.toUInt8):=by
 have e:((n:Int).toNat.toUInt8).toNat=n:=by simp [Nat.mod_eq_of_lt hn]
 rw [Bool.eq_iff_iff]
 constructor
 ·intro h;have:=aj h;simp only [beq_iff_eq];apply UInt8.toNat_inj.1;rw [e];exact this
 ·intro h;simp only [beq_iff_eq] at h;rw [h,e];simp
theorem vZ {n:Nat}(hn:n < 256):∀ (s:List UInt8) (i:Nat),match eM n s i with
  | none=>Lib.indexByte s (n:Int).toNat.toUInt8=-1
  | some j=>i <= j∧Lib.indexByte s (n:Int).toNat.toUInt8=((j - i:Nat):Int)
 | [],i=>rfl
 | x :: s,i=>by
   have e:eM n (x :: s) i=Bool.rec (motive:=fun _=>Option Nat) (eM n s (i+1)) (some i) (Nat.beq x.toNat n):=rfl;rw [e,aFH hn];unfold Lib.indexByte
   cases hb:(x == (n:Int).toNat.toUInt8) with
   | true=>simp
   | false =>
     have ih:=vZ hn s (i+1);simp only [Bool.false_eq_true,if_false]
     cases hi:eM n s (i+1) with
     | none=>rw [hi] at ih;simp only at ih ⊢;rw [ih];rfl
     | some j =>
       rw [hi] at ih;simp only at ih ⊢;obtain ⟨h1,h2⟩:=ih;refine ⟨om,?_⟩;rw [h2]
       have hne:((((j - (i+1):Nat):Int)) == -1)=false:=by
        rw [beq_eq_false_iff_ne];omega
       rw [hne];simp only [Bool.false_eq_true,if_false];omega
theorem vN {n:Nat}(hn:n < 256):∀ (s:List UInt8) (c:Nat),vL n s c=c+Lib.countByte s (n:Int).toNat.toUInt8
 | [],c=>rfl
 | x :: s,c=>by
   have e:vL n (x :: s) c=Bool.rec (motive:=fun _=>Nat) (vL n s c) (vL n s (c+1)) (Nat.beq x.toNat n):=rfl;rw [e,aFH hn];have ih:=vN hn s;unfold Lib.countByte at ih ⊢;rw [List.count_cons]
   cases hb:(x == (n:Int).toNat.toUInt8) with
   | true=>simp only [ih,if_true];omega
   | false=>simp only [ih,Bool.false_eq_true,if_false];omega
theorem aFK:∀ (a b:List UInt8),Lib.compareBytes a b=if jJ a b=true then -1 else if kG a b=true then 0 else 1
 | [],[]=>by simp [Lib.compareBytes,qH,cY,Op.bytesLess]
 | [],_ :: _=>by simp [Lib.compareBytes,qH,Op.bytesLess]
 | _ :: _,[]=>by simp [Lib.compareBytes,qH,cY,Op.bytesLess]
 | x :: a,y :: b=>by
   have ih:=aFK a b;simp only [qH,cY] at ih ⊢;simp only [Lib.compareBytes,Op.bytesLess,List.cons_beq_cons];by_cases hxy:x=y
   ·subst hxy;simp [UInt8.lt_irrefl,ih]
   ·have hne:(x == y)=false:=by simpa using hxy
    by_cases hlt:x < y
    ·simp [hlt]
    ·have:y < x:=UInt8.lt_of_le_of_ne (UInt8.not_lt.1 hlt) (Ne.symm hxy);simp [hlt,this,hne]
theorem aCr {v:V}{k:Nat->Prop}(h:aKF v k):∃ n,n < 256∧v=.int .u8 (Int.ofNat n)∧k n:=by
 unfold aKF at h;split at h
 ·obtain ⟨a,b⟩:=aT h;exact ⟨_,by simpa using a,rfl,b⟩
 ·exact h.elim
theorem aDm:∀ {X:xJ} {f:FuncId} {q:Nat × TypeId},aQq X f=some q->(f,q) ∈ X
 | [],_,_,h=>by cases h
 | (g,p) :: X,f,q,h=>by
   have h':Bool.rec (motive:=fun _=>Option (Nat × TypeId)) (aQq X f) (some p) (Nat.beq g f)=some q:=h
   cases hb:Nat.beq g f with
   | true =>
     rw [hb] at h';cases h';have:=aj hb;subst this;exact List.mem_cons_self ..
   | false=>rw [hb] at h';exact be _ (aDm h')
def ExS (P:Program)(f:FuncId)(l:List V)(S:Hs)(v:V)(S':Hs):Prop :=
 ∀ (ρ:Rho) (w:World) (l':List Value),cP ρ S w->VRs ρ l l'->∃ v' w' ρ',(callFunc f ⟨l'⟩).run P w=.ok (.value v') w'∧VR ρ' v v'∧cP ρ' S' w'∧Ext ρ S w ρ' S' w'
theorem ExS.of {q:FuncId × Nat × TypeId}(hx:aRU P q){l:List V}{S S':Hs}{v:V}
  (h:∀ (ρ:Rho) (w:World) (l':List Value),cP ρ S w->VRs ρ l l'->∃ v' w' ρ',(aSd q.2.1 q.2.2 ⟨l'⟩).run P w=.ok v' w'∧VR ρ' v v'∧cP ρ' S' w'∧Ext ρ S w ρ' S' w'):ExS P q.1 l S v S':=fun ρ w l' hs hl=>by
 obtain ⟨fn,hf,hname,hb,hn,he⟩:=hx;obtain ⟨v',w',ρ',h1,h2,h3,h4⟩:=h ρ w l' hs hl;refine ⟨v',w',ρ',?_,h2,h3,h4⟩
 have h0:¬ fn.name = "runtime.NumGoroutine" := by simpa using hname
 have hb':fn.body=none:=by simpa using hb
 simp [callFunc,hf,h0,hb',hn,he,h1]
theorem aAY:∀ (n t:Nat) (acc:Array Value),(∀ (i:Nat) (v:Value),acc[i]?=some v->v.oneCell'=true)->∀ (i:Nat) (v:Value),(Extern.BytealgMakeNoZero.digits n t acc)[i]?=some v->v.oneCell'=true
 | 0,_,acc,h=>h
 | n+1,t,acc,h=>aAY n (t / 256) _ fun i v hi=>by
   rw [Array.getElem?_push] at hi
   split at hi
   ·cases hi;rfl
   ·exact h i v hi
theorem aAm (t e:TypeId)(ht:P.underlying t=some (.slice e))(n:Nat)(hn:n <= 281474976710656)(w:World) :
  ∃ cs:Array Value,(Extern.BytealgMakeNoZero.makeNoZero #[] #[t] #[.int .i64 n]).run P w=.ok (.slice (some ⟨w.heap.size,0,none⟩) n cs.size) (w.drew.drew.alloc (.cells cs e))∧n <= cs.size∧∀ (i:Nat) (v:Value),cs[i]?=some v->v.oneCell'=true:=by
 have hdef:∃ q:Question,q.forced=false∧Extern.BytealgMakeNoZero.makeNoZero #[] #[t] #[.int .i64 n] =
   (do
    let .slice elem <- underlying t|stuck "bytealg.MakeNoZero: slice type expected"
    if (n:Int) < 0 || (n:Int) > 2 ^ 48 then runtimePanic (.error "makeslice: len out of range")
    let cap <- choose (.appendCap (n:Int).toNat 0 elem)
    askRoom cap
    let bytes <- choose q
    let a <- newRow elem (Extern.BytealgMakeNoZero.digits cap bytes #[])
    pure (.slice (some a) (n:Int).toNat cap)):=⟨_,rfl,rfl⟩
 obtain ⟨q,hq,hdef⟩:=hdef;refine ⟨Extern.BytealgMakeNoZero.digits (grownCap w n 0 e) (q.cut (w.tape (w.drawn+1) q)) #[],?_,?_,?_⟩
 ·rw [hdef];have h1:¬ (n:Int) < 0:=om;have h2:¬ (281474976710656:Int) < (n:Int):=om;have hf:∀ a b c,(Question.appendCap a b c).forced=false:=fun _ _ _=>rfl;simp [run_underlying ht,h1,h2,hf,hq,newRow,Lib.size_digits,grownCap]
 ·rw [Lib.size_digits];simpa using grownCap_ge w n 0 e
 ·exact aAY _ _ _ sm
theorem aEB {X:xJ}(hX:oY P X){f:FuncId}{l:List V}{S:St}{k:V->St->Prop}(h:aEA P X f l S k):∃ v S',k v S'∧ExS P f l S.hs v S'.hs:=by
 obtain ⟨⟨n,t⟩,hq,h1⟩:=aQ (show Option.rec (motive:=fun _=>Prop) False _ (aQq X f) from h);have hx:=hX _ (aDm hq)
 dsimp only at h1
 split at h1
 ·obtain ⟨a,b,rfl,h2⟩:=eR h1;obtain ⟨s,rfl,h3⟩:=lT h2;obtain ⟨c,hc,rfl,h4⟩:=aCr h3;have hsp:=vZ hc s 0
  cases hi:eM c s 0 with
  | none =>
    rw [hi] at h4 hsp;refine ⟨_,S,h4,ExS.of hx fun ρ w l' hs hl=>?_⟩;obtain ⟨v',u',rfl,hv,hu⟩:=Am.arg2 hl;cases hv;cases hu;refine ⟨_,w,ρ,Lib.run_indexByteString ⟨⟨s⟩⟩ (Int.ofNat c) w,?_,hs,Ext.refl _ _ _⟩;have e:Lib.indexByte s (Int.ofNat c).toNat.toUInt8=-1:=hsp;show VR ρ _ (.int .i64 (Lib.indexByte s (Int.ofNat c).toNat.toUInt8));rw [e];exact .int _ _
  | some j =>
    rw [hi] at h4 hsp;refine ⟨_,S,bV (k:=fun n=>k (.int .i64 (Int.ofNat n)) S) h4,ExS.of hx fun ρ w l' hs hl=>?_⟩;obtain ⟨v',u',rfl,hv,hu⟩:=Am.arg2 hl;cases hv;cases hu;refine ⟨_,w,ρ,Lib.run_indexByteString ⟨⟨s⟩⟩ (Int.ofNat c) w,?_,hs,Ext.refl _ _ _⟩
    have e:Lib.indexByte s (Int.ofNat c).toNat.toUInt8=(j:Int):=by
     have:=hsp.2;rw [Nat.sub_zero] at this;exact this
    show VR ρ _ (.int .i64 (Lib.indexByte s (Int.ofNat c).toNat.toUInt8));rw [e];exact .int _ _
 ·obtain ⟨a,b,rfl,h2⟩:=eR h1;obtain ⟨x,rfl,h3⟩:=lT h2;obtain ⟨y,rfl,h4⟩:=lT h3
  have fin:ExS P f [.str x,.str y] S.hs (.int .i64 (if jJ x y=true then -1 else if kG x y=true then 0 else 1)) S.hs:=ExS.of hx fun ρ w l' hs hl=>by
   obtain ⟨v',u',rfl,hv,hu⟩:=Am.arg2 hl;cases hv;cases hu;refine ⟨_,w,ρ,Lib.run_compareString ⟨⟨x⟩⟩ ⟨⟨y⟩⟩ w,?_,hs,Ext.refl _ _ _⟩;show VR ρ _ (.int .i64 (Lib.compareBytes x y));rw [aFK];exact .int _ _
  cases hlt:jJ x y with
  | true=>rw [hlt] at h4 fin;exact ⟨_,S,h4,fin⟩
  | false =>
    cases heq:kG x y with
    | true=>rw [hlt,heq] at h4 fin;exact ⟨_,S,h4,fin⟩
    | false=>rw [hlt,heq] at h4 fin;exact ⟨_,S,h4,fin⟩
 ·obtain ⟨v,rfl,h2⟩:=eH h1;refine ⟨v,S,h2,ExS.of hx fun ρ w l' hs hl=>?_⟩;obtain ⟨v',rfl,hv⟩:=Am.arg1 hl;exact ⟨v',w,ρ,rfl,hv,hs,Ext.refl _ _ _⟩
 ·obtain ⟨v,rfl,h2⟩:=eH h1
  split at h2
  ·refine ⟨_,S,h2,ExS.of hx fun ρ w l' hs hl=>?_⟩;obtain ⟨v',rfl,hv⟩:=Am.arg1 hl;cases hv;exact ⟨_,w,ρ,rfl,.int _ _,hs,Ext.refl _ _ _⟩
  ·exact h2.elim
 ·obtain ⟨a,b,rfl,h2⟩:=eR h1;obtain ⟨s,rfl,h3⟩:=lT h2;obtain ⟨c,hc,rfl,h4⟩:=aCr h3;have hsp:=vN hc s 0;refine ⟨_,S,bV (k:=fun n=>k (.int .i64 (Int.ofNat n)) S) h4,ExS.of hx fun ρ w l' hs hl=>?_⟩;obtain ⟨v',u',rfl,hv,hu⟩:=Am.arg2 hl;cases hv;cases hu;refine ⟨_,w,ρ,Lib.run_countString ⟨⟨s⟩⟩ (Int.ofNat c) w,?_,hs,Ext.refl _ _ _⟩;rw [hsp,Nat.zero_add];exact .int _ _
 ·obtain ⟨v,rfl,h2⟩:=eH h1
  split at h2
  ·rename_i n
   obtain ⟨hn,h3⟩:=aT h2;have hn':n <= 281474976710656:=ae hn;obtain ⟨e,he,h4⟩:=aQ h3;have hu:=nK he;obtain ⟨S',h5,hS⟩:=eI h4;refine ⟨_,S',h5,ExS.of hx fun ρ w l' hs hl=>?_⟩;obtain ⟨v',rfl,hv⟩:=Am.arg1 hl;cases hv;obtain ⟨cs,h6,h7,h8⟩:=aAm t e hu n hn' w;have h0:ρ S.hs.next=none:=hs.fresh _ (af _)
   have ho:OR (ρ.put S.hs.next ⟨w.heap.size,0,cs.size,true⟩) ⟨w.heap.size,0,cs.size,true⟩ (.cells (List.replicate n .any) e .rw) (.cells cs e):=by
    refine ⟨cs,(0,0),rfl,rfl,by simpa using h7,fun i v hi=>?_,fun _=>⟨rfl,fun off _=>by simp⟩,fun h=>by cases h⟩;rw [List.getElem?_replicate] at hi
    split at hi
    ·rename_i hin
     cases hi;have hlt:i < cs.size:=om;refine ⟨cs[i],by simp [hlt],.any (h8 i _ (by simp [hlt]))⟩
    ·cases hi
   obtain ⟨k1,k2⟩:=hs.drew.drew.alloc (csz:=cs.size) ho;refine ⟨_,_,_,h6,?_,by rw [hS];exact k1,by rw [hS];exact ((Ext.drew ρ S.hs w).trans (Ext.drew ρ S.hs w.drew)).trans k2⟩;have:=VR.slice (ρ:=ρ.put S.hs.next ⟨w.heap.size,0,cs.size,true⟩) 0 n n 1 false 0 cs.size (Rho.put_self _ _ _) (fun _=>rfl) h7 (fun h=>by cases h) (af _) (fun _=>by simp);have hn:S.hs.next=S.next:=rfl;rw [hn] at this ⊢;simpa using this
  ·exact h2.elim
 ·obtain ⟨v,rfl,h2⟩:=eH h1
  split at h2
  ·rename_i t id
   obtain ⟨es,c,hg,h3⟩:=gV h2;obtain ⟨S',h4,hS⟩:=eI h3;refine ⟨_,S',h4,ExS.of hx fun ρ w l' hs hl=>?_⟩;obtain ⟨v',rfl,hv⟩:=Am.arg1 hl
   cases hv with
   | iface _ hv' =>
     cases hv' with
     | map hlm =>
       rename_i l
       obtain ⟨es',hb,hE⟩:=hs.map hg hlm;have h0:ρ S.hs.next=none:=hs.fresh _ (af _);have ho:OR (ρ.put S.hs.next ⟨w.heap.size,0,0,true⟩) ⟨w.heap.size,0,0,true⟩ (.map es c) (.map es' c):=⟨rfl,es',rfl,hE.mono (Rho.le_put h0 _)⟩
       obtain ⟨k1,k2⟩:=hs.alloc (csz:=0) ho;refine ⟨.iface t (.map (some w.heap.size)),_,_,?_,.iface t (.map (l:=⟨w.heap.size,0,0,true⟩) (Rho.put_self _ _ _)),by rw [hS];exact k1,by rw [hS];exact k2⟩
       have hdef:Extern.MapsClone.clone #[.iface t (.map (some l.blk))]=(do
         let .map entries clock <- getObj l.blk|stuck "maps.clone: a map expected"
         pure (.iface t (.map (some (<- newObj (.map entries clock)))))):=rfl
       show (Extern.MapsClone.clone #[.iface t (.map (some l.blk))]).run P w=_;rw [hdef];simp [dQ hb]
  ·exact h2.elim
 ·obtain ⟨v,rfl,h2⟩:=eH h1
  split at h2
  ·refine ⟨_,S,h2,ExS.of hx fun ρ w l' hs hl=>?_⟩;obtain ⟨v',rfl,hv⟩:=Am.arg1 hl;cases hv;exact ⟨_,w,ρ,rfl,.float _ _,hs,Ext.refl _ _ _⟩
  ·exact h2.elim
 ·exact h1.elim
end
section
variable {P:Program} {E:Env}
theorem zQ {d:TypeId}(h:aEI P d=true):P.underlying d=some .string:=by
 unfold aEI at h;split at h
 ·assumption
 ·cases h
theorem wB {d:TypeId}(h:aAr P d=true):P.underlying d=some (.int .u8):=by
 unfold aAr at h;split at h
 ·assumption
 ·cases h
theorem aCA (w:World)(e:TypeId)(s:ByteArray):Lib.bytesWorld w e s=w.drew.alloc (.cells (Lib.bytesCells w e s) e ((Lib.bytesCells w e s).size,(Lib.bytesCells w e s).size+1)):=by
 unfold Lib.bytesWorld World.freeze World.alloc World.drew;simp only [Nat.one_ne_zero,if_false]
 congr 1
 apply Array.ext_getElem?;intro i;simp only [Array.getElem?_modify,Array.getElem?_push];by_cases h:i=w.heap.size
 ·subst h;simp
 ·simp [h,Ne.symm h]
theorem aAJ {s d:TypeId}{x:Operand}{S:St}{k:V->St->Prop}(h:sL P s d x E S k):∃ v S',k v S'∧OpS P (.convert s d x) E S.hs v S'.hs:=by
 obtain ⟨vx,h1,h2⟩:=bG (show eZ E x _ from h);obtain ⟨b,rfl,h3⟩:=lT h2;obtain ⟨g1,h4⟩:=aT h3;obtain ⟨e,he,h5⟩:=aQ h4;obtain ⟨g2,h6⟩:=aT h5;have h7:=bV (pD h6);obtain ⟨S',h8,hS⟩:=eI h7;have hs1:=zQ g1;have hd1:=nK he;have he1:=wB g2;refine ⟨_,S',h8,fun ρ ev o w ho hev hs=>?_⟩;have hc:=hev.one (x:=x) (by simp [Op.operands]) h1;generalize hce:ev x=cv at hc;cases hc;have hr:=Lib.run_convert_string_bytes w s d e ⟨⟨b⟩⟩ hs1 hd1 he1;rw [aCA] at hr;have hsz:(⟨⟨b⟩⟩:ByteArray).size=b.length:=rfl;have hge:=grownCap_ge w b.length 0 e;rw [hsz] at hr
 have hcs:Lib.bytesCells w e ⟨⟨b⟩⟩=⟨(b.map fun b=>Value.int .u8 b.toNat) ++ List.replicate (grownCap w b.length 0 e - b.length) (.int .u8 0)⟩:=by
  unfold Lib.bytesCells;rw [hsz];apply Array.ext';simp
 rw [hcs] at hr;generalize grownCap w b.length 0 e=cap at hr hge hcs;generalize hrest:List.replicate (cap - b.length) (Value.int .u8 0)=rest at hr
 have hrl:rest.length=cap - b.length:=by rw [<- hrest];simp
 have h0:ρ S.hs.next=none:=hs.fresh _ (af _)
 have ho':OR (ρ.put S.hs.next ⟨w.heap.size,0,cap,true⟩) ⟨w.heap.size,0,cap,true⟩ (.cells (b.map fun b=>.int .u8 b.toNat) e .rw)
   (.cells (⟨(b.map fun b=>Value.int .u8 b.toNat) ++ rest⟩:Array Value) e ((⟨(b.map fun b=>Value.int .u8 b.toNat) ++ rest⟩:Array Value).size,(⟨(b.map fun b=>Value.int .u8 b.toNat) ++ rest⟩:Array Value).size+1)):=by
  have hall:((b.map fun b=>Value.int .u8 b.toNat) ++ rest).length=cap:=by simp [hrl];omega
  refine ⟨_,_,rfl,hall.symm,(by show 0+(List.map (fun b=>V.int .u8 b.toNat) b).length <= ((b.map fun b=>Value.int .u8 b.toNat) ++ rest).length;simp),fun i v hi=>?_,fun _=>⟨rfl,fun off hoff=>by omega⟩,fun h=>by cases h⟩;obtain ⟨v',a,c⟩:=(VRs.bytes (ρ:=ρ.put S.hs.next ⟨w.heap.size,0,cap,true⟩) b).get hi;refine ⟨v',?_,c⟩
  have hlt:i < (b.map fun b=>Value.int .u8 b.toNat).length:=by
   rcases Nat.lt_or_ge i (b.map fun b=>Value.int .u8 b.toNat).length with h'|h'
   ·exact h'
   ·rw [List.getElem?_eq_none h'] at a;cases a
  show (⟨(b.map fun b=>Value.int .u8 b.toNat) ++ rest⟩:Array Value)[0+i]?=some v';rw [Nat.zero_add];simp only [List.getElem?_toArray];rw [List.getElem?_append_left hlt];exact a
 obtain ⟨p1,p2⟩:=hs.drew.alloc (csz:=cap) ho'
 have hrun:(execOp ev o).run P w=.ok (.value (.slice (some ⟨w.heap.size,0,none⟩) b.length cap)) (w.drew.alloc (.cells (⟨(b.map fun b=>Value.int .u8 b.toNat) ++ rest⟩:Array Value) e ((⟨(b.map fun b=>Value.int .u8 b.toNat) ++ rest⟩:Array Value).size,(⟨(b.map fun b=>Value.int .u8 b.toNat) ++ rest⟩:Array Value).size+1))):=by
  simp only [execOp,ho,hce,Sem.run_bind,hr,Result.andThen_ok];rfl
 refine ⟨_,_,_,.inl hrun,?_,by rw [hS];exact p1,by rw [hS];exact (Ext.drew ρ S.hs w).trans p2⟩
 have:=VR.slice (ρ:=ρ.put S.hs.next ⟨w.heap.size,0,cap,true⟩) 0 b.length b.length 1 false 0 cap (Rho.put_self _ _ _) (fun _=>rfl) hge (fun h=>by cases h) (af _) (fun _=>by
  show 0+0+cap * 1 <= cap
  omega)
 rw [aM];have e0:0+0=0:=rfl;rw [Nat.add_zero] at this;exact this
theorem aAE {s d:TypeId}{x:Operand}{S:St}{k:V->Prop}(h:aCS P s d x E S k):∃ v,k v∧oN P (.convert s d x) E S.hs v:=by
 obtain ⟨vx,h1,h2⟩:=bG (show eZ E x _ from h);obtain ⟨g1,h3⟩:=aT h2;obtain ⟨e,he,h4⟩:=aQ h3;obtain ⟨g2,h5⟩:=aT h4;have hd1:=zQ g1;have hs1:=nK he;have he1:=wB g2
 split at h5
 ·refine ⟨_,h5,fun ρ ev o w ho hev hs=>?_⟩;have hc:=hev.one (x:=x) (by simp [Op.operands]) h1;generalize hce:ev x=cv at hc;cases hc;refine ⟨_,?_,.str []⟩;have:=run_convert_bytes_nil (P:=P) w s e hs1 he1 0 0 d hd1;simp only [execOp,ho,hce,Sem.run_bind,this,Result.andThen_ok];rfl
 ·rename_i id off n c es ex
  obtain ⟨g3,h6⟩:=aT h5;have g3:=aj g3;subst g3;obtain ⟨cs,t,fl,hg,h7⟩:=fV h6;obtain ⟨h8,h9⟩:=iD h7;obtain ⟨h10,h11⟩:=gP h9;obtain ⟨b,h12,h13⟩:=rK (ρ:=fun _=>none) h11;refine ⟨_,h12,fun ρ ev o w ho hev hs=>?_⟩;have hc:=hev.one (x:=x) (by simp [Op.operands]) h1;generalize hce:ev x=cv at hc
  cases hc with
  | sliceS _ _ _ _ _ off' cap' sp hl ho' hcap hx hlen hr hsp =>
    rename_i l
    have hld:∃ a:Addr,a=⟨l.blk,l.base+off',sp⟩∧(loadCells a n).run P w=.ok ((b.map fun b=>(b.toNat:Int)).map (Value.int .u8)).toArray w∧b.length=n:=by
     refine ⟨_,rfl,?_⟩
     have hbl:b.length=n:=by
      have:=congrArg List.length h13;simp at this h10;omega
     refine ⟨?_,hbl⟩;by_cases hz:0 < c
     ·obtain rfl:=hsp om;rw [ho' hz];obtain ⟨c',h14,h15⟩:=hs.loadCells (P:=P) hg hl (off:=off) (n:=n) (by simp at h8 h10;omega);rw [h14];rw [h13] at h15;have:=VRs.of_bytes h15;rw [this]
      congr 1
      apply Array.ext';simp
     ·have:n=0:=om;subst this;have:b=[]:=List.length_eq_zero_iff.1 hbl;subst this;simp [jR]
    obtain ⟨a,ha,h16,h17⟩:=hld;refine ⟨.string ⟨⟨b⟩⟩,?_,.str b⟩;rw [<- ha] at hce;have hr':=run_convert_bytes_string (P:=P) w s d e (some a) n cap' hs1 he1 hd1;rw [run_bytesToString w a n cap' _ h16,foldl_push_bytes] at hr';simp only [execOp,ho,hce,Sem.run_bind,hr',Result.andThen_ok]
    have e1:(ByteArray.empty.data ++ ((b.map fun b=>(b.toNat:Int)).map fun n=>UInt8.ofNat n.toNat).toArray:Array UInt8)=⟨b⟩:=by
     apply Array.ext';simp [ByteArray.empty,ByteArray.emptyWithCapacity];apply List.map_id'';intro x;simp
    rw [e1];rfl
 ·exact h5.elim
theorem aEa {x:Operand}{xt t:TypeId}{ok:Bool}{k:V->Prop}(h:aDZ P x t ok E k):∃ v,k v∧iV P (.typeAssert x xt t ok) E v:=by
 obtain ⟨a,h1,h2⟩:=bG (show eZ E x _ from h);obtain ⟨hno,h5⟩:=aT h2
 obtain ⟨d,hd,hni⟩:∃ d,P.underlying t=some d∧∀ ms,d ≠ .interface ms:=by
  unfold aGB at hno
  split at hno
  ·cases hno
  ·rename_i d hne hd;exact ⟨d,hd,fun ms e=>hne ms e⟩
  ·cases hno
 unfold aJF at h5
 split at h5
 ·obtain ⟨hok,h6⟩:=aT h5;subst hok;obtain ⟨z,hz,h7⟩:=aQ h6;obtain ⟨i,zv,hi,hzv,hzok,rfl⟩:=qV hz;refine ⟨_,h7,fun ρ ev o w ho hev=>?_⟩;have hc:=hev.one (x:=x) (by simp [Op.operands]) h1;generalize hce:ev x=cv at hc;cases hc;refine ⟨.tuple #[zv,.bool false],?_,.tup (.cons (VR.ofV hzok) (.cons (.bool _) .nil))⟩;simp only [execOp,ho,hce,Instr.typeAssert,Sem.run_bind,run_underlying hd,Result.andThen_ok]
  cases d <;> first|exact absurd rfl (hni _)|simp [dA hi hzv]
 ·rename_i u v
  cases hb:Nat.beq u t with
  | false =>
    rw [hb] at h5;obtain ⟨hok,h6⟩:=aT h5;subst hok;obtain ⟨z,hz,h7⟩:=aQ h6;obtain ⟨i,zv,hi,hzv,hzok,rfl⟩:=qV hz
    have hne:u ≠ t:=fun e=>by subst e;simp at hb
    refine ⟨_,h7,fun ρ ev o w ho hev=>?_⟩;have hc:=hev.one (x:=x) (by simp [Op.operands]) h1;generalize hce:ev x=cv at hc;cases hc;refine ⟨.tuple #[zv,.bool false],?_,.tup (.cons (VR.ofV hzok) (.cons (.bool _) .nil))⟩;simp only [execOp,ho,hce,Instr.typeAssert,Sem.run_bind,run_underlying hd,Result.andThen_ok]
    cases d <;> first|exact absurd rfl (hni _)|simp [hne,dA hi hzv]
  | true =>
    rw [hb] at h5;have he:=aj hb;subst he
    cases ok with
    | false =>
      refine ⟨v,h5,fun ρ ev o w ho hev=>?_⟩;have hc:=hev.one (x:=x) (by simp [Op.operands]) h1;generalize hce:ev x=cv at hc
      cases hc with
      | iface _ hv =>
        refine ⟨_,?_,hv⟩;simp only [execOp,ho,hce,Instr.typeAssert,Sem.run_bind,run_underlying hd,Result.andThen_ok]
        cases d <;> first|exact absurd rfl (hni _)|simp
    | true =>
      refine ⟨_,h5,fun ρ ev o w ho hev=>?_⟩;have hc:=hev.one (x:=x) (by simp [Op.operands]) h1;generalize hce:ev x=cv at hc
      cases hc with
      | iface _ hv =>
        refine ⟨.tuple #[_,.bool true],?_,.tup (.cons hv (.cons (.bool _) .nil))⟩;simp only [execOp,ho,hce,Instr.typeAssert,Sem.run_bind,run_underlying hd,Result.andThen_ok]
        cases d <;> first|exact absurd rfl (hni _)|simp
 ·exact h5.elim
end
abbrev cG:=FuncId->List V->St->(V->St->Prop)->Prop
abbrev bQ:=Nat->List V->St->(V->St->Prop)->Prop
noncomputable def aDc (rc:cG)(rd:bQ)(f:V)(args:List V)(S:St)(k:V->St->Prop):Prop:=match f with
 | .func (.func g) a b=>nH a args fun l=>nH l b fun l=>rc g l S k
 | .yield id=>rd id args S k
 | _=>False
def aNA (P:Program)(s d:TypeId):Nat:=match P.underlying s,P.underlying d with
 | some (.pointer _),some .unsafePointer=>1
 | some .unsafePointer,some (.pointer _)=>1
 | some (.slice _),some .string=>2
 | some .string,some (.slice _)=>3
 | _,_=>0
noncomputable def uG (P:Program)(s d:TypeId)(x:Operand):tS:=fun E S k=>match aNA P s d with
 | 2=>aCS P s d x E S k
 | _=>aFr P s d x E S k
def aAM (P:Program)(t:TypeId):Bool:=match P.underlying t with|some (.pointer _)=>true|some (.array ..)=>true|_=>false
def aEV:Builtin->Bool|.len|.cap|.min|.max|.unsafeSliceData=>true|_=>false
noncomputable def aPc (P:Program)(o:Op):jC:=match o with
 | .move x=>aCT x
 | .assign x=>aCT x
 | .pick c a b=>aMX c a b
 | .build t ps=>aHA P t ps
 | .nilCheck x=>xM x
 | .binOp op t x y _=>aSS P op t x y
 | .unOp op _ x=>aUn op x
 | .makeInterface t x=>aHF P t x
 | .typeAssert x _ t ok=>aDZ P x t ok
 | .makeFunc fn a b=>aMU fn a b
 | .fieldAddr t x i=>uH P t x i
 | .field t x i=>aHD P t x i
 | .indexAddr t x i=>uI P t x i
 | .index t x i=>aHG P t x i
 | .extract x i=>aAF x i
 | .convert s d x=>aJu P s d x
 | .slice t x l h m=>aEf P t x l h m
 | _=>fun _ _=>False
noncomputable def yN (P:Program)(b:Builtin)(ts:Array TypeId)(l:List V)(S:St)(k:V->Prop):Prop:=match b with
 | .len=>oO l fun v=>Option.casesOn (ts[0]?) False fun t=>aTe P t v S k
 | .cap=>oO l fun v=>Option.casesOn (ts[0]?) False fun t=>aTd P t v k
 | .min=>pI l fun v u=>aQb v u k
 | .max=>pI l fun v u=>aQa v u k
 | .unsafeSliceData=>oO l fun v=>lC v k
 | _=>False
noncomputable def gJ (P:Program)(o:Op):tS:=match o with
 | .load t a=>aMV P t a
 | .lookup t m key ok=>aEd P t m key ok
 | .convert s d x=>uG P s d x
 | .slice t x l h m=>sK P t x l h m
 | .call c=>fun E S k=>match c.callee with
   | .builtin b=>rY E c.args.toList fun l=>yN P b c.argTypes l S k
   | _=>False
 | .entry x=>aHC x
 | _=>fun _ _ _=>False
noncomputable def aHP (P:Program)(o:Op):oX:=match o with
 | .alloc t=>aHz P t
 | .box t x=>aST t x
 | .buildSlice t n ps=>rJ P t n ps
 | .makeMap t r=>aAG P t r
 | .makeSlice t l c=>uJ P t l c
 | _=>fun _ _=>False
noncomputable def aAV (P:Program)(rc:cG)(rd:bQ)(o:Op):OpT:=match o with
 | .store t a x=>aHM P t a x
 | .mapUpdate t m key x=>jM P t m key x
 | .insert t m key x=>jM P t m key x
 | .range t x=>aHL P t x
 | .next x b=>aMW x b
 | .convert s d x=>sL P s d x
 | .call c=>fun E S k=>match c.callee with
   | .builtin b=>rY E c.args.toList fun l=>pJ P b c.argTypes l S k
   | .value f=>eZ E f fun f=>rY E c.args.toList fun l=>aDc rc rd f l S k
   | _=>False
 | _=>fun _ _ _=>False
inductive Cl where
 | pure (f:jC)
 | read (f:tS)
 | alloc (f:oX)
 | chain (f:cG->bQ->OpT)
noncomputable def rM (P:Program)(o:Op):Cl:=match o with
 | .move x=>.pure (aCT x)
 | .assign x=>.pure (aCT x)
 | .pick c a b=>.pure (aMX c a b)
 | .build t ps=>.pure (aHA P t ps)
 | .nilCheck x=>.pure (xM x)
 | .binOp op t x y _=>.pure (aSS P op t x y)
 | .unOp op _ x=>.pure (aUn op x)
 | .makeInterface t x=>.pure (aHF P t x)
 | .typeAssert x _ t ok=>.pure (aDZ P x t ok)
 | .makeFunc fn a b=>.pure (aMU fn a b)
 | .fieldAddr t x i=>.pure (uH P t x i)
 | .field t x i=>.pure (aHD P t x i)
 | .indexAddr t x i=>.pure (uI P t x i)
 | .index t x i=>.pure (aHG P t x i)
 | .extract x i=>.pure (aAF x i)
 | .convert s d x=>match aNA P s d with|1=>.read (uG P s d x)|2=>.read (uG P s d x)|3=>.chain (fun _ _=>sL P s d x)|_=>.pure (aJu P s d x)
 | .slice t x l h m=>match aAM P t with|true=>.read (sK P t x l h m)|false=>.pure (aEf P t x l h m)
 | .load t a=>.read (aMV P t a)
 | .lookup t m key ok=>.read (aEd P t m key ok)
 | .entry x=>.read (aHC x)
 | .alloc t=>.alloc (aHz P t)
 | .box t x=>.alloc (aST t x)
 | .buildSlice t n ps=>.alloc (rJ P t n ps)
 | .makeMap t r=>.alloc (aAG P t r)
 | .makeSlice t l c=>.alloc (uJ P t l c)
 | .store t a x=>.chain fun _ _=>aHM P t a x
 | .mapUpdate t m key x=>.chain fun _ _=>jM P t m key x
 | .insert t m key x=>.chain fun _ _=>jM P t m key x
 | .range t x=>.chain fun _ _=>aHL P t x
 | .next x b=>.chain fun _ _=>aMW x b
 | .call c=>match c.callee with
   | .builtin b=>match aEV b with
     | true=>.read fun E S k=>rY E c.args.toList fun l=>yN P b c.argTypes l S k
     | false=>.chain fun _ _ E S k=>rY E c.args.toList fun l=>pJ P b c.argTypes l S k
   | .value f=>.chain fun rc rd E S k=>eZ E f fun f=>rY E c.args.toList fun l=>aDc rc rd f l S k
   | _=>.chain fun _ _ _ _ _=>False
 | _=>.chain fun _ _ _ _ _=>False
noncomputable def aTg (f:jC)(_:cG)(_:bQ):OpT:=fun E S k=>f E fun v=>k v S
noncomputable def aTh (f:tS)(_:cG)(_:bQ):OpT:=fun E S k=>f E S fun v=>k v S
noncomputable def aQg (f:oX)(_:cG)(_:bQ):OpT:=fun E S k=>f E fun ob mk=>bK ob S fun id S=>k (mk id) S
noncomputable def aQh (f:cG->bQ->OpT)(rc:cG)(rd:bQ):OpT:=f rc rd
noncomputable def aCE (P:Program)(rc:cG)(rd:bQ)(o:Op):OpT:=Cl.rec (motive:=fun _=>cG->bQ->OpT) aTg aTh aQg aQh (rM P o) rc rd
section
variable {P:Program} {E:Env}
theorem aIV {o:Op}{k:V->Prop}(h:aPc P o E k):∃ v,k v∧iV P o E v:=by
 unfold aPc at h
 split at h
 ·exact aHI h
 ·exact aEb h
 ·exact aHK h
 ·exact aFq h
 ·exact aAH h
 ·exact aKP h
 ·exact aMY h
 ·exact aFv h
 ·exact aEa h
 ·exact aHE h
 ·exact aAd h
 ·exact aFu h
 ·exact aAe h
 ·exact aFw h
 ·exact aCw h
 ·exact aHB h
 ·exact aFy h
 ·exact h.elim
def BuR (P:Program)(b:Builtin)(ts:Array TypeId)(l:List V)(S:Hs)(v:V):Prop :=
 ∀ (ρ:Rho) (w:World) (l':List Value) (ty:TypeId) (cs:Array Bool),cP ρ S w->VRs ρ l l'->∃ v',(builtin b ts ty cs ⟨l'⟩).run P w=.ok (.value v') w∧VR ρ v v'
theorem BuR.call {b:Builtin}{c:Call}{l:List V}{H:Hs}{v:V}(hb:c.callee=.builtin b)(hl:aMQ E c.args.toList l)(h:BuR P b c.argTypes l H v):oN P (.call c) E H v:=fun ρ ev x w hx he hs=>by
 have hm:(Op.call c).operands.toList=c.args.toList:=tU hb;rw [hm] at he;obtain ⟨v',h1,h2⟩:=h ρ w (c.args.toList.map ev) x.type (c.args.map fun|.const _=>true|_=>false) hs (he.list (fun _ h=>h) hl);exact ⟨v',by rw [vU hx hb,qI ev];exact h1,h2⟩
theorem BuS.call {b:Builtin}{c:Call}{l:List V}{H H':Hs}{v:V}(hb:c.callee=.builtin b)(hl:aMQ E c.args.toList l)(h:BuS P b c.argTypes l H v H'):OpS P (.call c) E H v H':=fun ρ ev x w hx he hs=>by
 have hm:(Op.call c).operands.toList=c.args.toList:=tU hb;rw [hm] at he;obtain ⟨v',w',ρ',h1,h2,h3,h4⟩:=h ρ w (c.args.toList.map ev) x.type (c.args.map fun|.const _=>true|_=>false) hs (he.list (fun _ h=>h) hl);exact ⟨v',w',ρ',.inl (by rw [vU hx hb,qI ev];exact h1),h2,h3,h4⟩
theorem aLb {ts:Array TypeId}{v u:V}{k:V->Prop}(h:aQb v u k):∃ r,k r∧∀ H,BuR P .min ts [v,u] H r:=by
 obtain ⟨a,x,rfl,h1⟩:=gW h;obtain ⟨b,y,rfl,h2⟩:=gW h1
 have fin:∀ H,BuR P .min ts [.int a x,.int b y] H (.int a (if y < x then y else x)):=fun H ρ w l' ty cs hs hL=>by
  obtain ⟨v',u',rfl,hv,hu⟩:=Am.arg2 hL;cases hv;cases hu;exact ⟨_,by simp [builtin,Builtin.min_,Builtin.min2],.int _ _⟩
 rw [bF] at h2;by_cases hlt:y < x
 ·rw [decide_eq_true hlt] at h2;rw [if_pos hlt] at fin;exact ⟨_,h2,fin⟩
 ·rw [decide_eq_false hlt] at h2;rw [if_neg hlt] at fin;exact ⟨_,h2,fin⟩
theorem aKZ {ts:Array TypeId}{v u:V}{k:V->Prop}(h:aQa v u k):∃ r,k r∧∀ H,BuR P .max ts [v,u] H r:=by
 obtain ⟨a,x,rfl,h1⟩:=gW h;obtain ⟨b,y,rfl,h2⟩:=gW h1
 have fin:∀ H,BuR P .max ts [.int a x,.int b y] H (.int a (if y > x then y else x)):=fun H ρ w l' ty cs hs hL=>by
  obtain ⟨v',u',rfl,hv,hu⟩:=Am.arg2 hL;cases hv;cases hu;exact ⟨_,by simp [builtin,Builtin.max_,Builtin.max2],.int _ _⟩
 rw [bF] at h2;by_cases hlt:x < y
 ·rw [decide_eq_true hlt] at h2;rw [if_pos hlt] at fin;exact ⟨_,h2,fin⟩
 ·rw [decide_eq_false hlt] at h2;rw [if_neg hlt] at fin;exact ⟨_,h2,fin⟩
theorem aAh {ts:Array TypeId}{v:V}{k:V->Prop}(h:lC v k):∃ r,k r∧∀ H,BuR P .unsafeSliceData ts [v] H r:=by
 unfold lC at h
 split at h
 ·refine ⟨_,h,fun H ρ w l' ty cs hs hL=>?_⟩;obtain ⟨v',rfl,hv⟩:=hL.one;cases hv;exact ⟨_,by simp only [builtin,Sem.run_bind];rw [Lib.run_unsafeSliceData_nil w ts ty 0 0];rfl,.nilPtr⟩
 ·rename_i id off n c es ex
  obtain ⟨hc0,h1⟩:=aT h
  have hc0':0 < c:=by simpa using hc0
  refine ⟨_,h1,fun H ρ w l' ty cs hs hL=>?_⟩;obtain ⟨v',rfl,hv⟩:=hL.one
  cases hv with
  | sliceS _ _ _ _ _ off' cap' sp hl ho hc hxx hlen hr hsp =>
    have hoff:=ho hc0';obtain rfl:=hsp om;subst hoff;have hne:cap' ≠ 0:=om;exact ⟨_,by simp only [builtin,Sem.run_bind];rw [Lib.run_unsafeSliceData_row w ts ty _ _ _ hne];rfl,.ptr off' hl⟩
 ·exact h.elim
theorem aGJ {b:Builtin}{ts:Array TypeId}{l:List V}{S:St}{k:V->Prop}(h:yN P b ts l S k):∃ v,k v∧BuR P b ts l S.hs v:=by
 unfold yN at h
 split at h
 ·obtain ⟨s,rfl,h1⟩:=eH h;obtain ⟨t,ht,h2⟩:=aQ h1;obtain ⟨r,h3,h4⟩:=aCY h2;refine ⟨r,h3,fun ρ w l' ty cs hs hl=>?_⟩;obtain ⟨v',rfl,hv⟩:=hl.one;obtain ⟨r',h5,h6⟩:=h4 ρ w v' ts ty ht hs hv;exact ⟨r',by simp [builtin,h5],h6⟩
 ·obtain ⟨s,rfl,h1⟩:=eH h;obtain ⟨t,ht,h2⟩:=aQ h1;obtain ⟨r,h3,h4⟩:=aCX h2;refine ⟨r,h3,fun ρ w l' ty cs hs hl=>?_⟩;obtain ⟨v',rfl,hv⟩:=hl.one;obtain ⟨r',h5,h6⟩:=h4 ρ w v' ts ty ht hv;exact ⟨r',by simp [builtin,h5],h6⟩
 ·obtain ⟨s,x,rfl,h1⟩:=eR h;obtain ⟨r,h2,h3⟩:=aLb (P:=P) (ts:=ts) h1;exact ⟨r,h2,h3 _⟩
 ·obtain ⟨s,x,rfl,h1⟩:=eR h;obtain ⟨r,h2,h3⟩:=aKZ (P:=P) (ts:=ts) h1;exact ⟨r,h2,h3 _⟩
 ·obtain ⟨s,rfl,h1⟩:=eH h;obtain ⟨r,h2,h3⟩:=aAh (P:=P) (ts:=ts) h1;exact ⟨r,h2,h3 _⟩
 ·exact h.elim
theorem aFs {s d:TypeId}{x:Operand}{S:St}{k:V->Prop}(h:uG P s d x E S k):∃ v,k v∧oN P (.convert s d x) E S.hs v:=by
 unfold uG at h
 split at h
 ·exact aAE h
 ·exact aCv h
theorem aBR {o:Op}{S:St}{k:V->Prop}(h:gJ P o E S k):∃ v,k v∧oN P o E S.hs v:=by
 unfold gJ at h
 split at h
 ·exact aHH h
 ·exact aEe h
 ·exact aFs h
 ·exact aAI h
 ·rename_i c
  split at h
  ·rename_i b hb
   obtain ⟨l,hl,h1⟩:=lP h;obtain ⟨v,h2,h3⟩:=aGJ h1;exact ⟨v,h2,h3.call hb hl⟩
  ·exact h.elim
 ·exact aFt h
 ·exact h.elim
theorem aFC {o:Op}{k:O->(Nat->V)->Prop}(h:aHP P o E k):∃ ob mk,k ob mk∧nD P o E ob mk:=by
 unfold aHP at h
 split at h
 ·exact aFp h
 ·exact aKQ h
 ·exact xL h
 ·exact aCx h
 ·exact aAf h
 ·exact h.elim
abbrev W (r:Option Nat):Fence:={ Fence.wide with round:=r }
def Rt (ρ:Rho)(H:Hs)(w:World)(v:V)(H':Hs)(e:Ending)(w':World):Prop:=∃ v' ρ',e=.returned v'∧VR ρ' v v'∧cP ρ' H' w'∧Ext ρ H w ρ' H' w'
def Nx (P:Program)(ρ:Rho)(H:Hs)(w:World)(v:V)(H':Hs):Result Next->Prop
 | .ok (.value v') w'=>Rt ρ H w v H' (.returned v') w'
 | .ok .skip w'=>Rt ρ H w v H' (.returned undef) w'
 | .ok (.enter f args) w'=>CallsIn (W none) 0 P f args w' (Rt ρ H w v H')
 | .ok (.round l f tmps assign body) w'=>RoundIn (W none) 0 P l f tmps assign body w' (Rt ρ H w v H')
 | _=>False
theorem aGQ (r:Option Nat)(n:Nat):(W r).room n:=fun d h=>by simp [W,Fence.wide] at h
theorem gF {r:Option Nat}{n:Nat}{f:FuncId}{args:Array Value}{w:World}{R:Ending->World->Prop}:CallsIn (W r) n P f args w R ↔ Calls P f args w R :=
 ⟨fun h=>(callsIn_wide (n:=n)).1 ⟨trivial,fun cs _=>h.2 cs (aGQ _ _)⟩,fun h=>⟨trivial,fun cs _=>((callsIn_wide (n:=n)).2 h).2 cs (room_wide _)⟩⟩
theorem aGR {r r':Option Nat}{n n':Nat}{l:Nat}{f:FuncId}{tmps:Array Value}{assign body:Code}{w:World}{R:Ending->World->Prop}
  (h:RoundIn (W r) n P l f tmps assign body w R):RoundIn (W r') n' P l f tmps assign body w R:=⟨trivial,fun c cs _=>h.2 c cs (aGQ _ _)⟩
theorem Nx.upon {ρ:Rho}{H:Hs}{w:World}{v:V}{H':Hs}{r:Result Next}(h:Nx P ρ H w v H' r){ro:Option Nat}{o:Oper}{a:Act}{next:Act->World->Prop}{Q:Exit->Act->World->Prop}
  (hk:∀ v' w' ρ',VR ρ' v v'->cP ρ' H' w'->Ext ρ H w ρ' H' w'->next (a.put o.dst v') w'):o.uponIn (W ro) 0 P a next Q r:=by
 cases r with
 | halt e w'=>exact h.elim
 | ok n w' =>
   cases n with
   | value v' =>
     obtain ⟨v2,ρ',he,h1,h2,h3⟩:=h;cases he;exact hk _ _ _ h1 h2 h3
   | skip =>
     obtain ⟨v2,ρ',he,h1,h2,h3⟩:=h;cases he;exact hk _ _ _ h1 h2 h3
   | enter f args =>
     have h':CallsIn (W none) 0 P f args w' (Rt ρ H w v H'):=h;rw [Oper.uponIn_enter];refine ⟨fun hd=>by simp [W,Fence.wide] at hd,?_⟩;refine (gF.2 (gF.1 (h'.mono fun e w'' hR=>?_)));obtain ⟨v2,ρ',rfl,h1,h2,h3⟩:=hR;exact hk _ _ _ h1 h2 h3
   | round l f tmps assign body =>
     have h':RoundIn (W none) 0 P l f tmps assign body w' (Rt ρ H w v H'):=h;rw [Oper.uponIn_round];refine ⟨fun hd=>by simp [W,Fence.wide] at hd,?_⟩;refine aGR (h'.mono fun e w'' hR=>?_);obtain ⟨v2,ρ',rfl,h1,h2,h3⟩:=hR;exact hk _ _ _ h1 h2 h3
   | _=>exact h.elim
def OpW (P:Program)(o:Op)(E:Env)(H:Hs)(v:V)(H':Hs):Prop :=
 ∀ (ρ:Rho) (ev:Operand->Value) (x:Oper) (w:World),x.op=o->vC ρ E ev o.operands.toList->dZ ρ->cP ρ H w->Nx P ρ H w v H' ((execOp ev x).run P w)
theorem OpS.opW {o:Op}{H H':Hs}{v:V}(h:OpS P o E H v H'):OpW P o E H v H':=fun ρ ev x w hx he _ hs=>by
 obtain ⟨v',w',ρ',h1,h2,h3,h4⟩:=h ρ ev x w hx he hs
 rcases h1 with h1|⟨rfl,h1⟩
 ·rw [h1];exact ⟨_,ρ',rfl,h2,h3,h4⟩
 ·rw [h1];exact ⟨_,ρ',rfl,h2,h3,h4⟩
def fP (P:Program)(g:FuncId)(l:List V)(H:Hs)(v:V)(H':Hs):Prop :=
 ∀ (ρ:Rho) (w:World) (l':List Value),dZ ρ->cP ρ H w->VRs ρ l l'->Nx P ρ H w v H' ((callFunc g ⟨l'⟩).run P w)
def aMR (P:Program)(id:Nat)(l:List V)(H:Hs)(v:V)(H':Hs):Prop :=
 ∀ (ρ:Rho) (w:World) (l':List Value) (lb:Loc),dZ ρ->cP ρ H w->ρ id=some lb->VRs ρ l l'->Nx P ρ H w v H' ((Instr.yield lb.blk ⟨l'⟩).run P w)
def dN (P:Program)(rc:cG):Prop:=∀ g l S k,rc g l S k->∃ v S',k v S'∧fP P g l S.hs v S'.hs
def dW (P:Program)(rd:bQ):Prop:=∀ id l S k,rd id l S k->∃ v S',k v S'∧aMR P id l S.hs v S'.hs
def aSR (P:Program)(f:V)(l:List V)(H:Hs)(v:V)(H':Hs):Prop :=
 ∀ (ρ:Rho) (w:World) (f':Value) (l':List Value),dZ ρ->cP ρ H w->VR ρ f f'->VRs ρ l l' ->
   ∃ d,(∀ w,(Deferred.ofValue f' ⟨l'⟩).run P w=.ok d w)∧Nx P ρ H w v H' ((invoke d.target d.args).run P w)
theorem aAU {rc:cG}{rd:bQ}(hc:dN P rc)(hd:dW P rd){f:V}{l:List V}{S:St}{k:V->St->Prop}(h:aDc rc rd f l S k):∃ v S',k v S'∧aSR P f l S.hs v S'.hs:=by
 unfold aDc at h
 split at h
 ·rename_i g a b
  have h1:=jV h;have h2:=jV h1;obtain ⟨v,S',h3,h4⟩:=hc _ _ _ _ h2;refine ⟨v,S',h3,fun ρ w f' l' hg hs hf hl=>?_⟩
  cases hf with
  | func _ ha hb =>
    rename_i a' b'
    refine ⟨{ target:=.fn (.func g) ⟨b'⟩,args:=⟨a'⟩ ++ ⟨l'⟩ },fun w=>by simp [Deferred.ofValue],?_⟩;have:=h4 ρ w ((a' ++ l') ++ b') hg hs ((ha.append hl).append hb);simpa [invoke] using this
 ·rename_i id
  obtain ⟨v,S',h3,h4⟩:=hd _ _ _ _ h;refine ⟨v,S',h3,fun ρ w f' l' hg hs hf hl=>?_⟩
  cases hf with
  | yield hy =>
    rename_i lb
    refine ⟨{ target:=.fn (.yield lb.blk) #[],args:=#[] ++ ⟨l'⟩ },fun w=>by simp [Deferred.ofValue],?_⟩;have:=h4 ρ w l' lb hg hs hy hl;simpa [invoke] using this
 ·exact h.elim
theorem aFI {rc:cG}{rd:bQ}(hc:dN P rc)(hd:dW P rd){o:Op}{S:St}{k:V->St->Prop}(h:aAV P rc rd o E S k):∃ v S',k v S'∧OpW P o E S.hs v S'.hs:=by
 unfold aAV at h
 split at h
 ·obtain ⟨v,S',h1,h2⟩:=aFz (P:=P) h;exact ⟨v,S',h1,h2.opW⟩
 ·obtain ⟨v,S',h1,h2⟩:=aAg h;exact ⟨v,S',h1,h2.opW⟩
 ·obtain ⟨v,S',h1,h2⟩:=aEc h;exact ⟨v,S',h1,h2.opW⟩
 ·obtain ⟨v,S',h1,h2⟩:=aFx h;exact ⟨v,S',h1,h2.opW⟩
 ·obtain ⟨v,S',h1,h2⟩:=aHJ (P:=P) h;exact ⟨v,S',h1,h2.opW⟩
 ·obtain ⟨v,S',h1,h2⟩:=aAJ h;exact ⟨v,S',h1,h2.opW⟩
 ·rename_i c
  split at h
  ·rename_i b hb
   obtain ⟨l,hl,h1⟩:=lP h;obtain ⟨v,S',h2,h3⟩:=aCz h1;exact ⟨v,S',h2,(h3.call hb hl).opW⟩
  ·rename_i f hf
   obtain ⟨vf,h1,h2⟩:=bG h;obtain ⟨l,hl,h3⟩:=lP h2;obtain ⟨v,S',h4,h5⟩:=aAU hc hd h3;refine ⟨v,S',h4,fun ρ ev x w hx he hg hs=>?_⟩
   have hop:(Op.call c).operands.toList=f :: c.args.toList:=by simp [Op.operands,Call.operands,hf]
   rw [hop] at he;obtain ⟨d,h6,h7⟩:=h5 ρ w (ev f) (c.args.toList.map ev) hg hs (he.one (x:=f) sm h1) (he.list (fun y hy=>by simp [hy]) hl)
   have:(execOp ev x).run P w=(invoke d.target d.args).run P w:=by
    simp only [execOp,hx,resolve,hf,Sem.run_bind,qI ev,h6,Result.andThen_ok]
   rw [this];exact h7
  ·exact h.elim
 ·exact h.elim
def ClS (P:Program)(o:Op):Cl->Prop
 | .pure f=>∀ E k,f E k->∃ v,k v∧iV P o E v
 | .read f=>∀ E S k,f E S k->∃ v,k v∧oN P o E S.hs v
 | .alloc f=>∀ E k,f E k->∃ ob mk,k ob mk∧nD P o E ob mk
 | .chain f=>∀ rc rd,dN P rc->dW P rd->∀ E S k,f rc rd E S k->(∀ c,o ≠ .defer c)∧∃ v S',k v S'∧OpW P o E S.hs v S'.hs
theorem aDf (o:Op):ClS P o (rM P o):=by
 have pu:∀ f,aPc P o=f->ClS P o (.pure f):=fun f hf E k h=>aIV (by rw [hf];exact h);have re:∀ f,gJ P o=f->ClS P o (.read f):=fun f hf E S k h=>aBR (by rw [hf];exact h);have al:∀ f,aHP P o=f->ClS P o (.alloc f):=fun f hf E k h=>aFC (by rw [hf];exact h);have ch:∀ f:cG->bQ->OpT,(∀ rc rd E S k,f rc rd E S k->aAV P rc rd o E S k)->(∀ c,o ≠ .defer c)->ClS P o (.chain f):=fun f hf hn rc rd hc hd E S k h=>⟨hn,aFI hc hd (hf rc rd E S k h)⟩
 have no:ClS P o (.chain fun _ _ _ _ _=>False):=fun _ _ _ _ _ _ _ h=>h.elim
 cases o with
 | move x=>exact pu _ rfl
 | assign x=>exact pu _ rfl
 | pick c a b=>exact pu _ rfl
 | build t ps=>exact pu _ rfl
 | nilCheck x=>exact pu _ rfl
 | binOp op t x y u=>exact pu _ rfl
 | unOp op t x=>exact pu _ rfl
 | makeInterface t x=>exact pu _ rfl
 | typeAssert x xt t ok=>exact pu _ rfl
 | makeFunc fn a b=>exact pu _ rfl
 | fieldAddr t x i=>exact pu _ rfl
 | field t x i=>exact pu _ rfl
 | indexAddr t x i=>exact pu _ rfl
 | index t x i=>exact pu _ rfl
 | extract x i=>exact pu _ rfl
 | convert s d x =>
   show ClS P _ (match aNA P s d with|1=>.read (uG P s d x)|2=>.read (uG P s d x)|3=>.chain (fun _ _=>sL P s d x)|_=>.pure (aJu P s d x))
   split
   ·exact re _ rfl
   ·exact re _ rfl
   ·exact ch _ (fun _ _ _ _ _ h=>h) (fun c e=>by cases e)
   ·exact pu _ rfl
 | slice t x l h m =>
   show ClS P _ (match aAM P t with|true=>.read (sK P t x l h m)|false=>.pure (aEf P t x l h m));cases aAM P t
   ·exact pu _ rfl
   ·exact re _ rfl
 | load t a=>exact re _ rfl
 | lookup t m key ok=>exact re _ rfl
 | entry x=>exact re _ rfl
 | alloc t=>exact al _ rfl
 | box t x=>exact al _ rfl
 | buildSlice t n ps=>exact al _ rfl
 | makeMap t r=>exact al _ rfl
 | makeSlice t l c=>exact al _ rfl
 | store t a x=>exact ch _ (fun _ _ _ _ _ h=>h) (fun c e=>by cases e)
 | mapUpdate t m key x=>exact ch _ (fun _ _ _ _ _ h=>h) (fun c e=>by cases e)
 | insert t m key x=>exact ch _ (fun _ _ _ _ _ h=>h) (fun c e=>by cases e)
 | range t x=>exact ch _ (fun _ _ _ _ _ h=>h) (fun c e=>by cases e)
 | next x b=>exact ch _ (fun _ _ _ _ _ h=>h) (fun c e=>by cases e)
 | call c =>
   have hdef:rM P (.call c)=match c.callee with
     | .builtin b=>match aEV b with
       | true=>.read fun E S k=>rY E c.args.toList fun l=>yN P b c.argTypes l S k
       | false=>.chain fun _ _ E S k=>rY E c.args.toList fun l=>pJ P b c.argTypes l S k
     | .value f=>.chain fun rc rd E S k=>eZ E f fun f=>rY E c.args.toList fun l=>aDc rc rd f l S k
     | _=>.chain fun _ _ _ _ _=>False:=rfl
   rw [hdef]
   cases hcal:c.callee with
   | builtin b =>
     show ClS P (.call c) (match aEV b with
       | true=>.read fun E S k=>rY E c.args.toList fun l=>yN P b c.argTypes l S k
       | false=>.chain fun _ _ E S k=>rY E c.args.toList fun l=>pJ P b c.argTypes l S k)
     cases hq:aEV b with
     | true =>
       refine re _ (funext fun E=>funext fun S=>funext fun k=>?_);simp only [gJ,hcal]
     | false=>exact ch _ (fun rc rd E S k h=>by simp only [aAV,hcal];exact h) (fun c e=>by cases e)
   | value f=>exact ch _ (fun rc rd E S k h=>by simp only [aAV,hcal];exact h) (fun c e=>by cases e)
   | _=>exact no
 | _=>exact no
end
inductive X where
 | normal
 | exit (id:Nat)
 | ret
 | goto (l:Nat)
inductive Df where
 | mark (d:Nat)
 | call (g:FuncId) (l:List V)
abbrev KT:=X->Env->List Df->St->Prop
abbrev lZ:=Option Code->Option Nat->Code->Env->List Df->St->KT->Prop
abbrev mP:=Array Oper->Env->St->(Env->St->Prop)->Prop
noncomputable def qX (ops:List Oper)(j:Nat):Option Tmp:=Option.rec none (fun o=>o.dst) (nth ops j)
inductive Gc where
 | none
 | slot (p:P4) (want:Bool)
 | bad
noncomputable def gc (ops:List Oper)(g:Option (Nat × Bool)):Gc:=match g with
 | .none=>.none
 | some q=>match qX ops q.1 with|.none=>.bad|some t=>.slot (path t) q.2
noncomputable def aVP (w:Bool)(yes no:Prop)(v:V):Prop:=V.rec (motive_1:=fun _=>Prop) (motive_2:=fun _=>Prop) (fun b=>Bool.rec (motive:=fun _=>Prop) (Bool.rec (motive:=fun _=>Prop) yes no w) (Bool.rec (motive:=fun _=>Prop) no yes w) b) (fun _ _=>False) (fun _ _=>False) (fun _=>False) (fun _ _=>False) False (fun _ _ _ _ _ _=>False) False (fun _=>False) False (fun _ _ _ _ _=>False) (fun _=>False) False (fun _ _ _=>False) False (fun _ _=>False) (fun _ _=>no) False True (fun _ _ _ _=>True) v
noncomputable def aVN (_:Env)(yes _:Prop):Prop:=yes
noncomputable def aVO (p:P4)(w:Bool)(E:Env)(yes no:Prop):Prop:=Option.rec (motive:=fun _=>Prop) False (aVP w yes no) (getP E p)
noncomputable def aXr (_:Env)(_ _:Prop):Prop:=False
noncomputable def dL (E:Env)(ops:List Oper)(g:Option (Nat × Bool))(yes no:Prop):Prop:=Gc.rec (motive:=fun _=>Env->Prop->Prop->Prop) aVN aVO aXr (gc ops g) E yes no
noncomputable def aWF (d:Option Tmp):Option P4:=match d with|none=>none|some t=>some (path t)
noncomputable def cW (E:Env)(d:Option Tmp)(v:V)(k:Env->Prop):Prop:=Option.rec (motive:=fun _=>Prop) (k E) (fun p=>setP E p v k) (aWF d)
noncomputable def evOps (P:Program)(rc:cG)(rd:bQ)(ops:List Oper)(l:List Oper):Env->St->(Env->St->Prop)->Prop :=
 List.rec (motive:=fun _=>Env->St->(Env->St->Prop)->Prop) (fun E S k=>k E S)
  (fun o _ ih E S k=>dL E ops o.guard (aCE P rc rd o.op E S fun v S=>cW E o.dst v fun E=>ih E S k) (cW E o.dst undefV fun E=>ih E S k)) l
def wC (o:Op):Bool:=match o with|.defer _=>true|_=>false
noncomputable def nS (l:List Oper):Bool:=List.rec false (fun o _ ih=>Bool.rec ih true (wC o.op)) l
noncomputable def aEw (E:Env)(o:Op)(k:Df->Prop):Prop:=match o with
 | .defer c=>match c.callee with
   | .value f=>eZ E f fun f=>rY E c.args.toList fun l=>match f with
     | .func (.func g) a b=>nH a l fun l=>nH l b fun l=>k (.call g l)
     | _=>False
   | _=>False
 | _=>False
noncomputable def evOpsD (P:Program)(rc:cG)(rd:bQ)(ops:List Oper)(l:List Oper):Env->List Df->St->(Env->List Df->St->Prop)->Prop :=
 List.rec (motive:=fun _=>Env->List Df->St->(Env->List Df->St->Prop)->Prop) (fun E D S k=>k E D S)
  (fun o _ ih E D S k=>dL E ops o.guard (Bool.rec (aCE P rc rd o.op E S fun v S=>cW E o.dst v fun E=>ih E D S k) (aEw E o.op fun d=>cW E o.dst undefV fun E=>ih E (d :: D) S k) (wC o.op)) (cW E o.dst undefV fun E=>ih E D S k)) l
noncomputable def qZ (S:St)(id:Nat)(k:LoopState->Option Code->Env->List Tmp->Code->Code->Nat->Prop):Prop :=
 Option.casesOn (T.get fA id S.hp) False fun o=>match o with|.loop st pe E ps a b d=>k st pe E ps a b d|_=>False
noncomputable def sY (ps:List Tmp):List V->Env->(Env->Prop)->Prop :=
 List.rec (motive:=fun _=>List V->Env->(Env->Prop)->Prop) (fun l E k=>List.casesOn l (k E) fun _ _=>False) (fun p _ ih l E k=>List.casesOn l False fun v l=>tset E p v fun E=>ih l E k) ps
def aJI (P:Program)(f:V):Bool:=match f with
 | .func (.func g) _ _=>match P.funcs[g]? with|some fn=>fn.body.isSome|none=>false
 | _=>false
noncomputable def xZ (P:Program)(rc:cG)(rd:bQ)(f:Operand)(ps:List Tmp)(a b:Code)(d:Nat)(E:Env)(D:List Df)(S:St)(k:KT):Prop :=
 bK (.loop .ready none E ps a b d) S fun l S=>eZ E f fun f=>dD (aJI P f) (aDc rc rd f [.yield l] S fun _ S =>
  qZ S l fun st pe E' ps a b d=>match st with
   | .busy=>False
   | _=>bD l (some (.loop .exhausted pe E' ps a b d)) S fun S=>match pe with
     | none=>k .normal E D S
     | some .ret=>k .ret E D S
     | some (.exit id)=>k (.exit id) E D S
     | _=>False)
noncomputable def evCode (P:Program)(rc:cG)(rd:bQ)(lp:lZ)(dr:mP)(ro:Option Nat)(c:Code):Env->List Df->St->KT->Prop :=
 Code.rec (motive:=fun _=>Env->List Df->St->KT->Prop)
  (fun E D S k=>k .normal E D S)
  (fun _ ops draw E D S k=>Bool.rec (Bool.rec (evOps P rc rd ops.toList ops.toList E S fun E S=>k .normal E D S) (Option.casesOn ro (evOpsD P rc rd ops.toList ops.toList E D S fun E D S=>k .normal E D S) fun _=>False) (nS ops.toList)) (dr ops E S fun E S=>k .normal E D S) draw)
  (fun _ _ ia ib E D S k=>ia E D S fun x E D S=>X.casesOn x (ib E D S k) (fun id=>k (.exit id) E D S) (k .ret E D S) (fun l=>k (.goto l) E D S))
  (fun c _ _ ia ib E D S k=>eZ E c fun v=>xG v fun b=>Bool.rec (ib E D S k) (ia E D S k) b)
  (fun id _ ih E D S k=>ih E D S fun x E D S=>X.casesOn x (k .normal E D S) (fun id'=>Bool.rec (k (.exit id') E D S) (k .normal E D S) (Nat.beq id' id)) (k .ret E D S) (fun l=>k (.goto l) E D S))
  (fun b _ E D S k=>lp none ro b E D S k)
  (fun f ps a b _ _ E D S k=>Option.casesOn ro (bK .deferred S fun d S=>xZ P rc rd f ps.toList a b d E (.mark d :: D) S k) fun l=>qZ S l fun _ _ _ _ _ _ d=>xZ P rc rd f ps.toList a b d E D S k)
  (fun id E D S k=>k (.exit id) E D S)
  (fun c ih E D S k=>ih E D S fun x E D S=>X.casesOn x (k .normal E D S) (fun id=>k (.exit id) E D S) (k .ret E D S) (fun l=>Option.casesOn (findLabel c l) (k (.goto l) E D S) fun rest=>lp (some c) ro rest E D S k))
  (fun _ E D S k=>k .normal E D S)
  (fun l E D S k=>k (.goto l) E D S)
  (fun E D S k=>k .ret E D S)
  (fun _ _ _ _ _=>False) c
noncomputable def yO (P:Program)(E:Env)(S:St)(l:List ResultVar):(List V->Prop)->Prop :=
 List.rec (motive:=fun _=>(List V->Prop)->Prop) (fun k=>k []) (fun r _ ih k=>ResultVar.casesOn r (fun t=>Option.casesOn (tget E t) False fun v=>ih fun l=>k (v :: l))
  (fun a t=>Option.casesOn (tget E a) False fun p=>aKc P t p S fun v=>ih fun l=>k (v :: l))) l
noncomputable def gT (P:Program)(fn:Func)(E:Env)(S:St)(k:V->Prop):Prop:=yO P E S fn.results.toList fun l=>match l with|[v]=>k v|l=>k (.tup l)
noncomputable def mW (l:List V):Nat->Env->(Env->Prop)->Prop :=
 List.rec (motive:=fun _=>Nat->Env->(Env->Prop)->Prop) (fun _ E k=>k E) (fun v _ ih t E k=>tset E t v fun E=>ih (Nat.succ t) E k) l
noncomputable def aRd (D:List Df)(p:Prop):Prop:=List.rec (motive:=fun _=>Prop) p (fun _ _ _=>False) D
noncomputable def aIj (P:Program)(rc:cG)(rd:bQ)(lp:lZ)(dr:mP)(f:FuncId)(args:List V)(S:St)(k:St->Prop):Prop :=
 Option.casesOn (P.funcs[f]?) False fun fn=>Option.casesOn fn.body False fun c=>Bool.rec (motive:=fun _=>Prop)
  (mW args 0 (blank fn.ntmps) fun E=>evCode P rc rd lp dr none c E [] S fun x E D S=>X.casesOn x (aRd D (gT P fn E S fun _=>k S)) (fun _=>False) (aRd D (gT P fn E S fun _=>k S)) (fun _=>False))
  False (fn.name == "runtime.NumGoroutine")
noncomputable def aAk (P:Program)(rc:cG)(rd:bQ)(lp:lZ)(dr:mP)(D:List Df):St->(St->Prop)->Prop :=
 List.rec (motive:=fun _=>St->(St->Prop)->Prop) (fun S k=>k S)
  (fun d _ ih S k=>Df.rec (motive:=fun _=>Prop) (fun d=>Option.casesOn (T.get fA d S.hp) False fun o=>match o with|.deferred=>bD d none S fun S=>ih S k|_=>False) (fun g l=>aIj P rc rd lp dr g l S fun S=>ih S k) d) D
noncomputable def rP (P:Program)(Xt:xJ)(rc:cG)(rd:bQ)(lp:lZ)(dr:mP):cG:=fun f args S k =>
 Option.casesOn (P.funcs[f]?) False fun fn=>Option.casesOn fn.body (aEA P Xt f args S k) fun c=>Bool.rec
  (mW args 0 (blank fn.ntmps) fun E=>evCode P rc rd lp dr none c E [] S fun x E D S=>X.casesOn x (aAk P rc rd lp dr D S fun S=>gT P fn E S fun v=>k v S) (fun _=>False) (aAk P rc rd lp dr D S fun S=>gT P fn E S fun v=>k v S) (fun _=>False))
  False (fn.name == "runtime.NumGoroutine")
noncomputable def aAp (P:Program)(rc:cG)(rd:bQ)(lp:lZ)(dr:mP):bQ:=fun l args S k =>
 qZ S l fun _ _ E ps a b _=>sY ps args E fun E=>evCode P rc rd lp dr (some l) a E [] S fun x E D S=>X.casesOn x
  (qZ S l fun st pe E' ps a b' d=>match st with
   | .ready=>bD l (some (.loop .busy pe E' ps a b' d)) S fun S=>evCode P rc rd lp dr (some l) b E D S fun x _ _ S =>
     qZ S l fun _ _ E' ps a b' d=>X.casesOn x (bD l (some (.loop .ready none E' ps a b' d)) S fun S=>k (.bool true) S)
      (fun id=>bD l (some (.loop .done (some (.exit id)) E' ps a b' d)) S fun S=>k (.bool false) S)
      (bD l (some (.loop .done (some .ret) E' ps a b' d)) S fun S=>k (.bool false) S) (fun _=>False)
   | _=>False) (fun _=>False) False (fun _=>False)
noncomputable def aVV (lp:lZ)(q:Option Code)(ro:Option Nat)(b:Code)(k:KT):KT:=fun x E D S=>Option.rec (motive:=fun _=>Prop)
 (X.casesOn x (lp none ro b E D S k) (fun id=>k (.exit id) E D S) (k .ret E D S) (fun l=>k (.goto l) E D S))
 (fun c=>X.casesOn x (k .normal E D S) (fun id=>k (.exit id) E D S) (k .ret E D S) (fun l=>Option.casesOn (findLabel c l) (k (.goto l) E D S) fun rest=>lp (some c) ro rest E D S k)) q
structure aMS where
 call:cG
 round:bQ
 loop:lZ
section
variable {P:Program} {E:Env}
theorem aLQ {o:O}{S:St}{mk:Nat->V}{k:V->St->Prop}(h:bK o S fun id S=>k (mk id) S):∃ S',k (mk S.hs.next) S'∧S'.hs=S.hs.new o:=by
 obtain ⟨S',h1,h2⟩:=eI h;exact ⟨S',h1,h2⟩
theorem aDk {rc:cG}{rd:bQ}(hc:dN P rc)(hd:dW P rd){o:Op}{S:St}{k:V->St->Prop}(h:aCE P rc rd o E S k):∃ v S',k v S'∧OpW P o E S.hs v S'.hs:=by
 unfold aCE at h;have hs:=aDf (P:=P) o
 cases hcl:rM P o with
 | pure f =>
   rw [hcl] at h hs;obtain ⟨v,h1,h2⟩:=hs _ _ h;exact ⟨v,S,h1,((h2.read S.hs).op).opW⟩
 | read f =>
   rw [hcl] at h hs;obtain ⟨v,h1,h2⟩:=hs _ _ _ h;exact ⟨v,S,h1,h2.op.opW⟩
 | alloc f =>
   rw [hcl] at h hs;obtain ⟨ob,mk,h1,h2⟩:=hs _ _ h;obtain ⟨S',h3,hS⟩:=aLQ h1;refine ⟨_,S',h3,?_⟩;rw [hS];exact h2.op.opW
 | chain f =>
   rw [hcl] at h hs;exact (hs _ _ hc hd _ _ _ h).2
theorem aIk {rc:cG}{rd:bQ}{c:Call}{S:St}{k:V->St->Prop}(h:aCE P rc rd (.defer c) E S k):False:=h
def DR (ρ:Rho):List Df->List Deferred->Prop
 | [],[]=>True
 | .mark d :: D,e :: es=>(∃ l,ρ d=some l∧e={ target:=.collected l.blk,args:=#[] })∧DR ρ D es
 | .call g l :: D,e :: es=>(∃ a b:List Value,e={ target:=.fn (.func g) ⟨b⟩,args:=⟨a⟩ }∧VRs ρ l (a ++ b))∧DR ρ D es
 | _,_=>False
theorem DR.mono {ρ ρ':Rho}(h:ρ.le ρ'):∀ {D:List Df} {es:List Deferred},DR ρ D es->DR ρ' D es
 | [],[],_=>trivial
 | .mark _ :: _,_ :: _,⟨⟨l,a,b⟩,c⟩=>⟨⟨l,h _ _ a,b⟩,c.mono h⟩
 | .call _ _ :: _,_ :: _,⟨⟨a,b,e,v⟩,c⟩=>⟨⟨a,b,e,v.mono h⟩,c.mono h⟩
 | [],_ :: _,h=>h.elim
 | .mark _ :: _,[],h=>by cases h
 | .call _ _ :: _,[],h=>by cases h
theorem dZ.mono {ρ ρ':Rho}(h:ρ.le ρ')(hg:dZ ρ):dZ ρ':=fun g hlt=>let ⟨l,a,b,c⟩:=hg g hlt;⟨l,h _ _ a,b,c⟩
theorem nP (a:Act):a.eval=evT a.tmps:=funext fun x=>by cases x <;> rfl
theorem iK {d:Option Tmp}{v:V}{k:Env->Prop}(h:cW E d v k):∃ E',k E'∧∀ (ρ ρ':Rho) (a:Act) (v':Value),ρ.le ρ'->ER ρ E a.tmps->VR ρ' v v'->ER ρ' E' (a.put d v').tmps∧(a.put d v').defers=a.defers:=by
 cases d with
 | none=>exact ⟨E,h,fun ρ ρ' a v' hle he _=>⟨he.mono hle,rfl⟩⟩
 | some t =>
   obtain ⟨E',h1,h2,h3⟩:=tset_spec (show tset E t v k from h);exact ⟨E',h1,fun ρ ρ' a v' hle he hv=>⟨(he.mono hle).set h2 h3 hv,rfl⟩⟩
theorem zN {ops:List Oper}{q:Nat × Bool}{yes no:Prop}(h:dL E ops (some q) yes no):∃ t,qX ops q.1=some t∧∃ v,tget E t=some v∧(match v with
  | .bool b=>Bool.rec (motive:=fun _=>Prop) (Bool.rec (motive:=fun _=>Prop) yes no q.2) (Bool.rec (motive:=fun _=>Prop) no yes q.2) b
  | .tup _=>no
  | _=>False):=by
 unfold dL at h
 have hg:gc ops (some q)=match qX ops q.1 with|.none=>.bad|some t=>.slot (path t) q.2:=rfl
 rw [hg] at h
 cases hd:qX ops q.1 with
 | none=>rw [hd] at h;exact h.elim
 | some t =>
   rw [hd] at h;obtain ⟨v,h1,h2⟩:=aQ (show Option.rec (motive:=fun _=>Prop) False _ (getP E (path t)) from h);exact ⟨t,rfl,v,h1,by cases v <;> exact h2⟩
theorem zO {ops:Array Oper}{o:Oper}{yes no:Prop}(h:dL E ops.toList o.guard yes no) :
  (yes∧∀ (ρ:Rho) (tmps:Array Value),ER ρ E tmps->Region.wanted o (yielded ops tmps)=true) ∨ (no∧∀ (ρ:Rho) (tmps:Array Value),ER ρ E tmps->Region.wanted o (yielded ops tmps)=false):=by
 cases hg:o.guard with
 | none =>
   rw [hg] at h;exact .inl ⟨h,fun ρ tmps _=>by simp [Region.wanted,hg]⟩
 | some q =>
   rw [hg] at h;obtain ⟨t,h1,v,h3,h4⟩:=zN h
   have hd:(ops[q.1]?).bind (·.dst)=some t:=by
    unfold qX at h1;rw [nth_eq] at h1
    have e:ops.toList[q.1]?=ops[q.1]?:=by simp
    rw [e] at h1
    cases ho:ops[q.1]? with
    | none=>rw [ho] at h1;cases h1
    | some o'=>rw [ho] at h1;exact h1
   have hw:∀ tmps,Region.wanted o (yielded ops tmps)=(yielded ops tmps q.1 == some q.2):=fun tmps=>by simp [Region.wanted,hg]
   split at h4
   ·rename_i b
    have hy:∀ (ρ:Rho) (tmps:Array Value),ER ρ E tmps->yielded ops tmps q.1=some b:=fun ρ tmps he=>by
     obtain ⟨v',a,c⟩:=he t _ h3;cases c;unfold yielded;rw [hd,Option.bind_some,a]
    cases b with
    | true =>
      cases hq:q.2 with
      | true =>
        rw [hq] at h4;exact .inl ⟨h4,fun ρ tmps he=>by rw [hw,hy ρ tmps he,hq];rfl⟩
      | false =>
        rw [hq] at h4;exact .inr ⟨h4,fun ρ tmps he=>by rw [hw,hy ρ tmps he,hq];rfl⟩
    | false =>
      cases hq:q.2 with
      | true =>
        rw [hq] at h4;exact .inr ⟨h4,fun ρ tmps he=>by rw [hw,hy ρ tmps he,hq];rfl⟩
      | false =>
        rw [hq] at h4;exact .inl ⟨h4,fun ρ tmps he=>by rw [hw,hy ρ tmps he,hq];rfl⟩
   ·refine .inr ⟨h4,fun ρ tmps he=>?_⟩;obtain ⟨v',a,c⟩:=he t _ h3;cases c;rw [hw];unfold yielded;rw [hd,Option.bind_some,a];rfl
   ·exact h4.elim
def Aft (ρ:Rho)(H:Hs)(w:World)(E':Env)(D':List Df)(H':Hs)(a':Act)(w':World):Prop:=∃ ρ',ER ρ' E' a'.tmps∧DR ρ' D' a'.defers∧cP ρ' H' w'∧Ext ρ H w ρ' H' w'
theorem OpW.step {o:Oper}{H H':Hs}{v:V}(hop:OpW P o.op E H v H')(hnd:∀ c,o.op ≠ .defer c){ro:Option Nat}{ops:Array Oper}{Q:Exit->Act->World->Prop}{i:Nat}{rest:List Nat}(hi:ops[i]?=some o)
  {ρ:Rho} {a:Act} {w:World} (hE:ER ρ E a.tmps) (hg:dZ ρ) (hs:cP ρ H w) (hw:Region.wanted o (yielded ops a.tmps)=true)
  (hk:∀ v' w' ρ',VR ρ' v v'->cP ρ' H' w'->Ext ρ H w ρ' H' w'->wpOpsIn (W ro) 0 P ops Q rest (a.put o.dst v') w'):wpOpsIn (W ro) 0 P ops Q (i :: rest) a w:=by
 simp only [wpOpsIn,hi,hw,if_true];refine ⟨fun f _=>trivial,?_⟩;rw [Oper.semAt_eq _ _ _ hnd];have:=hop ρ a.eval o w rfl (by rw [nP];exact vC.of_ER hE hg _) hg hs;exact this.upon hk
theorem nO {rc:cG}{rd:bQ}(hc:dN P rc)(hd:dW P rd){ops:Array Oper}:∀ (l:List Oper) (i:Nat) (E:Env) (S:St) (k:Env->St->Prop),ops.toList.drop i=l ->
  evOps P rc rd ops.toList l E S k->∃ E' S',k E' S'∧∀ (ro:Option Nat) (ρ:Rho) (D:List Df) (a:Act) (w:World) (Q:Exit->Act->World->Prop),ER ρ E a.tmps->DR ρ D a.defers->dZ ρ->cP ρ S.hs w ->
   (∀ a' w',Aft ρ S.hs w E' D S'.hs a' w'->Q .normal a' w')->wpOpsIn (W ro) 0 P ops Q (List.range' i l.length) a w
 | [],i,E,S,k,hl,h=>⟨E,S,h,fun ro ρ D a w Q he hD hg hs hq=>hq a w ⟨ρ,he,hD,hs,Ext.refl _ _ _⟩⟩
 | o :: l,i,E,S,k,hl,h=>by
   have hi:ops[i]?=some o:=by
    have:(ops.toList.drop i)[0]?=some o:=by rw [hl];rfl
    rw [List.getElem?_drop] at this;simpa using this
   have hl':ops.toList.drop (i+1)=l:=by
    have:=congrArg (List.drop 1) hl;rw [List.drop_drop] at this;simpa [Nat.add_comm] using this
   have h':dL E ops.toList o.guard (aCE P rc rd o.op E S fun v S=>cW E o.dst v fun E=>evOps P rc rd ops.toList l E S k) (cW E o.dst undefV fun E=>evOps P rc rd ops.toList l E S k):=h
   rcases zO h' with ⟨h1,hw⟩|⟨h1,hw⟩
   ·have hnd:∀ c,o.op ≠ .defer c:=fun c e=>by rw [e] at h1;exact aIk h1
    obtain ⟨v,S1,h2,h3⟩:=aDk hc hd h1;obtain ⟨E1,h4,h5⟩:=iK h2;obtain ⟨E',S',h6,h7⟩:=nO hc hd l (i+1) E1 S1 k hl' h4;refine ⟨E',S',h6,fun ro ρ D a w Q he hD hg hs hq=>?_⟩;rw [au,List.range'_succ];refine h3.step hnd hi he hg hs (hw ρ _ he) fun v' w' ρ' hv hs' hx=>?_;have hle:=hx.le hs;obtain ⟨he',hdf⟩:=h5 ρ ρ' a v' hle he hv;refine h7 ro ρ' D _ w' Q he' (by rw [hdf];exact hD.mono hle) (hg.mono hle) hs' fun a' w'' ⟨ρ2,b1,b2,b3,b4⟩=>hq a' w'' ⟨ρ2,b1,b2,b3,hx.trans b4⟩
   ·obtain ⟨E1,h4,h5⟩:=iK h1;obtain ⟨E',S',h6,h7⟩:=nO hc hd l (i+1) E1 S k hl' h4;refine ⟨E',S',h6,fun ro ρ D a w Q he hD hg hs hq=>?_⟩;rw [au,List.range'_succ];obtain ⟨he',hdf⟩:=h5 ρ ρ a undef (Rho.le_refl _) he (VR.undef ρ);simp only [wpOpsIn,hi,hw ρ _ he,Bool.false_eq_true,if_false];exact ⟨fun f _=>trivial,h7 ro ρ D _ w Q he' (by rw [hdf];exact hD) hg hs hq⟩
theorem aIA {o:Op}(h:wC o=false):∀ c,o ≠ .defer c:=fun c e=>by rw [e] at h;cases h
theorem aFO {o:Op}{k:Df->Prop}(h:aEw E o k):∃ d,k d∧(∃ c,o=.defer c)∧∀ (ρ:Rho) (ev:Operand->Value) (op:Oper) (w:World),op.op=o->vC ρ E ev o.operands.toList ->
  ∃ e,(execOp ev op).run P w=.ok (.defer e) w∧∀ D es,DR ρ D es->DR ρ (d :: D) (e :: es):=by
 unfold aEw at h
 split at h
 ·rename_i c
  split at h
  ·rename_i f hf
   obtain ⟨v,h1,h2⟩:=bG h;obtain ⟨l,hl,h4⟩:=lP h2
   split at h4
   ·rename_i g a b
    have h6:=jV (jV h4);refine ⟨_,h6,⟨c,rfl⟩,fun ρ ev x w hx he=>?_⟩
    have hop:(Op.defer c).operands.toList=f :: c.args.toList:=by simp [Op.operands,Call.operands,hf]
    rw [hop] at he;have hv:=he.one (x:=f) sm h1;have hls:=he.list (fun y hy=>by simp [hy]) hl;generalize hef:ev f=vf at hv
    cases hv with
    | func _ ha hb =>
      rename_i a' b'
      refine ⟨{ target:=.fn (.func g) ⟨b'⟩,args:=⟨a' ++ c.args.toList.map ev⟩ },?_,fun D es hD=>⟨⟨_,_,rfl,(ha.append hls).append hb⟩,hD⟩⟩;simp [execOp,hx,resolve,hf,hef,qI ev,Deferred.ofValue]
   ·exact h4.elim
  ·exact h.elim
 ·exact h.elim
theorem oQ {rc:cG}{rd:bQ}(hc:dN P rc)(hd:dW P rd){ops:Array Oper}:∀ (l:List Oper) (i:Nat) (E:Env) (D:List Df) (S:St) (k:Env->List Df->St->Prop),ops.toList.drop i=l ->
  evOpsD P rc rd ops.toList l E D S k->∃ E' D' S',k E' D' S'∧∀ (ρ:Rho) (a:Act) (w:World) (Q:Exit->Act->World->Prop),ER ρ E a.tmps->DR ρ D a.defers->dZ ρ->cP ρ S.hs w ->
   (∀ a' w',Aft ρ S.hs w E' D' S'.hs a' w'->Q .normal a' w')->wpOpsIn (W none) 0 P ops Q (List.range' i l.length) a w
 | [],i,E,D,S,k,hl,h=>⟨E,D,S,h,fun ρ a w Q he hD hg hs hq=>hq a w ⟨ρ,he,hD,hs,Ext.refl _ _ _⟩⟩
 | o :: l,i,E,D,S,k,hl,h=>by
   have hi:ops[i]?=some o:=by
    have:(ops.toList.drop i)[0]?=some o:=by rw [hl];rfl
    rw [List.getElem?_drop] at this;simpa using this
   have hl':ops.toList.drop (i+1)=l:=by
    have:=congrArg (List.drop 1) hl;rw [List.drop_drop] at this;simpa [Nat.add_comm] using this
   have h':dL E ops.toList o.guard (Bool.rec (motive:=fun _=>Prop) (aCE P rc rd o.op E S fun v S=>cW E o.dst v fun E=>evOpsD P rc rd ops.toList l E D S k) (aEw E o.op fun d=>cW E o.dst undefV fun E=>evOpsD P rc rd ops.toList l E (d :: D) S k) (wC o.op)) (cW E o.dst undefV fun E=>evOpsD P rc rd ops.toList l E D S k):=h
   rcases zO h' with ⟨h1,hw⟩|⟨h1,hw⟩
   ·cases hdf:wC o.op with
    | false =>
      rw [hdf] at h1;obtain ⟨v,S1,h2,h3⟩:=aDk hc hd h1;obtain ⟨E1,h4,h5⟩:=iK h2;obtain ⟨E',D',S',h6,h7⟩:=oQ hc hd l (i+1) E1 D S1 k hl' h4;refine ⟨E',D',S',h6,fun ρ a w Q he hD hg hs hq=>?_⟩;rw [au,List.range'_succ];refine h3.step (aIA hdf) hi he hg hs (hw ρ _ he) fun v' w' ρ' hv hs' hx=>?_;have hle:=hx.le hs;obtain ⟨he',hdf⟩:=h5 ρ ρ' a v' hle he hv;refine h7 ρ' _ w' Q he' (by rw [hdf];exact hD.mono hle) (hg.mono hle) hs' fun a' w'' ⟨ρ2,b1,b2,b3,b4⟩=>hq a' w'' ⟨ρ2,b1,b2,b3,hx.trans b4⟩
    | true =>
      rw [hdf] at h1;obtain ⟨d,h2,_,h3⟩:=aFO (P:=P) h1;obtain ⟨E1,h4,h5⟩:=iK h2;obtain ⟨E',D',S',h6,h7⟩:=oQ hc hd l (i+1) E1 (d :: D) S k hl' h4;refine ⟨E',D',S',h6,fun ρ a w Q he hD hg hs hq=>?_⟩;rw [au,List.range'_succ];simp only [wpOpsIn,hi,hw ρ _ he,if_true];refine ⟨fun f _=>trivial,?_⟩;show o.uponIn (W none) 0 P a _ Q ((Oper.semAt none a.eval o).run P w);rw [Oper.semAt_none];obtain ⟨e,h8,h9⟩:=h3 ρ a.eval o w rfl (by rw [nP];exact vC.of_ER he hg _);rw [h8];rw [Oper.uponIn_defer];obtain ⟨he',hdd⟩:=h5 ρ ρ { a with defers:=e :: a.defers } undef (Rho.le_refl _) he (VR.undef ρ);exact h7 ρ _ w Q he' (by rw [hdd];exact h9 _ _ hD) hg hs hq
   ·obtain ⟨E1,h4,h5⟩:=iK h1;obtain ⟨E',D',S',h6,h7⟩:=oQ hc hd l (i+1) E1 D S k hl' h4;refine ⟨E',D',S',h6,fun ρ a w Q he hD hg hs hq=>?_⟩;rw [au,List.range'_succ];obtain ⟨he',hdf⟩:=h5 ρ ρ a undef (Rho.le_refl _) he (VR.undef ρ);simp only [wpOpsIn,hi,hw ρ _ he,Bool.false_eq_true,if_false];exact ⟨fun f _=>trivial,h7 ρ _ w Q he' (by rw [hdf];exact hD) hg hs hq⟩
end
end Go.Am
namespace Go.Am
variable {P:Program}
def X.toExit:X->Exit
 | .normal=>.normal
 | .exit id=>.exit id
 | .ret=>.ret
 | .goto l=>.goto l
def RO (ρ:Rho)(ro r:Option Nat):Prop:=match ro with
 | none=>r=none
 | some l=>∃ lb,ρ l=some lb∧r=some lb.blk
theorem RO.mono {ρ ρ':Rho}(h:ρ.le ρ'){ro r:Option Nat}(ho:RO ρ ro r):RO ρ' ro r:=by
 cases ro with
 | none=>exact ho
 | some l=>obtain ⟨lb,a,b⟩:=ho;exact ⟨lb,h _ _ a,b⟩
def CodeS (P:Program)(ro:Option Nat)(c:Code)(E:Env)(D:List Df)(H:Hs)(x:X)(E':Env)(D':List Df)(H':Hs):Prop :=
 ∀ (ρ:Rho) (r:Option Nat) (a:Act) (w:World) (Q:Exit->Act->World->Prop),RO ρ ro r->ER ρ E a.tmps->DR ρ D a.defers->dZ ρ->cP ρ H w ->
   (∀ a' w',Aft ρ H w E' D' H' a' w'->Q x.toExit a' w')->c.wpIn (W r) 0 P Q a w
def HeadIn (F:Fence)(n:Nat)(P:Program)(c:Code)(Q:Exit->Act->World->Prop)(a:Act)(w:World):Prop :=
 ∀ (b:Frame) (k:List Item) (cs:List Frame),b.roundOf=F.round->F.fn b.fn->F.room (cs.length+1+n) ->
   ∃ e a' w',Q e a' w'∧ArrivesIn (Machine.fenced P F) P (lone (b.atR a (.code c :: .inLoop c :: k)) cs w) b k cs e a' w'
theorem HeadIn.loop {F:Fence}{n:Nat}{c:Code}{Q:Exit->Act->World->Prop}{a:Act}{w:World}(h:HeadIn F n P c Q a w):(Code.loop c).wpIn F n P Q a w:=fun b k cs hro hb hr =>
 let ⟨e,a',w',hq,harr⟩:=h b k cs hro hb hr
 ⟨e,a',w',hq,.of_steps (.one (fenced_calm hb hr rfl) stepR_loop) harr⟩
theorem HeadIn.of {F:Fence}{n:Nat}{c:Code}{Q:Exit->Act->World->Prop}{a:Act}{w:World}(h:c.wpIn F n P (Exit.then (HeadIn F n P c Q) Q) a w):HeadIn F n P c Q a w:=by
 intro b k cs hro hb hr;obtain ⟨e,a₁,w₁,hq,harr⟩:=h b (.inLoop c :: k) cs hro hb hr
 cases e with
 | normal =>
   obtain ⟨e₂,a₂,w₂,hq₂,harr₂⟩:=hq b k cs hro hb hr;exact ⟨e₂,a₂,w₂,hq₂,.of_steps (StepsIn.trans harr (.one (fenced_calm hb hr rfl) stepR_inLoop)) harr₂⟩
 | exit id=>exact ⟨_,a₁,w₁,hq,.pass (x:=.inLoop c) rfl (fun _ _=>.inl (by simp)) harr⟩
 | goto l=>exact ⟨_,a₁,w₁,hq,.pass (x:=.inLoop c) rfl (fun _ _=>.inl (by simp)) harr⟩
 | ret=>exact ⟨_,a₁,w₁,hq,.pass (x:=.inLoop c) rfl (fun _ _=>.inl (by simp)) harr⟩
 | panic ch=>exact ⟨_,a₁,w₁,hq,.pass (x:=.inLoop c) rfl (fun _ _=>.inl (by simp)) harr⟩
 | outgrown=>exact ⟨_,a₁,w₁,hq,.pass (x:=.inLoop c) rfl (fun _ _=>.inl (by simp)) harr⟩
def LoopS (P:Program)(ro:Option Nat)(c:Code)(E:Env)(D:List Df)(H:Hs)(x:X)(E':Env)(D':List Df)(H':Hs):Prop :=
 ∀ (ρ:Rho) (r:Option Nat) (a:Act) (w:World) (Q:Exit->Act->World->Prop),RO ρ ro r->ER ρ E a.tmps->DR ρ D a.defers->dZ ρ->cP ρ H w ->
   (∀ a' w',Aft ρ H w E' D' H' a' w'->Q x.toExit a' w')->HeadIn (W r) 0 P c Q a w
section
variable {b:Frame} {a:Act} {k:List Item} {cs:List Frame} {w:World}
theorem stepR_scope {c:Code}:step P (lone (b.atR a (.code (.scope c) :: k)) cs w)=.next (lone (b.atR a (.code c :: .inScope c :: k)) cs w) :=
 step_lone_go (by simp [stepG,stepG.exec,Frame.atR])
theorem stepR_inScope {c:Code}:step P (lone (b.atR a (.inScope c :: k)) cs w)=.next (lone (b.atR a k) cs w) :=
 step_lone_go (by simp [stepG,stepG.exec,Frame.atR])
end
theorem wpIn_scope {F:Fence}{n:Nat}{c:Code}{Q:Exit->Act->World->Prop}{a:Act}{w:World}(h:c.wpIn F n P (fun e a w=>(∀ l,e ≠ .goto l)∧Q e a w) a w):(Code.scope c).wpIn F n P Q a w:=by
 intro b k cs hro hb hr;have h0:(lone (b.atR a (.code (.scope c) :: k)) cs w).fenced P F:=fenced_calm hb hr rfl;obtain ⟨e,a₁,w₁,⟨hg,hq⟩,harr⟩:=h b (.inScope c :: k) cs hro hb hr
 cases e with
 | normal=>exact ⟨.normal,a₁,w₁,hq,.head h0 stepR_scope (StepsIn.trans harr (.one (fenced_calm hb hr rfl) stepR_inScope))⟩
 | exit id =>
   have hx:exitTo id (.inScope c :: k)=exitTo id k:=by simp [exitTo]
   exact ⟨.exit id,a₁,w₁,hq,fun k' hk=>.head h0 stepR_scope (harr.1 k' (by rw [hx];exact hk)),
    fun hr' hk=>let ⟨k₁,h1,h2⟩:=harr.2 hr' (by rw [hx];exact hk);⟨k₁,h1,.head h0 stepR_scope h2⟩⟩
 | goto l=>exact absurd rfl (hg l)
 | ret=>exact ⟨_,a₁,w₁,hq,.of_steps (.one h0 stepR_scope) harr⟩
 | panic ch=>exact ⟨_,a₁,w₁,hq,.of_steps (.one h0 stepR_scope) harr⟩
 | outgrown=>exact ⟨_,a₁,w₁,hq,.of_steps (.one h0 stepR_scope) harr⟩
def ScopeIn (F:Fence)(n:Nat)(P:Program)(body rest:Code)(Q:Exit->Act->World->Prop)(a:Act)(w:World):Prop :=
 ∀ (b:Frame) (k:List Item) (cs:List Frame),b.roundOf=F.round->F.fn b.fn->F.room (cs.length+1+n) ->
   ∃ e a' w',Q e a' w'∧ArrivesIn (Machine.fenced P F) P (lone (b.atR a (.code rest :: .inScope body :: k)) cs w) b k cs e a' w'
def scopeQ (F:Fence)(n:Nat)(P:Program)(body:Code)(Q:Exit->Act->World->Prop):Exit->Act->World->Prop
 | .goto l,a,w=>match findLabel body l with|some rest=>ScopeIn F n P body rest Q a w|none=>Q (.goto l) a w
 | e,a,w=>Q e a w
theorem ScopeIn.of {F:Fence}{n:Nat}{body rest:Code}{Q:Exit->Act->World->Prop}{a:Act}{w:World}(h:rest.wpIn F n P (scopeQ F n P body Q) a w):ScopeIn F n P body rest Q a w:=by
 intro b k cs hro hb hr;obtain ⟨e,a₁,w₁,hq,harr⟩:=h b (.inScope body :: k) cs hro hb hr
 cases e with
 | normal=>exact ⟨.normal,a₁,w₁,hq,StepsIn.trans harr (.one (fenced_calm hb hr rfl) stepR_inScope)⟩
 | exit id =>
   have hx:exitTo id (.inScope body :: k)=exitTo id k:=by simp [exitTo]
   exact ⟨.exit id,a₁,w₁,hq,fun k' hk=>harr.1 k' (by rw [hx];exact hk),fun hr' hk=>harr.2 hr' (by rw [hx];exact hk)⟩
 | goto l =>
   cases hf:findLabel body l with
   | some rest' =>
     have hq':ScopeIn F n P body rest' Q a₁ w₁:=by
      have h':(match findLabel body l with|some rest=>ScopeIn F n P body rest Q a₁ w₁|none=>Q (.goto l) a₁ w₁):=hq;rw [hf] at h';exact h'
     obtain ⟨e₂,a₂,w₂,hq₂,harr₂⟩:=hq' b k cs hro hb hr;exact ⟨e₂,a₂,w₂,hq₂,.of_steps (harr.1 _ (by simp [gotoIn,hf])) harr₂⟩
   | none =>
     have hq':Q (.goto l) a₁ w₁:=by
      have h':(match findLabel body l with|some rest=>ScopeIn F n P body rest Q a₁ w₁|none=>Q (.goto l) a₁ w₁):=hq;rw [hf] at h';exact h'
     have hx:gotoIn l (.inScope body :: k)=gotoIn l k:=by simp [gotoIn,hf]
     exact ⟨.goto l,a₁,w₁,hq',fun k' hk=>harr.1 k' (by rw [hx];exact hk),fun hr' hk=>harr.2 hr' (by rw [hx];exact hk)⟩
 | ret=>exact ⟨_,a₁,w₁,hq,harr⟩
 | panic ch=>exact ⟨_,a₁,w₁,hq,harr⟩
 | outgrown=>exact ⟨_,a₁,w₁,hq,harr⟩
theorem ScopeIn.scope {F:Fence}{n:Nat}{body:Code}{Q:Exit->Act->World->Prop}{a:Act}{w:World}(h:ScopeIn F n P body body Q a w):(Code.scope body).wpIn F n P Q a w:=by
 intro b k cs hro hb hr;have h0:(lone (b.atR a (.code (.scope body) :: k)) cs w).fenced P F:=fenced_calm hb hr rfl;obtain ⟨e,a₁,w₁,hq,harr⟩:=h b k cs hro hb hr;exact ⟨e,a₁,w₁,hq,.of_steps (.one h0 stepR_scope) harr⟩
def ScopeS (P:Program)(ro:Option Nat)(body rest:Code)(E:Env)(D:List Df)(H:Hs)(x:X)(E':Env)(D':List Df)(H':Hs):Prop :=
 ∀ (ρ:Rho) (r:Option Nat) (a:Act) (w:World) (Q:Exit->Act->World->Prop),RO ρ ro r->ER ρ E a.tmps->DR ρ D a.defers->dZ ρ->cP ρ H w ->
   (∀ a' w',Aft ρ H w E' D' H' a' w'->Q x.toExit a' w')->ScopeIn (W r) 0 P body rest Q a w
structure LoopOk (P:Program)(lp:lZ):Prop where
 loop:∀ ro c E D S k,lp none ro c E D S k->∃ x E' D' S',k x E' D' S'∧LoopS P ro c E D S.hs x E' D' S'.hs
 scope:∀ body ro c E D S k,lp (some body) ro c E D S k->∃ x E' D' S',k x E' D' S'∧ScopeS P ro body c E D S.hs x E' D' S'.hs
def DrawOk (P:Program)(dr:mP):Prop:=∀ ops E S k,dr ops E S k->∃ E' S',k E' S'∧∀ (id:Nat) (r:Option Nat) (ρ:Rho) (D:List Df) (a:Act) (w:World) (Q:Exit->Act->World->Prop),ER ρ E a.tmps->DR ρ D a.defers->dZ ρ->cP ρ S.hs w ->
 (∀ a' w',Aft ρ S.hs w E' D S'.hs a' w'->Q .normal a' w')->(Code.region id ops true).wpIn (W r) 0 P Q a w
theorem loopK_spec {S:St}{id:Nat}{k:LoopState->Option Code->Env->List Tmp->Code->Code->Nat->Prop}(h:qZ S id k):∃ st pe E ps a b d,S.hs.get id=some (.loop st pe E ps a b d)∧k st pe E ps a b d:=by
 obtain ⟨o,h1,h2⟩:=aQ (show Option.rec (motive:=fun _=>Prop) False _ (T.get fA id S.hp) from h)
 cases o <;> first|exact h2.elim|exact ⟨_,_,_,_,_,_,_,h1,h2⟩
theorem Aft.comp {ρ ρ1:Rho}{H H1 H':Hs}{w w1:World}(hx:Ext ρ H w ρ1 H1 w1){E':Env}{D':List Df}{a':Act}{w':World}(h:Aft ρ1 H1 w1 E' D' H' a' w'):Aft ρ H w E' D' H' a' w' :=
 let ⟨ρ2,b1,b2,b3,b4⟩:=h
 ⟨ρ2,b1,b2,b3,hx.trans b4⟩
theorem scope_step {lp:lZ}(hl:LoopOk P lp){ro:Option Nat}{c rest:Code}{E E1:Env}{D D1:List Df}{S S1:St}{x:X}{k:KT}(h2:CodeS P ro rest E D S.hs x E1 D1 S1.hs)
  (h1:X.casesOn (motive:=fun _=>Prop) x (k .normal E1 D1 S1) (fun id=>k (.exit id) E1 D1 S1) (k .ret E1 D1 S1) (fun l=>Option.casesOn (motive:=fun _=>Prop) (findLabel c l) (k (.goto l) E1 D1 S1) fun rest=>lp (some c) ro rest E1 D1 S1 k)) :
  ∃ x E' D' S',k x E' D' S'∧ScopeS P ro c rest E D S.hs x E' D' S'.hs:=by
 cases x with
 | normal=>exact ⟨.normal,E1,D1,S1,h1,fun ρ r a w Q hro hE hD hg hs hQ=>.of (h2 ρ r a w _ hro hE hD hg hs hQ)⟩
 | exit id=>exact ⟨.exit id,E1,D1,S1,h1,fun ρ r a w Q hro hE hD hg hs hQ=>.of (h2 ρ r a w _ hro hE hD hg hs hQ)⟩
 | ret=>exact ⟨.ret,E1,D1,S1,h1,fun ρ r a w Q hro hE hD hg hs hQ=>.of (h2 ρ r a w _ hro hE hD hg hs hQ)⟩
 | goto l =>
   have h1':Option.casesOn (motive:=fun _=>Prop) (findLabel c l) (k (.goto l) E1 D1 S1) (fun rest=>lp (some c) ro rest E1 D1 S1 k):=h1
   cases hf:findLabel c l with
   | none =>
     rw [hf] at h1';refine ⟨.goto l,E1,D1,S1,h1',fun ρ r a w Q hro hE hD hg hs hQ=>.of (h2 ρ r a w _ hro hE hD hg hs fun a1 w1 ha=>?_)⟩;show (match findLabel c l with|some rest=>ScopeIn (W r) 0 P c rest Q a1 w1|none=>Q (.goto l) a1 w1);rw [hf];exact hQ a1 w1 ha
   | some rest' =>
     rw [hf] at h1';obtain ⟨x2,E2,D2,S2,h3,h4⟩:=hl.scope c ro rest' E1 D1 S1 k h1';refine ⟨x2,E2,D2,S2,h3,fun ρ r a w Q hro hE hD hg hs hQ=>.of (h2 ρ r a w _ hro hE hD hg hs fun a1 w1 ⟨ρ1,b1,b2,b3,b4⟩=>?_)⟩;show (match findLabel c l with|some rest=>ScopeIn (W r) 0 P c rest Q a1 w1|none=>Q (.goto l) a1 w1);rw [hf];have hle:=b4.le hs;exact h4 ρ1 r a1 w1 Q (hro.mono hle) b1 b2 (hg.mono hle) b3 fun a2 w2 h5=>hQ a2 w2 (h5.comp b4)
end Go.Am
namespace Go.Am
section
variable {P:Program}
theorem aSR.enter {f:V}{l:List V}{H H':Hs}{v:V}(h:aSR P f l H v H')(hb:aJI P f=true)(ρ:Rho)(w:World)(f':Value)(l':List Value)(hg:dZ ρ)(hs:cP ρ H w)(hf:VR ρ f f')(hl:VRs ρ l l') :
  ∃ d g args,(∀ w,(Deferred.ofValue f' ⟨l'⟩).run P w=.ok d w)∧(invoke d.target d.args).run P w=.ok (.enter g args) w∧CallsIn (W none) 0 P g args w (Rt ρ H w v H'):=by
 obtain ⟨d,h1,h2⟩:=h ρ w f' l' hg hs hf hl;unfold aJI at hb
 split at hb
 ·rename_i g a b
  cases hf with
  | func _ ha hb' =>
    rename_i a' b'
    have hd:d={ target:=.fn (.func g) ⟨b'⟩,args:=⟨a'⟩ ++ ⟨l'⟩ }:=by
     have:=h1 w;simp [Deferred.ofValue] at this;rw [<- this];simp
    subst hd
    split at hb
    ·rename_i fn hfn
     cases hbody:fn.body with
     | none=>rw [hbody] at hb;cases hb
     | some c =>
       by_cases hname:fn.name = "runtime.NumGoroutine"
       ·simp [invoke,callFunc,hfn,hname,Nx] at h2
       ·have hr:(invoke (.fn (.func g) ⟨b'⟩) (⟨a'⟩ ++ ⟨l'⟩)).run P w=.ok (.enter g ((⟨a'⟩ ++ ⟨l'⟩) ++ ⟨b'⟩)) w:=by
         simp [invoke,callFunc,hfn,hname,hbody]
        rw [hr] at h2;exact ⟨_,g,_,h1,hr,h2⟩
    ·cases hb
 ·cases hb
def eN (st:LoopState)(pe:Option Code)(fn:FuncId)(tmps:Array Value)(ps:List Tmp)(a b:Code)(d:Nat):Obj:=.loop { state:=st,pending:=pe,fn,tmps,params:=⟨ps⟩,assign:=a,body:=b,defers:=d }
theorem cP.loop {ρ:Rho}{H:Hs}{w:World}(hs:cP ρ H w){id:Nat}{st:LoopState}{pe:Option Code}{E:Env}{ps:List Tmp}{a b:Code}{d:Nat}(h:H.get id=some (.loop st pe E ps a b d)){l:Loc}(hl:ρ id=some l) :
  l.rw=true∧l.base=0∧∃ fn tmps ld,w.heap[l.blk]?=some (eN st pe fn tmps ps a b ld.blk)∧ER ρ E tmps∧ρ d=some ld:=by
 obtain ⟨l',co,x1,x2,⟨hr,h0⟩,fn,tmps,ld,rfl,x3,x4⟩:=hs.obj id _ h;rw [hl] at x1;cases x1;exact ⟨hr,h0,fn,tmps,ld,x2,x3,x4⟩
theorem mE {w:World}{l:Nat}{st:LoopState}{pe:Option Code}{fn:FuncId}{tmps:Array Value}{ps:List Tmp}{a b:Code}{d:Nat}(h:w.heap[l]?=some (eN st pe fn tmps ps a b d)) :
  (Instr.getLoop l).run P w=.ok { state:=st,pending:=pe,fn,tmps,params:=⟨ps⟩,assign:=a,body:=b,defers:=d } w:=by
 simp [Instr.getLoop,jQ h (by simp [eN]),eN]
theorem cP.putLoop {ρ:Rho}{H:Hs}{w:World}(hs:cP ρ H w){id:Nat}{st st':LoopState}{pe pe':Option Code}{E:Env}{ps:List Tmp}{a b:Code}{d:Nat}(h:H.get id=some (.loop st pe E ps a b d)){l:Loc}(hl:ρ id=some l)
  {fn:FuncId} {tmps:Array Value} {ld:Loc} (hw:w.heap[l.blk]?=some (eN st pe fn tmps ps a b ld.blk)) (hE:ER ρ E tmps) (hd:ρ d=some ld) :
  ∃ w',(setObj l.blk (eN st' pe' fn tmps ps a b ld.blk)).run P w=.ok () w'∧cP ρ (H.put id (some (.loop st' pe' E ps a b d))) w'∧Ext ρ H w ρ (H.put id (some (.loop st' pe' E ps a b d))) w':=by
 obtain ⟨hr,h0,_⟩:=hs.loop h hl;have hp:=iL hs h hl hr hw (o':=.loop st' pe' E ps a b d) (co':=eN st' pe' fn tmps ps a b ld.blk) ⟨⟨hr,h0⟩,fn,tmps,ld,rfl,hE,hd⟩;exact ⟨_,iN hw (by simp [eN]),hp.1,hp.2⟩
theorem aGV {w w':World}{l:Nat}{st:LoopState}{pe:Option Code}{fn:FuncId}{tmps:Array Value}{ps:List Tmp}{a b:Code}{d:Nat}(h:w.heap[l]?=some (eN st pe fn tmps ps a b d))(hb:st ≠ .busy)
  (hs:(setObj l (eN .exhausted pe fn tmps ps a b d)).run P w=.ok () w'):(Instr.endLoop l).run P w=.ok pe w':=by
 have hbb:(st == LoopState.busy)=false:=by cases st <;> first|rfl|exact absurd rfl hb
 simp only [Instr.endLoop,Sem.run_bind,mE h,Result.andThen_ok,hbb,Bool.false_eq_true,if_false,Sem.run_pure];simp only [eN] at hs;rw [hs];rfl
theorem zM {rc:cG}{rd:bQ}(hc:dN P rc)(hd:dW P rd){f:Operand}{ps:List Tmp}{ca cb:Code}{d:Nat}{E:Env}{D:List Df}{S:St}{k:KT}(h:xZ P rc rd f ps ca cb d E D S k) :
  ∃ x S',k x E D S'∧∀ (ρ:Rho) (fn:FuncId) (ld:Loc) (tmps:Array Value) (ds:List Deferred) (r:Option Nat) (w:World) (Q:Exit->Act->World->Prop),ρ d=some ld->ER ρ E tmps->DR ρ D ds->dZ ρ->cP ρ S.hs w ->
    (∀ a' w',Aft ρ S.hs w E D S'.hs a' w'->Q x.toExit a' w') ->
    ∃ dfr g args,(Deferred.ofValue (evT tmps f) #[.func (.yield w.heap.size) #[] #[]]).run P (w.alloc (eN .ready none fn tmps ps ca cb ld.blk))=.ok dfr (w.alloc (eN .ready none fn tmps ps ca cb ld.blk)) ∧
      (invoke dfr.target dfr.args).run P (w.alloc (eN .ready none fn tmps ps ca cb ld.blk))=.ok (.enter g args) (w.alloc (eN .ready none fn tmps ps ca cb ld.blk)) ∧
      CallsIn (W r) 0 P g args (w.alloc (eN .ready none fn tmps ps ca cb ld.blk)) (rangePost (W r) 0 P w.heap.size Q { tmps,defers:=ds }):=by
 obtain ⟨S1,h1,hS1⟩:=eI h;obtain ⟨vf,h2,h3⟩:=bG h1;obtain ⟨hbv,h4⟩:=aT h3;obtain ⟨v,S2,h5,h6⟩:=aAU hc hd h4;obtain ⟨st,pe,E',ps',a',b',d',hg2,h7⟩:=loopK_spec h5
 have main:st ≠ .busy∧∃ x S',k x E D S'∧S'.hs=S2.hs.put S.next (some (.loop .exhausted pe E' ps' a' b' d')) ∧
   (pe=none∧x=.normal ∨ pe=some .ret∧x=.ret ∨ ∃ id,pe=some (.exit id)∧x=.exit id):=by
  have go:bD S.next (some (.loop .exhausted pe E' ps' a' b' d')) S2 (fun S=>match (generalizing:=false) pe with
    | none=>k .normal E D S
    | some .ret=>k .ret E D S
    | some (.exit id)=>k (.exit id) E D S
    | _=>False)->∃ x S',k x E D S'∧S'.hs=S2.hs.put S.next (some (.loop .exhausted pe E' ps' a' b' d')) ∧
   (pe=none∧x=.normal ∨ pe=some .ret∧x=.ret ∨ ∃ id,pe=some (.exit id)∧x=.exit id):=by
   intro hp;obtain ⟨S',h8,hS'⟩:=bS hp
   split at h8
   ·exact ⟨_,S',h8,hS',.inl ⟨rfl,rfl⟩⟩
   ·exact ⟨_,S',h8,hS',.inr (.inl ⟨rfl,rfl⟩)⟩
   ·exact ⟨_,S',h8,hS',.inr (.inr ⟨_,rfl,rfl⟩)⟩
   ·exact h8.elim
  cases st with
  | busy=>exact h7.elim
  | ready=>exact ⟨sm,go h7⟩
  | done=>exact ⟨sm,go h7⟩
  | exhausted=>exact ⟨sm,go h7⟩
 obtain ⟨hbusy,x,S',hk,hS',hx⟩:=main;refine ⟨x,S',hk,fun ρ fn ld tmps ds r w Q hld hE hD hg hs hQ=>?_⟩;have h0:ρ S.hs.next=none:=hs.fresh _ (af _)
 have ho:OR (ρ.put S.hs.next ⟨w.heap.size,0,0,true⟩) ⟨w.heap.size,0,0,true⟩ (.loop .ready none E ps ca cb d) (eN .ready none fn tmps ps ca cb ld.blk) :=
  ⟨⟨rfl,rfl⟩,fn,tmps,ld,rfl,hE.mono (Rho.le_put h0 _),Rho.le_put h0 _ _ _ hld⟩
 obtain ⟨hs1,he1⟩:=hs.alloc (csz:=0) ho;have hle1:=he1.le hs;generalize hw1:w.alloc (eN .ready none fn tmps ps ca cb ld.blk)=w1 at hs1 he1 ⊢;generalize hρ1:ρ.put S.hs.next ⟨w.heap.size,0,0,true⟩=ρ1 at hs1 he1 hle1
 have hl1:ρ1 S.next=some ⟨w.heap.size,0,0,true⟩:=by rw [<- hρ1];exact Rho.put_self _ _ _
 rw [<- hS1] at hs1 he1;have hf:VR ρ1 vf (evT tmps f):=(vC.of_ER (hE.mono hle1) (hg.mono hle1) [f]).one (x:=f) sm h2;obtain ⟨dfr,g,args,q1,q2,q3⟩:=h6.enter hbv ρ1 w1 (evT tmps f) [.func (.yield w.heap.size) #[] #[]] (hg.mono hle1) hs1 hf (.cons (.yield hl1) .nil);refine ⟨dfr,g,args,q1 w1,q2,gF.2 (gF.1 (q3.mono fun e w3 hR=>?_))⟩;obtain ⟨v3,ρ2,rfl,r1,r2,r3⟩:=hR;have hle2:=r3.le hs1;have hl2:=hle2 _ _ hl1;obtain ⟨_,_,fn2,tmps2,ld2,hw3,hE2,hd2⟩:=r2.loop hg2 hl2;obtain ⟨w4,s1,s2,s3⟩:=r2.putLoop (P:=P) (st':=.exhausted) (pe':=pe) hg2 hl2 hw3 hE2 hd2;rw [<- hS'] at s2 s3;have hend:=aGV (P:=P) hw3 hbusy s1;have haft:Aft ρ S.hs w E D S'.hs { tmps,defers:=ds } w4:=⟨ρ2,(hE.mono hle1).mono hle2,(hD.mono hle1).mono hle2,s2,(he1.trans r3).trans s3⟩
 refine ⟨pe,w4,hend,?_⟩
 rcases hx with ⟨rfl,rfl⟩|⟨rfl,rfl⟩|⟨id,rfl,rfl⟩
 ·exact hQ _ _ haft
 ·exact wpIn_ret (hQ _ _ haft)
 ·exact wpIn_exit (hQ _ _ haft)
end
section
variable {P:Program}
theorem CodeS.rangeNone {rc:cG}{rd:bQ}(hc:dN P rc)(hd:dW P rd){f:Operand}{ps:Array Tmp}{ca cb:Code}{E:Env}{D:List Df}{S:St}{k:KT}
  (h:bK .deferred S fun d S=>xZ P rc rd f ps.toList ca cb d E (.mark d :: D) S k):∃ x E' D' S',k x E' D' S'∧CodeS P none (.rangeFunc f ps ca cb) E D S.hs x E' D' S'.hs:=by
 obtain ⟨S1,h1,hS1⟩:=eI h;obtain ⟨x,S',h2,h3⟩:=zM hc hd h1;refine ⟨x,E,.mark S.next :: D,S',h2,fun ρ r a w Q hro hE hD hg hs hQ=>?_⟩;have hr:r=none:=hro;subst hr;have h0:ρ S.hs.next=none:=hs.fresh _ (af _);obtain ⟨hs1,he1⟩:=hs.alloc (o:=.deferred) (co:=.deferred (some [])) (csz:=0) ⟨rfl,rfl⟩;have hle1:=he1.le hs;generalize hρ1:ρ.put S.hs.next ⟨w.heap.size,0,0,true⟩=ρ1 at hs1 he1 hle1
 have hl1:ρ1 S.next=some ⟨w.heap.size,0,0,true⟩:=by rw [<- hρ1];exact Rho.put_self _ _ _
 rw [<- hS1] at hs1 he1;refine wpIn_rangeFunc fun fn _=>?_
 obtain ⟨dfr,g,args,q1,q2,q3⟩:=h3 ρ1 fn ⟨w.heap.size,0,0,true⟩ a.tmps ({ target:=.collected w.heap.size,args:=#[] } :: a.defers) none (w.alloc (.deferred (some []))) Q hl1 (hE.mono hle1)
  ⟨⟨_,hl1,rfl⟩,hD.mono hle1⟩ (hg.mono hle1) hs1 (fun a' w' ha=>hQ a' w' (ha.comp he1))
 refine ⟨(w.alloc (.deferred (some []))).heap.size,[{ target:=.collected w.heap.size,args:=#[] }],(w.alloc (.deferred (some []))).alloc (eN .ready none fn a.tmps ps.toList ca cb w.heap.size),dfr,_,g,args,_,?_,?_,fun _ _=>trivial,q2,fun hdd=>by simp [W,Fence.wide] at hdd,q3⟩
 ·simp [Instr.enterLoop,W,eN]
 ·rw [nP];simpa [resolve,rangeCall,evT] using q1
theorem CodeS.rangeSome {rc:cG}{rd:bQ}(hc:dN P rc)(hd:dW P rd){f:Operand}{ps:Array Tmp}{ca cb:Code}{l:Nat}{E:Env}{D:List Df}{S:St}{k:KT}
  (h:qZ S l fun _ _ _ _ _ _ d=>xZ P rc rd f ps.toList ca cb d E D S k):∃ x E' D' S',k x E' D' S'∧CodeS P (some l) (.rangeFunc f ps ca cb) E D S.hs x E' D' S'.hs:=by
 obtain ⟨st,pe,E0,ps0,a0,b0,d,hg0,h1⟩:=loopK_spec h;obtain ⟨x,S',h2,h3⟩:=zM hc hd h1;refine ⟨x,E,D,S',h2,fun ρ r a w Q hro hE hD hg hs hQ=>?_⟩;obtain ⟨lb,hlb,rfl⟩:=hro;obtain ⟨_,_,fn0,tmps0,ld,hw0,_,hld⟩:=hs.loop hg0 hlb;refine wpIn_rangeFunc fun fn _=>?_;obtain ⟨dfr,g,args,q1,q2,q3⟩:=h3 ρ fn ld a.tmps a.defers (some lb.blk) w Q hld hE hD hg hs hQ;refine ⟨w.heap.size,[],w.alloc (eN .ready none fn a.tmps ps.toList ca cb ld.blk),dfr,_,g,args,_,?_,?_,fun _ _=>trivial,q2,fun hdd=>by simp [W,Fence.wide] at hdd,q3⟩
 ·simp [Instr.enterLoop,W,mE hw0,eN]
 ·rw [nP];simpa [resolve,rangeCall,evT] using q1
theorem cC {rc:cG}{rd:bQ}{lp:lZ}{dr:mP}(hc:dN P rc)(hd:dW P rd)(hl:LoopOk P lp)(hdr:DrawOk P dr)(ro:Option Nat):∀ (c:Code) (E:Env) (D:List Df) (S:St) (k:KT),
  evCode P rc rd lp dr ro c E D S k->∃ x E' D' S',k x E' D' S'∧CodeS P ro c E D S.hs x E' D' S'.hs
 | .skip,E,D,S,k,h=>⟨.normal,E,D,S,h,fun ρ r a w Q hro hE hD hg hs hQ=>wpIn_skip (hQ _ _ ⟨ρ,hE,hD,hs,Ext.refl _ _ _⟩)⟩
 | .label _,E,D,S,k,h=>⟨.normal,E,D,S,h,fun ρ r a w Q hro hE hD hg hs hQ=>wpIn_label (hQ _ _ ⟨ρ,hE,hD,hs,Ext.refl _ _ _⟩)⟩
 | .goto l,E,D,S,k,h=>⟨.goto l,E,D,S,h,fun ρ r a w Q hro hE hD hg hs hQ=>wpIn_goto (hQ _ _ ⟨ρ,hE,hD,hs,Ext.refl _ _ _⟩)⟩
 | .exit id,E,D,S,k,h=>⟨.exit id,E,D,S,h,fun ρ r a w Q hro hE hD hg hs hQ=>wpIn_exit (hQ _ _ ⟨ρ,hE,hD,hs,Ext.refl _ _ _⟩)⟩
 | .ret,E,D,S,k,h=>⟨.ret,E,D,S,h,fun ρ r a w Q hro hE hD hg hs hQ=>wpIn_ret (hQ _ _ ⟨ρ,hE,hD,hs,Ext.refl _ _ _⟩)⟩
 | .refuse _,_,_,_,_,h=>h.elim
 | .region id ops false,E,D,S,k,h=>by
   have h':Bool.rec (motive:=fun _=>Prop) (evOps P rc rd ops.toList ops.toList E S fun E S=>k .normal E D S) (Option.casesOn ro (evOpsD P rc rd ops.toList ops.toList E D S fun E D S=>k .normal E D S) fun _=>False) (nS ops.toList):=h
   cases hdf:nS ops.toList with
   | false =>
     rw [hdf] at h';obtain ⟨E',S',h1,h2⟩:=nO hc hd (ops:=ops) ops.toList 0 E S (fun E S=>k .normal E D S) rfl h';refine ⟨.normal,E',D,S',h1,fun ρ r a w Q hro hE hD hg hs hQ=>wpIn_region ?_⟩;have:=h2 r ρ D a w Q hE hD hg hs hQ;rw [List.range_eq_range'];simpa using this
   | true =>
     rw [hdf] at h'
     cases ro with
     | some _=>exact h'.elim
     | none =>
       obtain ⟨E',D',S',h1,h2⟩:=oQ hc hd (ops:=ops) ops.toList 0 E D S (fun E D S=>k .normal E D S) rfl h';refine ⟨.normal,E',D',S',h1,fun ρ r a w Q hro hE hD hg hs hQ=>wpIn_region ?_⟩;have hr:r=none:=hro;subst hr;have:=h2 ρ a w Q hE hD hg hs hQ;rw [List.range_eq_range'];simpa using this
 | .region id ops true,E,D,S,k,h=>by
   obtain ⟨E',S',h1,h2⟩:=hdr ops E S (fun E S=>k .normal E D S) h;exact ⟨.normal,E',D,S',h1,fun ρ r a w Q hro hE hD hg hs hQ=>h2 id r ρ D a w Q hE hD hg hs hQ⟩
 | .seq x y,E,D,S,k,h=>by
   obtain ⟨ex,E1,D1,S1,h1,h2⟩:=cC hc hd hl hdr ro x E D S _ h
   cases ex with
   | normal =>
     obtain ⟨ey,E2,D2,S2,h3,h4⟩:=cC hc hd hl hdr ro y E1 D1 S1 k h1;refine ⟨ey,E2,D2,S2,h3,fun ρ r a w Q hro hE hD hg hs hQ=>wpIn_seq (h2 ρ r a w _ hro hE hD hg hs fun a1 w1 ⟨ρ1,b1,b2,b3,b4⟩=>?_)⟩;have hle:=b4.le hs;exact h4 ρ1 r a1 w1 Q (hro.mono hle) b1 b2 (hg.mono hle) b3 fun a2 w2 h5=>hQ a2 w2 (h5.comp b4)
   | exit id=>exact ⟨.exit id,E1,D1,S1,h1,fun ρ r a w Q hro hE hD hg hs hQ=>wpIn_seq (h2 ρ r a w _ hro hE hD hg hs hQ)⟩
   | ret=>exact ⟨.ret,E1,D1,S1,h1,fun ρ r a w Q hro hE hD hg hs hQ=>wpIn_seq (h2 ρ r a w _ hro hE hD hg hs hQ)⟩
   | goto l=>exact ⟨.goto l,E1,D1,S1,h1,fun ρ r a w Q hro hE hD hg hs hQ=>wpIn_seq (h2 ρ r a w _ hro hE hD hg hs hQ)⟩
 | .cond c x y,E,D,S,k,h=>by
   obtain ⟨v,h1,h2⟩:=bG (show eZ E c fun v=>xG v fun b=>Bool.rec (evCode P rc rd lp dr ro y E D S k) (evCode P rc rd lp dr ro x E D S k) b from h);obtain ⟨b,rfl,h3⟩:=aCq h2
   have hcv:∀ ρ (a:Act),ER ρ E a.tmps->dZ ρ->a.eval c=.bool b:=fun ρ a hE hg=>by
    have:=(vC.of_ER hE hg [c]).one (x:=c) sm h1;rw [<- nP] at this;generalize a.eval c=cv at this;cases this;rfl
   cases b with
   | true =>
     obtain ⟨ex,E1,D1,S1,h4,h5⟩:=cC hc hd hl hdr ro x E D S k h3;exact ⟨ex,E1,D1,S1,h4,fun ρ r a w Q hro hE hD hg hs hQ=>wpIn_cond (hcv ρ a hE hg) (h5 ρ r a w Q hro hE hD hg hs hQ)⟩
   | false =>
     obtain ⟨ex,E1,D1,S1,h4,h5⟩:=cC hc hd hl hdr ro y E D S k h3;exact ⟨ex,E1,D1,S1,h4,fun ρ r a w Q hro hE hD hg hs hQ=>wpIn_cond (hcv ρ a hE hg) (h5 ρ r a w Q hro hE hD hg hs hQ)⟩
 | .block id c,E,D,S,k,h=>by
   obtain ⟨ex,E1,D1,S1,h1,h2⟩:=cC hc hd hl hdr ro c E D S _ h
   cases ex with
   | normal=>exact ⟨.normal,E1,D1,S1,h1,fun ρ r a w Q hro hE hD hg hs hQ=>wpIn_block (h2 ρ r a w _ hro hE hD hg hs hQ)⟩
   | ret=>exact ⟨.ret,E1,D1,S1,h1,fun ρ r a w Q hro hE hD hg hs hQ=>wpIn_block (h2 ρ r a w _ hro hE hD hg hs hQ)⟩
   | goto l=>exact ⟨.goto l,E1,D1,S1,h1,fun ρ r a w Q hro hE hD hg hs hQ=>wpIn_block (h2 ρ r a w _ hro hE hD hg hs hQ)⟩
   | exit id' =>
     have h1':Bool.rec (motive:=fun _=>Prop) (k (.exit id') E1 D1 S1) (k .normal E1 D1 S1) (Nat.beq id' id):=h1
     cases hb:Nat.beq id' id with
     | true =>
       rw [hb] at h1';have:=aj hb
       exact ⟨.normal,E1,D1,S1,h1',fun ρ r a w Q hro hE hD hg hs hQ=>wpIn_block (h2 ρ r a w _ hro hE hD hg hs fun a' w' ha=>by
        show Exit.inBlock id Q (.exit id') a' w'
        simp only [Exit.inBlock,this,if_true];exact hQ a' w' ha)⟩
     | false =>
       rw [hb] at h1'
       have hne:id' ≠ id:=fun e=>by rw [e] at hb;simp at hb
       exact ⟨.exit id',E1,D1,S1,h1',fun ρ r a w Q hro hE hD hg hs hQ=>wpIn_block (h2 ρ r a w _ hro hE hD hg hs fun a' w' ha=>by
        show Exit.inBlock id Q (.exit id') a' w'
        simp only [Exit.inBlock,hne,if_false];exact hQ a' w' ha)⟩
 | .loop b,E,D,S,k,h=>by
   obtain ⟨ex,E1,D1,S1,h1,h2⟩:=hl.loop ro b E D S k h;exact ⟨ex,E1,D1,S1,h1,fun ρ r a w Q hro hE hD hg hs hQ=>(h2 ρ r a w Q hro hE hD hg hs hQ).loop⟩
 | .scope c,E,D,S,k,h=>by
   obtain ⟨ex,E1,D1,S1,h1,h2⟩:=cC hc hd hl hdr ro c E D S _ h;obtain ⟨x,E2,D2,S2,h3,h4⟩:=scope_step hl h2 h1;exact ⟨x,E2,D2,S2,h3,fun ρ r a w Q hro hE hD hg hs hQ=>(h4 ρ r a w Q hro hE hD hg hs hQ).scope⟩
 | .rangeFunc f ps ca cb,E,D,S,k,h=>by
   cases ro with
   | none=>exact CodeS.rangeNone hc hd h
   | some l=>exact CodeS.rangeSome hc hd h
end
section
variable {P:Program}
theorem rU:∀ {ps:List Tmp} {l:List V} {E:Env} {k:Env->Prop},sY ps l E k->∃ E',k E'∧ps.length=l.length∧∀ (ρ:Rho) (tmps:Array Value) (l':List Value),ER ρ E tmps->VRs ρ l l' ->
  ER ρ E' ((ps.zip l').foldl (fun t p=>t.setIfInBounds p.1 p.2) tmps)
 | [],[],E,k,h=>⟨E,h,rfl,fun ρ tmps l' hE _=>hE⟩
 | [],_ :: _,_,_,h=>h.elim
 | _ :: _,[],_,_,h=>h.elim
 | p :: ps,v :: l,E,k,h=>by
   obtain ⟨E1,h1,h2,h3⟩:=tset_spec (show tset E p v (fun E=>sY ps l E k) from h);obtain ⟨E2,h4,h5,h6⟩:=rU h1;refine ⟨E2,h4,by simp [h5],fun ρ tmps l' hE hl=>?_⟩
   cases hl with
   | cons hv hs=>exact h6 ρ _ _ (hE.set h2 h3 hv) hs
theorem vT {rc:cG}{rd:bQ}{lp:lZ}{dr:mP}(hc:dN P rc)(hd:dW P rd)(hl:LoopOk P lp)(hdr:DrawOk P dr):dW P (aAp P rc rd lp dr):=by
 intro id l S k h;obtain ⟨st0,pe0,E0,ps,ca,cb,d0,hg0,h1⟩:=loopK_spec h;obtain ⟨E1,h2,hlen,h3⟩:=rU h1;obtain ⟨x1,E2,D2,S2,h4,h5⟩:=cC hc hd hl hdr (some id) ca E1 [] S _ h2
 cases x1 with
 | exit _=>exact h4.elim
 | goto _=>exact h4.elim
 | ret=>exact h4.elim
 | normal =>
   obtain ⟨st,pe,E3,ps3,a3,b3,d3,hg3,h6⟩:=loopK_spec h4
   cases st with
   | busy=>exact h6.elim
   | done=>exact h6.elim
   | exhausted=>exact h6.elim
   | ready =>
     obtain ⟨S3,h7,hS3⟩:=bS h6;obtain ⟨x4,E4,D4,S4,h8,h9⟩:=cC hc hd hl hdr (some id) cb E2 D2 S3 _ h7;obtain ⟨st5,pe5,E5,ps5,a5,b5,d5,hg5,h10⟩:=loopK_spec h8
     have fin:∃ S5 st6 pe6 bv,k (.bool bv) S5∧S5.hs=S4.hs.put id (some (.loop st6 pe6 E5 ps5 a5 b5 d5)) ∧
       (x4=.normal∧st6=.ready∧pe6=none∧bv=true ∨ x4=.ret∧st6=.done∧pe6=some .ret∧bv=false ∨ ∃ e,x4=.exit e∧st6=.done∧pe6=some (.exit e)∧bv=false):=by
      cases x4 with
      | normal =>
        obtain ⟨S5,h11,hS5⟩:=bS h10;exact ⟨S5,_,_,_,h11,hS5,.inl ⟨rfl,rfl,rfl,rfl⟩⟩
      | ret =>
        obtain ⟨S5,h11,hS5⟩:=bS h10;exact ⟨S5,_,_,_,h11,hS5,.inr (.inl ⟨rfl,rfl,rfl,rfl⟩)⟩
      | exit e =>
        obtain ⟨S5,h11,hS5⟩:=bS h10;exact ⟨S5,_,_,_,h11,hS5,.inr (.inr ⟨e,rfl,rfl,rfl,rfl⟩)⟩
      | goto l=>exact h10.elim
     obtain ⟨S5,st6,pe6,bv,hk,hS5,hx⟩:=fin;refine ⟨_,S5,hk,fun ρ w l' lb hg hs eP hv=>?_⟩;obtain ⟨_,_,fn0,tmps0,ld0,hw0,hE0,_⟩:=hs.loop hg0 eP
     have hl':l'.length=ps.length:=by rw [<- hv.length];exact hlen.symm
     have hy:(Instr.yield lb.blk ⟨l'⟩).run P w=.ok (.round lb.blk fn0 ((ps.zip l').foldl (fun t p=>t.setIfInBounds p.1 p.2) tmps0) ca cb) w:=by
      simp [Instr.yield,mE hw0,hl']
     rw [hy];show RoundIn (W none) 0 P lb.blk fn0 _ ca cb w _;refine roundIn_of_wpIn trivial ?_;have hro:RO ρ (some id) (some lb.blk):=⟨lb,eP,rfl⟩
     refine h5 ρ (some lb.blk) { tmps:=_,defers:=[] } w _ hro (h3 ρ tmps0 l' hE0 hv) trivial hg hs fun a2 w2 ⟨ρ2,b1,b2,b3,b4⟩=>?_;have hle2:=b4.le hs;have hid2:=hle2 _ _ eP;obtain ⟨_,_,fn3,tmps3,ld3,hw3,hE3,hd3⟩:=b3.loop hg3 hid2;obtain ⟨w3,c1,c2,c3⟩:=b3.putLoop (P:=P) (st':=.busy) (pe':=pe) hg3 hid2 hw3 hE3 hd3;rw [<- hS3] at c2 c3
     have hbr:(Instr.beginRound lb.blk).run P w2=.ok () w3:=by
      simp only [eN] at c1;simp only [Instr.beginRound,Sem.run_bind,mE hw3,Result.andThen_ok,c1,Sem.run_pure]
     refine ⟨w3,hbr,?_⟩;refine h9 ρ2 (some lb.blk) a2 w3 _ (hro.mono hle2) b1 b2 (hg.mono hle2) c2 fun a4 w4 ⟨ρ4,e1,e2,e3,e4⟩=>?_;have hle4:=e4.le c2;have hid4:=hle4 _ _ hid2;obtain ⟨_,_,fn5,tmps5,ld5,hw5,hE5,hd5⟩:=e3.loop hg5 hid4;obtain ⟨w5,f1,f2,f3⟩:=e3.putLoop (P:=P) (st':=st6) (pe':=pe6) hg5 hid4 hw5 hE5 hd5;rw [<- hS5] at f2 f3
     have hend:∀ jump,pe6=jump->st6=(if jump.isNone then .ready else .done)->bv=jump.isNone->(Instr.endRound lb.blk jump).run P w4=.ok (.bool bv) w5:=by
      intro jump h1 h2 h3;subst h1;subst h3;rw [h2] at f1;simp only [eN] at f1;simp only [Instr.endRound,Sem.run_bind,mE hw5,Result.andThen_ok,f1,Sem.run_pure]
     have hR:Rt ρ S.hs w (.bool bv) S5.hs (.returned (.bool bv)) w5:=⟨_,ρ4,rfl,.bool bv,f2,((b4.trans c3).trans e4).trans f3⟩
     rcases hx with ⟨rfl,rfl,rfl,rfl⟩|⟨rfl,rfl,rfl,rfl⟩|⟨e,rfl,rfl,rfl,rfl⟩
     ·exact ⟨_,w5,hend none rfl rfl rfl,hR⟩
     ·exact ⟨_,w5,hend (some .ret) rfl rfl rfl,hR⟩
     ·exact ⟨_,w5,hend (some (.exit e)) rfl rfl rfl,hR⟩
end
section
variable {P:Program}
theorem wJ:∀ {l:List V} {t:Nat} {E:Env} {k:Env->Prop},mW l t E k->∃ E',k E'∧∀ s,tget E' s=if t <= s∧s < t+l.length then l[s - t]? else tget E s
 | [],t,E,k,h=>⟨E,h,fun s=>by
   have:¬ (t <= s∧s < t+([]:List V).length):=by simp only [List.length_nil];omega
   rw [if_neg this]⟩
 | v :: l,t,E,k,h=>by
   obtain ⟨E1,h1,h2,h3⟩:=tset_spec (show tset E t v (fun E=>mW l (t+1) E k) from h);obtain ⟨E2,h4,h5⟩:=wJ h1;refine ⟨E2,h4,fun s=>?_⟩;rw [h5,h3];by_cases hs:s=t
   ·subst hs;have a:¬ (s+1 <= s∧s < s+1+l.length):=om
    have b:s <= s∧s < s+(v :: l).length:=by simp
    rw [if_neg a,if_pos rfl,if_pos b];simp
   ·rw [if_neg hs];by_cases hr:t+1 <= s∧s < t+1+l.length
    ·have b:t <= s∧s < t+(v :: l).length:=by simp;omega
     rw [if_pos hr,if_pos b];have e:s - t=(s - (t+1))+1:=om;rw [e];simp
    ·have b:¬ (t <= s∧s < t+(v :: l).length):=by simp;omega
     rw [if_neg hr,if_neg b]
theorem aBq {l:List V}{n:Nat}{k:Env->Prop}(h:mW l 0 (blank n) k):∃ E,k E∧∀ (ρ:Rho) (l':List Value),VRs ρ l l'->ER ρ E ((⟨l'⟩:Array Value) ++ Array.replicate (n - (⟨l'⟩:Array Value).size) undef):=by
 obtain ⟨E,h1,h2⟩:=wJ h;refine ⟨E,h1,fun ρ l' hl t v ht=>?_⟩;rw [h2] at ht;have hlen:=hl.length;by_cases hr:0 <= t∧t < 0+l.length
 ·rw [if_pos hr] at ht;obtain ⟨v',a,b⟩:=hl.get ht;refine ⟨v',?_,b⟩
  have hlt:t < (⟨l'⟩:Array Value).size:=by show t < l'.length;omega
  rw [Array.getElem?_append_left hlt];simpa using a
 ·rw [if_neg hr] at ht;obtain ⟨rfl,hlt⟩:=blank_get ht;refine ⟨undef,?_,VR.undef ρ⟩
  have hge:(⟨l'⟩:Array Value).size <= t:=by show l'.length <= t;omega
  rw [Array.getElem?_append_right hge]
  have:t - (⟨l'⟩:Array Value).size < n - (⟨l'⟩:Array Value).size:=by
   show t - l'.length < n - l'.length;have:l'.length <= t:=hge;omega
  rw [Array.getElem?_replicate,if_pos this]
theorem aLS {D:List Df}{p:Prop}(h:aRd D p):D=[]∧p:=by
 cases D with
 | nil=>exact ⟨rfl,h⟩
 | cons _ _=>exact h.elim
end
section
variable {P:Program}
def aGN (tmps:Array Value):ResultVar->Sem Value
 | .tmp t=>pure (tmps.getD t undef)
 | .cell a t=>do loadVar t (<- asAddr (tmps.getD a undef))
theorem ER.getD {ρ:Rho}{E:Env}{tmps:Array Value}(he:ER ρ E tmps){t:Nat}{v:V}(h:tget E t=some v):VR ρ v (tmps.getD t undef):=by
 obtain ⟨v',a,b⟩:=he t v h
 have:tmps.getD t undef=v':=by simp [Array.getD_eq_getD_getElem?,a]
 rw [this];exact b
theorem yP {E:Env}{S:St}:∀ {l:List ResultVar} {k:List V->Prop},yO P E S l k->∃ vs,k vs∧∀ (ρ:Rho) (tmps:Array Value) (w:World),ER ρ E tmps->cP ρ S.hs w->∃ vs',(l.mapM (aGN tmps)).run P w=.ok vs' w∧VRs ρ vs vs'
 | [],k,h=>⟨[],h,fun ρ tmps w he hs=>⟨[],sm,.nil⟩⟩
 | .tmp t :: l,k,h=>by
   obtain ⟨v,h1,h2⟩:=aQ (show Option.rec (motive:=fun _=>Prop) False (fun v=>yO P E S l fun l=>k (v :: l)) (tget E t) from h);obtain ⟨vs,h3,h4⟩:=yP h2;refine ⟨v :: vs,h3,fun ρ tmps w he hs=>?_⟩;obtain ⟨vs',h5,h6⟩:=h4 ρ tmps w he hs;exact ⟨_,by simp only [List.mapM_cons,aGN,Sem.run_bind,Sem.run_pure,Result.andThen_ok,h5],.cons (he.getD h1) h6⟩
 | .cell a t :: l,k,h=>by
   obtain ⟨p,h1,h2⟩:=aQ (show Option.rec (motive:=fun _=>Prop) False (fun p=>aKc P t p S fun v=>yO P E S l fun l=>k (v :: l)) (tget E a) from h);obtain ⟨v,h3,h4⟩:=aBC h2;obtain ⟨vs,h5,h6⟩:=yP h3;refine ⟨v :: vs,h5,fun ρ tmps w he hs=>?_⟩;obtain ⟨vs',h7,h8⟩:=h6 ρ tmps w he hs;obtain ⟨ad,v',h9,h10,h11⟩:=h4 ρ w _ hs (he.getD h1);exact ⟨_,by simp only [List.mapM_cons,aGN,h9,asAddr,Sem.run_bind,Sem.run_pure,Result.andThen_ok,h10,h7],.cons h11 h8⟩
theorem pA {fn:Func}{E:Env}{S:St}{k:V->Prop}(h:gT P fn E S k):∃ v,k v∧∀ (ρ:Rho) (tmps:Array Value) (w:World),ER ρ E tmps->cP ρ S.hs w->∃ v',(results fn tmps).run P w=.ok v' w∧VR ρ v v':=by
 obtain ⟨vs,h1,h2⟩:=yP h
 have hrun:∀ (tmps:Array Value) (w:World) vs',(fn.results.toList.mapM (aGN tmps)).run P w=.ok vs' w->(results fn tmps).run P w=.ok (if h:vs'.length=1 then vs'[0] else .tuple ⟨vs'⟩) w:=by
  intro tmps w vs' hr;have e:results fn tmps=(do let vs <- fn.results.mapM (aGN tmps);pure (if h:vs.size=1 then vs[0] else .tuple vs)):=rfl;rw [e,Array.mapM_eq_mapM_toList,map_eq_pure_bind];simp only [Sem.run_bind,hr,Result.andThen_ok,Sem.run_pure];rfl
 split at h1
 ·rename_i v
  refine ⟨v,h1,fun ρ tmps w he hs=>?_⟩;obtain ⟨vs',h3,h4⟩:=h2 ρ tmps w he hs;obtain ⟨v',rfl,hv⟩:=Am.arg1 h4;exact ⟨v',by rw [hrun tmps w _ h3];rfl,hv⟩
 ·rename_i hne
  refine ⟨_,h1,fun ρ tmps w he hs=>?_⟩;obtain ⟨vs',h3,h4⟩:=h2 ρ tmps w he hs;refine ⟨.tuple ⟨vs'⟩,?_,.tup h4⟩
  have:¬ vs'.length=1:=fun hl=>by
   rw [<- h4.length] at hl;obtain ⟨v,hv⟩:=List.length_eq_one_iff.1 hl;exact hne v hv
  rw [hrun tmps w _ h3,dif_neg this]
theorem aGb {rc:cG}{rd:bQ}{lp:lZ}{dr:mP}(hc:dN P rc)(hd:dW P rd)(hl:LoopOk P lp)(hdr:DrawOk P dr){f:FuncId}{args:List V}{S:St}{k:St->Prop}(h:aIj P rc rd lp dr f args S k) :
  ∃ S',k S'∧∀ (ρ:Rho) (w:World) (a b:List Value),dZ ρ->cP ρ S.hs w->VRs ρ args (a ++ b) ->
    (invoke (.fn (.func f) ⟨b⟩) ⟨a⟩).run P w=.ok (.enter f ⟨a ++ b⟩) w∧CallsDIn (W none) 0 P f ⟨a ++ b⟩ .returning w fun e u' w'=>u'=.returning∧∃ v ρ',e=.returned v∧cP ρ' S'.hs w'∧Ext ρ S.hs w ρ' S'.hs w':=by
 obtain ⟨fn,hf,h1⟩:=aQ (show Option.rec (motive:=fun _=>Prop) False _ (P.funcs[f]?) from h)
 cases hb:fn.body with
 | none=>rw [hb] at h1;exact h1.elim
 | some c =>
   rw [hb] at h1
   cases hn:(fn.name == "runtime.NumGoroutine") with
   | true=>rw [hn] at h1;exact h1.elim
   | false =>
     rw [hn] at h1;obtain ⟨E,h2,h3⟩:=aBq h1;obtain ⟨x,E',D',S1,h4,h5⟩:=cC hc hd hl hdr none c E [] S _ h2
     have fin:(x=.normal ∨ x=.ret)∧aRd D' (gT P fn E' S1 fun _=>k S1):=by
      cases x with
      | normal=>exact ⟨.inl rfl,h4⟩
      | ret=>exact ⟨.inr rfl,h4⟩
      | exit _=>exact h4.elim
      | goto _=>exact h4.elim
     obtain ⟨hx,h6⟩:=fin;obtain ⟨rfl,h7⟩:=aLS h6;obtain ⟨v,h9,h10⟩:=pA h7;refine ⟨S1,h9,fun ρ w a b hg hs hl=>?_⟩
     have h0:¬ fn.name = "runtime.NumGoroutine" := by simpa using hn
     refine ⟨by simp [invoke,callFunc,hf,h0,hb],?_⟩;refine callsDIn_of_wp (R:=fun e w'=>∃ v ρ',e=.returned v∧cP ρ' S1.hs w'∧Ext ρ S.hs w ρ' S1.hs w') hf hb trivial ?_;refine h5 ρ none _ w _ rfl (h3 ρ (a ++ b) hl) trivial hg hs fun a' w' ⟨ρ1,b1,b2,b3,b4⟩=>?_;obtain ⟨v',r1,r2⟩:=h10 ρ1 a'.tmps w' b1 b3
     have hdn:a'.defers=[]:=by
      cases hde:a'.defers with
      | nil=>rfl
      | cons _ _=>rw [hde] at b2;exact b2.elim
     rcases hx with rfl|rfl
     ·exact ⟨hdn,v',r1,v',ρ1,rfl,b3,b4⟩
     ·exact ⟨hdn,v',r1,v',ρ1,rfl,b3,b4⟩
theorem yK {rc:cG}{rd:bQ}{lp:lZ}{dr:mP}(hc:dN P rc)(hd:dW P rd)(hl:LoopOk P lp)(hdr:DrawOk P dr):∀ {D:List Df} {S:St} {k:St->Prop},aAk P rc rd lp dr D S k->∃ S',k S'∧∀ (ρ:Rho) (w:World) (ds:List Deferred) (R:Ending->World->Prop) (tmps:Array Value) (fn:Func),DR ρ D ds->dZ ρ->cP ρ S.hs w ->
  (∀ ρ' w',ρ.le ρ'->cP ρ' S'.hs w'->Ext ρ S.hs w ρ' S'.hs w'->LeavesIn (W none) 0 P fn tmps R [] .returning w')->LeavesInM (W none) 0 P fn tmps R ds .returning w
 | [],S,k,h=>⟨S,h,fun ρ w ds R tmps fn hD hg hs hk=>by
   cases ds with
   | nil=>exact hk ρ w (Rho.le_refl _) hs (Ext.refl _ _ _)
   | cons _ _=>exact hD.elim⟩
 | .call g l :: D,S,k,h=>by
   obtain ⟨S1,h1,h2⟩:=aGb hc hd hl hdr (show aIj P rc rd lp dr g l S (fun S=>aAk P rc rd lp dr D S k) from h);obtain ⟨S',h4,h5⟩:=yK hc hd hl hdr h1;refine ⟨S',h4,fun ρ w ds R tmps fn hD hg hs hk=>?_⟩
   cases ds with
   | nil=>exact absurd hD (by simp [DR])
   | cons e ds =>
     obtain ⟨⟨a,b,rfl,hv⟩,hD'⟩:=hD;obtain ⟨q1,q2⟩:=h2 ρ w a b hg hs hv;refine ⟨sm,.inr ⟨fun hdd=>by simp [W,Fence.wide] at hdd,_,_,g,_,rfl,q1,fun _ _=>trivial,?_⟩⟩;refine q2.mono fun e u' w' ⟨hu,v,ρ1,he,r1,r2⟩=>?_;subst hu;subst he;have hle:=r2.le hs;exact h5 ρ1 w' ds R tmps fn (hD'.mono hle) (hg.mono hle) r1 fun ρ2 w2 hle2 s1 s2=>hk ρ2 w2 (Rho.le_trans hle hle2) s1 (r2.trans s2)
 | .mark d :: D,S,k,h=>by
   obtain ⟨o,h1,h2⟩:=aQ (show Option.rec (motive:=fun _=>Prop) False _ (T.get fA d S.hp) from h)
   cases o with
   | deferred =>
     obtain ⟨S1,h3,hS1⟩:=bS (k:=fun S=>aAk P rc rd lp dr D S k) h2;obtain ⟨S',h4,h5⟩:=yK hc hd hl hdr h3;refine ⟨S',h4,fun ρ w ds R tmps fn hD hg hs hk=>?_⟩
     cases ds with
     | nil=>exact absurd hD (by simp [DR])
     | cons e ds =>
       obtain ⟨⟨l,hl,rfl⟩,hD'⟩:=hD;obtain ⟨l',co,x1,x2,hr,rfl⟩:=hs.obj d .deferred h1;rw [hl] at x1;cases x1
       have hlt:l.blk < w.heap.size:=by
        rcases Nat.lt_or_ge l.blk w.heap.size with h'|h'
        ·exact h'
        ·simp [Array.getElem?_eq_none h'] at x2
       have htake:(Instr.takeDeferred l.blk).run P w=.ok [] { w with heap:=w.heap.setIfInBounds l.blk (.deferred none) }:=by
        simp [Instr.takeDeferred,jQ x2,iN x2]
       refine ⟨sm,.inl ⟨l.blk,_,rfl,htake,?_⟩⟩
       have hsome:(S.hs.get d).isSome:=by
        have:S.hs.get d=some .deferred:=h1;rw [this];rfl
       have hs1:cP ρ (S.hs.put d none) { w with heap:=w.heap.setIfInBounds l.blk (.deferred none) }:=by
        have hf:=hs.forget d;refine ⟨fun i oi hi=>?_,hf.sep,hf.fresh⟩;obtain ⟨li,co,a,b,c⟩:=hf.obj i oi hi;refine ⟨li,co,a,?_,c⟩
        have hne:d ≠ i:=fun e=>by subst e;simp [Hs.put] at hi
        have hi':S.hs.get i=some oi:=by simpa [Hs.put,Ne.symm hne] using hi
        have hbn:=hs.sep d i l li hsome (by rw [hi'];rfl) hl a hr hne;show (w.heap.setIfInBounds l.blk (.deferred none))[li.blk]?=some co;rw [Array.getElem?_setIfInBounds_ne hbn];exact b
       have he1:Ext ρ S.hs w ρ (S.hs.put d none) { w with heap:=w.heap.setIfInBounds l.blk (.deferred none) }:=by
        have hx:=Ext.forget ρ S.hs w d
        exact { rho:=fun _ _=>rfl,next:=af _,size:=by simp,own:=hx.own,has:=hx.has,tape:=rfl,os:=rfl,output:=rfl,drawn:=af _,
                keep:=fun b _ hn=>Array.getElem?_setIfInBounds_ne (fun e=>hn ⟨d,l,hsome,hl,hr,e⟩) }
       rw [<- hS1] at hs1 he1;exact h5 ρ _ ds R tmps fn hD' hg hs1 fun ρ' w' hle a b=>hk ρ' w' hle a (he1.trans b)
   | _=>exact h2.elim
theorem iE {Xt:xJ}(hX:oY P Xt){rc:cG}{rd:bQ}{lp:lZ}{dr:mP}(hc:dN P rc)(hd:dW P rd)(hl:LoopOk P lp)(hdr:DrawOk P dr):dN P (rP P Xt rc rd lp dr):=by
 intro f args S k h;obtain ⟨fn,hf,h1⟩:=aQ (show Option.rec (motive:=fun _=>Prop) False _ (P.funcs[f]?) from h)
 cases hb:fn.body with
 | none =>
   rw [hb] at h1;obtain ⟨v,S',h2,h3⟩:=aEB hX h1;refine ⟨v,S',h2,fun ρ w l' hg hs hl=>?_⟩;obtain ⟨v',w',ρ',h4,h5,h6,h7⟩:=h3 ρ w l' hs hl;rw [h4];exact ⟨v',ρ',rfl,h5,h6,h7⟩
 | some c =>
   rw [hb] at h1
   cases hn:(fn.name == "runtime.NumGoroutine") with
   | true=>rw [hn] at h1;exact h1.elim
   | false =>
     rw [hn] at h1;obtain ⟨E,h2,h3⟩:=aBq h1;obtain ⟨x,E',D',S1,h4,h5⟩:=cC hc hd hl hdr none c E [] S _ h2
     have fin:(x=.normal ∨ x=.ret)∧aAk P rc rd lp dr D' S1 fun S=>gT P fn E' S fun v=>k v S:=by
      cases x with
      | normal=>exact ⟨.inl rfl,h4⟩
      | ret=>exact ⟨.inr rfl,h4⟩
      | exit _=>exact h4.elim
      | goto _=>exact h4.elim
     obtain ⟨hx,h6⟩:=fin;obtain ⟨S',h7,h8⟩:=yK hc hd ‹LoopOk P lp› hdr h6;obtain ⟨v,h9,h10⟩:=pA h7;refine ⟨v,S',h9,fun ρ w l' hg hs hl=>?_⟩
     have h0:¬ fn.name = "runtime.NumGoroutine" := by simpa using hn
     have hcall:(callFunc f ⟨l'⟩).run P w=.ok (.enter f ⟨l'⟩) w:=by simp [callFunc,hf,h0,hb]
     rw [hcall];show CallsIn (W none) 0 P f ⟨l'⟩ w _;refine callsIn_of_wp_marks hf hb trivial ?_;refine h5 ρ none _ w _ rfl (h3 ρ l' hl) trivial hg hs fun a' w' ⟨ρ1,b1,b2,b3,b4⟩=>?_
     have key:LeavesInM (W none) 0 P fn a'.tmps (Rt ρ S.hs w v S'.hs) a'.defers .returning w':=by
      refine h8 ρ1 w' a'.defers _ a'.tmps fn b2 (hg.mono (b4.le hs)) b3 fun ρ2 w2 hle q1 q2=>?_;obtain ⟨v',r1,r2⟩:=h10 ρ2 a'.tmps w2 (b1.mono hle) q1;exact ⟨v',r1,v',ρ2,rfl,r2,q1,b4.trans q2⟩
     rcases hx with rfl|rfl
     ·exact key
     ·exact key
end
section
variable {P:Program}
theorem cP.restrict {ρ:Rho}{H H':Hs}{w:World}(hs:cP ρ H w)(hsub:∀ id o,H'.get id=some o->H.get id=some o)(hn:H.next <= H'.next):cP ρ H' w where
 obj id o h:=hs.obj id o (hsub id o h)
 sep i j li lj hi hj:=by
  obtain ⟨oi,hoi⟩:=bc.1 hi;obtain ⟨oj,hoj⟩:=bc.1 hj;exact hs.sep i j li lj (by rw [hsub i oi hoi];rfl) (by rw [hsub j oj hoj];rfl)
 fresh id h:=hs.fresh id (bg hn h)
theorem cP.frame {ρ ρ':Rho}{H A A' H':Hs}{B:Nat->Option O}{w w':World}(hs:cP ρ H w)(hA:∀ id o,A.get id=some o->H.get id=some o)(hB:∀ id o,B id=some o->H.get id=some o)
  (hnx:H.next <= A.next) (hdis:∀ id,(B id).isSome->A.get id=none) (hlt:∀ id,(B id).isSome->id < A.next) (hx:Ext ρ A w ρ' A' w') (hs':cP ρ' A' w') (hn':H'.next=A'.next)
  (hH':∀ id o,H'.get id=some o->A'.get id=some o ∨ B id=some o):cP ρ' H' w' where
 obj id o h:=by
  rcases hH' id o h with h1|h1
  ·exact hs'.obj id o h1
  ·obtain ⟨l,co,a,b,c⟩:=hs.obj id o (hB id o h1)
   have hbs:(B id).isSome:=by rw [h1];rfl
   have hle:ρ.le ρ':=fun i l' hi=>by
    rcases Nat.lt_or_ge i A.next with hi'|hi'
    ·rw [hx.rho i hi'];exact hi
    ·rw [hs.fresh i (bg hnx hi')] at hi;cases hi
   refine ⟨l,co,by rw [hx.rho id (hlt id hbs)];exact a,?_,c.mono hle⟩
   have hlb:l.blk < w.heap.size:=by
    rcases Nat.lt_or_ge l.blk w.heap.size with h'|h'
    ·exact h'
    ·simp [Array.getElem?_eq_none h'] at b
   rw [hx.keep l.blk hlb ?_]
   ·exact b
   ·rintro ⟨i,li,hi,hli,hr,hb⟩;obtain ⟨oi,hoi⟩:=bc.1 hi
    have hne:i ≠ id:=fun e=>by
     subst e;rw [hdis i hbs] at hi;cases hi
    exact hs.sep i id li l (by rw [hA i oi hoi];rfl) (by rw [hB id o h1];rfl) hli a hr hne hb
 sep i j li lj hi hj hli hlj hr hne:=by
  obtain ⟨oi,hoi⟩:=bc.1 hi;obtain ⟨oj,hoj⟩:=bc.1 hj
  have place:∀ id o l,B id=some o->ρ' id=some l->ρ id=some l∧l.blk < w.heap.size:=fun id o l hb hl=>by
   have hbs:(B id).isSome:=by rw [hb];rfl
   rw [hx.rho id (hlt id hbs)] at hl;obtain ⟨l',co,a,b,_⟩:=hs.obj id o (hB id o hb);rw [hl] at a;cases a;refine ⟨hl,?_⟩
   rcases Nat.lt_or_ge l.blk w.heap.size with h'|h'
   ·exact h'
   ·simp [Array.getElem?_eq_none h'] at b
  rcases hH' i oi hoi with h1|h1 <;> rcases hH' j oj hoj with h2|h2
  ·exact hs'.sep i j li lj (by rw [h1];rfl) (by rw [h2];rfl) hli hlj hr hne
  ·obtain ⟨p1,p2⟩:=place j oj lj h2 hlj
   have hbs:(B j).isSome:=by rw [h2];rfl
   intro e
   rcases hx.own li.blk ⟨i,li,by rw [h1];rfl,hli,hr,rfl⟩ with h3|⟨i2,l2,a1,a2,a3,a4⟩
   ·omega
   ·obtain ⟨o2,ho2⟩:=bc.1 a1
    have hne2:i2 ≠ j:=fun e=>by
     subst e;rw [hdis i2 hbs] at a1;cases a1
    exact hs.sep i2 j l2 lj (by rw [hA i2 o2 ho2];rfl) (by rw [hB j oj h2];rfl) a2 p1 a3 hne2 (by rw [a4,e])
  ·obtain ⟨p1,p2⟩:=place i oi li h1 hli
   have hbs:(B i).isSome:=by rw [h1];rfl
   intro e
   rcases hx.has lj.blk ⟨j,lj,by rw [h2];rfl,hlj,rfl⟩ with h3|⟨i2,l2,a1,a2,a4⟩
   ·omega
   ·obtain ⟨o2,ho2⟩:=bc.1 a1
    have hne2:i ≠ i2:=fun e=>by
     subst e;rw [hdis i hbs] at a1;cases a1
    exact hs.sep i i2 li l2 (by rw [hB i oi h1];rfl) (by rw [hA i2 o2 ho2];rfl) p1 a2 hr hne2 (by rw [a4,e])
  ·obtain ⟨p1,_⟩:=place i oi li h1 hli;obtain ⟨p2,_⟩:=place j oj lj h2 hlj;exact hs.sep i j li lj (by rw [hB i oi h1];rfl) (by rw [hB j oj h2];rfl) p1 p2 hr hne
 fresh id h:=hs'.fresh id (by rw [<- hn'];exact h)
end
noncomputable def aU (s i:Nat):Bool:=Nat.beq (Nat.land (Nat.shiftRight s i) 1) 1
noncomputable def pV (s i:Nat):Nat:=Nat.lor s (Nat.shiftLeft 1 i)
def kX (e:Edge):Bool:=match e.ground with|.textOnly _=>false|.gcOnly _=>false|_=>true
inductive Sx where
 | ok (anc dw own wr seen:Nat)
 | bad
noncomputable def fS (n:Nat)(k:Nat->Sx):Sx:=Nat.rec (motive:=fun _=>Sx) (k 0) (fun m _=>k (Nat.succ m)) n
noncomputable def aFD (i:Nat)(anc:List (Nat × Nat × Nat × Nat))(l:List Edge):Nat->Nat->(Nat->Nat->Sx)->Sx :=
 List.rec (motive:=fun _=>Nat->Nat->(Nat->Nat->Sx)->Sx) (fun s d k=>fS s fun s=>fS d fun d=>k s d)
  (fun e _ ih s d k=>Bool.rec (motive:=fun _=>Sx) (ih s d k) (Bool.rec (motive:=fun _=>Sx) .bad (Option.rec (motive:=fun _=>Sx) .bad (fun q=>ih (Nat.lor (pV s e.on) q.1) (Nat.lor (Nat.lor d q.2.1) q.2.2.1) k) (nth anc (Nat.sub (Nat.sub i 1) e.on))) (Nat.blt e.on i)) (kX e)) l
noncomputable def dV (d:Option Tmp):Nat:=Option.rec 0 (fun t=>Nat.shiftLeft 1 t) d
noncomputable def rZ (wr d:Nat)(l:List Operand):Nat->(Nat->Sx)->Sx :=
 List.rec (motive:=fun _=>Nat->(Nat->Sx)->Sx) (fun s k=>fS s k)
  (fun x _ ih s k=>Operand.rec (motive:=fun _=>Sx) (fun t=>Bool.rec (motive:=fun _=>Sx) (ih (pV s t) k) (Bool.rec (motive:=fun _=>Sx) .bad (ih (pV s t) k) (aU d t)) (aU wr t)) (fun _=>ih s k) (fun _=>ih s k) (fun _=>ih s k) x) l
noncomputable def eqL (f:V->V->Bool)(l:List V):List V->Bool :=
 List.rec (motive:=fun _=>List V->Bool) (fun m=>List.casesOn m true fun _ _=>false) (fun x _ ih m=>List.casesOn m false fun y m=>Bool.rec false (ih m) (f x y)) l
def aTA (a b:Fn):Bool:=match a,b with|.func f,.func g=>f == g|_,_=>false
noncomputable def aEx (ih:V->V->Bool)(a b:V):Bool:=match a,b with
  | .bool a,.bool b=>a == b
  | .int j x,.int k y=>kEq j k && xU x y
  | .float .f64 x,.float .f64 y=>Nat.beq x y
  | .float .f32 x,.float .f32 y=>Nat.beq x y
  | .str s,.str t=>kG s t
  | .ptr i o,.ptr j p=>Nat.beq i j && Nat.beq o p
  | .nilPtr,.nilPtr=>true
  | .slice a b c d e f,.slice a' b' c' d' e' f'=>Nat.beq a a' && Nat.beq b b' && Nat.beq c c' && Nat.beq d d' && Nat.beq e e' && (f == f')
  | .nilSlice,.nilSlice=>true
  | .map i,.map j=>Nat.beq i j
  | .nilMap,.nilMap=>true
  | .func f a b,.func g c d=>aTA f g && eqL ih a c && eqL ih b d
  | .yield i,.yield j=>Nat.beq i j
  | .nilFunc,.nilFunc=>true
  | .iface t v,.iface u w=>Nat.beq t u && ih v w
  | .nilIface,.nilIface=>true
  | .agg a,.agg b=>eqL ih a b
  | .tup a,.tup b=>eqL ih a b
  | _,_=>false
noncomputable def vA (n:Nat):V->V->Bool:=Nat.rec (motive:=fun _=>V->V->Bool) (fun _ _=>false) (fun _ ih=>aEx ih) n
structure Rd where
 op:Op
 idx:Nat
 anc:Nat
 env:Env
 val:V
 sel:List (Nat × Nat × O)
noncomputable def iY (anc:Nat)(l:List (Nat × Nat × O)):List (Nat × Nat × O):=List.rec (motive:=fun _=>List (Nat × Nat × O)) [] (fun q _ ih=>Bool.rec ih (q :: ih) (aU anc q.1)) l
noncomputable def gZ (prev:Nat)(l:List (Nat × Nat × O)):St->(St->Prop)->Prop :=
 List.rec (motive:=fun _=>St->(St->Prop)->Prop) (fun S k=>k S) (fun q _ ih S k=>Bool.rec (bD q.2.1 (some q.2.2) S fun S=>ih S k) (ih S k) (aU prev q.1)) l
structure Ch where
 idx:Nat
 anc:Nat
 st:St
noncomputable def uR (P:Program)(r:Rd)(prev:Nat)(nxt:Option Nat)(S:St)(k:Prop):Prop :=
 Bool.rec (Bool.rec (gZ prev r.sel S fun S=>gJ P r.op r.env S fun v=>dD (vA 8 r.val v) k) k (Option.rec false (fun n=>aU r.anc n) nxt)) k (aU prev r.idx)
noncomputable def aDJ (P:Program)(r:Rd)(chs:List Ch):Option Nat->St->Prop->Prop :=
 List.rec (motive:=fun _=>Option Nat->St->Prop->Prop) (fun nxt S k=>uR P r 0 nxt S k) (fun c _ ih nxt S k=>uR P r c.anc nxt S (ih (some c.idx) c.st k)) chs
noncomputable def fU (P:Program)(chs:List Ch)(S:St)(l:List Rd)(k:Prop):Prop:=List.rec (motive:=fun _=>Prop) k (fun r _ ih=>aDJ P r chs none S ih) l
noncomputable def zR (i id prev:Nat)(S:St)(k:Prop):Prop:=Bool.rec (Option.casesOn (T.get fA id S.hp) k fun _=>False) k (aU prev i)
noncomputable def aJw (i id:Nat)(chs:List Ch):St->Prop->Prop :=
 List.rec (motive:=fun _=>St->Prop->Prop) (fun S k=>zR i id 0 S k) (fun c _ ih S k=>zR i id c.anc S (ih c.st k)) chs
noncomputable def kK (chs:List Ch)(S:St)(l:List (Nat × Nat))(k:Prop):Prop:=List.rec (motive:=fun _=>Prop) k (fun q _ ih=>aJw q.1 q.2 chs S ih) l
noncomputable def nY (s:Nat)(l:List (Nat × Nat × O)):St->(List (Nat × Nat × O)->St->Prop)->Prop :=
 List.rec (motive:=fun _=>St->(List (Nat × Nat × O)->St->Prop)->Prop) (fun S k=>k [] S)
  (fun q _ ih S k=>Bool.rec (ih S fun l S=>k (q :: l) S) (bD q.2.1 (some q.2.2) S fun S=>ih S k) (aU s q.1)) l
noncomputable def nX (l:List (Nat × Nat × O)):St->(St->Prop)->Prop :=
 List.rec (motive:=fun _=>St->(St->Prop)->Prop) (fun S k=>k S) (fun q _ ih S k=>bD q.2.1 (some q.2.2) S fun S=>ih S k) l
structure Dr where
 env:Env
 st:St
 pend:List (Nat × Nat × O)
 chs:List Ch
 rds:List Rd
 als:List (Nat × Nat)
noncomputable def aCC (P:Program)(rc:cG)(rd:bQ)(base i anc:Nat)(o:Op)(d:Dr)(k:V->Dr->Prop):Prop :=
 Cl.rec (motive:=fun _=>Prop) (fun f=>f d.env fun v=>k v d)
  (fun f=>gZ 0 (iY anc d.pend) d.st fun S=>f d.env S fun v=>k v ⟨d.env,d.st,d.pend,d.chs,⟨o,i,anc,d.env,v,iY anc d.pend⟩ :: d.rds,d.als⟩)
  (fun f=>f d.env fun ob mk=>fN (Nat.add base i) fun id=>k (mk id) ⟨d.env,d.st,(i,id,ob) :: d.pend,d.chs,d.rds,(i,id) :: d.als⟩)
  (fun f=>dD (List.rec (motive:=fun _=>Bool) true (fun c _ _=>aU anc c.idx) d.chs) (nY anc d.pend d.st fun pend S=>f rc rd d.env S fun v S'=>k v ⟨d.env,S',pend,⟨i,anc,d.st⟩ :: d.chs,d.rds,d.als⟩)) (rM P o)
noncomputable def tW (d:Dr)(t:Option Tmp)(v:V)(k:Dr->Prop):Prop:=cW d.env t v fun E=>k ⟨E,d.st,d.pend,d.chs,d.rds,d.als⟩
noncomputable def aQl (ops:List Oper)(anc own:Nat)(g:Option (Nat × Bool))(k:Nat->Sx):Sx :=
 Option.rec (motive:=fun _=>Sx) (k own) (fun q=>Option.rec (motive:=fun _=>Sx) .bad (fun t=>Bool.rec (motive:=fun _=>Sx) .bad (fS (pV own t) k) (aU anc q.1)) (qX ops q.1)) g
noncomputable def aBr (anc t:Nat)(l:List (Nat × Nat × Nat × Nat)):Nat->Bool :=
 List.rec (motive:=fun _=>Nat->Bool) (fun _=>true) (fun q _ ih j=>Bool.rec (ih (Nat.pred j)) (Bool.rec false (ih (Nat.pred j)) (aU anc j)) (aU q.2.2.2 t)) l
noncomputable def aIg (i:Nat)(ancs:List (Nat × Nat × Nat × Nat))(anc wr own seen:Nat)(d:Option Tmp):Bool :=
 Option.rec true (fun t=>Bool.rec (Bool.rec (Bool.rec true (aBr anc t ancs (Nat.pred i)) (aU seen t)) false (aU own t)) false (aU wr t)) d
noncomputable def kD (ops:List Oper)(i:Nat)(ancs:List (Nat × Nat × Nat × Nat))(wr seen:Nat)(o:Oper):Sx :=
 aFD i ancs o.after.toList 0 0 fun anc dw=>rZ wr dw o.op.operands.toList 0 fun own=>aQl ops anc own o.guard fun own =>
  Bool.rec (motive:=fun _=>Sx) .bad (fS (Nat.lor wr (dV o.dst)) fun wr=>fS (Nat.lor seen own) fun seen=>.ok anc dw own wr seen) (aIg i ancs anc wr own seen o.dst)
noncomputable def drOps (P:Program)(rc:cG)(rd:bQ)(base:Nat)(ops:List Oper)(l:List Oper):Nat->List (Nat × Nat × Nat × Nat)->Nat->Nat->Dr->(Dr->Prop)->Prop :=
 List.rec (motive:=fun _=>Nat->List (Nat × Nat × Nat × Nat)->Nat->Nat->Dr->(Dr->Prop)->Prop)
  (fun _ _ _ _ d k=>k d)
  (fun o _ ih i ancs wr seen d k=>Sx.rec (motive:=fun _=>Prop) (fun anc dw own wr seen =>
   dL d.env ops o.guard (aCC P rc rd base i anc o.op d fun v d=>tW d o.dst v fun d=>ih (Nat.succ i) ((anc,dw,dV o.dst,own) :: ancs) wr seen d k)
      (tW d o.dst undefV fun d=>ih (Nat.succ i) ((anc,dw,dV o.dst,own) :: ancs) wr seen d k)) False (kD ops i ancs wr seen o)) l
noncomputable def cZ (P:Program)(rc:cG)(rd:bQ):mP:=fun ops E S k =>
 fN (Nat.add S.next (dH ops.toList)) fun nx=>drOps P rc rd S.next ops.toList ops.toList 0 [] 0 0 ⟨E,⟨S.hp,nx⟩,[],[],[],[]⟩ fun d =>
  fU P d.chs d.st d.rds (kK d.chs d.st d.als (nX d.pend d.st fun S=>k d.env S))
section
variable {P:Program}
theorem vH (s i:Nat):aU s i=s.testBit i:=by
 have h:aU s i=Nat.beq ((s >>> i) &&& 1) 1:=rfl;rw [h,Nat.testBit,Nat.and_comm]
 have:(1 &&& s >>> i)=(s >>> i) % 2:=by rw [Nat.and_comm];exact Nat.and_one_is_mod _
 rw [this]
 rcases Nat.mod_two_eq_zero_or_one (s >>> i) with h|h <;> rw [h] <;> rfl
theorem lE (i:Nat):aU 0 i=false:=by rw [vH];simp
theorem kL (a b i:Nat):aU (Nat.lor a b) i=(aU a i || aU b i):=by
 rw [vH,vH,vH];exact Nat.testBit_or a b i
theorem aAP (t i:Nat):aU (Nat.shiftLeft 1 t) i=decide (t=i):=by
 rw [vH];have:Nat.shiftLeft 1 t=2 ^ t:=Nat.one_shiftLeft t;rw [this];exact Nat.testBit_two_pow
theorem lD (s t i:Nat):aU (pV s t) i=(aU s i || decide (t=i)):=by
 unfold pV;rw [kL,aAP]
theorem aDa (d:Option Tmp)(i:Nat):aU (dV d) i=true ↔ d=some i:=by
 cases d with
 | none=>show aU 0 i=true ↔ _;rw [lE];simp
 | some t=>show aU (Nat.shiftLeft 1 t) i=true ↔ _;rw [aAP];simp
theorem aDn (n:Nat)(k:Nat->Sx):fS n k=k n:=by cases n <;> rfl
theorem xO {i:Nat}{ancs:List (Nat × Nat × Nat × Nat)}:∀ {l:List Edge} {s d:Nat} {k:Nat->Nat->Sx},aFD i ancs l s d k ≠ .bad->∃ s' d',aFD i ancs l s d k=k s' d' ∧
  (∀ e ∈ l,kX e=true->e.on < i∧aU s' e.on=true∧∃ q,nth ancs (i - 1 - e.on)=some q∧∀ j,aU q.1 j=true->aU s' j=true) ∧
  (∀ j,aU s j=true->aU s' j=true) ∧
  (∀ j,aU s' j=true->aU s j=true ∨ ∃ e ∈ l,kX e=true∧(e.on=j ∨ ∃ q,nth ancs (i - 1 - e.on)=some q∧aU q.1 j=true)) ∧
  (∀ t,aU d' t=true->aU d t=true ∨ ∃ e ∈ l,kX e=true∧∃ q,nth ancs (i - 1 - e.on)=some q∧(aU q.2.1 t=true ∨ aU q.2.2.1 t=true))
 | [],s,d,k,h=>by
   refine ⟨s,d,?_,sm,fun _ h=>h,fun _ h=>.inl h,fun _ h=>.inl h⟩;show fS s (fun s=>fS d fun d=>k s d)=_;rw [aDn,aDn]
 | e :: l,s,d,k,h=>by
   have hdef:aFD i ancs (e :: l) s d k=Bool.rec (motive:=fun _=>Sx) (aFD i ancs l s d k) (Bool.rec (motive:=fun _=>Sx) .bad (Option.rec (motive:=fun _=>Sx) .bad (fun q=>aFD i ancs l (Nat.lor (pV s e.on) q.1) (Nat.lor (Nat.lor d q.2.1) q.2.2.1) k) (nth ancs (Nat.sub (Nat.sub i 1) e.on))) (Nat.blt e.on i)) (kX e):=rfl;rw [hdef] at h ⊢
   cases hb:kX e with
   | false =>
     rw [hb] at h;obtain ⟨s',d',h1,h2,h3,h4,h5⟩:=xO (show aFD i ancs l s d k ≠ .bad from h);refine ⟨s',d',h1,fun e' he' hb'=>?_,h3,fun j hj=>?_,fun t ht=>?_⟩
     ·rcases av.1 he' with rfl|he'
      ·rw [hb] at hb';cases hb'
      ·exact h2 e' he' hb'
     ·rcases h4 j hj with h|⟨e',he',r⟩
      ·exact .inl h
      ·exact .inr ⟨e',be _ he',r⟩
     ·rcases h5 t ht with h|⟨e',he',r⟩
      ·exact .inl h
      ·exact .inr ⟨e',be _ he',r⟩
   | true =>
     rw [hb] at h
     cases hlt:Nat.blt e.on i with
     | false=>rw [hlt] at h;exact absurd rfl h
     | true =>
     rw [hlt] at h
     have hlt':e.on < i:=by simpa using hlt
     cases hq:nth ancs (Nat.sub (Nat.sub i 1) e.on) with
     | none=>rw [hq] at h;exact absurd rfl h
     | some q =>
     rw [hq] at h;have hq':nth ancs (i - 1 - e.on)=some q:=hq;obtain ⟨s',d',h1,h2,h3,h4,h5⟩:=xO (show aFD i ancs l (Nat.lor (pV s e.on) q.1) (Nat.lor (Nat.lor d q.2.1) q.2.2.1) k ≠ .bad from h);refine ⟨s',d',h1,fun e' he' hb'=>?_,fun j hj=>h3 j (by rw [kL,lD,hj];rfl),fun j hj=>?_,fun t ht=>?_⟩
     ·rcases av.1 he' with rfl|he'
      ·exact ⟨hlt',h3 _ (by rw [kL,lD];simp),q,hq',fun j hj=>h3 j (by rw [kL,hj];simp)⟩
      ·exact h2 e' he' hb'
     ·rcases h4 j hj with h|⟨e',he',r⟩
      ·rw [kL,lD] at h;simp only [Bool.or_eq_true,decide_eq_true_eq] at h
       rcases h with (h|h)|h
       ·exact .inl h
       ·exact .inr ⟨e,sm,hb,.inl h⟩
       ·exact .inr ⟨e,sm,hb,.inr ⟨q,hq',h⟩⟩
      ·exact .inr ⟨e',be _ he',r⟩
     ·rcases h5 t ht with h|⟨e',he',r⟩
      ·rw [kL,kL] at h;simp only [Bool.or_eq_true] at h
       rcases h with (h|h)|h
       ·exact .inl h
       ·exact .inr ⟨e,sm,hb,q,hq',.inl h⟩
       ·exact .inr ⟨e,sm,hb,q,hq',.inr h⟩
      ·exact .inr ⟨e',be _ he',r⟩
theorem oE {wr d:Nat}:∀ {l:List Operand} {s:Nat} {k:Nat->Sx},rZ wr d l s k ≠ .bad->∃ s',rZ wr d l s k=k s'∧(∀ t,aU s t=true->aU s' t=true) ∧
  ∀ t,Operand.tmp t ∈ l->aU s' t=true∧(aU wr t=true->aU d t=true)
 | [],s,k,h=>⟨s,aDn s k,fun _ h=>h,sm⟩
 | x :: l,s,k,h=>by
   cases x with
   | tmp t =>
     have hdef:rZ wr d (.tmp t :: l) s k=Bool.rec (motive:=fun _=>Sx) (rZ wr d l (pV s t) k) (Bool.rec (motive:=fun _=>Sx) .bad (rZ wr d l (pV s t) k) (aU d t)) (aU wr t):=rfl
     have key:rZ wr d (.tmp t :: l) s k=rZ wr d l (pV s t) k∧(aU wr t=true->aU d t=true):=by
      rw [hdef] at h ⊢
      cases hw:aU wr t with
      | false=>exact ⟨rfl,fun h=>by cases h⟩
      | true =>
        rw [hw] at h
        cases hd:aU d t with
        | false=>rw [hd] at h;exact absurd rfl h
        | true=>exact ⟨rfl,fun _=>rfl⟩
     rw [key.1] at h ⊢;obtain ⟨s',h1,h2,h3⟩:=oE h;refine ⟨s',h1,fun u hu=>h2 u (by rw [lD,hu];rfl),fun u hu=>?_⟩
     rcases av.1 hu with hu|hu
     ·cases hu;exact ⟨h2 t (by rw [lD];simp),key.2⟩
     ·exact h3 u hu
   | const c =>
     obtain ⟨s',h1,h2,h3⟩:=oE (show rZ wr d l s k ≠ .bad from h);exact ⟨s',h1,h2,fun u hu=>by rcases av.1 hu with hu|hu;cases hu;exact h3 u hu⟩
   | global c =>
     obtain ⟨s',h1,h2,h3⟩:=oE (show rZ wr d l s k ≠ .bad from h);exact ⟨s',h1,h2,fun u hu=>by rcases av.1 hu with hu|hu;cases hu;exact h3 u hu⟩
   | func c =>
     obtain ⟨s',h1,h2,h3⟩:=oE (show rZ wr d l s k ≠ .bad from h);exact ⟨s',h1,h2,fun u hu=>by rcases av.1 hu with hu|hu;cases hu;exact h3 u hu⟩
theorem aBs {anc t:Nat}:∀ {l:List (Nat × Nat × Nat × Nat)} {n:Nat},l.length=n->aBr anc t l (Nat.pred n)=true->∀ j q,j < n->nth l (n - 1 - j)=some q->aU q.2.2.2 t=true->aU anc j=true
 | [],n,hl,_,j,q,hj,_,_=>by simp at hl;omega
 | q0 :: l,n,hl,h,j,q,hj,hq,hb=>by
   have hl':l.length=n - 1:=by simp at hl;omega
   have h':Bool.rec (motive:=fun _=>Bool) (aBr anc t l (Nat.pred (Nat.pred n))) (Bool.rec (motive:=fun _=>Bool) false (aBr anc t l (Nat.pred (Nat.pred n))) (aU anc (Nat.pred n))) (aU q0.2.2.2 t)=true:=h;have hp:Nat.pred n=n - 1:=rfl;by_cases e:j=n - 1
   ·subst e;rw [show n - 1 - (n - 1)=0 by omega] at hq
    have:q0=q:=by cases hq;rfl
    subst this;rw [hb,hp] at h'
    cases hx:aU anc (n - 1) with
    | true=>rfl
    | false=>rw [hx] at h';cases h'
   ·have rest:aBr anc t l (Nat.pred (n - 1))=true:=by
     rw [<- hp]
     cases hx:aU q0.2.2.2 t with
     | false=>rw [hx] at h';exact h'
     | true =>
       rw [hx] at h'
       cases hy:aU anc (Nat.pred n) with
       | false=>rw [hy] at h';cases h'
       | true=>rw [hy] at h';exact h'
    refine aBs hl' rest j q om ?_ hb;have:n - 1 - j=(n - 1 - 1 - j)+1:=om;rw [this] at hq;exact hq
theorem aLl {i:Nat}{ancs:List (Nat × Nat × Nat × Nat)}{anc wr own seen:Nat}{d:Option Tmp}(h:aIg i ancs anc wr own seen d=true){t:Tmp}(ht:d=some t) :
  aU wr t=false∧aU own t=false∧(aU seen t=false ∨ aBr anc t ancs (Nat.pred i)=true):=by
 subst ht;have h':Bool.rec (motive:=fun _=>Bool) (Bool.rec (motive:=fun _=>Bool) (Bool.rec (motive:=fun _=>Bool) true (aBr anc t ancs (Nat.pred i)) (aU seen t)) false (aU own t)) false (aU wr t)=true:=h
 cases h1:aU wr t with
 | true=>rw [h1] at h';cases h'
 | false =>
   rw [h1] at h'
   cases h2:aU own t with
   | true=>rw [h2] at h';cases h'
   | false =>
     rw [h2] at h'
     cases h3:aU seen t with
     | false=>exact ⟨rfl,rfl,.inl rfl⟩
     | true=>rw [h3] at h';exact ⟨rfl,rfl,.inr h'⟩
theorem rO {f:V->V->Bool}(hf:∀ a b,f a b=true->a=b):∀ {l m:List V},eqL f l m=true->l=m
 | [],[],_=>rfl
 | [],_ :: _,h=>by cases h
 | _ :: _,[],h=>by cases h
 | x :: l,y :: m,h=>by
   have h':Bool.rec (motive:=fun _=>Bool) false (eqL f l m) (f x y)=true:=h
   cases hx:f x y with
   | false=>rw [hx] at h';cases h'
   | true=>rw [hx] at h';rw [hf x y hx,rO hf h']
theorem aLt {a b:Fn}(h:aTA a b=true):a=b:=by
 unfold aTA at h
 split at h
 ·rw [eq_of_beq h]
 ·cases h
theorem aFX {f:V->V->Bool}(hf:∀ a b,f a b=true->a=b){a b:V}(h:aEx f a b=true):a=b:=by
 unfold aEx at h
 split at h <;> first
  | rfl
  | (cases h;done)
  | (simp only [Bool.and_eq_true] at h)
  | skip
 ·rw [eq_of_beq h]
 ·rw [of_decide_eq_true h.1];rw [iZ] at h;rw [eq_of_beq h.2]
 ·rw [aj h]
 ·rw [aj h]
 ·rw [cY] at h;rw [eq_of_beq h]
 ·rw [aj h.1,aj h.2]
 ·obtain ⟨⟨⟨⟨⟨h1,h2⟩,h3⟩,h4⟩,h5⟩,h6⟩:=h;rw [aj h1,aj h2,aj h3,aj h4,aj h5,eq_of_beq h6]
 ·rw [aj h]
 ·rw [aLt h.1.1,rO hf h.1.2,rO hf h.2]
 ·rw [aj h]
 ·rw [aj h.1,hf _ _ h.2]
 ·rw [rO hf h]
 ·rw [rO hf h]
theorem aFY:∀ {n:Nat} {a b:V},vA n a b=true->a=b
 | 0,_,_,h=>by cases h
 | n+1,a,b,h=>aFX (fun a b h=>aFY h) (show aEx (vA n) a b=true from h)
end
end Go.Am
namespace Go.Am
open Classical
section
variable {P:Program}
noncomputable def lay (base:Nat)(al:Nat->Option O)(p:Nat->Prop)(H:Hs):Hs :=
 ⟨fun id=>if base <= id∧p (id - base)∧(al (id - base)).isSome then al (id - base) else H.get id,H.next⟩
theorem jY {base:Nat}{al al':Nat->Option O}{p p':Nat->Prop}(H:Hs)(h:∀ i,(p i∧(al i).isSome ↔ p' i∧(al' i).isSome)∧(p i->(al i).isSome->al i=al' i)):lay base al p H=lay base al' p' H:=by
 unfold lay
 congr 1
 funext id
 have h1:=h (id - base);by_cases hb:base <= id
 ·by_cases hp:p (id - base)∧(al (id - base)).isSome
  ·rw [if_pos ⟨hb,hp⟩,if_pos ⟨hb,h1.1.1 hp⟩,h1.2 hp.1 hp.2]
  ·rw [if_neg (fun x=>hp x.2),if_neg (fun x=>hp (h1.1.2 x.2))]
 ·rw [if_neg (fun x=>hb x.1),if_neg (fun x=>hb x.1)]
theorem yE {base:Nat}{al:Nat->Option O}{p:Nat->Prop}(H:Hs)(h:∀ i,p i->(al i).isSome->False):lay base al p H=H:=by
 unfold lay;cases H
 congr 1
 funext id
 rw [if_neg (fun x=>h _ x.2.1 x.2.2)]
theorem aQV {base:Nat}{al:Nat->Option O}{p:Nat->Prop}{i:Nat}{o:O}(H:Hs)(ha:al i=some o):(lay base al p H).put (base+i) (some o)=lay base al (fun j=>j=i ∨ p j) H:=by
 unfold lay Hs.put
 congr 1
 funext id
 by_cases e:id=base+i
 ·subst e;rw [if_pos rfl,if_pos ⟨om,.inl om,by rw [Nat.add_sub_cancel_left,ha];rfl⟩,Nat.add_sub_cancel_left,ha]
 ·rw [if_neg e];by_cases hb:base <= id
  ·have e':id - base ≠ i:=om;simp only [e',false_or]
  ·simp only [hb,false_and,if_false]
def cO (l:List Ch):Nat:=match l with|[]=>0|c :: _=>c.anc
noncomputable def kQ (l:List Ch)(H:Hs):Hs:=match l.getLast? with|some c=>c.st.hs|none=>H
theorem tK (c:Ch)(l:List Ch)(H:Hs):kQ (c :: l) H=kQ l c.st.hs:=by
 unfold kQ
 cases l with
 | nil=>rfl
 | cons d l =>
   rw [List.getLast?_cons_cons]
   cases h:(d :: l).getLast? with
   | none=>simp at h
   | some x=>rfl
theorem aMz (l:List Ch)(c:Ch)(H:Hs):kQ (l ++ [c]) H=c.st.hs:=by
 unfold kQ;simp
structure uE where
 anc:Nat
 dw:Nat
 env:Env
 val:V
 al:Option O
def tT (ops:Array Oper)(o:Oper)(t:Tmp):Prop:=Operand.tmp t ∈ o.op.operands.toList ∨ ∃ q,o.guard=some q∧qX ops.toList q.1=some t
def ERs (ρ:Rho)(E:Env)(tmps:Array Value)(s:Tmp->Prop):Prop:=∀ t v,s t->tget E t=some v->∃ v',tmps[t]?=some v'∧VR ρ v v'
theorem vC.of_ERs {ρ:Rho}{E:Env}{tmps:Array Value}{s:Tmp->Prop}(he:ERs ρ E tmps s)(hg:dZ ρ){l:List Operand}(hl:∀ t,Operand.tmp t ∈ l->s t):vC ρ E (evT tmps) l:=fun x hx v hv=>by
 cases x with
 | tmp t =>
   obtain ⟨v',a,b⟩:=he t v (hl t hx) hv
   have:evT tmps (.tmp t)=v':=by simp [evT,Array.getD_eq_getD_getElem?,a]
   rw [this];exact b
 | const c=>obtain ⟨a,rfl⟩:=hv;exact VR.ofV a
 | global g =>
   have hv':OpV (blank 0) (.global g) v:=hv;exact (vC.of_ER (E:=blank 0) (tmps:=tmps) (ρ:=ρ) (fun t v h=>absurd (blank_get h).2 om) hg [.global g]) (.global g) sm v hv'
 | func f =>
   have hv':OpV (blank 0) (.func f) v:=hv;exact (vC.of_ER (E:=blank 0) (tmps:=tmps) (ρ:=ρ) (fun t v h=>absurd (blank_get h).2 om) hg [.func f]) (.func f) sm v hv'
def Gd (ops:Array Oper)(E:Env)(o:Oper)(b:Bool):Prop:=∀ (ρ:Rho) (tmps:Array Value),ERs ρ E tmps (tT ops o)->Region.wanted o (yielded ops tmps)=b
theorem aLv {E:Env}{ops:Array Oper}{o:Oper}{yes no:Prop}(h:dL E ops.toList o.guard yes no):(yes∧Gd ops E o true) ∨ (no∧Gd ops E o false):=by
 cases hg:o.guard with
 | none =>
   rw [hg] at h;exact .inl ⟨h,fun ρ tmps _=>by simp [Region.wanted,hg]⟩
 | some q =>
   rw [hg] at h;obtain ⟨t,h1,v,h3,h4⟩:=zN h;have hr:tT ops o t:=.inr ⟨q,hg,h1⟩
   have hd:(ops[q.1]?).bind (·.dst)=some t:=by
    unfold qX at h1;rw [nth_eq] at h1
    have e:ops.toList[q.1]?=ops[q.1]?:=by simp
    rw [e] at h1
    cases ho:ops[q.1]? with
    | none=>rw [ho] at h1;cases h1
    | some o'=>rw [ho] at h1;exact h1
   have hw:∀ tmps,Region.wanted o (yielded ops tmps)=(yielded ops tmps q.1 == some q.2):=fun tmps=>by simp [Region.wanted,hg]
   split at h4
   ·rename_i b
    have hy:∀ (ρ:Rho) (tmps:Array Value),ERs ρ E tmps (tT ops o)->yielded ops tmps q.1=some b:=fun ρ tmps he=>by
     obtain ⟨v',a,c⟩:=he t _ hr h3;cases c;unfold yielded;rw [hd,Option.bind_some,a]
    have hf:∀ (x:Bool),(b == x)=true->Gd ops E o (b == q.2)->True:=fun _ _ _=>trivial
    have hgd:Gd ops E o (b == q.2):=fun ρ tmps he=>by rw [hw,hy ρ tmps he];rfl
    cases b <;> cases hq:q.2 <;> rw [hq] at h4 hgd
    ·exact .inl ⟨h4,hgd⟩
    ·exact .inr ⟨h4,hgd⟩
    ·exact .inr ⟨h4,hgd⟩
    ·exact .inl ⟨h4,hgd⟩
   ·refine .inr ⟨h4,fun ρ tmps he=>?_⟩;obtain ⟨v',a,c⟩:=he t _ hr h3;cases c;rw [hw];unfold yielded;rw [hd,Option.bind_some,a];rfl
   ·exact h4.elim
def vB (ops:Array Oper)(E0:Env)(R:Nat->uE)(i:Nat)(E:Env):Prop :=
 ∀ t v,tget E t=some v->(tget E0 t).isSome∧((∃ k o,k < i∧ops[k]?=some o∧o.dst=some t∧v=(R k).val) ∨ ((∀ k o,k < i->ops[k]?=some o->o.dst ≠ some t)∧tget E0 t=some v))
inductive Kind (P:Program) (ops:Array Oper) (base:Nat) (d:Dr) (i:Nat) (o:Oper) (r:uE):Prop where
 | skip (g:Gd ops r.env o false) (hv:r.val=undefV) (ha:r.al=none) (hn:∀ c ∈ d.chs,c.idx ≠ i)
 | pure (g:Gd ops r.env o true) (hd:∀ c,o.op ≠ .defer c) (h:iV P o.op r.env r.val) (ha:r.al=none) (hn:∀ c ∈ d.chs,c.idx ≠ i)
 | read (g:Gd ops r.env o true) (hd:∀ c,o.op ≠ .defer c) (sel:List (Nat × Nat × O)) (h:⟨o.op,i,r.anc,r.env,r.val,sel⟩ ∈ d.rds) (ha:r.al=none) (hn:∀ c ∈ d.chs,c.idx ≠ i)
 | alloc (g:Gd ops r.env o true) (hd:∀ c,o.op ≠ .defer c) (ob:O) (mk:Nat->V) (ha:r.al=some ob) (h:nD P o.op r.env ob mk) (hv:r.val=mk (base+i)) (hm:(i,base+i) ∈ d.als) (hn:∀ c ∈ d.chs,c.idx ≠ i)
 | chain (g:Gd ops r.env o true) (hd:∀ c,o.op ≠ .defer c) (c:Ch) (hc:c ∈ d.chs) (hi:c.idx=i) (ha:r.al=none)
def aAB (P:Program)(ops:Array Oper)(base:Nat)(R:Nat->uE)(H:Hs)(later:List Ch)(c:Ch)(earlier:List Ch):Prop :=
 c.anc=(R c.idx).anc∧(∀ e ∈ earlier,aU c.anc e.idx=true)∧∃ o,ops[c.idx]?=some o ∧
  OpW P o.op (R c.idx).env (lay base (fun i=>(R i).al) (fun i=>aU c.anc i=true∧aU (cO earlier) i=false) c.st.hs) (R c.idx).val (kQ later H)
structure Inv (P:Program)(ops:Array Oper)(base:Nat)(E0:Env)(H0:Hs)(n:Nat)(ancs:List (Nat × Nat × Nat × Nat))(wr seen:Nat)(d:Dr)(R:Nat->uE):Prop where
 out:∀ i,n <= i->(R i).al=none
 alen:ancs.length=n
 ancs:∀ j,j < n->∃ o own,ops[j]?=some o∧nth ancs (n - 1 - j)=some ((R j).anc,(R j).dw,dV o.dst,own)∧∀ t,tT ops o t->aU own t=true
 wr:∀ k o t,k < n->ops[k]?=some o->o.dst=some t->aU wr t=true
 seen:∀ k o t,k < n->ops[k]?=some o->tT ops o t->aU seen t=true
 dw:∀ i t,i < n->aU (R i).dw t=true->∃ k o,aU (R i).anc k=true∧ops[k]?=some o∧o.dst=some t
 lt:∀ i j,i < n->aU (R i).anc j=true->j < i
 edge:∀ i o e,i < n->ops[i]?=some o->e ∈ o.after.toList->kX e=true->e.on < i
 back:∀ i o j,i < n->ops[i]?=some o->aU (R i).anc j=true->∃ e ∈ o.after.toList,kX e=true∧(e.on=j ∨ aU (R e.on).anc j=true)
 trans:∀ i j k,i < n->aU (R i).anc j=true->aU (R j).anc k=true->aU (R i).anc k=true
 reads:∀ i o t k ok,i < n->k < n->ops[i]?=some o->tT ops o t->ops[k]?=some ok->ok.dst=some t->aU (R i).anc k=true ∨ aU (R k).anc i=true
 dst:∀ i o k ok t,i < n->k < n->ops[i]?=some o->ops[k]?=some ok->o.dst=some t->ok.dst=some t->i=k
 slot:∀ i o t,i < n->ops[i]?=some o->o.dst=some t->(tget E0 t).isSome
 envs:∀ i,i < n->vB ops E0 R i (R i).env
 env:vB ops E0 R n d.env
 kind:∀ i o,i < n->ops[i]?=some o->Kind P ops base d i o (R i)
 chlt:∀ c ∈ d.chs,c.idx < n
 chain:∀ later c earlier,d.chs=later ++ c :: earlier->aAB P ops base R d.st.hs later c earlier
 start:kQ d.chs d.st.hs=H0
 pend1:∀ q ∈ d.pend,q.2.1=base+q.1∧(R q.1).al=some q.2.2
 rsel:∀ r ∈ d.rds,∀ q ∈ r.sel,q.2.1=base+q.1∧(R q.1).al=some q.2.2∧aU r.anc q.1=true
 pend2:∀ i,(R i).al.isSome->((∃ q ∈ d.pend,q.1=i) ↔ aU (cO d.chs) i=false)
end
section
variable {P:Program}
theorem aGs {base:Nat}{al:Nat->Option O}{p:Nat->Prop}{i:Nat}{o:O}(H:Hs)(ha:al i=some o):lay base al p (H.put (base+i) (some o))=lay base al (fun j=>j=i ∨ p j) H:=by
 unfold lay Hs.put
 congr 1
 funext id
 by_cases e:id=base+i
 ·subst e
  have hs:(al (base+i - base)).isSome:=by rw [Nat.add_sub_cancel_left,ha];rfl
  rw [if_pos (⟨om,.inl om,hs⟩:base <= base+i∧(base+i - base=i ∨ p (base+i - base))∧(al (base+i - base)).isSome=true)];by_cases hp:p (base+i - base)
  ·rw [if_pos ⟨om,hp,hs⟩]
  ·rw [if_neg (fun x=>hp x.2.1)];show (if base+i=base+i then some o else H.get (base+i))=_;rw [if_pos rfl,Nat.add_sub_cancel_left,ha]
 ·by_cases hb:base <= id
  ·have e':id - base ≠ i:=om;simp only [e',false_or,e,if_false]
  ·rw [if_neg (fun x=>hb x.1),if_neg (fun x=>hb x.1)];show (if id=base+i then some o else H.get id)=_;rw [if_neg e]
theorem oS {base s:Nat}{al:Nat->Option O}:∀ {l:List (Nat × Nat × O)} {S:St} {k:List (Nat × Nat × O)->St->Prop},(∀ q ∈ l,q.2.1=base+q.1∧al q.1=some q.2.2)->nY s l S k ->
  ∃ l' S',k l' S'∧(∀ q,q ∈ l' ↔ q ∈ l∧aU s q.1=false)∧S'.hs=lay base al (fun i=>(∃ q ∈ l,q.1=i)∧aU s i=true) S.hs
 | [],S,k,hl,h=>⟨[],S,h,sm,(yE _ fun i ⟨⟨q,hq,_⟩,_⟩ _=>by cases hq).symm⟩
 | q :: l,S,k,hl,h=>by
   obtain ⟨hq1,hq2⟩:=hl q sm;have hl':∀ q ∈ l,q.2.1=base+q.1∧al q.1=some q.2.2:=fun x hx=>hl x (by simp [hx]);have h':Bool.rec (motive:=fun _=>Prop) (nY s l S fun l S=>k (q :: l) S) (bD q.2.1 (some q.2.2) S fun S=>nY s l S k) (aU s q.1):=h
   cases hb:aU s q.1 with
   | false =>
     rw [hb] at h';obtain ⟨l',S',h1,h2,h3⟩:=oS hl' (show nY s l S fun l S=>k (q :: l) S from h');refine ⟨q :: l',S',h1,fun x=>?_,?_⟩
     ·constructor
      ·intro hx
       rcases av.1 hx with rfl|hx
       ·exact ⟨sm,hb⟩
       ·exact ⟨by simp [((h2 x).1 hx).1],((h2 x).1 hx).2⟩
      ·rintro ⟨hx,hx2⟩
       rcases av.1 hx with rfl|hx
       ·simp
       ·exact be _ ((h2 x).2 ⟨hx,hx2⟩)
     ·rw [h3];refine jY _ fun i=>⟨⟨fun ⟨⟨⟨x,hx,hxi⟩,hbi⟩,hs⟩=>⟨⟨⟨x,by simp [hx],hxi⟩,hbi⟩,hs⟩,fun ⟨⟨⟨x,hx,hxi⟩,hbi⟩,hs⟩=>?_⟩,fun _ _=>rfl⟩
      rcases av.1 hx with rfl|hx
      ·subst hxi;rw [hb] at hbi;cases hbi
      ·exact ⟨⟨⟨x,hx,hxi⟩,hbi⟩,hs⟩
   | true =>
     rw [hb] at h';obtain ⟨S1,h4,h5⟩:=bS (show bD q.2.1 (some q.2.2) S fun S=>nY s l S k from h');obtain ⟨l',S',h1,h2,h3⟩:=oS hl' h4;refine ⟨l',S',h1,fun x=>?_,?_⟩
     ·rw [h2]
      constructor
      ·rintro ⟨a,b⟩;exact ⟨by simp [a],b⟩
      ·rintro ⟨hx,hx2⟩
       rcases av.1 hx with rfl|hx
       ·rw [hb] at hx2;cases hx2
       ·exact ⟨hx,hx2⟩
     ·rw [h3,h5,hq1,aGs _ hq2];refine jY _ fun i=>⟨⟨fun ⟨hi,hs⟩=>⟨?_,hs⟩,fun ⟨⟨⟨x,hx,hxi⟩,hbi⟩,hs⟩=>⟨?_,hs⟩⟩,fun _ _=>rfl⟩
      ·rcases hi with rfl|⟨⟨x,hx,hxi⟩,hbi⟩
       ·exact ⟨⟨q,sm,rfl⟩,hb⟩
       ·exact ⟨⟨x,by simp [hx],hxi⟩,hbi⟩
      ·rcases av.1 hx with rfl|hx
       ·exact .inl hxi.symm
       ·exact .inr ⟨⟨x,hx,hxi⟩,hbi⟩
theorem uA {base:Nat}{al:Nat->Option O}:∀ {l:List (Nat × Nat × O)} {S:St} {k:St->Prop},(∀ q ∈ l,q.2.1=base+q.1∧al q.1=some q.2.2)->nX l S k ->
  ∃ S',k S'∧S'.hs=lay base al (fun i=>∃ q ∈ l,q.1=i) S.hs
 | [],S,k,hl,h=>⟨S,h,(yE _ fun i ⟨q,hq,_⟩ _=>by cases hq).symm⟩
 | q :: l,S,k,hl,h=>by
   obtain ⟨hq1,hq2⟩:=hl q sm;obtain ⟨S1,h4,h5⟩:=bS (show bD q.2.1 (some q.2.2) S fun S=>nX l S k from h);obtain ⟨S',h1,h3⟩:=uA (fun x hx=>hl x (by simp [hx])) h4;refine ⟨S',h1,?_⟩;rw [h3,h5,hq1,aGs _ hq2];refine jY _ fun i=>⟨⟨fun ⟨hi,hs⟩=>⟨?_,hs⟩,fun ⟨⟨x,hx,hxi⟩,hs⟩=>⟨?_,hs⟩⟩,fun _ _=>rfl⟩
   ·rcases hi with rfl|⟨x,hx,hxi⟩
    ·exact ⟨q,sm,rfl⟩
    ·exact ⟨x,by simp [hx],hxi⟩
   ·rcases av.1 hx with rfl|hx
    ·exact .inl hxi.symm
    ·exact .inr ⟨x,hx,hxi⟩
theorem vB.congr {ops:Array Oper}{E0 E:Env}{R R':Nat->uE}{i:Nat}(h:vB ops E0 R i E)(hR:∀ k,k < i->R' k=R k):vB ops E0 R' i E:=fun t v ht=>by
 obtain ⟨h0,h1⟩:=h t v ht;refine ⟨h0,?_⟩
 rcases h1 with ⟨k,o,a,b,c,e⟩|h1
 ·exact .inl ⟨k,o,a,b,c,by rw [hR k a];exact e⟩
 ·exact .inr h1
theorem vB.put {ops:Array Oper}{E0 E:Env}{R R':Nat->uE}{n:Nat}{o:Oper}{v:V}(h:vB ops E0 R n E)(hR:∀ k,k < n->R' k=R k)(ho:ops[n]?=some o)(hv:(R' n).val=v)
  {k:Env->Prop} (hp:cW E o.dst v k):∃ E',k E'∧vB ops E0 R' (n+1) E'∧∀ t,o.dst=some t->(tget E0 t).isSome:=by
 cases hd:o.dst with
 | none =>
   rw [hd] at hp;refine ⟨E,hp,fun t u ht=>?_,fun t ht=>by cases ht⟩;obtain ⟨h0,h1⟩:=h.congr hR t u ht;refine ⟨h0,?_⟩
   rcases h1 with ⟨k,o',a,b,c,e⟩|⟨h1,h2⟩
   ·exact .inl ⟨k,o',om,b,c,e⟩
   ·refine .inr ⟨fun k o' hk hok=>?_,h2⟩
    rcases Nat.lt_succ_iff_lt_or_eq.1 hk with hk|rfl
    ·exact h1 k o' hk hok
    ·rw [ho] at hok;cases hok;rw [hd];simp
 | some s =>
   rw [hd] at hp;obtain ⟨E',h3,h4,h5⟩:=tset_spec (show tset E s v k from hp);obtain ⟨u0,hu0⟩:=bc.1 h4;have hs0:(tget E0 s).isSome:=(h s u0 hu0).1;refine ⟨E',h3,fun t u ht=>?_,fun t ht=>by cases ht;exact hs0⟩;rw [h5] at ht;by_cases e:t=s
   ·subst e;simp at ht;subst ht;exact ⟨hs0,.inl ⟨n,o,om,ho,hd,hv.symm⟩⟩
   ·simp [e] at ht;obtain ⟨h0,h1⟩:=h.congr hR t u ht;refine ⟨h0,?_⟩
    rcases h1 with ⟨k,o',a,b,c,e⟩|⟨h1,h2⟩
    ·exact .inl ⟨k,o',om,b,c,e⟩
    ·refine .inr ⟨fun k o' hk hok=>?_,h2⟩
     rcases Nat.lt_succ_iff_lt_or_eq.1 hk with hk|rfl
     ·exact h1 k o' hk hok
     ·rw [ho] at hok;cases hok;rw [hd];simpa using Ne.symm e
def tR (R:Nat->uE)(n:Nat)(r:uE):Nat->uE:=fun i=>if i=n then r else R i
theorem jT (R:Nat->uE)(n:Nat)(r:uE):tR R n r n=r:=by simp [tR]
theorem sJ (R:Nat->uE){n i:Nat}(r:uE)(h:i ≠ n):tR R n r i=R i:=by simp [tR,h]
theorem lW (R:Nat->uE)(n:Nat)(r:uE):∀ k,k < n->tR R n r k=R k:=fun k h=>sJ R r om
theorem aAB.congr {ops:Array Oper}{base:Nat}{R R':Nat->uE}{H:Hs}{later earlier:List Ch}{c:Ch}{n:Nat}(h:aAB P ops base R H later c earlier)(hc:c.idx < n)(hR:∀ k,k < n->R' k=R k)
  (hlt:∀ j,aU c.anc j=true->j < c.idx):aAB P ops base R' H later c earlier:=by
 obtain ⟨h1,h2,o,h3,h4⟩:=h;refine ⟨by rw [hR _ hc];exact h1,h2,o,h3,?_⟩;rw [hR _ hc]
 have:lay base (fun i=>(R' i).al) (fun i=>aU c.anc i=true∧aU (cO earlier) i=false) c.st.hs=lay base (fun i=>(R i).al) (fun i=>aU c.anc i=true∧aU (cO earlier) i=false) c.st.hs:=by
  refine jY _ fun i=>?_;by_cases hb:aU c.anc i=true
  ·have:i < n:=by have:=hlt i hb;omega
   rw [hR i this];exact ⟨Iff.rfl,fun _ _=>rfl⟩
  ·exact ⟨⟨fun x=>absurd x.1.1 hb,fun x=>absurd x.1.1 hb⟩,fun x=>absurd x.1 hb⟩
 rw [this];exact h4
theorem uK {anc:Nat}{q:Nat × Nat × O}:∀ {l:List (Nat × Nat × O)},q ∈ iY anc l->q ∈ l∧aU anc q.1=true
 | [],h=>by cases h
 | x :: l,h=>by
   have h':q ∈ Bool.rec (motive:=fun _=>List (Nat × Nat × O)) (iY anc l) (x :: iY anc l) (aU anc x.1):=h
   cases hb:aU anc x.1 with
   | false =>
     rw [hb] at h';obtain ⟨h1,h2⟩:=uK (show q ∈ iY anc l from h');exact ⟨be _ h1,h2⟩
   | true =>
     rw [hb] at h'
     rcases av.1 h' with rfl|h'
     ·exact ⟨sm,hb⟩
     ·obtain ⟨h1,h2⟩:=uK h';exact ⟨be _ h1,h2⟩
theorem qN {prev:Nat}:∀ {l:List (Nat × Nat × O)} {S:St} {k:St->Prop},gZ prev l S k ->
  ∃ S',k S'∧S'.hs.next=S.hs.next∧∀ id o,S'.hs.get id=some o->S.hs.get id=some o ∨ ∃ q ∈ l,aU prev q.1=false∧q.2.1=id∧q.2.2=o
 | [],S,k,h=>⟨S,h,rfl,fun _ _ h=>.inl h⟩
 | x :: l,S,k,h=>by
   have h':Bool.rec (motive:=fun _=>Prop) (bD x.2.1 (some x.2.2) S fun S=>gZ prev l S k) (gZ prev l S k) (aU prev x.1):=h
   cases hb:aU prev x.1 with
   | true =>
     rw [hb] at h';obtain ⟨S',h1,h2,h3⟩:=qN (show gZ prev l S k from h');refine ⟨S',h1,h2,fun id o ho=>?_⟩
     rcases h3 id o ho with h4|⟨q,hq,h4⟩
     ·exact .inl h4
     ·exact .inr ⟨q,be _ hq,h4⟩
   | false =>
     rw [hb] at h';obtain ⟨S1,h1,h2⟩:=bS h';obtain ⟨S',h3,h4,h5⟩:=qN h1;refine ⟨S',h3,by rw [h4,h2];rfl,fun id o ho=>?_⟩
     rcases h5 id o ho with h6|⟨q,hq,h6⟩
     ·rw [h2] at h6;have h7:(if id=x.2.1 then some x.2.2 else S.hs.get id)=some o:=h6;by_cases e:id=x.2.1
      ·rw [if_pos e] at h7;exact .inr ⟨x,sm,hb,e.symm,Option.some.inj h7⟩
      ·rw [if_neg e] at h7;exact .inl h7
     ·exact .inr ⟨q,be _ hq,h6⟩
end
end Go.Am
