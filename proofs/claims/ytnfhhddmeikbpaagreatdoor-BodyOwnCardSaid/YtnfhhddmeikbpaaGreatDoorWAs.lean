/- Part 19 of the proof that BodyOwn returns true, and leaves its arguments as they were, for every input, over a start where the listed variables hold what the program lays: the statement Rows.BodyOwnCardSaid. -/
import Derived.Lib.LaidU8
import Derived.Test.YtnfhhddmeikbpaaGreatDoorWAk
import Derived.Test.YtnfhhddmeikbpaaGreatDoorRows
import Derived.Test.YtnfhhddmeikbpaaGreatDoorWAr
import Derived.Deep.SlicePairs
import Derived.ProofKit
import Derived.PinnedBridge
import Derived.Lay
set_option linter.unusedVariables false
set_option linter.unusedSimpArgs false
/- A package-level variable that reads as its datum holds the datum's cells. -/
namespace Go.Am
open Go.Lib
mutual
/-- The cells of a datum without pointers. -/
def flatD:DataW Unit→List Value
 | .lit (.bool b)=>[.bool b]
 | .lit (.int k n)=>[.int k n]
 | .lit (.float k b)=>[.float k b]
 | .lit (.string bs)=>[.string ⟨⟨bs⟩⟩]
 | .agg ps=>flatDs ps
 | _=>[]
def flatDs:List (DataW Unit)→List Value
 | []=>[]
 | d :: ds=>flatD d ++ flatDs ds
end
theorem drop_take_add {cs:List Value} {o n m:Nat}:(cs.drop o).take (n+m)=(cs.drop o).take n ++ (cs.drop (o+n)).take m:=by
 rw [List.take_add,List.drop_drop]
/-- That a datum's parts lie one behind the other. -/
def tileF (P:Program) (chk:TypeId→DataW Unit→Bool):Nat→List Field→List (DataW Unit)→Option Nat
 | o,[],[]=>some o
 | o,f :: fs,d :: ds=>if f.offset=o∧chk f.type d=true∧(flatD d).length=P.cellsOf f.type then tileF P chk (o+P.cellsOf f.type) fs ds else none
 | _,_,_=>none
def tiles (P:Program):Nat→TypeId→DataW Unit→Bool
 | 0,_,_=>false
 | n+1,t,d=>match P.underlying t,d with
   | some (.struct fs),.agg ps=>tileF P (tiles P n) 0 fs.toList ps == some (P.cellsOf t)
   | some (.array m e),.agg ps=>ps.length == m && P.cellsOf t == m * P.cellsOf e && ps.all fun d=>tiles P n e d && (flatD d).length == P.cellsOf e
   | some .bool,.lit _=>true
   | some (.int _),.lit _=>true
   | some (.float _),.lit _=>true
   | some .string,.lit _=>true
   | _,_=>false
section
variable {P:Program} {w:World} {base:Nat} {sp:Nat→Bool} {held:Bool}
theorem trod_float {fuel:Nat} {t:TypeId} {k:FloatKind} {cs:List Value} {x:DataW Unit × List MemPlace} (ht:P.underlying t=some (.float k)) (h:DataW.trod (fun _=>()) P w base sp held fuel t cs=some x):∃ n,cs=[.float k n]∧x=(.lit (.float k n),[]):=by
 cases fuel with
 | zero=>simp [DataW.trod] at h
 | succ n =>
   unfold DataW.trod at h
   rw [ht] at h
   split at h <;> simp_all
theorem trod_array {fuel:Nat} {t e:TypeId} {m:Nat} {cs:List Value} {x:DataW Unit × List MemPlace} (ht:P.underlying t=some (.array m e)) (h:DataW.trod (fun _=>()) P w base sp held fuel t cs=some x) :
  ∃ (n:Nat) (xs:List (DataW Unit × List MemPlace)),fuel=n+1∧x=(.agg (xs.map (·.1)),xs.flatMap (·.2))∧cs.length=P.cellsOf t∧(List.range m).mapM (fun i=>DataW.trod (fun _=>()) P w base sp held n e ((cs.drop (i * P.cellsOf e)).take (P.cellsOf e)))=some xs:=by
 cases fuel with
 | zero=>simp [DataW.trod] at h
 | succ n =>
   unfold DataW.trod at h
   rw [ht] at h
   have h':(if cs.length=P.cellsOf t then ((List.range m).mapM fun i=>DataW.trod (fun _=>()) P w base sp held n e ((cs.drop (i * P.cellsOf e)).take (P.cellsOf e))).map fun xs=>((.agg (xs.map (·.1)),xs.flatMap (·.2)):DataW Unit × List MemPlace) else none)=some x:=by
    split at h <;> simp_all
   split at h'
   ·rename_i hl
    obtain ⟨xs,h1,h2⟩:=Option.map_eq_some_iff.1 h'
    exact ⟨n,xs,rfl,h2.symm,hl,h1⟩
   ·cases h'
theorem mapM_at {α β:Type} {f:α→Option β}:∀ {l:List α} {xs:List β},l.mapM f=some xs→xs.length=l.length∧∀ (i:Nat) (a:α),l[i]?=some a→f a=xs[i]?
 | [],xs,h=>by simp at h;subst h;simp
 | a :: l,xs,h=>by
   rw [List.mapM_cons] at h
   cases ha:f a with
   | none=>rw [ha] at h;simp at h
   | some b =>
     rw [ha] at h
     cases hl:l.mapM f with
     | none=>rw [hl] at h;simp at h
     | some ys =>
       rw [hl] at h
       simp at h
       subst h
       obtain ⟨h1,h2⟩:=mapM_at hl
       refine ⟨by simp [h1],fun i x hx=>?_⟩
       cases i with
       | zero=>simp at hx;subst hx;simpa using ha
       | succ i=>simpa using h2 i x (by simpa using hx)
theorem tileF_cells {chk:TypeId→DataW Unit→Bool} {cs:List Value}:∀ {fs:List Field} {ds:List (DataW Unit)} {o e:Nat},tileF P chk o fs ds=some e →
  (∀ (i:Nat) (f:Field) (d:DataW Unit),fs[i]?=some f→ds[i]?=some d→chk f.type d=true→(cs.drop f.offset).take (P.cellsOf f.type)=flatD d)→o ≤ e∧(cs.drop o).take (e - o)=flatDs ds
 | [],[],o,e,h,_=>by
   have h':some o=some e:=h
   cases h'
   exact ⟨Nat.le_refl _,by simp [flatDs]⟩
 | f :: fs,d :: ds,o,e,h,hp=>by
   unfold tileF at h
   split at h
   ·rename_i hc
    obtain ⟨h1,h2,h3⟩:=hc
    obtain ⟨h4,h5⟩:=tileF_cells (fs:=fs) (ds:=ds) h fun i f' d' hf hd hk=>hp (i+1) f' d' (by simpa using hf) (by simpa using hd) hk
    refine ⟨by omega,?_⟩
    have h6:=hp 0 f d rfl rfl h2
    rw [h1] at h6
    rw [show e - o=P.cellsOf f.type+(e - (o+P.cellsOf f.type)) by omega,drop_take_add,h6,h5]
    rfl
   ·cases h
 | [],_ :: _,_,_,h,_=>by cases h
 | _ :: _,[],_,_,h,_=>by cases h
theorem array_cells {cs:List Value} {c:Nat}:∀ {ds:List (DataW Unit)} {k:Nat},(∀ (i:Nat) (d:DataW Unit),ds[i]?=some d→(cs.drop ((k+i) * c)).take c=flatD d)→(cs.drop (k * c)).take (ds.length * c)=flatDs ds
 | [],k,_=>by simp [flatDs]
 | d :: ds,k,h=>by
   have h1:=h 0 d rfl
   have h2:=array_cells (ds:=ds) (k:=k+1) fun i d' hd=>by
    have:=h (i+1) d' (by simpa using hd)
    rw [show k+1+i=k+(i+1) by omega];exact this
   rw [List.length_cons,Nat.add_mul,Nat.one_mul,Nat.add_comm (ds.length * c) c,drop_take_add]
   rw [Nat.add_zero] at h1
   rw [h1,show k * c+c=(k+1) * c by rw [Nat.add_mul,Nat.one_mul],h2]
   rfl
theorem flat_of_trod:∀ (n:Nat) {fuel:Nat} {t:TypeId} {d:DataW Unit} {cs:List Value} {p:List MemPlace},tiles P n t d=true→DataW.trod (fun _=>()) P w base sp held fuel t cs=some (d,p)→cs=flatD d
 | 0,_,_,_,_,_,h,_=>by cases h
 | n+1,fuel,t,d,cs,p,ht,h=>by
   unfold tiles at ht
   split at ht
   ·rename_i fs ps hu
    obtain ⟨xs,m,rfl,hx,hl,hxl,hall⟩:=DataW.trod_struct hu h
    have e1:=congrArg Prod.fst hx
    simp only [DataW.agg.injEq] at e1
    have ht':tileF P (tiles P n) 0 fs.toList ps=some (P.cellsOf t):=by simpa using ht
    obtain ⟨_,h2⟩:=tileF_cells (cs:=cs) ht' fun i f d' hf hd hk=>by
     have h3:=hall i f (by simpa using hf)
     rw [e1,List.getElem?_map] at hd
     obtain ⟨y,hy,rfl⟩:=Option.map_eq_some_iff.1 hd
     rw [hy] at h3
     exact flat_of_trod n hk h3
    rw [List.drop_zero,Nat.sub_zero,List.take_of_length_le (by omega)] at h2
    rw [h2];rfl
   ·rename_i m e ps hu
    obtain ⟨k,xs,rfl,hx,hl,hall⟩:=trod_array hu h
    have e1:=congrArg Prod.fst hx
    simp only [DataW.agg.injEq] at e1
    simp only [Bool.and_eq_true,beq_iff_eq,List.all_eq_true] at ht
    obtain ⟨⟨h1,h2⟩,h3⟩:=ht
    obtain ⟨h4,h5⟩:=mapM_at hall
    have h6:=array_cells (cs:=cs) (c:=P.cellsOf e) (ds:=ps) (k:=0) fun i d' hd=>by
     have hi:i < m:=by rw [← h1];exact (List.getElem?_eq_some_iff.1 hd).1
     have h7:=h5 i i (by simp [hi])
     obtain ⟨q1,q2⟩:=h3 d' (List.mem_of_getElem? hd)
     rw [e1,List.getElem?_map] at hd
     obtain ⟨y,hy,rfl⟩:=Option.map_eq_some_iff.1 hd
     rw [hy] at h7
     rw [Nat.zero_add]
     exact flat_of_trod n q1 h7
    rw [Nat.zero_mul,List.drop_zero,List.take_of_length_le (by rw [h1,← h2,hl];exact Nat.le_refl _)] at h6
    rw [h6];rfl
   ·rename_i l hu
    obtain ⟨b,rfl,hx⟩:=DataW.trod_bool hu h
    cases hx;rfl
   ·rename_i k l hu
    obtain ⟨b,rfl,hx,_⟩:=DataW.trod_int hu h
    cases hx;rfl
   ·rename_i k l hu
    obtain ⟨b,rfl,hx⟩:=trod_float hu h
    cases hx;rfl
   ·rename_i l hu
    obtain ⟨b,rfl,hx,_⟩:=DataW.trod_string hu h
    cases hx
    show _=[Value.string ⟨⟨b.data.toList⟩⟩]
    simp
   ·cases ht
end
end Go.Am
/- BodyOwn in a world that holds the laid variables and the arguments. -/
namespace Go.Am
open Go.Proofs Go.Proofs.YtnfhhddmeikbpaaGreatDoor
set_option maxRecDepth 100000
def putO:List (Nat × Option O)→Hs→Hs
 | [],H=>H
 | q :: l,H=>putO l (H.put q.1 q.2)
theorem buildO_spec:∀ {l:List (Nat × Option O)} {S:St} {k:St→Prop},buildO l S k→∃ S',k S'∧S'.hs=putO l S.hs
 | [],S,k,h=>⟨S,h,rfl⟩
 | q :: l,S,k,h=>by
   obtain ⟨S1,h1,h2⟩:=put_spec (show putK q.1 q.2 S fun S=>buildO l S k from h)
   obtain ⟨S2,h3,h4⟩:=buildO_spec h1
   exact ⟨S2,h3,by rw [h4,h2];rfl⟩
theorem putO_get:∀ {l:List (Nat × Option O)} {H:Hs} {i:Nat} {o:O},(putO l H).get i=some o→(i,some o) ∈ l ∨ H.get i=some o
 | [],H,i,o,h=>.inr h
 | q :: l,H,i,o,h=>by
   rcases putO_get (l:=l) (show (putO l (H.put q.1 q.2)).get i=some o from h) with h1|h1
   ·exact .inl (List.mem_cons_of_mem _ h1)
   ·have h2:(if i=q.1 then q.2 else H.get i)=some o:=h1
    by_cases e:i=q.1
    ·rw [if_pos e] at h2
     subst e
     refine .inl ?_
     rw [← h2]
     simp
    ·rw [if_neg e] at h2;exact .inr h2
theorem putO_next:∀ (l:List (Nat × Option O)) (H:Hs),(putO l H).next=H.next
 | [],_=>rfl
 | q :: l,H=>putO_next l (H.put q.1 q.2)
/-- The laid variables that awake() reads. -/
def nine:List (Nat × DataW Unit):=[(16,Rows.laid_math_bits_deBruijn32tab),(17,Rows.laid_math_bits_deBruijn64tab),(8,Rows.laid_internal_strconv_float32info),(10,Rows.laid_internal_strconv_float64info),(9,Rows.laid_internal_strconv_optimize),(7,Rows.laid_internal_strconv_uint64pow10),(2,Rows.laid_unicode_utf8_acceptRanges),(4,Rows.laid_gauger_template_none),(1,Rows.laid_unicode_utf8_first)]
theorem start_nine (e:Nat→TypeId):startObjs e=nine.map fun x=>(x.1,O.cells ((flatD x.2).map ofV1) (e x.1) .ro):=by kernel_rfl
theorem nine_ok:(nine.all fun x=>(flatD x.2).all okV1 && Nat.blt x.1 1000)=true:=by kernel_rfl
/-- A laid variable's object. -/
def stB (e:Nat→TypeId) (i:Nat):Option O:=((startObjs e).find? fun q=>Nat.beq q.1 i).map (·.2)
noncomputable abbrev topL (e:Nat→TypeId) (mk mx:Option O):List (Nat × Option O):=[(16,stB e 16),(17,stB e 17),(8,stB e 8),(10,stB e 10),(9,stB e 9),(ngl+0,stB e (ngl+0)),(12,stB e 12),(ngl+1,stB e (ngl+1)),(13,stB e 13),(ngl+2,stB e (ngl+2)),(11,stB e 11),(7,stB e 7),(2,stB e 2),(ngl+3,stB e (ngl+3)),(6,stB e 6),(ngl+4,stB e (ngl+4)),(5,stB e 5),(14,stB e 14),(15,stB e 15),(4,stB e 4),(1,stB e 1),(ngl+5,mk),(ngl+6,mx)]
theorem top_calls (e:Nat→TypeId) {sx sk:List (Nat × Nat)} {vx vk:V} {nm:Nat} {b t:Int} {timed:Bool} {mx mk:Option O} (hx:∀ S:St,S.hs.get (ngl+6)=mx→SV S vx sx) (hk:∀ S:St,S.hs.get (ngl+5)=mk→SV S vk sk)
  {ρ:Rho} {w:World} {l':List Value} (hg:Globs ρ) (hs:Sim ρ (putO (topL e mk mx) (St.hs ⟨.nil,ngl+7⟩)) w) (hl:VRs ρ [.agg [.int .u8 (.ofNat nm),vx,.int .u64 b,.int .i64 t,.bool timed],vk] l') :
  Calls Tryz.prog 3 ⟨l'⟩ w fun e' w'=>e'=.returned (.bool true)∧∃ ρ' H',Ext ρ (putO (topL e mk mx) (St.hs ⟨.nil,ngl+7⟩)) w ρ' H' w':=by
 obtain ⟨S0,h1,h2⟩:=buildO_spec (bodyown_run labels_ok (nm:=nm) (b:=b) (t:=t) (timed:=timed) (stB e (16)) (stB e (17)) (stB e (8)) (stB e (10)) (stB e (9)) (stB e (ngl+0)) (stB e (12)) (stB e (ngl+1)) (stB e (13)) (stB e (ngl+2)) (stB e (11)) (stB e (7)) (stB e (2)) (stB e (ngl+3)) (stB e (6)) (stB e (ngl+4)) (stB e (5)) (stB e (14)) (stB e (15)) (stB e (4)) (stB e (1)) (fun S k h hk=>awake_rc e (fun q hq=>by
  rw [start_nine] at hq
  obtain ⟨x,hx,rfl⟩:=List.mem_map.1 hq
  simp only [nine,List.mem_cons,List.mem_nil_iff,or_false] at hx
  rcases hx with rfl|rfl|rfl|rfl|rfl|rfl|rfl|rfl|rfl
  ·exact h.1
  ·exact h.2.1
  ·exact h.2.2.1
  ·exact h.2.2.2.1
  ·exact h.2.2.2.2.1
  ·exact h.2.2.2.2.2.2.2.2.2.2.2.1
  ·exact h.2.2.2.2.2.2.2.2.2.2.2.2.1
  ·exact h.2.2.2.2.2.2.2.2.2.2.2.2.2.2.2.2.2.2.2.1
  ·exact h.2.2.2.2.2.2.2.2.2.2.2.2.2.2.2.2.2.2.2.2.1) hk) hx hk)
 cases h1 with
 | mk v S' h3 h4 =>
   subst h4
   rw [h2] at h3
   exact (h3.callsOf (fn:=Tryz.f3) (by kernel_rfl) (by decide) rfl hg hs hl).mono fun e' w' ⟨v',ρ',he,hv,_,hx⟩=>by
    cases hv
    exact ⟨he,ρ',_,hx⟩
end Go.Am
/- The world of the claim: the laid variables and the arguments' blocks, as an abstract heap. -/
namespace Go.Am
open Go.Proofs Go.Proofs.YtnfhhddmeikbpaaGreatDoor Go.Lib
set_option maxRecDepth 100000
theorem find_mem {α:Type} {p:α→Bool}:∀ {l:List α} {a:α},l.find? p=some a→a ∈ l∧p a=true:=fun h=>⟨List.mem_of_find?_eq_some h,List.find?_some h⟩
theorem stB_spec {e:Nat→TypeId} {i:Nat} {o:O} (h:stB e i=some o):∃ x ∈ nine,x.1=i∧o=O.cells ((flatD x.2).map ofV1) (e i) .ro:=by
 unfold stB at h
 obtain ⟨q,hq,ho⟩:=Option.map_eq_some_iff.1 h
 obtain ⟨h1,h2⟩:=find_mem hq
 rw [start_nine] at h1
 obtain ⟨x,hx,rfl⟩:=List.mem_map.1 h1
 have h3:x.1=i:=Nat.eq_of_beq_eq_true h2
 exact ⟨x,hx,h3,by rw [← ho,← h3]⟩
theorem nine_laid:∀ x ∈ nine,∃ n t,(n,x.2) ∈ Rows.bodyOwnRow.laid∧Tryz.prog.globalNamed n=some x.1∧(Tryz.prog.globals[x.1]?).map (·.type)=some t∧tiles Tryz.prog 5 t x.2=true:=by
 intro x hx
 simp only [nine,List.mem_cons,List.mem_nil_iff,or_false] at hx
 rcases hx with rfl|rfl|rfl|rfl|rfl|rfl|rfl|rfl|rfl
 ·exact ⟨ "math/bits.deBruijn32tab", _,by simp [Rows.bodyOwnRow],by kernel_rfl,rfl,by kernel_rfl⟩
 ·exact ⟨ "math/bits.deBruijn64tab", _,by simp [Rows.bodyOwnRow],by kernel_rfl,rfl,by kernel_rfl⟩
 ·exact ⟨ "internal/strconv.float32info", _,by simp [Rows.bodyOwnRow],by kernel_rfl,rfl,by kernel_rfl⟩
 ·exact ⟨ "internal/strconv.float64info", _,by simp [Rows.bodyOwnRow],by kernel_rfl,rfl,by kernel_rfl⟩
 ·exact ⟨ "internal/strconv.optimize", _,by simp [Rows.bodyOwnRow],by kernel_rfl,rfl,by kernel_rfl⟩
 ·exact ⟨ "internal/strconv.uint64pow10", _,by simp [Rows.bodyOwnRow],by kernel_rfl,rfl,by kernel_rfl⟩
 ·exact ⟨ "unicode/utf8.acceptRanges", _,by simp [Rows.bodyOwnRow],by kernel_rfl,rfl,by kernel_rfl⟩
 ·exact ⟨ "gauger/template.none", _,by simp [Rows.bodyOwnRow],by kernel_rfl,rfl,by kernel_rfl⟩
 ·exact ⟨ "unicode/utf8.first", _,by simp [Rows.bodyOwnRow],by kernel_rfl,rfl,by kernel_rfl⟩
theorem nine_cells {w:World} (hL:laidMet Tryz.prog Rows.bodyOwnRow.laid w):∀ x ∈ nine,∃ cs t f,w.heap[x.1]?=some (.cells cs t f)∧cs.toList=flatD x.2:=by
 intro x hx
 obtain ⟨n,t,h1,h2,h3,h4⟩:=nine_laid x hx
 obtain ⟨g,t',cs,fuel,p,hg,ht,hv,hd⟩:=laidMet.reads hL h1
 obtain rfl:=Option.some.inj (h2.symm.trans hg)
 obtain rfl:=Option.some.inj (h3.symm.trans ht)
 have h5:=flat_of_trod 5 h4 hd
 unfold World.var? at hv
 rw [h2] at hv
 have hv':(match w.heap[x.1]? with|some (.cells cs _ _)=>some cs|_=>none)=some cs:=hv
 split at hv'
 ·rename_i cs' t' f he
  cases hv'
  exact ⟨cs,t',f,he,h5⟩
 ·cases hv'
/-- The type of a block's cells. -/
def eT (w:World) (i:Nat):TypeId:=match w.heap[i]? with|some (.cells _ t _)=>t|_=>0
def cszT (w:World) (i:Nat):Nat:=match w.heap[i]? with|some (.cells c _ _)=>c.size|_=>0
/-- Where the objects lie. -/
def rhoT (w:World) (lk lx:Option Loc):Rho:=fun i=>if i < ngl then some ⟨i,0,cszT w i,false⟩ else if i=ngl+5 then lk else if i=ngl+6 then lx else none
theorem rhoT_globs {w:World} {lk lx:Option Loc}:Globs (rhoT w lk lx):=fun g hg=>⟨⟨g,0,cszT w g,false⟩,by simp [rhoT,hg],rfl,rfl⟩
theorem nine_lt:(nine.all fun x=>Nat.blt x.1 ngl)=true:=by kernel_rfl
theorem rhoT_k {w:World} {lk lx:Option Loc}:rhoT w lk lx (ngl+5)=lk:=by
 show (if _ then _ else _)=_
 rw [if_neg (by omega),if_pos rfl]
theorem rhoT_x {w:World} {lk lx:Option Loc}:rhoT w lk lx (ngl+6)=lx:=by
 show (if _ then _ else _)=_
 rw [if_neg (by omega),if_neg (by omega),if_pos rfl]
/-- What an argument's block holds. -/
def ArgO (w:World) (l:Option Loc) (m:Option O):Prop:=∀ o,m=some o→∃ l' co,l=some l'∧l'.rw=false∧w.heap[l'.blk]?=some co∧∀ ρ,OR ρ l' o co
theorem st_ok {w:World} (hL:laidMet Tryz.prog Rows.bodyOwnRow.laid w) {lk lx:Option Loc} {i:Nat} {o:O} (h:stB (eT w) i=some o) :
  ∃ l co,rhoT w lk lx i=some l∧w.heap[l.blk]?=some co∧OR (rhoT w lk lx) l o co∧l.rw=false:=by
 obtain ⟨x,hx,rfl,rfl⟩:=stB_spec h
 obtain ⟨cs,t,f,h1,h2⟩:=nine_cells hL x hx
 have hlt:x.1 < ngl:=Nat.le_of_ble_eq_true (List.all_eq_true.1 nine_lt x hx)
 have hok:=List.all_eq_true.1 nine_ok x hx
 simp only [Bool.and_eq_true] at hok
 refine ⟨⟨x.1,0,cszT w x.1,false⟩,_,by simp [rhoT,hlt],h1,?_,rfl⟩
 refine ⟨cs,f,by simp [eT,h1],by simp [cszT,h1],?_,fun i v hv=>?_,fun hne=>absurd rfl hne,fun he=>by cases he⟩
 ·have:cs.size=(flatD x.2).length:=by rw [← h2];simp
  show 0+_ ≤ _
  simp [this]
 ·rw [List.getElem?_map] at hv
  obtain ⟨y,hy,rfl⟩:=Option.map_eq_some_iff.1 hv
  refine ⟨y,?_,VR.ofV1 (List.all_eq_true.1 hok.1 y (List.mem_of_getElem? hy))⟩
  show cs[0+i]?=some y
  rw [Nat.zero_add,← Array.getElem?_toList,h2];exact hy
theorem top_get {w:World} (hL:laidMet Tryz.prog Rows.bodyOwnRow.laid w) {lk lx:Option Loc} {mk mx:Option O} (hk:ArgO w lk mk) (hx:ArgO w lx mx) {i:Nat} {o:O} (h:(putO (topL (eT w) mk mx) (St.hs ⟨.nil,ngl+7⟩)).get i=some o) :
  ∃ l co,rhoT w lk lx i=some l∧w.heap[l.blk]?=some co∧OR (rhoT w lk lx) l o co∧l.rw=false:=by
 rcases putO_get h with h1|h1
 ·simp only [topL,List.mem_cons,List.mem_nil_iff,or_false,Prod.mk.injEq] at h1
  rcases h1 with ⟨rfl,h1⟩|⟨rfl,h1⟩|⟨rfl,h1⟩|⟨rfl,h1⟩|⟨rfl,h1⟩|⟨rfl,h1⟩|⟨rfl,h1⟩|⟨rfl,h1⟩|⟨rfl,h1⟩|⟨rfl,h1⟩|⟨rfl,h1⟩|⟨rfl,h1⟩|⟨rfl,h1⟩|⟨rfl,h1⟩|⟨rfl,h1⟩|⟨rfl,h1⟩|⟨rfl,h1⟩|⟨rfl,h1⟩|⟨rfl,h1⟩|⟨rfl,h1⟩|⟨rfl,h1⟩|⟨rfl,h1⟩|⟨rfl,h1⟩
  iterate 21 exact st_ok hL h1.symm
  ·obtain ⟨l,co,h2,h3,h4,h5⟩:=hk o h1.symm
   exact ⟨l,co,by rw [rhoT_k];exact h2,h4,h5 _,h3⟩
  ·obtain ⟨l,co,h2,h3,h4,h5⟩:=hx o h1.symm
   exact ⟨l,co,by rw [rhoT_x];exact h2,h4,h5 _,h3⟩
 ·exact absurd h1 (by show ¬ T.get deep i .nil=some o;rw [T_get_nil];simp)
theorem top_sim {w:World} (hL:laidMet Tryz.prog Rows.bodyOwnRow.laid w) {lk lx:Option Loc} {mk mx:Option O} (hk:ArgO w lk mk) (hx:ArgO w lx mx):Sim (rhoT w lk lx) (putO (topL (eT w) mk mx) (St.hs ⟨.nil,ngl+7⟩)) w where
 obj i o h:=by
  obtain ⟨l,co,h1,h2,h3,_⟩:=top_get hL hk hx h
  exact ⟨l,co,h1,h2,h3⟩
 sep i i' l l' h h' hl hl' hr hne:=by
  obtain ⟨o,ho⟩:=Option.isSome_iff_exists.1 h
  obtain ⟨l1,co,h1,_,_,h4⟩:=top_get hL hk hx ho
  cases h1.symm.trans hl
  rw [h4] at hr;cases hr
 fresh i hi:=by
  rw [putO_next] at hi
  have hi':ngl+7 ≤ i:=hi
  simp only [rhoT]
  rw [if_neg (by omega),if_neg (by omega),if_neg (by omega)]
theorem top_own {w:World} (hL:laidMet Tryz.prog Rows.bodyOwnRow.laid w) {lk lx:Option Loc} {mk mx:Option O} (hk:ArgO w lk mk) (hx:ArgO w lx mx) (b:Nat):¬ Own (rhoT w lk lx) (putO (topL (eT w) mk mx) (St.hs ⟨.nil,ngl+7⟩)) b:=by
 rintro ⟨i,l,h,hl,hr,_⟩
 obtain ⟨o,ho⟩:=Option.isSome_iff_exists.1 h
 obtain ⟨l1,co,h1,_,_,h4⟩:=top_get hL hk hx ho
 cases h1.symm.trans hl
 rw [h4] at hr;cases hr
/-- BodyOwn in the claim's world. -/
theorem top_world {w:World} (hL:laidMet Tryz.prog Rows.bodyOwnRow.laid w) {lk lx:Option Loc} {mk mx:Option O} (hk:ArgO w lk mk) (hx:ArgO w lx mx) {sx sk:List (Nat × Nat)} {vx vk:V} {nm:Nat} {b t:Int} {timed:Bool}
  (hsx:∀ S:St,S.hs.get (ngl+6)=mx→SV S vx sx) (hsk:∀ S:St,S.hs.get (ngl+5)=mk→SV S vk sk) {l':List Value} (hl:VRs (rhoT w lk lx) [.agg [.int .u8 (.ofNat nm),vx,.int .u64 b,.int .i64 t,.bool timed],vk] l') :
  Calls Tryz.prog 3 ⟨l'⟩ w fun e w'=>e=.returned (.bool true)∧RowKit.Below w.heap.size w w' :=
 (top_calls (eT w) hsx hsk rhoT_globs (top_sim hL hk hx) hl).mono fun e w' ⟨he,ρ',H',hx'⟩ =>
  ⟨he,hx'.os,hx'.tape,hx'.output,hx'.size,fun k hk'=>hx'.keep k hk' (top_own hL hk hx k)⟩
end Go.Am
/- BodyOwn's arguments. -/
namespace Go.Am
open Go.Proofs Go.Proofs.YtnfhhddmeikbpaaGreatDoor Go.Lib Go.Deep
set_option maxRecDepth 20000
section
variable {H:Type} {enc:TypeId × Value→H} {w:World} {base:Nat}
theorem row_u8 {f:Nat} {v:Value} {d:DataW H} {p:List MemPlace} (h:DataW.trod enc Tryz.prog w 0 (fun _=>true) true f 5 [v]=some (d,p)):∃ n:Nat,v=.int .u8 (.ofNat n):=by
 obtain ⟨n,h1,_,h2⟩:=DataW.trod_int Tryz.underlying5 h
 cases h1
 have h3:(0:Int) ≤ n:=by
  have:IntKind.min .u8 ≤ n∧n ≤ IntKind.max .u8:=by simpa [Lit.wf] using h2
  simpa [IntKind.min,IntKind.signed] using this.1
 exact ⟨n.toNat,by rw [Int.ofNat_eq_natCast,Int.toNat_of_nonneg h3]⟩
theorem smallV_get:∀ (l:List (Nat × Nat)) (i:Nat) (v:V),(smallV l)[i]?=some v→∃ s,l[i / 2]?=some s∧(i % 2=0∧v=.int .u8 (.ofNat s.1) ∨ i % 2=1∧v=.int .u8 (.ofNat s.2))
 | [],i,v,h=>by simp [smallV] at h
 | s :: l,0,v,h=>⟨s,rfl,.inl ⟨rfl,by simpa [smallV] using h.symm⟩⟩
 | s :: l,1,v,h=>⟨s,rfl,.inr ⟨rfl,by simpa [smallV] using h.symm⟩⟩
 | s :: l,i+2,v,h=>by
   obtain ⟨s',h1,h2⟩:=smallV_get l i v (by simpa [smallV] using h)
   exact ⟨s',by rw [show (i+2) / 2=i / 2+1 by omega];simpa using h1,by rw [show (i+2) % 2=i % 2 by omega];exact h2⟩
theorem cell_slice {P:Program} {r:Reach} {t e:TypeId} {a:Addr} {len cap:Nat} (ht:P.underlying t=some (.slice e)) (h:Cell.okWide P w r base t (.slice (some a) len cap)):len ≤ cap∧(cap:Int) ≤ IntKind.i64.max∧w.has P r base a e cap:=by
 unfold Cell.okWide at h
 rw [ht] at h
 unfold Cell.ok at h
 rw [ht] at h
 exact h
/-- A slice of Smalls among the arguments. -/
theorem open_small {v:Value} {fuel:Nat} {x:DataW H × List MemPlace} {r:Reach} (id:Nat) (hd:DataW.trod enc Tryz.prog w 0 (fun _=>true) true fuel 22 [v]=some x) (hv:Cell.okWide Tryz.prog w r base 22 v) :
  ∃ (l:Option Loc) (m:Option O) (u:V) (s:List (Nat × Nat)),ArgO w l m∧(∀ S:St,S.hs.get id=m→SV S u s)∧∀ ρ:Rho,ρ id=l→VR ρ u v:=by
 rcases open_slice_pairs Tryz.underlying22 Tryz.underlying84 (by kernel_rfl) rfl rfl (by kernel_rfl) (by kernel_rfl) hd with ⟨h1,_⟩|⟨a,len,cap,m,n,V0,V1,D0,D1,P0,P1,h1,_,hlc,_,hm,_,hx⟩
 ·cases h1
  exact ⟨none,none,.nilSlice,[],⟨fun _ h=>(by cases h),fun _ _=>.inl ⟨rfl,rfl⟩,fun _ _=>.nilSlice⟩⟩
 ·cases h1
  have hm':m=cap:=by rw [hm];rfl
  subst hm'
  have hok:w.has Tryz.prog r base a 84 m:=by
   have:=cell_slice Tryz.underlying22 hv
   exact this.2.2
  obtain ⟨_,hsp,row,cells,hsh,_⟩:=hok
  obtain ⟨blk,off,spot⟩:=a
  have hsp':spot=none:=hsp
  subst hsp'
  have hco:∃ c f,w.heap[blk]?=some (.cells c row f):=by
   unfold World.shape? at hsh
   split at hsh
   ·rename_i c e f he
    cases hsh
    exact ⟨c,f,he⟩
   ·cases hsh
  obtain ⟨c,f,hc⟩:=hco
  have hcell:∀ i,i < len→∃ q:Nat × Nat,c[off+i * 2]?=some (.int .u8 (.ofNat q.1))∧c[off+i * 2+1]?=some (.int .u8 (.ofNat q.2)):=by
   intro i hi
   obtain ⟨h2,h3,h4,h5⟩:=hx i (by omega)
   obtain ⟨n0,e0⟩:=row_u8 h4
   obtain ⟨n1,e1⟩:=row_u8 h5
   rw [e0] at h2;rw [e1] at h3
   have g:∀ j,w.cell? ((⟨blk,off,none⟩:Addr).add j)=c[off+j]?:=by
    intro j
    unfold Addr.add
    split
    ·rename_i hj
     subst hj
     simp [World.cell?,hc]
    ·simp [World.cell?,hc]
   rw [g] at h2 h3
   exact ⟨(n0,n1),h2,by rw [Nat.add_assoc];exact h3⟩
  obtain ⟨q,hq⟩:=choose_lt hcell
  have hs:∀ i s,((List.range len).map q)[i]?=some s→i < len∧s=q i:=fun i s h=>by
   rw [List.getElem?_map] at h
   obtain ⟨y,hy,rfl⟩:=Option.map_eq_some_iff.1 h
   obtain ⟨h2,h3⟩:=List.getElem?_eq_some_iff.1 hy
   rw [List.length_range] at h2
   rw [List.getElem_range] at h3
   exact ⟨h2,by rw [← h3]⟩
  refine ⟨some ⟨blk,if len=0 then 0 else off,c.size,false⟩,some (.cells (smallV ((List.range len).map q)) row .ro),.slice id 0 len len 2 false,(List.range len).map q,?_,fun S hS=>.inr ⟨id,len,false,[],row,.ro,by simp,by simp,by rw [hS];simp⟩,fun ρ hρ=>?_⟩
  ·intro o ho
   cases ho
   refine ⟨_,_,rfl,rfl,hc,fun ρ=>⟨c,f,rfl,rfl,?_,fun i v hv=>?_,fun h=>absurd rfl h,fun h=>by cases h⟩⟩
   ·show (if len=0 then 0 else off)+(smallV _).length ≤ _
    rw [smallV_length,List.length_map,List.length_range]
    by_cases h0:len=0
    ·simp [h0]
    ·rw [if_neg h0]
     have:=(List.getElem?_eq_some_iff.1 (by simpa using (hq (len - 1) (by omega)).2:c.toList[off+(len - 1) * 2+1]?=_)).1
     simp at this
     omega
   ·obtain ⟨s,h2,h3⟩:=smallV_get _ _ _ hv
    obtain ⟨h4,rfl⟩:=hs _ _ h2
    show ∃ v',c[(if len=0 then 0 else off)+i]?=some v'∧_
    rw [if_neg (by omega)]
    rcases h3 with ⟨h5,rfl⟩|⟨h5,rfl⟩
    ·refine ⟨_,?_,.int _ _⟩
     have:=(hq _ h4).1
     rwa [show off+i / 2 * 2=off+i by omega] at this
    ·refine ⟨_,?_,.int _ _⟩
     have:=(hq _ h4).2
     rwa [show off+i / 2 * 2+1=off+i by omega] at this
  ·have:=VR.slice (ρ:=ρ) (id:=id) 0 len len 2 false (if len=0 then off else 0) m hρ (fun h=>by rw [if_neg (by omega)]) hlc (fun h=>by cases h) (Nat.le_refl _) (fun h=>by cases h)
   by_cases h0:len=0
   ·simpa [h0] using this
   ·simpa [h0] using this
end
end Go.Am
/- The row's statement. -/
namespace Go.Am
open Go.Proofs Go.Proofs.YtnfhhddmeikbpaaGreatDoor Go.Lib Go.Deep Go.ChangeShapes Go.WideShapes Go.ChangeAt Go.RowKit
set_option maxRecDepth 100000
theorem cells1:[5,22,23,3,4].all (fun t=>Tryz.prog.cellsOf t == 1)=true:=by kernel_rfl
theorem c5:Tryz.prog.cellsOf 5=1:=by kernel_rfl
theorem c22:Tryz.prog.cellsOf 22=1:=by kernel_rfl
theorem c23:Tryz.prog.cellsOf 23=1:=by kernel_rfl
theorem c3:Tryz.prog.cellsOf 3=1:=by kernel_rfl
theorem c4:Tryz.prog.cellsOf 4=1:=by kernel_rfl
theorem c25:Tryz.prog.cellsOf 25=5:=by kernel_rfl
theorem row25:Tryz.prog.cellTypes Tryz.prog.depth 25=some [5,22,23,3,4]:=by kernel_rfl
section
variable {H:Type} {enc:TypeId × Value→H} {w:World} {base:Nat}
theorem open_top {v:Value} {d:DataW H} {p:List MemPlace} {r:Reach} (h0:DataW.Trod enc Tryz.prog w 0 (fun _=>true) true 25 v d p) (hv:Value.okWide Tryz.prog w r base 25 v) :
  ∃ (nm:Nat) (u:Value) (b t:Int) (timed:Bool),v=.agg #[.int .u8 (.ofNat nm),u,.int .u64 b,.int .i64 t,.bool timed]∧Cell.okWide Tryz.prog w r base 22 u∧∃ (fuel:Nat) (x:DataW H × List MemPlace),DataW.trod enc Tryz.prog w 0 (fun _=>true) true fuel 22 [u]=some x:=by
 simp only [Value.okWide,Tryz.underlying25] at hv
 obtain ⟨cs,rfl,hsz,ts,hts,_,hcell⟩:=hv
 obtain rfl:=Option.some.inj (row25.symm.trans hts)
 rw [c25] at hsz
 obtain ⟨fuel,hf⟩:=h0
 obtain ⟨xs,n,rfl,hx,hl,hxl,hall⟩:=DataW.trod_struct Tryz.underlying25 hf
 obtain ⟨cs⟩:=cs
 match cs,hsz with
 | [v0,v1,v2,v3,v4],_ =>
   match xs,hxl with
   | [y0,y1,y2,y3,y4],_ =>
     have g0:=hall 0 _ rfl
     have g1:=hall 1 _ rfl
     have g2:=hall 2 _ rfl
     have g3:=hall 3 _ rfl
     have g4:=hall 4 _ rfl
     simp [Value.cells,c5] at g0
     simp [Value.cells,c22] at g1
     simp [Value.cells,c23] at g2
     simp [Value.cells,c3] at g3
     simp [Value.cells,c4] at g4
     obtain ⟨u,hu,hok⟩:=hcell 1 v1 rfl
     have hu':u=22:=(Option.some.inj hu).symm
     subst hu'
     obtain ⟨nm,rfl⟩:=row_u8 g0
     obtain ⟨b,hb,_⟩:=DataW.trod_int Tryz.underlying23 g2
     cases hb
     obtain ⟨t,ht,_⟩:=DataW.trod_int Tryz.underlying3 g3
     cases ht
     obtain ⟨z,hz,_⟩:=DataW.trod_bool Tryz.underlying4 g4
     cases hz
     exact ⟨nm,v1,b,t,z,rfl,hok,n,y1,g1⟩
end
theorem rhoT_id {w:World} {lk lx:Option Loc}:rhoT w lk lx (ngl+5)=lk∧rhoT w lk lx (ngl+6)=lx:=⟨rhoT_k,rhoT_x⟩
theorem own:ownKnob Tryz.prog.godebug=none:=by kernel_rfl
theorem laidOut:laidOutB Tryz.prog=true:=by kernel_rfl
theorem noHandles:(Rows.bodyOwnRow.laid.all fun _=>true)=true:=by kernel_rfl
theorem contract {H:Type} {enc:TypeId × Value→H} {W:World} {base:Nat} {v0 v1:Value} {d0 d1:DataW H} {p0 p1:List MemPlace} {r:Reach} (h0:DataW.Trod enc Tryz.prog W 0 (fun _=>true) true 25 v0 d0 p0) (h1:DataW.Trod enc Tryz.prog W 0 (fun _=>true) true 22 v1 d1 p1)
  (hv0:Value.okWide Tryz.prog W r base 25 v0) (hv1:Value.okWide Tryz.prog W r base 22 v1) (hL:laidMet Tryz.prog Rows.bodyOwnRow.laid W) :
  Calls Tryz.prog 3 #[v0,v1] W fun e w'=>e=.returned (.bool true)∧Below W.heap.size W w':=by
 obtain ⟨nm,u,b,t,timed,rfl,hcu,fuel,x,hu⟩:=open_top h0 hv0
 obtain ⟨lx,mx,vx,sx,hax,hsx,hrx⟩:=open_small (ngl+6) hu hcu
 obtain ⟨fuel1,hf1⟩:=h1
 have hw1:Cell.okWide Tryz.prog W r base 22 v1:=by simpa only [Value.okWide,Tryz.underlying22] using hv1
 have hf2:DataW.trod enc Tryz.prog W 0 (fun _=>true) true fuel1 22 [v1]=some (d1,p1):=by
  obtain ⟨a,len,cap,rfl⟩:=okWide_slice Tryz.underlying22 hv1
  exact hf1
 obtain ⟨lk,mk,vk,sk,hak,hsk,hrk⟩:=open_small (ngl+5) hf2 hw1
 exact top_world hL hak hax hsx hsk (.cons (.agg (.cons (.int _ _) (.cons (hrx _ rhoT_x) (.cons (.int _ _) (.cons (.int _ _) (.cons (.bool _) .nil)))))) (.cons (hrk _ rhoT_k) .nil))
end Go.Am
