/- Part 3 of the proof that BodyOwn returns true, and leaves its arguments as they were, for every input, over a start where the listed variables hold what the program lays: the statement Rows.BodyOwnCardSaid. -/
import Derived.Lib.Bytealg
import Derived.Lib.MakeNoZero
import Derived.Test.YtnfhhddmeikbpaaGreatDoorWAb
import Derived.RangeFuncLeaves
import Derived.OrdersIn
set_option linter.unusedVariables false
set_option linter.unusedSimpArgs false
/- Functions without a body. -/
namespace Go.Am
variable {P:Program} {E:Env}

theorem byte_beq {x:UInt8} {n:Nat} (hn:n < 256):Nat.beq x.toNat n=(x == (n:Int).toNat.toUInt8):=by
 have e:((n:Int).toNat.toUInt8).toNat=n:=by simp [Nat.mod_eq_of_lt hn]
 rw [Bool.eq_iff_iff]
 constructor
 ·intro h
  have:=Nat.eq_of_beq_eq_true h
  simp only [beq_iff_eq]
  apply UInt8.toNat_inj.1
  rw [e];exact this
 ·intro h
  simp only [beq_iff_eq] at h
  rw [h,e];simp
theorem idxByte_spec {n:Nat} (hn:n < 256):∀ (s:List UInt8) (i:Nat),match idxByte n s i with
  | none=>Lib.indexByte s (n:Int).toNat.toUInt8=-1
  | some j=>i ≤ j∧Lib.indexByte s (n:Int).toNat.toUInt8=((j - i:Nat):Int)
 | [],i=>rfl
 | x :: s,i=>by
   have e:idxByte n (x :: s) i=Bool.rec (motive:=fun _=>Option Nat) (idxByte n s (i+1)) (some i) (Nat.beq x.toNat n):=rfl
   rw [e,byte_beq hn]
   unfold Lib.indexByte
   cases hb:(x == (n:Int).toNat.toUInt8) with
   | true=>simp
   | false =>
     have ih:=idxByte_spec hn s (i+1)
     simp only [Bool.false_eq_true,if_false]
     cases hi:idxByte n s (i+1) with
     | none=>rw [hi] at ih;simp only at ih ⊢;rw [ih];rfl
     | some j =>
       rw [hi] at ih
       simp only at ih ⊢
       obtain ⟨h1,h2⟩:=ih
       refine ⟨by omega,?_⟩
       rw [h2]
       have hne:((((j - (i+1):Nat):Int)) == -1)=false:=by
        rw [beq_eq_false_iff_ne];omega
       rw [hne]
       simp only [Bool.false_eq_true,if_false]
       omega
theorem cntByte_spec {n:Nat} (hn:n < 256):∀ (s:List UInt8) (c:Nat),cntByte n s c=c+Lib.countByte s (n:Int).toNat.toUInt8
 | [],c=>rfl
 | x :: s,c=>by
   have e:cntByte n (x :: s) c=Bool.rec (motive:=fun _=>Nat) (cntByte n s c) (cntByte n s (c+1)) (Nat.beq x.toNat n):=rfl
   rw [e,byte_beq hn]
   have ih:=cntByte_spec hn s
   unfold Lib.countByte at ih ⊢
   rw [List.count_cons]
   cases hb:(x == (n:Int).toNat.toUInt8) with
   | true=>simp only [ih,if_true];omega
   | false=>simp only [ih,Bool.false_eq_true,if_false];omega
theorem cmp_spec:∀ (a b:List UInt8),Lib.compareBytes a b=if ltS a b=true then -1 else if eqS a b=true then 0 else 1
 | [],[]=>by simp [Lib.compareBytes,ltS_eq,eqS_eq,Op.bytesLess]
 | [],_ :: _=>by simp [Lib.compareBytes,ltS_eq,Op.bytesLess]
 | _ :: _,[]=>by simp [Lib.compareBytes,ltS_eq,eqS_eq,Op.bytesLess]
 | x :: a,y :: b=>by
   have ih:=cmp_spec a b
   simp only [ltS_eq,eqS_eq] at ih ⊢
   simp only [Lib.compareBytes,Op.bytesLess,List.cons_beq_cons]
   by_cases hxy:x=y
   ·subst hxy
    simp [UInt8.lt_irrefl,ih]
   ·have hne:(x == y)=false:=by simpa using hxy
    by_cases hlt:x < y
    ·simp [hlt]
    ·have:y < x:=UInt8.lt_of_le_of_ne (UInt8.not_lt.1 hlt) (Ne.symm hxy)
     simp [hlt,this,hne]
theorem vByte_spec {v:V} {k:Nat→Prop} (h:vByte v k):∃ n,n < 256∧v=.int .u8 (Int.ofNat n)∧k n:=by
 unfold vByte at h;split at h
 ·obtain ⟨a,b⟩:=vY h
  exact ⟨_,by simpa using a,rfl,b⟩
 ·exact h.elim
theorem extK_spec:∀ {X:Exts} {f:FuncId} {q:Nat × TypeId},extK X f=some q→(f,q) ∈ X
 | [],_,_,h=>by cases h
 | (g,p) :: X,f,q,h=>by
   have h':Bool.rec (motive:=fun _=>Option (Nat × TypeId)) (extK X f) (some p) (Nat.beq g f)=some q:=h
   cases hb:Nat.beq g f with
   | true =>
     rw [hb] at h'
     cases h'
     have:=Nat.eq_of_beq_eq_true hb
     subst this
     exact List.mem_cons_self ..
   | false=>rw [hb] at h';exact List.mem_cons_of_mem _ (extK_spec h')

/-- What a function without a body does. -/
def ExS (P:Program) (f:FuncId) (l:List V) (S:Hs) (v:V) (S':Hs):Prop :=
 ∀ (ρ:Rho) (w:World) (l':List Value),Sim ρ S w→VRs ρ l l'→∃ v' w' ρ',(callFunc f ⟨l'⟩).run P w=.ok (.value v') w'∧VR ρ' v v'∧Sim ρ' S' w'∧Ext ρ S w ρ' S' w'
theorem ExS.of {q:FuncId × Nat × TypeId} (hx:ExtIs P q) {l:List V} {S S':Hs} {v:V}
  (h:∀ (ρ:Rho) (w:World) (l':List Value),Sim ρ S w→VRs ρ l l'→∃ v' w' ρ',(extOf q.2.1 q.2.2 ⟨l'⟩).run P w=.ok v' w'∧VR ρ' v v'∧Sim ρ' S' w'∧Ext ρ S w ρ' S' w'):ExS P q.1 l S v S':=fun ρ w l' hs hl=>by
 obtain ⟨fn,hf,hname,hb,hn,he⟩:=hx
 obtain ⟨v',w',ρ',h1,h2,h3,h4⟩:=h ρ w l' hs hl
 refine ⟨v',w',ρ',?_,h2,h3,h4⟩
 have h0:¬ fn.name = "runtime.NumGoroutine" := by simpa using hname
 have hb':fn.body=none:=by simpa using hb
 simp [callFunc,hf,h0,hb',hn,he,h1]
theorem digits_one:∀ (n t:Nat) (acc:Array Value),(∀ (i:Nat) (v:Value),acc[i]?=some v→v.oneCell'=true)→∀ (i:Nat) (v:Value),(Extern.BytealgMakeNoZero.digits n t acc)[i]?=some v→v.oneCell'=true
 | 0,_,acc,h=>h
 | n+1,t,acc,h=>digits_one n (t / 256) _ fun i v hi=>by
   rw [Array.getElem?_push] at hi
   split at hi
   ·cases hi;rfl
   ·exact h i v hi
theorem run_makeNoZero' (t e:TypeId) (ht:P.underlying t=some (.slice e)) (n:Nat) (hn:n ≤ 281474976710656) (w:World) :
  ∃ cs:Array Value,(Extern.BytealgMakeNoZero.makeNoZero #[] #[t] #[.int .i64 n]).run P w=.ok (.slice (some ⟨w.heap.size,0,none⟩) n cs.size) (w.drew.drew.alloc (.cells cs e))∧n ≤ cs.size∧∀ (i:Nat) (v:Value),cs[i]?=some v→v.oneCell'=true:=by
 have hdef:∃ q:Question,q.forced=false∧Extern.BytealgMakeNoZero.makeNoZero #[] #[t] #[.int .i64 n] =
   (do
    let .slice elem ← underlying t|stuck "bytealg.MakeNoZero: slice type expected"
    if (n:Int) < 0 || (n:Int) > 2 ^ 48 then runtimePanic (.error "makeslice: len out of range")
    let cap ← choose (.appendCap (n:Int).toNat 0 elem)
    askRoom cap
    let bytes ← choose q
    let a ← newRow elem (Extern.BytealgMakeNoZero.digits cap bytes #[])
    pure (.slice (some a) (n:Int).toNat cap)):=⟨_,rfl,rfl⟩
 obtain ⟨q,hq,hdef⟩:=hdef
 refine ⟨Extern.BytealgMakeNoZero.digits (grownCap w n 0 e) (q.cut (w.tape (w.drawn+1) q)) #[],?_,?_,?_⟩
 ·rw [hdef]
  have h1:¬ (n:Int) < 0:=by omega
  have h2:¬ (281474976710656:Int) < (n:Int):=by omega
  have hf:∀ a b c,(Question.appendCap a b c).forced=false:=fun _ _ _=>rfl
  simp [run_underlying ht,h1,h2,hf,hq,newRow,Lib.size_digits,grownCap]
 ·rw [Lib.size_digits]
  simpa using grownCap_ge w n 0 e
 ·exact digits_one _ _ _ (by simp)
theorem externK_spec {X:Exts} (hX:ExtsOk P X) {f:FuncId} {l:List V} {S:St} {k:V→St→Prop} (h:externK P X f l S k):∃ v S',k v S'∧ExS P f l S.hs v S'.hs:=by
 obtain ⟨⟨n,t⟩,hq,h1⟩:=wj (show Option.rec (motive:=fun _=>Prop) False _ (extK X f) from h)
 have hx:=hX _ (extK_spec hq)
 dsimp only at h1
 split at h1
 ·obtain ⟨a,b,rfl,h2⟩:=arg2K_spec h1
  obtain ⟨s,rfl,h3⟩:=vStr_spec h2
  obtain ⟨c,hc,rfl,h4⟩:=vByte_spec h3
  have hsp:=idxByte_spec hc s 0
  cases hi:idxByte c s 0 with
  | none =>
    rw [hi] at h4 hsp
    refine ⟨_,S,h4,ExS.of hx fun ρ w l' hs hl=>?_⟩
    obtain ⟨v',u',rfl,hv,hu⟩:=Am.arg2 hl
    cases hv;cases hu
    refine ⟨_,w,ρ,Lib.run_indexByteString ⟨⟨s⟩⟩ (Int.ofNat c) w,?_,hs,Ext.refl _ _ _⟩
    have e:Lib.indexByte s (Int.ofNat c).toNat.toUInt8=-1:=hsp
    show VR ρ _ (.int .i64 (Lib.indexByte s (Int.ofNat c).toNat.toUInt8))
    rw [e];exact .int _ _
  | some j =>
    rw [hi] at h4 hsp
    refine ⟨_,S,fN_spec (k:=fun n=>k (.int .i64 (Int.ofNat n)) S) h4,ExS.of hx fun ρ w l' hs hl=>?_⟩
    obtain ⟨v',u',rfl,hv,hu⟩:=Am.arg2 hl
    cases hv;cases hu
    refine ⟨_,w,ρ,Lib.run_indexByteString ⟨⟨s⟩⟩ (Int.ofNat c) w,?_,hs,Ext.refl _ _ _⟩
    have e:Lib.indexByte s (Int.ofNat c).toNat.toUInt8=(j:Int):=by
     have:=hsp.2
     rw [Nat.sub_zero] at this
     exact this
    show VR ρ _ (.int .i64 (Lib.indexByte s (Int.ofNat c).toNat.toUInt8))
    rw [e];exact .int _ _
 ·obtain ⟨a,b,rfl,h2⟩:=arg2K_spec h1
  obtain ⟨x,rfl,h3⟩:=vStr_spec h2
  obtain ⟨y,rfl,h4⟩:=vStr_spec h3
  have fin:ExS P f [.str x,.str y] S.hs (.int .i64 (if ltS x y=true then -1 else if eqS x y=true then 0 else 1)) S.hs:=ExS.of hx fun ρ w l' hs hl=>by
   obtain ⟨v',u',rfl,hv,hu⟩:=Am.arg2 hl
   cases hv;cases hu
   refine ⟨_,w,ρ,Lib.run_compareString ⟨⟨x⟩⟩ ⟨⟨y⟩⟩ w,?_,hs,Ext.refl _ _ _⟩
   show VR ρ _ (.int .i64 (Lib.compareBytes x y))
   rw [cmp_spec];exact .int _ _
  cases hlt:ltS x y with
  | true=>rw [hlt] at h4 fin;exact ⟨_,S,h4,fin⟩
  | false =>
    cases heq:eqS x y with
    | true=>rw [hlt,heq] at h4 fin;exact ⟨_,S,h4,fin⟩
    | false=>rw [hlt,heq] at h4 fin;exact ⟨_,S,h4,fin⟩
 ·obtain ⟨v,rfl,h2⟩:=arg1K_spec h1
  refine ⟨v,S,h2,ExS.of hx fun ρ w l' hs hl=>?_⟩
  obtain ⟨v',rfl,hv⟩:=Am.arg1 hl
  exact ⟨v',w,ρ,rfl,hv,hs,Ext.refl _ _ _⟩
 ·obtain ⟨v,rfl,h2⟩:=arg1K_spec h1
  split at h2
  ·refine ⟨_,S,h2,ExS.of hx fun ρ w l' hs hl=>?_⟩
   obtain ⟨v',rfl,hv⟩:=Am.arg1 hl
   cases hv
   exact ⟨_,w,ρ,rfl,.int _ _,hs,Ext.refl _ _ _⟩
  ·exact h2.elim
 ·obtain ⟨a,b,rfl,h2⟩:=arg2K_spec h1
  obtain ⟨s,rfl,h3⟩:=vStr_spec h2
  obtain ⟨c,hc,rfl,h4⟩:=vByte_spec h3
  have hsp:=cntByte_spec hc s 0
  refine ⟨_,S,fN_spec (k:=fun n=>k (.int .i64 (Int.ofNat n)) S) h4,ExS.of hx fun ρ w l' hs hl=>?_⟩
  obtain ⟨v',u',rfl,hv,hu⟩:=Am.arg2 hl
  cases hv;cases hu
  refine ⟨_,w,ρ,Lib.run_countString ⟨⟨s⟩⟩ (Int.ofNat c) w,?_,hs,Ext.refl _ _ _⟩
  rw [hsp,Nat.zero_add]
  exact .int _ _
 ·obtain ⟨v,rfl,h2⟩:=arg1K_spec h1
  split at h2
  ·rename_i n
   obtain ⟨hn,h3⟩:=vY h2
   have hn':n ≤ 281474976710656:=Nat.le_of_ble_eq_true hn
   obtain ⟨e,he,h4⟩:=wj h3
   have hu:=elemP_spec he
   obtain ⟨S',h5,hS⟩:=new_spec h4
   refine ⟨_,S',h5,ExS.of hx fun ρ w l' hs hl=>?_⟩
   obtain ⟨v',rfl,hv⟩:=Am.arg1 hl
   cases hv
   obtain ⟨cs,h6,h7,h8⟩:=run_makeNoZero' t e hu n hn' w
   have h0:ρ S.hs.next=none:=hs.fresh _ (Nat.le_refl _)
   have ho:OR (ρ.put S.hs.next ⟨w.heap.size,0,cs.size,true⟩) ⟨w.heap.size,0,cs.size,true⟩ (.cells (List.replicate n .any) e .rw) (.cells cs e):=by
    refine ⟨cs,(0,0),rfl,rfl,by simpa using h7,fun i v hi=>?_,fun _=>⟨rfl,fun off _=>by simp⟩,fun h=>by cases h⟩
    rw [List.getElem?_replicate] at hi
    split at hi
    ·rename_i hin
     cases hi
     have hlt:i < cs.size:=by omega
     refine ⟨cs[i],by simp [hlt],.any (h8 i _ (by simp [hlt]))⟩
    ·cases hi
   obtain ⟨k1,k2⟩:=hs.drew.drew.alloc (csz:=cs.size) ho
   refine ⟨_,_,_,h6,?_,by rw [hS];exact k1,by rw [hS];exact ((Ext.drew ρ S.hs w).trans (Ext.drew ρ S.hs w.drew)).trans k2⟩
   have:=VR.slice (ρ:=ρ.put S.hs.next ⟨w.heap.size,0,cs.size,true⟩) 0 n n 1 false 0 cs.size (Rho.put_self _ _ _) (fun _=>rfl) h7 (fun h=>by cases h) (Nat.le_refl _) (fun _=>by simp)
   have hn:S.hs.next=S.next:=rfl
   rw [hn] at this ⊢
   simpa using this
  ·exact h2.elim
 ·exact h1.elim
end Go.Am
/- The evaluator: operations, in four classes. Definitions alone. -/
namespace Go.Am

abbrev CallT:=FuncId→List V→St→(V→St→Prop)→Prop
abbrev RoundT:=Nat→List V→St→(V→St→Prop)→Prop
/-- What is called: a function value, with arguments. 'rd': what runs a round of a loop over a function. -/
noncomputable def callV (rc:CallT) (rd:RoundT) (f:V) (args:List V) (S:St) (k:V→St→Prop):Prop:=match f with
 | .func (.func g) a b=>appK a args fun l=>appK l b fun l=>rc g l S k
 | .yield id=>rd id args S k
 | _=>False
def ptrConv (P:Program) (s d:TypeId):Bool:=match P.underlying s,P.underlying d with|some (.pointer _),some .unsafePointer=>true|some .unsafePointer,some (.pointer _)=>true|_,_=>false
def arrSlice (P:Program) (t:TypeId):Bool:=match P.underlying t with|some (.pointer _)=>true|some (.array ..)=>true|_=>false
def quietB:Builtin→Bool|.len|.cap|.min|.max|.unsafeSliceData=>true|_=>false
def quietC (c:Callee):Bool:=match c with|.builtin b=>quietB b|_=>false
/-- The class of an operation: 0 reads no memory · 1 reads memory · 2 makes an object · 3 all else. -/
def cls (P:Program) (o:Op):Nat:=match o with
 | .move _|.assign _|.pick ..|.build ..|.nilCheck _|.binOp ..|.unOp ..|.makeInterface ..|.makeFunc ..|.fieldAddr ..|.field ..|.indexAddr ..|.index ..|.extract ..=>0
 | .convert s d _=>cond (ptrConv P s d) 1 0
 | .slice t _ _ _ _=>cond (arrSlice P t) 1 0
 | .load ..|.lookup ..=>1
 | .alloc ..|.box ..|.buildSlice ..|.makeMap ..|.makeSlice ..=>2
 | .call c=>cond (quietC c.callee) 1 3
 | _=>3
noncomputable def pureK (P:Program) (o:Op):PureT:=match o with
 | .move x=>aMove x
 | .assign x=>aMove x
 | .pick c a b=>aPick c a b
 | .build t ps=>aBuild P t ps
 | .nilCheck x=>aNilCheck x
 | .binOp op t x y _=>aBin P op t x y
 | .unOp op _ x=>aUn op x
 | .makeInterface t x=>aIface P t x
 | .makeFunc fn a b=>aFunc fn a b
 | .fieldAddr t x i=>aFieldAddr P t x i
 | .field t x i=>aField P t x i
 | .indexAddr t x i=>aIndexAddr P t x i
 | .index t x i=>aIndex P t x i
 | .extract x i=>aExtract x i
 | .convert s d x=>aConv P s d x
 | .slice t x l h m=>aSlice P t x l h m
 | _=>fun _ _=>False
noncomputable def quietK (P:Program) (b:Builtin) (ts:Array TypeId) (l:List V) (S:St) (k:V→Prop):Prop:=match b with
 | .len=>arg1K l fun v=>Option.casesOn (ts[0]?) False fun t=>bLen P t v S k
 | .cap=>arg1K l fun v=>Option.casesOn (ts[0]?) False fun t=>bCap P t v k
 | .min=>arg2K l fun v u=>bMin v u k
 | .max=>arg2K l fun v u=>bMax v u k
 | .unsafeSliceData=>arg1K l fun v=>bSliceData v k
 | _=>False
noncomputable def readK (P:Program) (o:Op):ReadT:=match o with
 | .load t a=>aLoad P t a
 | .lookup t m key ok=>aLookup P t m key ok
 | .convert s d x=>aConvPtr P s d x
 | .slice t x l h m=>aSliceArr P t x l h m
 | .call c=>fun E S k=>match c.callee with
   | .builtin b=>opsK E c.args.toList fun l=>quietK P b c.argTypes l S k
   | _=>False
 | .entry x=>aEntry x
 | _=>fun _ _ _=>False
noncomputable def allocK (P:Program) (o:Op):AllocT:=match o with
 | .alloc t=>aAlloc P t
 | .box t x=>aBox t x
 | .buildSlice t n ps=>aBuildSlice P t n ps
 | .makeMap t r=>aMakeMap P t r
 | .makeSlice t l c=>aMakeSlice P t l c
 | _=>fun _ _=>False
noncomputable def chainK (P:Program) (rc:CallT) (rd:RoundT) (o:Op):OpT:=match o with
 | .store t a x=>aStore P t a x
 | .mapUpdate t m key x=>aMapUpdate P t m key x
 | .insert t m key x=>aMapUpdate P t m key x
 | .range t x=>aRange P t x
 | .next x b=>aNext x b
 | .call c=>fun E S k=>match c.callee with
   | .builtin b=>opsK E c.args.toList fun l=>builtinK P b c.argTypes l S k
   | .value f=>opK E f fun f=>opsK E c.args.toList fun l=>callV rc rd f l S k
   | _=>False
 | _=>fun _ _ _=>False
/-- An operation, looked up once. -/
inductive Cl where
 | pure (f:PureT)
 | read (f:ReadT)
 | alloc (f:AllocT)
 | chain (f:CallT→RoundT→OpT)
noncomputable def clOf (P:Program) (o:Op):Cl:=match o with
 | .move x=>.pure (aMove x)
 | .assign x=>.pure (aMove x)
 | .pick c a b=>.pure (aPick c a b)
 | .build t ps=>.pure (aBuild P t ps)
 | .nilCheck x=>.pure (aNilCheck x)
 | .binOp op t x y _=>.pure (aBin P op t x y)
 | .unOp op _ x=>.pure (aUn op x)
 | .makeInterface t x=>.pure (aIface P t x)
 | .makeFunc fn a b=>.pure (aFunc fn a b)
 | .fieldAddr t x i=>.pure (aFieldAddr P t x i)
 | .field t x i=>.pure (aField P t x i)
 | .indexAddr t x i=>.pure (aIndexAddr P t x i)
 | .index t x i=>.pure (aIndex P t x i)
 | .extract x i=>.pure (aExtract x i)
 | .convert s d x=>match ptrConv P s d with|true=>.read (aConvPtr P s d x)|false=>.pure (aConv P s d x)
 | .slice t x l h m=>match arrSlice P t with|true=>.read (aSliceArr P t x l h m)|false=>.pure (aSlice P t x l h m)
 | .load t a=>.read (aLoad P t a)
 | .lookup t m key ok=>.read (aLookup P t m key ok)
 | .entry x=>.read (aEntry x)
 | .alloc t=>.alloc (aAlloc P t)
 | .box t x=>.alloc (aBox t x)
 | .buildSlice t n ps=>.alloc (aBuildSlice P t n ps)
 | .makeMap t r=>.alloc (aMakeMap P t r)
 | .makeSlice t l c=>.alloc (aMakeSlice P t l c)
 | .store t a x=>.chain fun _ _=>aStore P t a x
 | .mapUpdate t m key x=>.chain fun _ _=>aMapUpdate P t m key x
 | .insert t m key x=>.chain fun _ _=>aMapUpdate P t m key x
 | .range t x=>.chain fun _ _=>aRange P t x
 | .next x b=>.chain fun _ _=>aNext x b
 | .call c=>match c.callee with
   | .builtin b=>match quietB b with
     | true=>.read fun E S k=>opsK E c.args.toList fun l=>quietK P b c.argTypes l S k
     | false=>.chain fun _ _ E S k=>opsK E c.args.toList fun l=>builtinK P b c.argTypes l S k
   | .value f=>.chain fun rc rd E S k=>opK E f fun f=>opsK E c.args.toList fun l=>callV rc rd f l S k
   | _=>.chain fun _ _ _ _ _=>False
 | _=>.chain fun _ _ _ _ _=>False
noncomputable def clPure (f:PureT) (_:CallT) (_:RoundT):OpT:=fun E S k=>f E fun v=>k v S
noncomputable def clRead (f:ReadT) (_:CallT) (_:RoundT):OpT:=fun E S k=>f E S fun v=>k v S
noncomputable def clAlloc (f:AllocT) (_:CallT) (_:RoundT):OpT:=fun E S k=>f E fun ob mk=>newK ob S fun id S=>k (mk id) S
noncomputable def clChain (f:CallT→RoundT→OpT) (rc:CallT) (rd:RoundT):OpT:=f rc rd
noncomputable def evOp (P:Program) (rc:CallT) (rd:RoundT) (o:Op):OpT:=Cl.rec (motive:=fun _=>CallT→RoundT→OpT) clPure clRead clAlloc clChain (clOf P o) rc rd
end Go.Am
/- Operations, calls among them. -/
namespace Go.Am
variable {P:Program} {E:Env}

theorem pureK_spec {o:Op} {k:V→Prop} (h:pureK P o E k):∃ v,k v∧PureS P o E v:=by
 unfold pureK at h
 split at h
 ·exact aMove_spec h
 ·exact aAssign_spec h
 ·exact aPick_spec h
 ·exact aBuild_spec h
 ·exact aNilCheck_spec h
 ·exact aBin_spec h
 ·exact aUn_spec h
 ·exact aIface_spec h
 ·exact aFunc_spec h
 ·exact aFieldAddr_spec h
 ·exact aField_spec h
 ·exact aIndexAddr_spec h
 ·exact aIndex_spec h
 ·exact aExtract_spec h
 ·exact aConv_spec h
 ·exact aSlice_spec h
 ·exact h.elim

/-- What a builtin that changes nothing is. -/
def BuR (P:Program) (b:Builtin) (ts:Array TypeId) (l:List V) (S:Hs) (v:V):Prop :=
 ∀ (ρ:Rho) (w:World) (l':List Value) (ty:TypeId) (cs:Array Bool),Sim ρ S w→VRs ρ l l'→∃ v',(builtin b ts ty cs ⟨l'⟩).run P w=.ok (.value v') w∧VR ρ v v'
theorem BuR.call {b:Builtin} {c:Call} {l:List V} {H:Hs} {v:V} (hb:c.callee=.builtin b) (hl:OpVs E c.args.toList l) (h:BuR P b c.argTypes l H v):ReadS P (.call c) E H v:=fun ρ ev x w hx he hs=>by
 have hm:(Op.call c).operands.toList=c.args.toList:=call_operands hb
 rw [hm] at he
 obtain ⟨v',h1,h2⟩:=h ρ w (c.args.toList.map ev) x.type (c.args.map fun|.const _=>true|_=>false) hs (he.list (fun _ h=>h) hl)
 exact ⟨v',by rw [exec_builtin hx hb,map_toList ev];exact h1,h2⟩
theorem BuS.call {b:Builtin} {c:Call} {l:List V} {H H':Hs} {v:V} (hb:c.callee=.builtin b) (hl:OpVs E c.args.toList l) (h:BuS P b c.argTypes l H v H'):OpS P (.call c) E H v H':=fun ρ ev x w hx he hs=>by
 have hm:(Op.call c).operands.toList=c.args.toList:=call_operands hb
 rw [hm] at he
 obtain ⟨v',w',ρ',h1,h2,h3,h4⟩:=h ρ w (c.args.toList.map ev) x.type (c.args.map fun|.const _=>true|_=>false) hs (he.list (fun _ h=>h) hl)
 exact ⟨v',w',ρ',.inl (by rw [exec_builtin hx hb,map_toList ev];exact h1),h2,h3,h4⟩
theorem bMin_read {ts:Array TypeId} {v u:V} {k:V→Prop} (h:bMin v u k):∃ r,k r∧∀ H,BuR P .min ts [v,u] H r:=by
 obtain ⟨a,x,rfl,h1⟩:=vInt_spec h
 obtain ⟨b,y,rfl,h2⟩:=vInt_spec h1
 have fin:∀ H,BuR P .min ts [.int a x,.int b y] H (.int a (if y < x then y else x)):=fun H ρ w l' ty cs hs hL=>by
  obtain ⟨v',u',rfl,hv,hu⟩:=Am.arg2 hL
  cases hv;cases hu
  exact ⟨_,by simp [builtin,Builtin.min_,Builtin.min2],.int _ _⟩
 rw [ltI_eq] at h2
 by_cases hlt:y < x
 ·rw [decide_eq_true hlt] at h2
  rw [if_pos hlt] at fin
  exact ⟨_,h2,fin⟩
 ·rw [decide_eq_false hlt] at h2
  rw [if_neg hlt] at fin
  exact ⟨_,h2,fin⟩
theorem bMax_read {ts:Array TypeId} {v u:V} {k:V→Prop} (h:bMax v u k):∃ r,k r∧∀ H,BuR P .max ts [v,u] H r:=by
 obtain ⟨a,x,rfl,h1⟩:=vInt_spec h
 obtain ⟨b,y,rfl,h2⟩:=vInt_spec h1
 have fin:∀ H,BuR P .max ts [.int a x,.int b y] H (.int a (if y > x then y else x)):=fun H ρ w l' ty cs hs hL=>by
  obtain ⟨v',u',rfl,hv,hu⟩:=Am.arg2 hL
  cases hv;cases hu
  exact ⟨_,by simp [builtin,Builtin.max_,Builtin.max2],.int _ _⟩
 rw [ltI_eq] at h2
 by_cases hlt:x < y
 ·rw [decide_eq_true hlt] at h2
  rw [if_pos hlt] at fin
  exact ⟨_,h2,fin⟩
 ·rw [decide_eq_false hlt] at h2
  rw [if_neg hlt] at fin
  exact ⟨_,h2,fin⟩
theorem bSliceData_read {ts:Array TypeId} {v:V} {k:V→Prop} (h:bSliceData v k):∃ r,k r∧∀ H,BuR P .unsafeSliceData ts [v] H r:=by
 unfold bSliceData at h
 split at h
 ·refine ⟨_,h,fun H ρ w l' ty cs hs hL=>?_⟩
  obtain ⟨v',rfl,hv⟩:=hL.one
  cases hv
  exact ⟨_,by simp only [builtin,Sem.run_bind];rw [Lib.run_unsafeSliceData_nil w ts ty 0 0];rfl,.nilPtr⟩
 ·rename_i id off n c es ex
  obtain ⟨hc0,h1⟩:=vY h
  have hc0':0 < c:=by simpa using hc0
  refine ⟨_,h1,fun H ρ w l' ty cs hs hL=>?_⟩
  obtain ⟨v',rfl,hv⟩:=hL.one
  cases hv with
  | slice _ _ _ _ _ off' cap' hl ho hc hxx hlen hr =>
    have hoff:=ho hc0'
    subst hoff
    have hne:cap' ≠ 0:=by omega
    exact ⟨_,by simp only [builtin,Sem.run_bind];rw [Lib.run_unsafeSliceData_row w ts ty _ _ _ hne];rfl,.ptr off' hl⟩
 ·exact h.elim
theorem quietK_spec {b:Builtin} {ts:Array TypeId} {l:List V} {S:St} {k:V→Prop} (h:quietK P b ts l S k):∃ v,k v∧BuR P b ts l S.hs v:=by
 unfold quietK at h
 split at h
 ·obtain ⟨s,rfl,h1⟩:=arg1K_spec h
  obtain ⟨t,ht,h2⟩:=wj h1
  obtain ⟨r,h3,h4⟩:=bLen_spec h2
  refine ⟨r,h3,fun ρ w l' ty cs hs hl=>?_⟩
  obtain ⟨v',rfl,hv⟩:=hl.one
  obtain ⟨r',h5,h6⟩:=h4 ρ w v' ts ty ht hs hv
  exact ⟨r',by simp [builtin,h5],h6⟩
 ·obtain ⟨s,rfl,h1⟩:=arg1K_spec h
  obtain ⟨t,ht,h2⟩:=wj h1
  obtain ⟨r,h3,h4⟩:=bCap_spec h2
  refine ⟨r,h3,fun ρ w l' ty cs hs hl=>?_⟩
  obtain ⟨v',rfl,hv⟩:=hl.one
  obtain ⟨r',h5,h6⟩:=h4 ρ w v' ts ty ht hv
  exact ⟨r',by simp [builtin,h5],h6⟩
 ·obtain ⟨s,x,rfl,h1⟩:=arg2K_spec h
  obtain ⟨r,h2,h3⟩:=bMin_read (P:=P) (ts:=ts) h1
  exact ⟨r,h2,h3 _⟩
 ·obtain ⟨s,x,rfl,h1⟩:=arg2K_spec h
  obtain ⟨r,h2,h3⟩:=bMax_read (P:=P) (ts:=ts) h1
  exact ⟨r,h2,h3 _⟩
 ·obtain ⟨s,rfl,h1⟩:=arg1K_spec h
  obtain ⟨r,h2,h3⟩:=bSliceData_read (P:=P) (ts:=ts) h1
  exact ⟨r,h2,h3 _⟩
 ·exact h.elim
theorem readK_spec {o:Op} {S:St} {k:V→Prop} (h:readK P o E S k):∃ v,k v∧ReadS P o E S.hs v:=by
 unfold readK at h
 split at h
 ·exact aLoad_spec h
 ·exact aLookup_spec h
 ·exact aConvPtr_spec h
 ·exact aSliceArr_spec h
 ·rename_i c
  split at h
  ·rename_i b hb
   obtain ⟨l,hl,h1⟩:=opsK_spec h
   obtain ⟨v,h2,h3⟩:=quietK_spec h1
   exact ⟨v,h2,h3.call hb hl⟩
  ·exact h.elim
 ·exact aEntry_spec h
 ·exact h.elim
theorem allocK_spec {o:Op} {k:O→(Nat→V)→Prop} (h:allocK P o E k):∃ ob mk,k ob mk∧AllocS P o E ob mk:=by
 unfold allocK at h
 split at h
 ·exact aAlloc_spec h
 ·exact aBox_spec h
 ·exact aBuildSlice_spec h
 ·exact aMakeMap_spec h
 ·exact aMakeSlice_spec h
 ·exact h.elim

/-! Calls. -/
/-- The fence that lets everything in, in a frame or in a round. -/
abbrev W (r:Option Nat):Fence:={ Fence.wide with round:=r }
/-- An ending with a value. -/
def Rt (ρ:Rho) (H:Hs) (w:World) (v:V) (H':Hs) (e:Ending) (w':World):Prop:=∃ v' ρ',e=.returned v'∧VR ρ' v v'∧Sim ρ' H' w'∧Ext ρ H w ρ' H' w'
/-- What an operation's next is to come to. -/
def Nx (P:Program) (ρ:Rho) (H:Hs) (w:World) (v:V) (H':Hs):Result Next→Prop
 | .ok (.value v') w'=>Rt ρ H w v H' (.returned v') w'
 | .ok .skip w'=>Rt ρ H w v H' (.returned undef) w'
 | .ok (.enter f args) w'=>CallsIn (W none) 0 P f args w' (Rt ρ H w v H')
 | .ok (.round l f tmps assign body) w'=>RoundIn (W none) 0 P l f tmps assign body w' (Rt ρ H w v H')
 | _=>False
theorem room_any (r:Option Nat) (n:Nat):(W r).room n:=fun d h=>by simp [W,Fence.wide] at h
theorem callsIn_any {r:Option Nat} {n:Nat} {f:FuncId} {args:Array Value} {w:World} {R:Ending→World→Prop}:CallsIn (W r) n P f args w R ↔ Calls P f args w R :=
 ⟨fun h=>(callsIn_wide (n:=n)).1 ⟨trivial,fun cs _=>h.2 cs (room_any _ _)⟩,fun h=>⟨trivial,fun cs _=>((callsIn_wide (n:=n)).2 h).2 cs (room_wide _)⟩⟩
theorem roundIn_any {r r':Option Nat} {n n':Nat} {l:Nat} {f:FuncId} {tmps:Array Value} {assign body:Code} {w:World} {R:Ending→World→Prop}
  (h:RoundIn (W r) n P l f tmps assign body w R):RoundIn (W r') n' P l f tmps assign body w R:=⟨trivial,fun c cs _=>h.2 c cs (room_any _ _)⟩
theorem Nx.upon {ρ:Rho} {H:Hs} {w:World} {v:V} {H':Hs} {r:Result Next} (h:Nx P ρ H w v H' r) {ro:Option Nat} {o:Oper} {a:Act} {next:Act→World→Prop} {Q:Exit→Act→World→Prop}
  (hk:∀ v' w' ρ',VR ρ' v v'→Sim ρ' H' w'→Ext ρ H w ρ' H' w'→next (a.put o.dst v') w'):o.uponIn (W ro) 0 P a next Q r:=by
 cases r with
 | halt e w'=>exact h.elim
 | ok n w' =>
   cases n with
   | value v' =>
     obtain ⟨v2,ρ',he,h1,h2,h3⟩:=h
     cases he
     exact hk _ _ _ h1 h2 h3
   | skip =>
     obtain ⟨v2,ρ',he,h1,h2,h3⟩:=h
     cases he
     exact hk _ _ _ h1 h2 h3
   | enter f args =>
     have h':CallsIn (W none) 0 P f args w' (Rt ρ H w v H'):=h
     rw [Oper.uponIn_enter]
     refine ⟨fun hd=>by simp [W,Fence.wide] at hd,?_⟩
     refine (callsIn_any.2 (callsIn_any.1 (h'.mono fun e w'' hR=>?_)))
     obtain ⟨v2,ρ',rfl,h1,h2,h3⟩:=hR
     exact hk _ _ _ h1 h2 h3
   | round l f tmps assign body =>
     have h':RoundIn (W none) 0 P l f tmps assign body w' (Rt ρ H w v H'):=h
     rw [Oper.uponIn_round]
     refine ⟨fun hd=>by simp [W,Fence.wide] at hd,?_⟩
     refine roundIn_any (h'.mono fun e w'' hR=>?_)
     obtain ⟨v2,ρ',rfl,h1,h2,h3⟩:=hR
     exact hk _ _ _ h1 h2 h3
   | _=>exact h.elim
/-- What an operation does, calls among them. -/
def OpW (P:Program) (o:Op) (E:Env) (H:Hs) (v:V) (H':Hs):Prop :=
 ∀ (ρ:Rho) (ev:Operand→Value) (x:Oper) (w:World),x.op=o→EvR ρ E ev o.operands.toList→Globs ρ→Sim ρ H w→Nx P ρ H w v H' ((execOp ev x).run P w)
theorem OpS.opW {o:Op} {H H':Hs} {v:V} (h:OpS P o E H v H'):OpW P o E H v H':=fun ρ ev x w hx he _ hs=>by
 obtain ⟨v',w',ρ',h1,h2,h3,h4⟩:=h ρ ev x w hx he hs
 rcases h1 with h1|⟨rfl,h1⟩
 ·rw [h1];exact ⟨_,ρ',rfl,h2,h3,h4⟩
 ·rw [h1];exact ⟨_,ρ',rfl,h2,h3,h4⟩
/-- What calling a function with values does. -/
def CallS (P:Program) (g:FuncId) (l:List V) (H:Hs) (v:V) (H':Hs):Prop :=
 ∀ (ρ:Rho) (w:World) (l':List Value),Globs ρ→Sim ρ H w→VRs ρ l l'→Nx P ρ H w v H' ((callFunc g ⟨l'⟩).run P w)
/-- What a round of a loop over a function does. -/
def RoundS (P:Program) (id:Nat) (l:List V) (H:Hs) (v:V) (H':Hs):Prop :=
 ∀ (ρ:Rho) (w:World) (l':List Value) (lb:Loc),Globs ρ→Sim ρ H w→ρ id=some lb→VRs ρ l l'→Nx P ρ H w v H' ((Instr.yield lb.blk ⟨l'⟩).run P w)
def CallOk (P:Program) (rc:CallT):Prop:=∀ g l S k,rc g l S k→∃ v S',k v S'∧CallS P g l S.hs v S'.hs
def RoundOk (P:Program) (rd:RoundT):Prop:=∀ id l S k,rd id l S k→∃ v S',k v S'∧RoundS P id l S.hs v S'.hs
/-- A function value's call. -/
def ValS (P:Program) (f:V) (l:List V) (H:Hs) (v:V) (H':Hs):Prop :=
 ∀ (ρ:Rho) (w:World) (f':Value) (l':List Value),Globs ρ→Sim ρ H w→VR ρ f f'→VRs ρ l l' →
   ∃ d,(∀ w,(Deferred.ofValue f' ⟨l'⟩).run P w=.ok d w)∧Nx P ρ H w v H' ((invoke d.target d.args).run P w)
theorem callV_spec {rc:CallT} {rd:RoundT} (hc:CallOk P rc) (hd:RoundOk P rd) {f:V} {l:List V} {S:St} {k:V→St→Prop} (h:callV rc rd f l S k):∃ v S',k v S'∧ValS P f l S.hs v S'.hs:=by
 unfold callV at h
 split at h
 ·rename_i g a b
  have h1:=appK_spec h
  have h2:=appK_spec h1
  obtain ⟨v,S',h3,h4⟩:=hc _ _ _ _ h2
  refine ⟨v,S',h3,fun ρ w f' l' hg hs hf hl=>?_⟩
  cases hf with
  | func _ ha hb =>
    rename_i a' b'
    refine ⟨{ target:=.fn (.func g) ⟨b'⟩,args:=⟨a'⟩ ++ ⟨l'⟩ },fun w=>by simp [Deferred.ofValue],?_⟩
    have:=h4 ρ w ((a' ++ l') ++ b') hg hs ((ha.append hl).append hb)
    simpa [invoke] using this
 ·rename_i id
  obtain ⟨v,S',h3,h4⟩:=hd _ _ _ _ h
  refine ⟨v,S',h3,fun ρ w f' l' hg hs hf hl=>?_⟩
  cases hf with
  | yield hy =>
    rename_i lb
    refine ⟨{ target:=.fn (.yield lb.blk) #[],args:=#[] ++ ⟨l'⟩ },fun w=>by simp [Deferred.ofValue],?_⟩
    have:=h4 ρ w l' lb hg hs hy hl
    simpa [invoke] using this
 ·exact h.elim
theorem chainK_spec {rc:CallT} {rd:RoundT} (hc:CallOk P rc) (hd:RoundOk P rd) {o:Op} {S:St} {k:V→St→Prop} (h:chainK P rc rd o E S k):∃ v S',k v S'∧OpW P o E S.hs v S'.hs:=by
 unfold chainK at h
 split at h
 ·obtain ⟨v,S',h1,h2⟩:=aStore_spec (P:=P) h
  exact ⟨v,S',h1,h2.opW⟩
 ·obtain ⟨v,S',h1,h2⟩:=aMapUpdate_spec h
  exact ⟨v,S',h1,h2.opW⟩
 ·obtain ⟨v,S',h1,h2⟩:=aInsert_spec h
  exact ⟨v,S',h1,h2.opW⟩
 ·obtain ⟨v,S',h1,h2⟩:=aRange_spec h
  exact ⟨v,S',h1,h2.opW⟩
 ·obtain ⟨v,S',h1,h2⟩:=aNext_spec (P:=P) h
  exact ⟨v,S',h1,h2.opW⟩
 ·rename_i c
  split at h
  ·rename_i b hb
   obtain ⟨l,hl,h1⟩:=opsK_spec h
   obtain ⟨v,S',h2,h3⟩:=builtinK_spec h1
   exact ⟨v,S',h2,(h3.call hb hl).opW⟩
  ·rename_i f hf
   obtain ⟨vf,h1,h2⟩:=opK_spec h
   obtain ⟨l,hl,h3⟩:=opsK_spec h2
   obtain ⟨v,S',h4,h5⟩:=callV_spec hc hd h3
   refine ⟨v,S',h4,fun ρ ev x w hx he hg hs=>?_⟩
   have hop:(Op.call c).operands.toList=f :: c.args.toList:=by simp [Op.operands,Call.operands,hf]
   rw [hop] at he
   obtain ⟨d,h6,h7⟩:=h5 ρ w (ev f) (c.args.toList.map ev) hg hs (he.one (x:=f) (by simp) h1) (he.list (fun y hy=>by simp [hy]) hl)
   have:(execOp ev x).run P w=(invoke d.target d.args).run P w:=by
    simp only [execOp,hx,resolve,hf,Sem.run_bind,map_toList ev,h6,Result.andThen_ok]
   rw [this];exact h7
  ·exact h.elim
 ·exact h.elim
/-- What an operation that is looked up does. -/
def ClS (P:Program) (o:Op):Cl→Prop
 | .pure f=>∀ E k,f E k→∃ v,k v∧PureS P o E v
 | .read f=>∀ E S k,f E S k→∃ v,k v∧ReadS P o E S.hs v
 | .alloc f=>∀ E k,f E k→∃ ob mk,k ob mk∧AllocS P o E ob mk
 | .chain f=>∀ rc rd,CallOk P rc→RoundOk P rd→∀ E S k,f rc rd E S k→(∀ c,o ≠ .defer c)∧∃ v S',k v S'∧OpW P o E S.hs v S'.hs
theorem clOf_spec (o:Op):ClS P o (clOf P o):=by
 have pu:∀ f,pureK P o=f→ClS P o (.pure f):=fun f hf E k h=>pureK_spec (by rw [hf];exact h)
 have re:∀ f,readK P o=f→ClS P o (.read f):=fun f hf E S k h=>readK_spec (by rw [hf];exact h)
 have al:∀ f,allocK P o=f→ClS P o (.alloc f):=fun f hf E k h=>allocK_spec (by rw [hf];exact h)
 have ch:∀ f:CallT→RoundT→OpT,(∀ rc rd E S k,f rc rd E S k→chainK P rc rd o E S k)→(∀ c,o ≠ .defer c)→ClS P o (.chain f):=fun f hf hn rc rd hc hd E S k h=>⟨hn,chainK_spec hc hd (hf rc rd E S k h)⟩
 have no:ClS P o (.chain fun _ _ _ _ _=>False):=fun _ _ _ _ _ _ _ h=>h.elim
 cases o with
 | move x=>exact pu _ rfl
 | assign x=>exact pu _ rfl
 | pick c a b=>exact pu _ rfl
 | build t ps=>exact pu _ rfl
 | nilCheck x=>exact pu _ rfl
 | binOp op t x y u=>exact pu _ rfl
 | unOp op t x=>exact pu _ rfl
 | makeInterface t x=>exact pu _ rfl
 | makeFunc fn a b=>exact pu _ rfl
 | fieldAddr t x i=>exact pu _ rfl
 | field t x i=>exact pu _ rfl
 | indexAddr t x i=>exact pu _ rfl
 | index t x i=>exact pu _ rfl
 | extract x i=>exact pu _ rfl
 | convert s d x =>
   show ClS P _ (match ptrConv P s d with|true=>.read (aConvPtr P s d x)|false=>.pure (aConv P s d x))
   cases ptrConv P s d
   ·exact pu _ rfl
   ·exact re _ rfl
 | slice t x l h m =>
   show ClS P _ (match arrSlice P t with|true=>.read (aSliceArr P t x l h m)|false=>.pure (aSlice P t x l h m))
   cases arrSlice P t
   ·exact pu _ rfl
   ·exact re _ rfl
 | load t a=>exact re _ rfl
 | lookup t m key ok=>exact re _ rfl
 | entry x=>exact re _ rfl
 | alloc t=>exact al _ rfl
 | box t x=>exact al _ rfl
 | buildSlice t n ps=>exact al _ rfl
 | makeMap t r=>exact al _ rfl
 | makeSlice t l c=>exact al _ rfl
 | store t a x=>exact ch _ (fun _ _ _ _ _ h=>h) (fun c e=>by cases e)
 | mapUpdate t m key x=>exact ch _ (fun _ _ _ _ _ h=>h) (fun c e=>by cases e)
 | insert t m key x=>exact ch _ (fun _ _ _ _ _ h=>h) (fun c e=>by cases e)
 | range t x=>exact ch _ (fun _ _ _ _ _ h=>h) (fun c e=>by cases e)
 | next x b=>exact ch _ (fun _ _ _ _ _ h=>h) (fun c e=>by cases e)
 | call c =>
   have hdef:clOf P (.call c)=match c.callee with
     | .builtin b=>match quietB b with
       | true=>.read fun E S k=>opsK E c.args.toList fun l=>quietK P b c.argTypes l S k
       | false=>.chain fun _ _ E S k=>opsK E c.args.toList fun l=>builtinK P b c.argTypes l S k
     | .value f=>.chain fun rc rd E S k=>opK E f fun f=>opsK E c.args.toList fun l=>callV rc rd f l S k
     | _=>.chain fun _ _ _ _ _=>False:=rfl
   rw [hdef]
   cases hcal:c.callee with
   | builtin b =>
     show ClS P (.call c) (match quietB b with
       | true=>.read fun E S k=>opsK E c.args.toList fun l=>quietK P b c.argTypes l S k
       | false=>.chain fun _ _ E S k=>opsK E c.args.toList fun l=>builtinK P b c.argTypes l S k)
     cases hq:quietB b with
     | true =>
       refine re _ (funext fun E=>funext fun S=>funext fun k=>?_)
       simp only [readK,hcal]
     | false=>exact ch _ (fun rc rd E S k h=>by simp only [chainK,hcal];exact h) (fun c e=>by cases e)
   | value f=>exact ch _ (fun rc rd E S k h=>by simp only [chainK,hcal];exact h) (fun c e=>by cases e)
   | _=>exact no
 | _=>exact no
end Go.Am
/- The evaluator: regions, code, loops, calls. Definitions alone. -/
namespace Go.Am

inductive X where
 | normal
 | exit (id:Nat)
 | ret
abbrev KT:=X→Env→List Nat→St→Prop
abbrev LoopT:=Option Nat→Code→Env→List Nat→St→KT→Prop
/-- A drawn region. -/
abbrev DrawT:=Array Oper→Env→St→(Env→St→Prop)→Prop
noncomputable def dstOf (ops:List Oper) (j:Nat):Option Tmp:=Option.rec none (fun o=>o.dst) (nth ops j)
/-- A guard, looked up once: none, a slot and what it is to be, or what is not known. -/
inductive Gc where
 | none
 | slot (p:P4) (want:Bool)
 | bad
noncomputable def gc (ops:List Oper) (g:Option (Nat × Bool)):Gc:=match g with
 | .none=>.none
 | some q=>match dstOf ops q.1 with|.none=>.bad|some t=>.slot (path t) q.2
noncomputable def gTest (w:Bool) (yes no:Prop) (v:V):Prop:=V.rec (motive_1:=fun _=>Prop) (motive_2:=fun _=>Prop) (fun b=>Bool.rec (motive:=fun _=>Prop) (Bool.rec (motive:=fun _=>Prop) yes no w) (Bool.rec (motive:=fun _=>Prop) no yes w) b) (fun _ _=>False) (fun _ _=>False) (fun _=>False) (fun _ _=>False) False (fun _ _ _ _ _ _=>False) False (fun _=>False) False (fun _ _ _ _ _=>False) (fun _=>False) False (fun _ _ _=>False) False (fun _ _=>False) (fun _ _=>no) False True (fun _ _ _ _=>True) v
noncomputable def gNone (_:Env) (yes _:Prop):Prop:=yes
noncomputable def gSlot (p:P4) (w:Bool) (E:Env) (yes no:Prop):Prop:=Option.rec (motive:=fun _=>Prop) False (gTest w yes no) (getP E p)
noncomputable def gBad (_:Env) (_ _:Prop):Prop:=False
noncomputable def guardK (E:Env) (ops:List Oper) (g:Option (Nat × Bool)) (yes no:Prop):Prop:=Gc.rec (motive:=fun _=>Env→Prop→Prop→Prop) gNone gSlot gBad (gc ops g) E yes no
noncomputable def dstP (d:Option Tmp):Option P4:=match d with|none=>none|some t=>some (path t)
noncomputable def putDst (E:Env) (d:Option Tmp) (v:V) (k:Env→Prop):Prop:=Option.rec (motive:=fun _=>Prop) (k E) (fun p=>setP E p v k) (dstP d)
noncomputable def evOps (P:Program) (rc:CallT) (rd:RoundT) (ops:List Oper) (l:List Oper):Env→St→(Env→St→Prop)→Prop :=
 List.rec (motive:=fun _=>Env→St→(Env→St→Prop)→Prop) (fun E S k=>k E S)
  (fun o _ ih E S k=>guardK E ops o.guard (evOp P rc rd o.op E S fun v S=>putDst E o.dst v fun E=>ih E S k) (putDst E o.dst undefV fun E=>ih E S k)) l
noncomputable def loopK (S:St) (id:Nat) (k:LoopState→Option Code→Env→List Tmp→Code→Code→Nat→Prop):Prop :=
 Option.casesOn (T.get deep id S.hp) False fun o=>match o with|.loop st pe E ps a b d=>k st pe E ps a b d|_=>False
noncomputable def layParams (ps:List Tmp):List V→Env→(Env→Prop)→Prop :=
 List.rec (motive:=fun _=>List V→Env→(Env→Prop)→Prop) (fun l E k=>List.casesOn l (k E) fun _ _=>False) (fun p _ ih l E k=>List.casesOn l False fun v l=>tset E p v fun E=>ih l E k) ps
/-- A function value of a function with a body. -/
def bodyV (P:Program) (f:V):Bool:=match f with
 | .func (.func g) _ _=>match P.funcs[g]? with|some fn=>fn.body.isSome|none=>false
 | _=>false
/-- A loop over a function, its block for deferred calls at hand. -/
noncomputable def goLoop (P:Program) (rc:CallT) (rd:RoundT) (f:Operand) (ps:List Tmp) (a b:Code) (d:Nat) (E:Env) (D:List Nat) (S:St) (k:KT):Prop :=
 newK (.loop .ready none E ps a b d) S fun l S=>opK E f fun f=>ifK (bodyV P f) (callV rc rd f [.yield l] S fun _ S =>
  loopK S l fun st pe E' ps a b d=>match st with
   | .busy=>False
   | _=>putK l (some (.loop .exhausted pe E' ps a b d)) S fun S=>match pe with
     | none=>k .normal E D S
     | some .ret=>k .ret E D S
     | some (.exit id)=>k (.exit id) E D S
     | _=>False)
noncomputable def wk (P:Program) (rc:CallT) (rd:RoundT) (lp:LoopT) (dr:DrawT) (ro:Option Nat) (c:Code):Env→List Nat→St→KT→Prop :=
 Code.rec (motive:=fun _=>Env→List Nat→St→KT→Prop)
  (fun E D S k=>k .normal E D S)
  (fun _ ops draw E D S k=>Bool.rec (evOps P rc rd ops.toList ops.toList E S fun E S=>k .normal E D S) (dr ops E S fun E S=>k .normal E D S) draw)
  (fun _ _ ia ib E D S k=>ia E D S fun x E D S=>X.casesOn x (ib E D S k) (fun id=>k (.exit id) E D S) (k .ret E D S))
  (fun c _ _ ia ib E D S k=>opK E c fun v=>vBool v fun b=>Bool.rec (ib E D S k) (ia E D S k) b)
  (fun id _ ih E D S k=>ih E D S fun x E D S=>X.casesOn x (k .normal E D S) (fun id'=>Bool.rec (k (.exit id') E D S) (k .normal E D S) (Nat.beq id' id)) (k .ret E D S))
  (fun b _ E D S k=>lp ro b E D S k)
  (fun f ps a b _ _ E D S k=>Option.casesOn ro (newK .deferred S fun d S=>goLoop P rc rd f ps.toList a b d E (d :: D) S k) fun l=>loopK S l fun _ _ _ _ _ _ d=>goLoop P rc rd f ps.toList a b d E D S k)
  (fun id E D S k=>k (.exit id) E D S)
  (fun _ ih E D S k=>ih E D S k)
  (fun _ E D S k=>k .normal E D S)
  (fun _ _ _ _ _=>False)
  (fun E D S k=>k .ret E D S)
  (fun _ _ _ _ _=>False) c
noncomputable def resK (P:Program) (E:Env) (S:St) (l:List ResultVar):(List V→Prop)→Prop :=
 List.rec (motive:=fun _=>(List V→Prop)→Prop) (fun k=>k []) (fun r _ ih k=>ResultVar.casesOn r (fun t=>Option.casesOn (tget E t) False fun v=>ih fun l=>k (v :: l))
  (fun a t=>Option.casesOn (tget E a) False fun p=>loadK P t p S fun v=>ih fun l=>k (v :: l))) l
noncomputable def resultsK (P:Program) (fn:Func) (E:Env) (S:St) (k:V→Prop):Prop:=resK P E S fn.results.toList fun l=>match l with|[v]=>k v|l=>k (.tup l)
noncomputable def layArgs (l:List V):Nat→Env→(Env→Prop)→Prop :=
 List.rec (motive:=fun _=>Nat→Env→(Env→Prop)→Prop) (fun _ E k=>k E) (fun v _ ih t E k=>tset E t v fun E=>ih (Nat.succ t) E k) l
noncomputable def popD (D:List Nat):St→(St→Prop)→Prop :=
 List.rec (motive:=fun _=>St→(St→Prop)→Prop) (fun S k=>k S) (fun d _ ih S k=>Option.casesOn (T.get deep d S.hp) False fun o=>match o with|.deferred=>putK d none S fun S=>ih S k|_=>False) D
noncomputable def evCall (P:Program) (Xt:Exts) (rc:CallT) (rd:RoundT) (lp:LoopT) (dr:DrawT):CallT:=fun f args S k =>
 Option.casesOn (P.funcs[f]?) False fun fn=>Option.casesOn fn.body (externK P Xt f args S k) fun c=>Bool.rec
  (layArgs args 0 (blank fn.ntmps) fun E=>wk P rc rd lp dr none c E [] S fun x E D S=>X.casesOn x (popD D S fun S=>resultsK P fn E S fun v=>k v S) (fun _=>False) (popD D S fun S=>resultsK P fn E S fun v=>k v S))
  False (fn.name == "runtime.NumGoroutine")
noncomputable def evRound (P:Program) (rc:CallT) (rd:RoundT) (lp:LoopT) (dr:DrawT):RoundT:=fun l args S k =>
 loopK S l fun _ _ E ps a b _=>layParams ps args E fun E=>wk P rc rd lp dr (some l) a E [] S fun x E D S=>X.casesOn x
  (loopK S l fun st pe E' ps a b' d=>match st with
   | .ready=>putK l (some (.loop .busy pe E' ps a b' d)) S fun S=>wk P rc rd lp dr (some l) b E D S fun x _ _ S =>
     loopK S l fun _ _ E' ps a b' d=>X.casesOn x (putK l (some (.loop .ready none E' ps a b' d)) S fun S=>k (.bool true) S)
      (fun id=>putK l (some (.loop .done (some (.exit id)) E' ps a b' d)) S fun S=>k (.bool false) S)
      (putK l (some (.loop .done (some .ret) E' ps a b' d)) S fun S=>k (.bool false) S)
   | _=>False) (fun _=>False) False
structure Runs where
 call:CallT
 round:RoundT
 loop:LoopT
/-- The evaluator, to a depth. 'dr': how a drawn region is run, out of how calls are. -/
noncomputable def evAll (P:Program) (Xt:Exts) (dr:CallT→RoundT→DrawT) (n:Nat):Runs :=
 Nat.rec (motive:=fun _=>Runs) ⟨fun _ _ _ _=>False,fun _ _ _ _=>False,fun _ _ _ _ _ _=>False⟩
  (fun _ r=>⟨evCall P Xt r.call r.round r.loop (dr r.call r.round),evRound P r.call r.round r.loop (dr r.call r.round),
   fun ro b E D S k=>wk P r.call r.round r.loop (dr r.call r.round) ro b E D S fun x E D S=>X.casesOn x (r.loop ro b E D S k) (fun id=>k (.exit id) E D S) (k .ret E D S)⟩) n
end Go.Am
/- Operations one after the other. -/
namespace Go.Am
variable {P:Program} {E:Env}

theorem newK_spec {o:O} {S:St} {mk:Nat→V} {k:V→St→Prop} (h:newK o S fun id S=>k (mk id) S):∃ S',k (mk S.hs.next) S'∧S'.hs=S.hs.new o:=by
 obtain ⟨S',h1,h2⟩:=new_spec h
 exact ⟨S',h1,h2⟩
theorem evOp_spec {rc:CallT} {rd:RoundT} (hc:CallOk P rc) (hd:RoundOk P rd) {o:Op} {S:St} {k:V→St→Prop} (h:evOp P rc rd o E S k):∃ v S',k v S'∧OpW P o E S.hs v S'.hs:=by
 unfold evOp at h
 have hs:=clOf_spec (P:=P) o
 cases hcl:clOf P o with
 | pure f =>
   rw [hcl] at h hs
   obtain ⟨v,h1,h2⟩:=hs _ _ h
   exact ⟨v,S,h1,((h2.read S.hs).op).opW⟩
 | read f =>
   rw [hcl] at h hs
   obtain ⟨v,h1,h2⟩:=hs _ _ _ h
   exact ⟨v,S,h1,h2.op.opW⟩
 | alloc f =>
   rw [hcl] at h hs
   obtain ⟨ob,mk,h1,h2⟩:=hs _ _ h
   obtain ⟨S',h3,hS⟩:=newK_spec h1
   refine ⟨_,S',h3,?_⟩
   rw [hS]
   exact h2.op.opW
 | chain f =>
   rw [hcl] at h hs
   exact (hs _ _ hc hd _ _ _ h).2
theorem evOp_defer {rc:CallT} {rd:RoundT} {c:Call} {S:St} {k:V→St→Prop} (h:evOp P rc rd (.defer c) E S k):False:=h

/-- What the act holds: slots and the marks of the loops over functions. -/
def DR (ρ:Rho):List Nat→List Deferred→Prop
 | [],[]=>True
 | d :: D,e :: es=>(∃ l,ρ d=some l∧e={ target:=.collected l.blk,args:=#[] })∧DR ρ D es
 | _,_=>False
theorem DR.mono {ρ ρ':Rho} (h:ρ.le ρ'):∀ {D:List Nat} {es:List Deferred},DR ρ D es→DR ρ' D es
 | [],[],_=>trivial
 | _ :: _,_ :: _,⟨⟨l,a,b⟩,c⟩=>⟨⟨l,h _ _ a,b⟩,c.mono h⟩
 | [],_ :: _,h=>h.elim
 | _ :: _,[],h=>by cases h
theorem Globs.mono {ρ ρ':Rho} (h:ρ.le ρ') (hg:Globs ρ):Globs ρ':=fun g hlt=>let ⟨l,a,b,c⟩:=hg g hlt;⟨l,h _ _ a,b,c⟩
theorem eval_evT (a:Act):a.eval=evT a.tmps:=funext fun x=>by cases x <;> rfl

theorem putDst_spec {d:Option Tmp} {v:V} {k:Env→Prop} (h:putDst E d v k):∃ E',k E'∧∀ (ρ ρ':Rho) (a:Act) (v':Value),ρ.le ρ'→ER ρ E a.tmps→VR ρ' v v'→ER ρ' E' (a.put d v').tmps∧(a.put d v').defers=a.defers:=by
 cases d with
 | none=>exact ⟨E,h,fun ρ ρ' a v' hle he _=>⟨he.mono hle,rfl⟩⟩
 | some t =>
   obtain ⟨E',h1,h2,h3⟩:=tset_spec (show tset E t v k from h)
   exact ⟨E',h1,fun ρ ρ' a v' hle he hv=>⟨(he.mono hle).set h2 h3 hv,rfl⟩⟩
theorem guardK_some {ops:List Oper} {q:Nat × Bool} {yes no:Prop} (h:guardK E ops (some q) yes no):∃ t,dstOf ops q.1=some t∧∃ v,tget E t=some v∧(match v with
  | .bool b=>Bool.rec (motive:=fun _=>Prop) (Bool.rec (motive:=fun _=>Prop) yes no q.2) (Bool.rec (motive:=fun _=>Prop) no yes q.2) b
  | .tup _=>no
  | _=>False):=by
 unfold guardK at h
 have hg:gc ops (some q)=match dstOf ops q.1 with|.none=>.bad|some t=>.slot (path t) q.2:=rfl
 rw [hg] at h
 cases hd:dstOf ops q.1 with
 | none=>rw [hd] at h;exact h.elim
 | some t =>
   rw [hd] at h
   obtain ⟨v,h1,h2⟩:=wj (show Option.rec (motive:=fun _=>Prop) False _ (getP E (path t)) from h)
   exact ⟨t,rfl,v,h1,by cases v <;> exact h2⟩
theorem guardK_spec {ops:Array Oper} {o:Oper} {yes no:Prop} (h:guardK E ops.toList o.guard yes no) :
  (yes∧∀ (ρ:Rho) (tmps:Array Value),ER ρ E tmps→Region.wanted o (yielded ops tmps)=true) ∨ (no∧∀ (ρ:Rho) (tmps:Array Value),ER ρ E tmps→Region.wanted o (yielded ops tmps)=false):=by
 cases hg:o.guard with
 | none =>
   rw [hg] at h
   exact .inl ⟨h,fun ρ tmps _=>by simp [Region.wanted,hg]⟩
 | some q =>
   rw [hg] at h
   obtain ⟨t,h1,v,h3,h4⟩:=guardK_some h
   have hd:(ops[q.1]?).bind (·.dst)=some t:=by
    unfold dstOf at h1
    rw [nth_eq] at h1
    have e:ops.toList[q.1]?=ops[q.1]?:=by simp
    rw [e] at h1
    cases ho:ops[q.1]? with
    | none=>rw [ho] at h1;cases h1
    | some o'=>rw [ho] at h1;exact h1
   have hw:∀ tmps,Region.wanted o (yielded ops tmps)=(yielded ops tmps q.1 == some q.2):=fun tmps=>by simp [Region.wanted,hg]
   split at h4
   ·rename_i b
    have hy:∀ (ρ:Rho) (tmps:Array Value),ER ρ E tmps→yielded ops tmps q.1=some b:=fun ρ tmps he=>by
     obtain ⟨v',a,c⟩:=he t _ h3
     cases c
     unfold yielded
     rw [hd,Option.bind_some,a]
    cases b with
    | true =>
      cases hq:q.2 with
      | true =>
        rw [hq] at h4
        exact .inl ⟨h4,fun ρ tmps he=>by rw [hw,hy ρ tmps he,hq];rfl⟩
      | false =>
        rw [hq] at h4
        exact .inr ⟨h4,fun ρ tmps he=>by rw [hw,hy ρ tmps he,hq];rfl⟩
    | false =>
      cases hq:q.2 with
      | true =>
        rw [hq] at h4
        exact .inr ⟨h4,fun ρ tmps he=>by rw [hw,hy ρ tmps he,hq];rfl⟩
      | false =>
        rw [hq] at h4
        exact .inl ⟨h4,fun ρ tmps he=>by rw [hw,hy ρ tmps he,hq];rfl⟩
   ·refine .inr ⟨h4,fun ρ tmps he=>?_⟩
    obtain ⟨v',a,c⟩:=he t _ h3
    cases c
    rw [hw]
    unfold yielded
    rw [hd,Option.bind_some,a]
    rfl
   ·exact h4.elim

/-- After some operations. -/
def Aft (ρ:Rho) (H:Hs) (w:World) (E':Env) (D':List Nat) (H':Hs) (a':Act) (w':World):Prop:=∃ ρ',ER ρ' E' a'.tmps∧DR ρ' D' a'.defers∧Sim ρ' H' w'∧Ext ρ H w ρ' H' w'
/-- One operation, in a region's list. -/
theorem OpW.step {o:Oper} {H H':Hs} {v:V} (hop:OpW P o.op E H v H') (hnd:∀ c,o.op ≠ .defer c) {ro:Option Nat} {ops:Array Oper} {Q:Exit→Act→World→Prop} {i:Nat} {rest:List Nat} (hi:ops[i]?=some o)
  {ρ:Rho} {a:Act} {w:World} (hE:ER ρ E a.tmps) (hg:Globs ρ) (hs:Sim ρ H w) (hw:Region.wanted o (yielded ops a.tmps)=true)
  (hk:∀ v' w' ρ',VR ρ' v v'→Sim ρ' H' w'→Ext ρ H w ρ' H' w'→wpOpsIn (W ro) 0 P ops Q rest (a.put o.dst v') w'):wpOpsIn (W ro) 0 P ops Q (i :: rest) a w:=by
 simp only [wpOpsIn,hi,hw,if_true]
 refine ⟨fun f _=>trivial,?_⟩
 rw [Oper.semAt_eq _ _ _ hnd]
 have:=hop ρ a.eval o w rfl (by rw [eval_evT];exact EvR.of_ER hE hg _) hg hs
 exact this.upon hk
theorem evOps_spec {rc:CallT} {rd:RoundT} (hc:CallOk P rc) (hd:RoundOk P rd) {ops:Array Oper}:∀ (l:List Oper) (i:Nat) (E:Env) (S:St) (k:Env→St→Prop),ops.toList.drop i=l →
  evOps P rc rd ops.toList l E S k→∃ E' S',k E' S'∧∀ (ro:Option Nat) (ρ:Rho) (D:List Nat) (a:Act) (w:World) (Q:Exit→Act→World→Prop),ER ρ E a.tmps→DR ρ D a.defers→Globs ρ→Sim ρ S.hs w →
   (∀ a' w',Aft ρ S.hs w E' D S'.hs a' w'→Q .normal a' w')→wpOpsIn (W ro) 0 P ops Q (List.range' i l.length) a w
 | [],i,E,S,k,hl,h=>⟨E,S,h,fun ro ρ D a w Q he hD hg hs hq=>hq a w ⟨ρ,he,hD,hs,Ext.refl _ _ _⟩⟩
 | o :: l,i,E,S,k,hl,h=>by
   have hi:ops[i]?=some o:=by
    have:(ops.toList.drop i)[0]?=some o:=by rw [hl];rfl
    rw [List.getElem?_drop] at this
    simpa using this
   have hl':ops.toList.drop (i+1)=l:=by
    have:=congrArg (List.drop 1) hl
    rw [List.drop_drop] at this
    simpa [Nat.add_comm] using this
   have h':guardK E ops.toList o.guard (evOp P rc rd o.op E S fun v S=>putDst E o.dst v fun E=>evOps P rc rd ops.toList l E S k) (putDst E o.dst undefV fun E=>evOps P rc rd ops.toList l E S k):=h
   rcases guardK_spec h' with ⟨h1,hw⟩|⟨h1,hw⟩
   ·have hnd:∀ c,o.op ≠ .defer c:=fun c e=>by rw [e] at h1;exact evOp_defer h1
    obtain ⟨v,S1,h2,h3⟩:=evOp_spec hc hd h1
    obtain ⟨E1,h4,h5⟩:=putDst_spec h2
    obtain ⟨E',S',h6,h7⟩:=evOps_spec hc hd l (i+1) E1 S1 k hl' h4
    refine ⟨E',S',h6,fun ro ρ D a w Q he hD hg hs hq=>?_⟩
    rw [List.length_cons,List.range'_succ]
    refine h3.step hnd hi he hg hs (hw ρ _ he) fun v' w' ρ' hv hs' hx=>?_
    have hle:=hx.le hs
    obtain ⟨he',hdf⟩:=h5 ρ ρ' a v' hle he hv
    refine h7 ro ρ' D _ w' Q he' (by rw [hdf];exact hD.mono hle) (hg.mono hle) hs' fun a' w'' ⟨ρ2,b1,b2,b3,b4⟩=>hq a' w'' ⟨ρ2,b1,b2,b3,hx.trans b4⟩
   ·obtain ⟨E1,h4,h5⟩:=putDst_spec h1
    obtain ⟨E',S',h6,h7⟩:=evOps_spec hc hd l (i+1) E1 S k hl' h4
    refine ⟨E',S',h6,fun ro ρ D a w Q he hD hg hs hq=>?_⟩
    rw [List.length_cons,List.range'_succ]
    obtain ⟨he',hdf⟩:=h5 ρ ρ a undef (Rho.le_refl _) he (VR.undef ρ)
    simp only [wpOpsIn,hi,hw ρ _ he,Bool.false_eq_true,if_false]
    exact ⟨fun f _=>trivial,h7 ro ρ D _ w Q he' (by rw [hdf];exact hD) hg hs hq⟩
end Go.Am
/- Code. -/
namespace Go.Am
variable {P:Program}

def X.toExit:X→Exit
 | .normal=>.normal
 | .exit id=>.exit id
 | .ret=>.ret
/-- The round that a frame is of. -/
def RO (ρ:Rho) (ro r:Option Nat):Prop:=match ro with
 | none=>r=none
 | some l=>∃ lb,ρ l=some lb∧r=some lb.blk
theorem RO.mono {ρ ρ':Rho} (h:ρ.le ρ') {ro r:Option Nat} (ho:RO ρ ro r):RO ρ' ro r:=by
 cases ro with
 | none=>exact ho
 | some l=>obtain ⟨lb,a,b⟩:=ho;exact ⟨lb,h _ _ a,b⟩
def CodeS (P:Program) (ro:Option Nat) (c:Code) (E:Env) (D:List Nat) (H:Hs) (x:X) (E':Env) (D':List Nat) (H':Hs):Prop :=
 ∀ (ρ:Rho) (r:Option Nat) (a:Act) (w:World) (Q:Exit→Act→World→Prop),RO ρ ro r→ER ρ E a.tmps→DR ρ D a.defers→Globs ρ→Sim ρ H w →
   (∀ a' w',Aft ρ H w E' D' H' a' w'→Q x.toExit a' w')→c.wpIn (W r) 0 P Q a w
/-- From the head of a loop's round on. -/
def HeadIn (F:Fence) (n:Nat) (P:Program) (c:Code) (Q:Exit→Act→World→Prop) (a:Act) (w:World):Prop :=
 ∀ (b:Frame) (k:List Item) (cs:List Frame),b.roundOf=F.round→F.fn b.fn→F.room (cs.length+1+n) →
   ∃ e a' w',Q e a' w'∧ArrivesIn (Machine.fenced P F) P (lone (b.atR a (.code c :: .inLoop c :: k)) cs w) b k cs e a' w'
theorem HeadIn.loop {F:Fence} {n:Nat} {c:Code} {Q:Exit→Act→World→Prop} {a:Act} {w:World} (h:HeadIn F n P c Q a w):(Code.loop c).wpIn F n P Q a w:=fun b k cs hro hb hr =>
 let ⟨e,a',w',hq,harr⟩:=h b k cs hro hb hr
 ⟨e,a',w',hq,.of_steps (.one (fenced_calm hb hr rfl) stepR_loop) harr⟩
theorem HeadIn.of {F:Fence} {n:Nat} {c:Code} {Q:Exit→Act→World→Prop} {a:Act} {w:World} (h:c.wpIn F n P (Exit.then (HeadIn F n P c Q) Q) a w):HeadIn F n P c Q a w:=by
 intro b k cs hro hb hr
 obtain ⟨e,a₁,w₁,hq,harr⟩:=h b (.inLoop c :: k) cs hro hb hr
 cases e with
 | normal =>
   obtain ⟨e₂,a₂,w₂,hq₂,harr₂⟩:=hq b k cs hro hb hr
   exact ⟨e₂,a₂,w₂,hq₂,.of_steps (StepsIn.trans harr (.one (fenced_calm hb hr rfl) stepR_inLoop)) harr₂⟩
 | exit id=>exact ⟨_,a₁,w₁,hq,.pass (x:=.inLoop c) rfl (fun _ _=>.inl (by simp)) harr⟩
 | goto l=>exact ⟨_,a₁,w₁,hq,.pass (x:=.inLoop c) rfl (fun _ _=>.inl (by simp)) harr⟩
 | ret=>exact ⟨_,a₁,w₁,hq,.pass (x:=.inLoop c) rfl (fun _ _=>.inl (by simp)) harr⟩
 | panic ch=>exact ⟨_,a₁,w₁,hq,.pass (x:=.inLoop c) rfl (fun _ _=>.inl (by simp)) harr⟩
 | outgrown=>exact ⟨_,a₁,w₁,hq,.pass (x:=.inLoop c) rfl (fun _ _=>.inl (by simp)) harr⟩
def LoopS (P:Program) (ro:Option Nat) (c:Code) (E:Env) (D:List Nat) (H:Hs) (x:X) (E':Env) (D':List Nat) (H':Hs):Prop :=
 ∀ (ρ:Rho) (r:Option Nat) (a:Act) (w:World) (Q:Exit→Act→World→Prop),RO ρ ro r→ER ρ E a.tmps→DR ρ D a.defers→Globs ρ→Sim ρ H w →
   (∀ a' w',Aft ρ H w E' D' H' a' w'→Q x.toExit a' w')→HeadIn (W r) 0 P c Q a w

/-! Scopes (no 'goto'). -/
section
variable {b:Frame} {a:Act} {k:List Item} {cs:List Frame} {w:World}
theorem stepR_scope {c:Code}:step P (lone (b.atR a (.code (.scope c) :: k)) cs w)=.next (lone (b.atR a (.code c :: .inScope c :: k)) cs w) :=
 step_lone_go (by simp [stepG,stepG.exec,Frame.atR])
theorem stepR_inScope {c:Code}:step P (lone (b.atR a (.inScope c :: k)) cs w)=.next (lone (b.atR a k) cs w) :=
 step_lone_go (by simp [stepG,stepG.exec,Frame.atR])
end
theorem wpIn_scope {F:Fence} {n:Nat} {c:Code} {Q:Exit→Act→World→Prop} {a:Act} {w:World} (h:c.wpIn F n P (fun e a w=>(∀ l,e ≠ .goto l)∧Q e a w) a w):(Code.scope c).wpIn F n P Q a w:=by
 intro b k cs hro hb hr
 have h0:(lone (b.atR a (.code (.scope c) :: k)) cs w).fenced P F:=fenced_calm hb hr rfl
 obtain ⟨e,a₁,w₁,⟨hg,hq⟩,harr⟩:=h b (.inScope c :: k) cs hro hb hr
 cases e with
 | normal=>exact ⟨.normal,a₁,w₁,hq,.head h0 stepR_scope (StepsIn.trans harr (.one (fenced_calm hb hr rfl) stepR_inScope))⟩
 | exit id =>
   have hx:exitTo id (.inScope c :: k)=exitTo id k:=by simp [exitTo]
   exact ⟨.exit id,a₁,w₁,hq,fun k' hk=>.head h0 stepR_scope (harr.1 k' (by rw [hx];exact hk)),
    fun hr' hk=>let ⟨k₁,h1,h2⟩:=harr.2 hr' (by rw [hx];exact hk);⟨k₁,h1,.head h0 stepR_scope h2⟩⟩
 | goto l=>exact absurd rfl (hg l)
 | ret=>exact ⟨_,a₁,w₁,hq,.of_steps (.one h0 stepR_scope) harr⟩
 | panic ch=>exact ⟨_,a₁,w₁,hq,.of_steps (.one h0 stepR_scope) harr⟩
 | outgrown=>exact ⟨_,a₁,w₁,hq,.of_steps (.one h0 stepR_scope) harr⟩

def LoopOk (P:Program) (lp:LoopT):Prop:=∀ ro c E D S k,lp ro c E D S k→∃ x E' D' S',k x E' D' S'∧LoopS P ro c E D S.hs x E' D' S'.hs
/-- What a drawn region's evaluator keeps. -/
def DrawOk (P:Program) (dr:DrawT):Prop:=∀ ops E S k,dr ops E S k→∃ E' S',k E' S'∧∀ (id:Nat) (r:Option Nat) (ρ:Rho) (D:List Nat) (a:Act) (w:World) (Q:Exit→Act→World→Prop),ER ρ E a.tmps→DR ρ D a.defers→Globs ρ→Sim ρ S.hs w →
 (∀ a' w',Aft ρ S.hs w E' D S'.hs a' w'→Q .normal a' w')→(Code.region id ops true).wpIn (W r) 0 P Q a w
theorem loopK_spec {S:St} {id:Nat} {k:LoopState→Option Code→Env→List Tmp→Code→Code→Nat→Prop} (h:loopK S id k):∃ st pe E ps a b d,S.hs.get id=some (.loop st pe E ps a b d)∧k st pe E ps a b d:=by
 obtain ⟨o,h1,h2⟩:=wj (show Option.rec (motive:=fun _=>Prop) False _ (T.get deep id S.hp) from h)
 cases o <;> first|exact h2.elim|exact ⟨_,_,_,_,_,_,_,h1,h2⟩
theorem Aft.comp {ρ ρ1:Rho} {H H1 H':Hs} {w w1:World} (hx:Ext ρ H w ρ1 H1 w1) {E':Env} {D':List Nat} {a':Act} {w':World} (h:Aft ρ1 H1 w1 E' D' H' a' w'):Aft ρ H w E' D' H' a' w' :=
 let ⟨ρ2,b1,b2,b3,b4⟩:=h
 ⟨ρ2,b1,b2,b3,hx.trans b4⟩
end Go.Am
/- Loops over functions. -/
namespace Go.Am
variable {P:Program}

theorem ValS.enter {f:V} {l:List V} {H H':Hs} {v:V} (h:ValS P f l H v H') (hb:bodyV P f=true) (ρ:Rho) (w:World) (f':Value) (l':List Value) (hg:Globs ρ) (hs:Sim ρ H w) (hf:VR ρ f f') (hl:VRs ρ l l') :
  ∃ d g args,(∀ w,(Deferred.ofValue f' ⟨l'⟩).run P w=.ok d w)∧(invoke d.target d.args).run P w=.ok (.enter g args) w∧CallsIn (W none) 0 P g args w (Rt ρ H w v H'):=by
 obtain ⟨d,h1,h2⟩:=h ρ w f' l' hg hs hf hl
 unfold bodyV at hb
 split at hb
 ·rename_i g a b
  cases hf with
  | func _ ha hb' =>
    rename_i a' b'
    have hd:d={ target:=.fn (.func g) ⟨b'⟩,args:=⟨a'⟩ ++ ⟨l'⟩ }:=by
     have:=h1 w
     simp [Deferred.ofValue] at this
     rw [← this];simp
    subst hd
    split at hb
    ·rename_i fn hfn
     cases hbody:fn.body with
     | none=>rw [hbody] at hb;cases hb
     | some c =>
       by_cases hname:fn.name = "runtime.NumGoroutine"
       ·simp [invoke,callFunc,hfn,hname,Nx] at h2
       ·have hr:(invoke (.fn (.func g) ⟨b'⟩) (⟨a'⟩ ++ ⟨l'⟩)).run P w=.ok (.enter g ((⟨a'⟩ ++ ⟨l'⟩) ++ ⟨b'⟩)) w:=by
         simp [invoke,callFunc,hfn,hname,hbody]
        rw [hr] at h2
        exact ⟨_,g,_,h1,hr,h2⟩
    ·cases hb
 ·cases hb

def loopOf (st:LoopState) (pe:Option Code) (fn:FuncId) (tmps:Array Value) (ps:List Tmp) (a b:Code) (d:Nat):Obj:=.loop { state:=st,pending:=pe,fn,tmps,params:=⟨ps⟩,assign:=a,body:=b,defers:=d }
theorem Sim.loop {ρ:Rho} {H:Hs} {w:World} (hs:Sim ρ H w) {id:Nat} {st:LoopState} {pe:Option Code} {E:Env} {ps:List Tmp} {a b:Code} {d:Nat} (h:H.get id=some (.loop st pe E ps a b d)) {l:Loc} (hl:ρ id=some l) :
  l.rw=true∧l.base=0∧∃ fn tmps ld,w.heap[l.blk]?=some (loopOf st pe fn tmps ps a b ld.blk)∧ER ρ E tmps∧ρ d=some ld:=by
 obtain ⟨l',co,x1,x2,⟨hr,h0⟩,fn,tmps,ld,rfl,x3,x4⟩:=hs.obj id _ h
 rw [hl] at x1;cases x1
 exact ⟨hr,h0,fn,tmps,ld,x2,x3,x4⟩
theorem run_getLoop {w:World} {l:Nat} {st:LoopState} {pe:Option Code} {fn:FuncId} {tmps:Array Value} {ps:List Tmp} {a b:Code} {d:Nat} (h:w.heap[l]?=some (loopOf st pe fn tmps ps a b d)) :
  (Instr.getLoop l).run P w=.ok { state:=st,pending:=pe,fn,tmps,params:=⟨ps⟩,assign:=a,body:=b,defers:=d } w:=by
 simp [Instr.getLoop,run_getObj h (by simp [loopOf]),loopOf]
/-- A loop's record with another state. -/
theorem Sim.putLoop {ρ:Rho} {H:Hs} {w:World} (hs:Sim ρ H w) {id:Nat} {st st':LoopState} {pe pe':Option Code} {E:Env} {ps:List Tmp} {a b:Code} {d:Nat} (h:H.get id=some (.loop st pe E ps a b d)) {l:Loc} (hl:ρ id=some l)
  {fn:FuncId} {tmps:Array Value} {ld:Loc} (hw:w.heap[l.blk]?=some (loopOf st pe fn tmps ps a b ld.blk)) (hE:ER ρ E tmps) (hd:ρ d=some ld) :
  ∃ w',(setObj l.blk (loopOf st' pe' fn tmps ps a b ld.blk)).run P w=.ok () w'∧Sim ρ (H.put id (some (.loop st' pe' E ps a b d))) w'∧Ext ρ H w ρ (H.put id (some (.loop st' pe' E ps a b d))) w':=by
 obtain ⟨hr,h0,_⟩:=hs.loop h hl
 have hp:=putObj_spec hs h hl hr hw (o':=.loop st' pe' E ps a b d) (co':=loopOf st' pe' fn tmps ps a b ld.blk) ⟨⟨hr,h0⟩,fn,tmps,ld,rfl,hE,hd⟩
 exact ⟨_,run_setObj hw (by simp [loopOf]),hp.1,hp.2⟩

theorem run_endLoop {w w':World} {l:Nat} {st:LoopState} {pe:Option Code} {fn:FuncId} {tmps:Array Value} {ps:List Tmp} {a b:Code} {d:Nat} (h:w.heap[l]?=some (loopOf st pe fn tmps ps a b d)) (hb:st ≠ .busy)
  (hs:(setObj l (loopOf .exhausted pe fn tmps ps a b d)).run P w=.ok () w'):(Instr.endLoop l).run P w=.ok pe w':=by
 have hbb:(st == LoopState.busy)=false:=by cases st <;> first|rfl|exact absurd rfl hb
 simp only [Instr.endLoop,Sem.run_bind,run_getLoop h,Result.andThen_ok,hbb,Bool.false_eq_true,if_false,Sem.run_pure]
 simp only [loopOf] at hs
 rw [hs];rfl
theorem goLoop_spec {rc:CallT} {rd:RoundT} (hc:CallOk P rc) (hd:RoundOk P rd) {f:Operand} {ps:List Tmp} {ca cb:Code} {d:Nat} {E:Env} {D:List Nat} {S:St} {k:KT} (h:goLoop P rc rd f ps ca cb d E D S k) :
  ∃ x S',k x E D S'∧∀ (ρ:Rho) (fn:FuncId) (ld:Loc) (tmps:Array Value) (ds:List Deferred) (r:Option Nat) (w:World) (Q:Exit→Act→World→Prop),ρ d=some ld→ER ρ E tmps→DR ρ D ds→Globs ρ→Sim ρ S.hs w →
    (∀ a' w',Aft ρ S.hs w E D S'.hs a' w'→Q x.toExit a' w') →
    ∃ dfr g args,(Deferred.ofValue (evT tmps f) #[.func (.yield w.heap.size) #[] #[]]).run P (w.alloc (loopOf .ready none fn tmps ps ca cb ld.blk))=.ok dfr (w.alloc (loopOf .ready none fn tmps ps ca cb ld.blk)) ∧
      (invoke dfr.target dfr.args).run P (w.alloc (loopOf .ready none fn tmps ps ca cb ld.blk))=.ok (.enter g args) (w.alloc (loopOf .ready none fn tmps ps ca cb ld.blk)) ∧
      CallsIn (W r) 0 P g args (w.alloc (loopOf .ready none fn tmps ps ca cb ld.blk)) (rangePost (W r) 0 P w.heap.size Q { tmps,defers:=ds }):=by
 obtain ⟨S1,h1,hS1⟩:=new_spec h
 obtain ⟨vf,h2,h3⟩:=opK_spec h1
 obtain ⟨hbv,h4⟩:=vY h3
 obtain ⟨v,S2,h5,h6⟩:=callV_spec hc hd h4
 obtain ⟨st,pe,E',ps',a',b',d',hg2,h7⟩:=loopK_spec h5
 have main:st ≠ .busy∧∃ x S',k x E D S'∧S'.hs=S2.hs.put S.next (some (.loop .exhausted pe E' ps' a' b' d')) ∧
   (pe=none∧x=.normal ∨ pe=some .ret∧x=.ret ∨ ∃ id,pe=some (.exit id)∧x=.exit id):=by
  have go:putK S.next (some (.loop .exhausted pe E' ps' a' b' d')) S2 (fun S=>match (generalizing:=false) pe with
    | none=>k .normal E D S
    | some .ret=>k .ret E D S
    | some (.exit id)=>k (.exit id) E D S
    | _=>False)→∃ x S',k x E D S'∧S'.hs=S2.hs.put S.next (some (.loop .exhausted pe E' ps' a' b' d')) ∧
   (pe=none∧x=.normal ∨ pe=some .ret∧x=.ret ∨ ∃ id,pe=some (.exit id)∧x=.exit id):=by
   intro hp
   obtain ⟨S',h8,hS'⟩:=put_spec hp
   split at h8
   ·exact ⟨_,S',h8,hS',.inl ⟨rfl,rfl⟩⟩
   ·exact ⟨_,S',h8,hS',.inr (.inl ⟨rfl,rfl⟩)⟩
   ·exact ⟨_,S',h8,hS',.inr (.inr ⟨_,rfl,rfl⟩)⟩
   ·exact h8.elim
  cases st with
  | busy=>exact h7.elim
  | ready=>exact ⟨by simp,go h7⟩
  | done=>exact ⟨by simp,go h7⟩
  | exhausted=>exact ⟨by simp,go h7⟩
 obtain ⟨hbusy,x,S',hk,hS',hx⟩:=main
 refine ⟨x,S',hk,fun ρ fn ld tmps ds r w Q hld hE hD hg hs hQ=>?_⟩
 have h0:ρ S.hs.next=none:=hs.fresh _ (Nat.le_refl _)
 have ho:OR (ρ.put S.hs.next ⟨w.heap.size,0,0,true⟩) ⟨w.heap.size,0,0,true⟩ (.loop .ready none E ps ca cb d) (loopOf .ready none fn tmps ps ca cb ld.blk) :=
  ⟨⟨rfl,rfl⟩,fn,tmps,ld,rfl,hE.mono (Rho.le_put h0 _),Rho.le_put h0 _ _ _ hld⟩
 obtain ⟨hs1,he1⟩:=hs.alloc (csz:=0) ho
 have hle1:=he1.le hs
 generalize hw1:w.alloc (loopOf .ready none fn tmps ps ca cb ld.blk)=w1 at hs1 he1 ⊢
 generalize hρ1:ρ.put S.hs.next ⟨w.heap.size,0,0,true⟩=ρ1 at hs1 he1 hle1
 have hl1:ρ1 S.next=some ⟨w.heap.size,0,0,true⟩:=by rw [← hρ1];exact Rho.put_self _ _ _
 rw [← hS1] at hs1 he1
 have hf:VR ρ1 vf (evT tmps f):=(EvR.of_ER (hE.mono hle1) (hg.mono hle1) [f]).one (x:=f) (by simp) h2
 obtain ⟨dfr,g,args,q1,q2,q3⟩:=h6.enter hbv ρ1 w1 (evT tmps f) [.func (.yield w.heap.size) #[] #[]] (hg.mono hle1) hs1 hf (.cons (.yield hl1) .nil)
 refine ⟨dfr,g,args,q1 w1,q2,callsIn_any.2 (callsIn_any.1 (q3.mono fun e w3 hR=>?_))⟩
 obtain ⟨v3,ρ2,rfl,r1,r2,r3⟩:=hR
 have hle2:=r3.le hs1
 have hl2:=hle2 _ _ hl1
 obtain ⟨_,_,fn2,tmps2,ld2,hw3,hE2,hd2⟩:=r2.loop hg2 hl2
 obtain ⟨w4,s1,s2,s3⟩:=r2.putLoop (P:=P) (st':=.exhausted) (pe':=pe) hg2 hl2 hw3 hE2 hd2
 rw [← hS'] at s2 s3
 have hend:=run_endLoop (P:=P) hw3 hbusy s1
 have haft:Aft ρ S.hs w E D S'.hs { tmps,defers:=ds } w4:=⟨ρ2,(hE.mono hle1).mono hle2,(hD.mono hle1).mono hle2,s2,(he1.trans r3).trans s3⟩
 refine ⟨pe,w4,hend,?_⟩
 rcases hx with ⟨rfl,rfl⟩|⟨rfl,rfl⟩|⟨id,rfl,rfl⟩
 ·exact hQ _ _ haft
 ·exact wpIn_ret (hQ _ _ haft)
 ·exact wpIn_exit (hQ _ _ haft)
end Go.Am
/- Code, joined. -/
namespace Go.Am
variable {P:Program}

theorem CodeS.rangeNone {rc:CallT} {rd:RoundT} (hc:CallOk P rc) (hd:RoundOk P rd) {f:Operand} {ps:Array Tmp} {ca cb:Code} {E:Env} {D:List Nat} {S:St} {k:KT}
  (h:newK .deferred S fun d S=>goLoop P rc rd f ps.toList ca cb d E (d :: D) S k):∃ x E' D' S',k x E' D' S'∧CodeS P none (.rangeFunc f ps ca cb) E D S.hs x E' D' S'.hs:=by
 obtain ⟨S1,h1,hS1⟩:=new_spec h
 obtain ⟨x,S',h2,h3⟩:=goLoop_spec hc hd h1
 refine ⟨x,E,S.next :: D,S',h2,fun ρ r a w Q hro hE hD hg hs hQ=>?_⟩
 have hr:r=none:=hro
 subst hr
 have h0:ρ S.hs.next=none:=hs.fresh _ (Nat.le_refl _)
 obtain ⟨hs1,he1⟩:=hs.alloc (o:=.deferred) (co:=.deferred (some [])) (csz:=0) ⟨rfl,rfl⟩
 have hle1:=he1.le hs
 generalize hρ1:ρ.put S.hs.next ⟨w.heap.size,0,0,true⟩=ρ1 at hs1 he1 hle1
 have hl1:ρ1 S.next=some ⟨w.heap.size,0,0,true⟩:=by rw [← hρ1];exact Rho.put_self _ _ _
 rw [← hS1] at hs1 he1
 refine wpIn_rangeFunc fun fn _=>?_
 obtain ⟨dfr,g,args,q1,q2,q3⟩:=h3 ρ1 fn ⟨w.heap.size,0,0,true⟩ a.tmps ({ target:=.collected w.heap.size,args:=#[] } :: a.defers) none (w.alloc (.deferred (some []))) Q hl1 (hE.mono hle1)
  ⟨⟨_,hl1,rfl⟩,hD.mono hle1⟩ (hg.mono hle1) hs1 (fun a' w' ha=>hQ a' w' (ha.comp he1))
 refine ⟨(w.alloc (.deferred (some []))).heap.size,[{ target:=.collected w.heap.size,args:=#[] }],(w.alloc (.deferred (some []))).alloc (loopOf .ready none fn a.tmps ps.toList ca cb w.heap.size),dfr,_,g,args,_,?_,?_,fun _ _=>trivial,q2,fun hdd=>by simp [W,Fence.wide] at hdd,q3⟩
 ·simp [Instr.enterLoop,W,loopOf]
 ·rw [eval_evT]
  simpa [resolve,rangeCall,evT] using q1
theorem CodeS.rangeSome {rc:CallT} {rd:RoundT} (hc:CallOk P rc) (hd:RoundOk P rd) {f:Operand} {ps:Array Tmp} {ca cb:Code} {l:Nat} {E:Env} {D:List Nat} {S:St} {k:KT}
  (h:loopK S l fun _ _ _ _ _ _ d=>goLoop P rc rd f ps.toList ca cb d E D S k):∃ x E' D' S',k x E' D' S'∧CodeS P (some l) (.rangeFunc f ps ca cb) E D S.hs x E' D' S'.hs:=by
 obtain ⟨st,pe,E0,ps0,a0,b0,d,hg0,h1⟩:=loopK_spec h
 obtain ⟨x,S',h2,h3⟩:=goLoop_spec hc hd h1
 refine ⟨x,E,D,S',h2,fun ρ r a w Q hro hE hD hg hs hQ=>?_⟩
 obtain ⟨lb,hlb,rfl⟩:=hro
 obtain ⟨_,_,fn0,tmps0,ld,hw0,_,hld⟩:=hs.loop hg0 hlb
 refine wpIn_rangeFunc fun fn _=>?_
 obtain ⟨dfr,g,args,q1,q2,q3⟩:=h3 ρ fn ld a.tmps a.defers (some lb.blk) w Q hld hE hD hg hs hQ
 refine ⟨w.heap.size,[],w.alloc (loopOf .ready none fn a.tmps ps.toList ca cb ld.blk),dfr,_,g,args,_,?_,?_,fun _ _=>trivial,q2,fun hdd=>by simp [W,Fence.wide] at hdd,q3⟩
 ·simp [Instr.enterLoop,W,run_getLoop hw0,loopOf]
 ·rw [eval_evT]
  simpa [resolve,rangeCall,evT] using q1

theorem evCode_spec {rc:CallT} {rd:RoundT} {lp:LoopT} {dr:DrawT} (hc:CallOk P rc) (hd:RoundOk P rd) (hl:LoopOk P lp) (hdr:DrawOk P dr) (ro:Option Nat):∀ (c:Code) (E:Env) (D:List Nat) (S:St) (k:KT),
  wk P rc rd lp dr ro c E D S k→∃ x E' D' S',k x E' D' S'∧CodeS P ro c E D S.hs x E' D' S'.hs
 | .skip,E,D,S,k,h=>⟨.normal,E,D,S,h,fun ρ r a w Q hro hE hD hg hs hQ=>wpIn_skip (hQ _ _ ⟨ρ,hE,hD,hs,Ext.refl _ _ _⟩)⟩
 | .label _,E,D,S,k,h=>⟨.normal,E,D,S,h,fun ρ r a w Q hro hE hD hg hs hQ=>wpIn_label (hQ _ _ ⟨ρ,hE,hD,hs,Ext.refl _ _ _⟩)⟩
 | .exit id,E,D,S,k,h=>⟨.exit id,E,D,S,h,fun ρ r a w Q hro hE hD hg hs hQ=>wpIn_exit (hQ _ _ ⟨ρ,hE,hD,hs,Ext.refl _ _ _⟩)⟩
 | .ret,E,D,S,k,h=>⟨.ret,E,D,S,h,fun ρ r a w Q hro hE hD hg hs hQ=>wpIn_ret (hQ _ _ ⟨ρ,hE,hD,hs,Ext.refl _ _ _⟩)⟩
 | .goto _,_,_,_,_,h=>h.elim
 | .refuse _,_,_,_,_,h=>h.elim
 | .region id ops false,E,D,S,k,h=>by
   obtain ⟨E',S',h1,h2⟩:=evOps_spec hc hd (ops:=ops) ops.toList 0 E S (fun E S=>k .normal E D S) rfl h
   refine ⟨.normal,E',D,S',h1,fun ρ r a w Q hro hE hD hg hs hQ=>wpIn_region ?_⟩
   have:=h2 r ρ D a w Q hE hD hg hs hQ
   rw [List.range_eq_range']
   simpa using this
 | .region id ops true,E,D,S,k,h=>by
   obtain ⟨E',S',h1,h2⟩:=hdr ops E S (fun E S=>k .normal E D S) h
   exact ⟨.normal,E',D,S',h1,fun ρ r a w Q hro hE hD hg hs hQ=>h2 id r ρ D a w Q hE hD hg hs hQ⟩
 | .seq x y,E,D,S,k,h=>by
   obtain ⟨ex,E1,D1,S1,h1,h2⟩:=evCode_spec hc hd hl hdr ro x E D S _ h
   cases ex with
   | normal =>
     obtain ⟨ey,E2,D2,S2,h3,h4⟩:=evCode_spec hc hd hl hdr ro y E1 D1 S1 k h1
     refine ⟨ey,E2,D2,S2,h3,fun ρ r a w Q hro hE hD hg hs hQ=>wpIn_seq (h2 ρ r a w _ hro hE hD hg hs fun a1 w1 ⟨ρ1,b1,b2,b3,b4⟩=>?_)⟩
     have hle:=b4.le hs
     exact h4 ρ1 r a1 w1 Q (hro.mono hle) b1 b2 (hg.mono hle) b3 fun a2 w2 h5=>hQ a2 w2 (h5.comp b4)
   | exit id=>exact ⟨.exit id,E1,D1,S1,h1,fun ρ r a w Q hro hE hD hg hs hQ=>wpIn_seq (h2 ρ r a w _ hro hE hD hg hs hQ)⟩
   | ret=>exact ⟨.ret,E1,D1,S1,h1,fun ρ r a w Q hro hE hD hg hs hQ=>wpIn_seq (h2 ρ r a w _ hro hE hD hg hs hQ)⟩
 | .cond c x y,E,D,S,k,h=>by
   obtain ⟨v,h1,h2⟩:=opK_spec (show opK E c fun v=>vBool v fun b=>Bool.rec (wk P rc rd lp dr ro y E D S k) (wk P rc rd lp dr ro x E D S k) b from h)
   obtain ⟨b,rfl,h3⟩:=vBool_spec h2
   have hcv:∀ ρ (a:Act),ER ρ E a.tmps→Globs ρ→a.eval c=.bool b:=fun ρ a hE hg=>by
    have:=(EvR.of_ER hE hg [c]).one (x:=c) (by simp) h1
    rw [← eval_evT] at this
    generalize a.eval c=cv at this
    cases this;rfl
   cases b with
   | true =>
     obtain ⟨ex,E1,D1,S1,h4,h5⟩:=evCode_spec hc hd hl hdr ro x E D S k h3
     exact ⟨ex,E1,D1,S1,h4,fun ρ r a w Q hro hE hD hg hs hQ=>wpIn_cond (hcv ρ a hE hg) (h5 ρ r a w Q hro hE hD hg hs hQ)⟩
   | false =>
     obtain ⟨ex,E1,D1,S1,h4,h5⟩:=evCode_spec hc hd hl hdr ro y E D S k h3
     exact ⟨ex,E1,D1,S1,h4,fun ρ r a w Q hro hE hD hg hs hQ=>wpIn_cond (hcv ρ a hE hg) (h5 ρ r a w Q hro hE hD hg hs hQ)⟩
 | .block id c,E,D,S,k,h=>by
   obtain ⟨ex,E1,D1,S1,h1,h2⟩:=evCode_spec hc hd hl hdr ro c E D S _ h
   cases ex with
   | normal=>exact ⟨.normal,E1,D1,S1,h1,fun ρ r a w Q hro hE hD hg hs hQ=>wpIn_block (h2 ρ r a w _ hro hE hD hg hs hQ)⟩
   | ret=>exact ⟨.ret,E1,D1,S1,h1,fun ρ r a w Q hro hE hD hg hs hQ=>wpIn_block (h2 ρ r a w _ hro hE hD hg hs hQ)⟩
   | exit id' =>
     have h1':Bool.rec (motive:=fun _=>Prop) (k (.exit id') E1 D1 S1) (k .normal E1 D1 S1) (Nat.beq id' id):=h1
     cases hb:Nat.beq id' id with
     | true =>
       rw [hb] at h1'
       have:=Nat.eq_of_beq_eq_true hb
       exact ⟨.normal,E1,D1,S1,h1',fun ρ r a w Q hro hE hD hg hs hQ=>wpIn_block (h2 ρ r a w _ hro hE hD hg hs fun a' w' ha=>by
        show Exit.inBlock id Q (.exit id') a' w'
        simp only [Exit.inBlock,this,if_true];exact hQ a' w' ha)⟩
     | false =>
       rw [hb] at h1'
       have hne:id' ≠ id:=fun e=>by rw [e] at hb;simp at hb
       exact ⟨.exit id',E1,D1,S1,h1',fun ρ r a w Q hro hE hD hg hs hQ=>wpIn_block (h2 ρ r a w _ hro hE hD hg hs fun a' w' ha=>by
        show Exit.inBlock id Q (.exit id') a' w'
        simp only [Exit.inBlock,hne,if_false];exact hQ a' w' ha)⟩
 | .loop b,E,D,S,k,h=>by
   obtain ⟨ex,E1,D1,S1,h1,h2⟩:=hl ro b E D S k h
   exact ⟨ex,E1,D1,S1,h1,fun ρ r a w Q hro hE hD hg hs hQ=>(h2 ρ r a w Q hro hE hD hg hs hQ).loop⟩
 | .scope c,E,D,S,k,h=>by
   obtain ⟨ex,E1,D1,S1,h1,h2⟩:=evCode_spec hc hd hl hdr ro c E D S k h
   refine ⟨ex,E1,D1,S1,h1,fun ρ r a w Q hro hE hD hg hs hQ=>wpIn_scope (h2 ρ r a w _ hro hE hD hg hs fun a' w' ha=>⟨fun l=>?_,hQ a' w' ha⟩)⟩
   cases ex <;> simp [X.toExit]
 | .rangeFunc f ps ca cb,E,D,S,k,h=>by
   cases ro with
   | none=>exact CodeS.rangeNone hc hd h
   | some l=>exact CodeS.rangeSome hc hd h
end Go.Am
/- Rounds, calls. -/
namespace Go.Am
variable {P:Program}

theorem layParams_spec:∀ {ps:List Tmp} {l:List V} {E:Env} {k:Env→Prop},layParams ps l E k→∃ E',k E'∧ps.length=l.length∧∀ (ρ:Rho) (tmps:Array Value) (l':List Value),ER ρ E tmps→VRs ρ l l' →
  ER ρ E' ((ps.zip l').foldl (fun t p=>t.setIfInBounds p.1 p.2) tmps)
 | [],[],E,k,h=>⟨E,h,rfl,fun ρ tmps l' hE _=>hE⟩
 | [],_ :: _,_,_,h=>h.elim
 | _ :: _,[],_,_,h=>h.elim
 | p :: ps,v :: l,E,k,h=>by
   obtain ⟨E1,h1,h2,h3⟩:=tset_spec (show tset E p v (fun E=>layParams ps l E k) from h)
   obtain ⟨E2,h4,h5,h6⟩:=layParams_spec h1
   refine ⟨E2,h4,by simp [h5],fun ρ tmps l' hE hl=>?_⟩
   cases hl with
   | cons hv hs=>exact h6 ρ _ _ (hE.set h2 h3 hv) hs
theorem evRound_spec {rc:CallT} {rd:RoundT} {lp:LoopT} {dr:DrawT} (hc:CallOk P rc) (hd:RoundOk P rd) (hl:LoopOk P lp) (hdr:DrawOk P dr):RoundOk P (evRound P rc rd lp dr):=by
 intro id l S k h
 obtain ⟨st0,pe0,E0,ps,ca,cb,d0,hg0,h1⟩:=loopK_spec h
 obtain ⟨E1,h2,hlen,h3⟩:=layParams_spec h1
 obtain ⟨x1,E2,D2,S2,h4,h5⟩:=evCode_spec hc hd hl hdr (some id) ca E1 [] S _ h2
 cases x1 with
 | exit _=>exact h4.elim
 | ret=>exact h4.elim
 | normal =>
   obtain ⟨st,pe,E3,ps3,a3,b3,d3,hg3,h6⟩:=loopK_spec h4
   cases st with
   | busy=>exact h6.elim
   | done=>exact h6.elim
   | exhausted=>exact h6.elim
   | ready =>
     obtain ⟨S3,h7,hS3⟩:=put_spec h6
     obtain ⟨x4,E4,D4,S4,h8,h9⟩:=evCode_spec hc hd hl hdr (some id) cb E2 D2 S3 _ h7
     obtain ⟨st5,pe5,E5,ps5,a5,b5,d5,hg5,h10⟩:=loopK_spec h8
     have fin:∃ S5 st6 pe6 bv,k (.bool bv) S5∧S5.hs=S4.hs.put id (some (.loop st6 pe6 E5 ps5 a5 b5 d5)) ∧
       (x4=.normal∧st6=.ready∧pe6=none∧bv=true ∨ x4=.ret∧st6=.done∧pe6=some .ret∧bv=false ∨ ∃ e,x4=.exit e∧st6=.done∧pe6=some (.exit e)∧bv=false):=by
      cases x4 with
      | normal =>
        obtain ⟨S5,h11,hS5⟩:=put_spec h10
        exact ⟨S5,_,_,_,h11,hS5,.inl ⟨rfl,rfl,rfl,rfl⟩⟩
      | ret =>
        obtain ⟨S5,h11,hS5⟩:=put_spec h10
        exact ⟨S5,_,_,_,h11,hS5,.inr (.inl ⟨rfl,rfl,rfl,rfl⟩)⟩
      | exit e =>
        obtain ⟨S5,h11,hS5⟩:=put_spec h10
        exact ⟨S5,_,_,_,h11,hS5,.inr (.inr ⟨e,rfl,rfl,rfl,rfl⟩)⟩
     obtain ⟨S5,st6,pe6,bv,hk,hS5,hx⟩:=fin
     refine ⟨_,S5,hk,fun ρ w l' lb hg hs hid hv=>?_⟩
     obtain ⟨_,_,fn0,tmps0,ld0,hw0,hE0,_⟩:=hs.loop hg0 hid
     have hl':l'.length=ps.length:=by rw [← hv.length];exact hlen.symm
     have hy:(Instr.yield lb.blk ⟨l'⟩).run P w=.ok (.round lb.blk fn0 ((ps.zip l').foldl (fun t p=>t.setIfInBounds p.1 p.2) tmps0) ca cb) w:=by
      simp [Instr.yield,run_getLoop hw0,hl']
     rw [hy]
     show RoundIn (W none) 0 P lb.blk fn0 _ ca cb w _
     refine roundIn_of_wpIn trivial ?_
     have hro:RO ρ (some id) (some lb.blk):=⟨lb,hid,rfl⟩
     refine h5 ρ (some lb.blk) { tmps:=_,defers:=[] } w _ hro (h3 ρ tmps0 l' hE0 hv) trivial hg hs fun a2 w2 ⟨ρ2,b1,b2,b3,b4⟩=>?_
     have hle2:=b4.le hs
     have hid2:=hle2 _ _ hid
     obtain ⟨_,_,fn3,tmps3,ld3,hw3,hE3,hd3⟩:=b3.loop hg3 hid2
     obtain ⟨w3,c1,c2,c3⟩:=b3.putLoop (P:=P) (st':=.busy) (pe':=pe) hg3 hid2 hw3 hE3 hd3
     rw [← hS3] at c2 c3
     have hbr:(Instr.beginRound lb.blk).run P w2=.ok () w3:=by
      simp only [loopOf] at c1
      simp only [Instr.beginRound,Sem.run_bind,run_getLoop hw3,Result.andThen_ok,c1,Sem.run_pure]
     refine ⟨w3,hbr,?_⟩
     refine h9 ρ2 (some lb.blk) a2 w3 _ (hro.mono hle2) b1 b2 (hg.mono hle2) c2 fun a4 w4 ⟨ρ4,e1,e2,e3,e4⟩=>?_
     have hle4:=e4.le c2
     have hid4:=hle4 _ _ hid2
     obtain ⟨_,_,fn5,tmps5,ld5,hw5,hE5,hd5⟩:=e3.loop hg5 hid4
     obtain ⟨w5,f1,f2,f3⟩:=e3.putLoop (P:=P) (st':=st6) (pe':=pe6) hg5 hid4 hw5 hE5 hd5
     rw [← hS5] at f2 f3
     have hend:∀ jump,pe6=jump→st6=(if jump.isNone then .ready else .done)→bv=jump.isNone→(Instr.endRound lb.blk jump).run P w4=.ok (.bool bv) w5:=by
      intro jump h1 h2 h3
      subst h1;subst h3
      rw [h2] at f1
      simp only [loopOf] at f1
      simp only [Instr.endRound,Sem.run_bind,run_getLoop hw5,Result.andThen_ok,f1,Sem.run_pure]
     have hR:Rt ρ S.hs w (.bool bv) S5.hs (.returned (.bool bv)) w5:=⟨_,ρ4,rfl,.bool bv,f2,((b4.trans c3).trans e4).trans f3⟩
     rcases hx with ⟨rfl,rfl,rfl,rfl⟩|⟨rfl,rfl,rfl,rfl⟩|⟨e,rfl,rfl,rfl,rfl⟩
     ·exact ⟨_,w5,hend none rfl rfl rfl,hR⟩
     ·exact ⟨_,w5,hend (some .ret) rfl rfl rfl,hR⟩
     ·exact ⟨_,w5,hend (some (.exit e)) rfl rfl rfl,hR⟩
end Go.Am
/- Calls of functions. -/
namespace Go.Am
variable {P:Program}

theorem layArgs_spec:∀ {l:List V} {t:Nat} {E:Env} {k:Env→Prop},layArgs l t E k→∃ E',k E'∧∀ s,tget E' s=if t ≤ s∧s < t+l.length then l[s - t]? else tget E s
 | [],t,E,k,h=>⟨E,h,fun s=>by
   have:¬ (t ≤ s∧s < t+([]:List V).length):=by simp only [List.length_nil];omega
   rw [if_neg this]⟩
 | v :: l,t,E,k,h=>by
   obtain ⟨E1,h1,h2,h3⟩:=tset_spec (show tset E t v (fun E=>layArgs l (t+1) E k) from h)
   obtain ⟨E2,h4,h5⟩:=layArgs_spec h1
   refine ⟨E2,h4,fun s=>?_⟩
   rw [h5,h3]
   by_cases hs:s=t
   ·subst hs
    have a:¬ (s+1 ≤ s∧s < s+1+l.length):=by omega
    have b:s ≤ s∧s < s+(v :: l).length:=by simp
    rw [if_neg a,if_pos rfl,if_pos b]
    simp
   ·rw [if_neg hs]
    by_cases hr:t+1 ≤ s∧s < t+1+l.length
    ·have b:t ≤ s∧s < t+(v :: l).length:=by simp;omega
     rw [if_pos hr,if_pos b]
     have e:s - t=(s - (t+1))+1:=by omega
     rw [e];simp
    ·have b:¬ (t ≤ s∧s < t+(v :: l).length):=by simp;omega
     rw [if_neg hr,if_neg b]
theorem frame_ER {l:List V} {n:Nat} {k:Env→Prop} (h:layArgs l 0 (blank n) k):∃ E,k E∧∀ (ρ:Rho) (l':List Value),VRs ρ l l'→ER ρ E ((⟨l'⟩:Array Value) ++ Array.replicate (n - (⟨l'⟩:Array Value).size) undef):=by
 obtain ⟨E,h1,h2⟩:=layArgs_spec h
 refine ⟨E,h1,fun ρ l' hl t v ht=>?_⟩
 rw [h2] at ht
 have hlen:=hl.length
 by_cases hr:0 ≤ t∧t < 0+l.length
 ·rw [if_pos hr] at ht
  obtain ⟨v',a,b⟩:=hl.get ht
  refine ⟨v',?_,b⟩
  have hlt:t < (⟨l'⟩:Array Value).size:=by show t < l'.length;omega
  rw [Array.getElem?_append_left hlt]
  simpa using a
 ·rw [if_neg hr] at ht
  obtain ⟨rfl,hlt⟩:=blank_get ht
  refine ⟨undef,?_,VR.undef ρ⟩
  have hge:(⟨l'⟩:Array Value).size ≤ t:=by show l'.length ≤ t;omega
  rw [Array.getElem?_append_right hge]
  have:t - (⟨l'⟩:Array Value).size < n - (⟨l'⟩:Array Value).size:=by
   show t - l'.length < n - l'.length
   have:l'.length ≤ t:=hge
   omega
  rw [Array.getElem?_replicate,if_pos this]

/-! The marks of loops. -/
theorem popD_spec {fn:Func} {tmps:Array Value} {R:Ending→World→Prop}:∀ {D:List Nat} {S:St} {k:St→Prop},popD D S k→∃ S',k S'∧∀ (ρ:Rho) (w:World) (ds:List Deferred) (R:Ending→World→Prop) (tmps:Array Value) (fn:Func),DR ρ D ds→Sim ρ S.hs w →
  (∀ w',Sim ρ S'.hs w'→Ext ρ S.hs w ρ S'.hs w'→LeavesIn (W none) 0 P fn tmps R [] .returning w')→LeavesInM (W none) 0 P fn tmps R ds .returning w
 | [],S,k,h=>⟨S,h,fun ρ w ds R tmps fn hD hs hk=>by
   cases ds with
   | nil=>exact hk w hs (Ext.refl _ _ _)
   | cons _ _=>exact hD.elim⟩
 | d :: D,S,k,h=>by
   obtain ⟨o,h1,h2⟩:=wj (show Option.rec (motive:=fun _=>Prop) False _ (T.get deep d S.hp) from h)
   cases o with
   | deferred =>
     obtain ⟨S1,h3,hS1⟩:=put_spec (k:=fun S=>popD D S k) h2
     obtain ⟨S',h4,h5⟩:=popD_spec (fn:=fn) (tmps:=tmps) (R:=R) h3
     refine ⟨S',h4,fun ρ w ds R tmps fn hD hs hk=>?_⟩
     cases ds with
     | nil=>exact absurd hD (by simp [DR])
     | cons e ds =>
       obtain ⟨⟨l,hl,rfl⟩,hD'⟩:=hD
       obtain ⟨l',co,x1,x2,hr,rfl⟩:=hs.obj d .deferred h1
       rw [hl] at x1;cases x1
       have hlt:l.blk < w.heap.size:=by
        rcases Nat.lt_or_ge l.blk w.heap.size with h'|h'
        ·exact h'
        ·simp [Array.getElem?_eq_none h'] at x2
       have htake:(Instr.takeDeferred l.blk).run P w=.ok [] { w with heap:=w.heap.setIfInBounds l.blk (.deferred none) }:=by
        simp [Instr.takeDeferred,run_getObj x2,run_setObj x2]
       refine ⟨by simp,.inl ⟨l.blk,_,rfl,htake,?_⟩⟩
       have hsome:(S.hs.get d).isSome:=by
        have:S.hs.get d=some .deferred:=h1
        rw [this];rfl
       have hs1:Sim ρ (S.hs.put d none) { w with heap:=w.heap.setIfInBounds l.blk (.deferred none) }:=by
        have hf:=hs.forget d
        refine ⟨fun i oi hi=>?_,hf.sep,hf.fresh⟩
        obtain ⟨li,co,a,b,c⟩:=hf.obj i oi hi
        refine ⟨li,co,a,?_,c⟩
        have hne:d ≠ i:=fun e=>by subst e;simp [Hs.put] at hi
        have hi':S.hs.get i=some oi:=by simpa [Hs.put,Ne.symm hne] using hi
        have hbn:=hs.sep d i l li hsome (by rw [hi'];rfl) hl a hr hne
        show (w.heap.setIfInBounds l.blk (.deferred none))[li.blk]?=some co
        rw [Array.getElem?_setIfInBounds_ne hbn]
        exact b
       have he1:Ext ρ S.hs w ρ (S.hs.put d none) { w with heap:=w.heap.setIfInBounds l.blk (.deferred none) }:=by
        have hx:=Ext.forget ρ S.hs w d
        exact { rho:=fun _ _=>rfl,next:=Nat.le_refl _,size:=by simp,own:=hx.own,has:=hx.has,tape:=rfl,os:=rfl,output:=rfl,drawn:=Nat.le_refl _,
                keep:=fun b _ hn=>Array.getElem?_setIfInBounds_ne (fun e=>hn ⟨d,l,hsome,hl,hr,e⟩) }
       rw [← hS1] at hs1 he1
       exact h5 ρ _ ds R tmps fn hD' hs1 fun w' a b=>hk w' a (he1.trans b)
   | _=>exact h2.elim
end Go.Am
/- Calls of functions, joined: the evaluator is right. -/
namespace Go.Am
variable {P:Program}

def resOf (tmps:Array Value):ResultVar→Sem Value
 | .tmp t=>pure (tmps.getD t undef)
 | .cell a t=>do loadVar t (← asAddr (tmps.getD a undef))
theorem ER.getD {ρ:Rho} {E:Env} {tmps:Array Value} (he:ER ρ E tmps) {t:Nat} {v:V} (h:tget E t=some v):VR ρ v (tmps.getD t undef):=by
 obtain ⟨v',a,b⟩:=he t v h
 have:tmps.getD t undef=v':=by simp [Array.getD_eq_getD_getElem?,a]
 rw [this];exact b
theorem resK_spec {E:Env} {S:St}:∀ {l:List ResultVar} {k:List V→Prop},resK P E S l k→∃ vs,k vs∧∀ (ρ:Rho) (tmps:Array Value) (w:World),ER ρ E tmps→Sim ρ S.hs w→∃ vs',(l.mapM (resOf tmps)).run P w=.ok vs' w∧VRs ρ vs vs'
 | [],k,h=>⟨[],h,fun ρ tmps w he hs=>⟨[],by simp,.nil⟩⟩
 | .tmp t :: l,k,h=>by
   obtain ⟨v,h1,h2⟩:=wj (show Option.rec (motive:=fun _=>Prop) False (fun v=>resK P E S l fun l=>k (v :: l)) (tget E t) from h)
   obtain ⟨vs,h3,h4⟩:=resK_spec h2
   refine ⟨v :: vs,h3,fun ρ tmps w he hs=>?_⟩
   obtain ⟨vs',h5,h6⟩:=h4 ρ tmps w he hs
   exact ⟨_,by simp only [List.mapM_cons,resOf,Sem.run_bind,Sem.run_pure,Result.andThen_ok,h5],.cons (he.getD h1) h6⟩
 | .cell a t :: l,k,h=>by
   obtain ⟨p,h1,h2⟩:=wj (show Option.rec (motive:=fun _=>Prop) False (fun p=>loadK P t p S fun v=>resK P E S l fun l=>k (v :: l)) (tget E a) from h)
   obtain ⟨v,h3,h4⟩:=loadK_spec h2
   obtain ⟨vs,h5,h6⟩:=resK_spec h3
   refine ⟨v :: vs,h5,fun ρ tmps w he hs=>?_⟩
   obtain ⟨vs',h7,h8⟩:=h6 ρ tmps w he hs
   obtain ⟨ad,v',h9,h10,h11⟩:=h4 ρ w _ hs (he.getD h1)
   exact ⟨_,by simp only [List.mapM_cons,resOf,h9,asAddr,Sem.run_bind,Sem.run_pure,Result.andThen_ok,h10,h7],.cons h11 h8⟩
theorem resultsK_spec {fn:Func} {E:Env} {S:St} {k:V→Prop} (h:resultsK P fn E S k):∃ v,k v∧∀ (ρ:Rho) (tmps:Array Value) (w:World),ER ρ E tmps→Sim ρ S.hs w→∃ v',(results fn tmps).run P w=.ok v' w∧VR ρ v v':=by
 obtain ⟨vs,h1,h2⟩:=resK_spec h
 have hrun:∀ (tmps:Array Value) (w:World) vs',(fn.results.toList.mapM (resOf tmps)).run P w=.ok vs' w→(results fn tmps).run P w=.ok (if h:vs'.length=1 then vs'[0] else .tuple ⟨vs'⟩) w:=by
  intro tmps w vs' hr
  have e:results fn tmps=(do let vs ← fn.results.mapM (resOf tmps);pure (if h:vs.size=1 then vs[0] else .tuple vs)):=rfl
  rw [e,Array.mapM_eq_mapM_toList,map_eq_pure_bind]
  simp only [Sem.run_bind,hr,Result.andThen_ok,Sem.run_pure]
  rfl
 split at h1
 ·rename_i v
  refine ⟨v,h1,fun ρ tmps w he hs=>?_⟩
  obtain ⟨vs',h3,h4⟩:=h2 ρ tmps w he hs
  obtain ⟨v',rfl,hv⟩:=Am.arg1 h4
  exact ⟨v',by rw [hrun tmps w _ h3];rfl,hv⟩
 ·rename_i hne
  refine ⟨_,h1,fun ρ tmps w he hs=>?_⟩
  obtain ⟨vs',h3,h4⟩:=h2 ρ tmps w he hs
  refine ⟨.tuple ⟨vs'⟩,?_,.tup h4⟩
  have:¬ vs'.length=1:=fun hl=>by
   rw [← h4.length] at hl
   obtain ⟨v,hv⟩:=List.length_eq_one_iff.1 hl
   exact hne v hv
  rw [hrun tmps w _ h3,dif_neg this]
theorem evCall_spec {Xt:Exts} (hX:ExtsOk P Xt) {rc:CallT} {rd:RoundT} {lp:LoopT} {dr:DrawT} (hc:CallOk P rc) (hd:RoundOk P rd) (hl:LoopOk P lp) (hdr:DrawOk P dr):CallOk P (evCall P Xt rc rd lp dr):=by
 intro f args S k h
 obtain ⟨fn,hf,h1⟩:=wj (show Option.rec (motive:=fun _=>Prop) False _ (P.funcs[f]?) from h)
 cases hb:fn.body with
 | none =>
   rw [hb] at h1
   obtain ⟨v,S',h2,h3⟩:=externK_spec hX h1
   refine ⟨v,S',h2,fun ρ w l' hg hs hl=>?_⟩
   obtain ⟨v',w',ρ',h4,h5,h6,h7⟩:=h3 ρ w l' hs hl
   rw [h4];exact ⟨v',ρ',rfl,h5,h6,h7⟩
 | some c =>
   rw [hb] at h1
   cases hn:(fn.name == "runtime.NumGoroutine") with
   | true=>rw [hn] at h1;exact h1.elim
   | false =>
     rw [hn] at h1
     obtain ⟨E,h2,h3⟩:=frame_ER h1
     obtain ⟨x,E',D',S1,h4,h5⟩:=evCode_spec hc hd hl hdr none c E [] S _ h2
     have fin:(x=.normal ∨ x=.ret)∧popD D' S1 fun S=>resultsK P fn E' S fun v=>k v S:=by
      cases x with
      | normal=>exact ⟨.inl rfl,h4⟩
      | ret=>exact ⟨.inr rfl,h4⟩
      | exit _=>exact h4.elim
     obtain ⟨hx,h6⟩:=fin
     obtain ⟨S',h7,h8⟩:=popD_spec (fn:=fn) (tmps:=#[]) (R:=fun _ _=>True) h6
     obtain ⟨v,h9,h10⟩:=resultsK_spec h7
     refine ⟨v,S',h9,fun ρ w l' hg hs hl=>?_⟩
     have h0:¬ fn.name = "runtime.NumGoroutine" := by simpa using hn
     have hcall:(callFunc f ⟨l'⟩).run P w=.ok (.enter f ⟨l'⟩) w:=by simp [callFunc,hf,h0,hb]
     rw [hcall]
     show CallsIn (W none) 0 P f ⟨l'⟩ w _
     refine callsIn_of_wp_marks hf hb trivial ?_
     refine h5 ρ none _ w _ rfl (h3 ρ l' hl) trivial hg hs fun a' w' ⟨ρ1,b1,b2,b3,b4⟩=>?_
     have key:LeavesInM (W none) 0 P fn a'.tmps (Rt ρ S.hs w v S'.hs) a'.defers .returning w':=by
      refine h8 ρ1 w' a'.defers _ a'.tmps fn b2 b3 fun w2 q1 q2=>?_
      obtain ⟨v',r1,r2⟩:=h10 ρ1 a'.tmps w2 b1 q1
      exact ⟨v',r1,v',ρ1,rfl,r2,q1,b4.trans q2⟩
     rcases hx with rfl|rfl
     ·exact key
     ·exact key
theorem evAll_ok {Xt:Exts} (hX:ExtsOk P Xt) {dr:CallT→RoundT→DrawT} (hdr:∀ rc rd,CallOk P rc→RoundOk P rd→DrawOk P (dr rc rd)):∀ n,CallOk P (evAll P Xt dr n).call∧RoundOk P (evAll P Xt dr n).round∧LoopOk P (evAll P Xt dr n).loop
 | 0=>⟨fun _ _ _ _ h=>h.elim,fun _ _ _ _ h=>h.elim,fun _ _ _ _ _ _ h=>h.elim⟩
 | n+1=>by
   obtain ⟨hc,hd,hl⟩:=evAll_ok hX hdr n
   have hr:=hdr _ _ hc hd
   refine ⟨evCall_spec hX hc hd hl hr,evRound_spec hc hd hl hr,fun ro b E D S k h=>?_⟩
   obtain ⟨x,E1,D1,S1,h1,h2⟩:=evCode_spec hc hd hl hr ro b E D S _ h
   cases x with
   | normal =>
     obtain ⟨x2,E2,D2,S2,h3,h4⟩:=hl ro b E1 D1 S1 k h1
     refine ⟨x2,E2,D2,S2,h3,fun ρ r a w Q hro hE hD hg hs hQ=>.of (h2 ρ r a w _ hro hE hD hg hs fun a1 w1 ⟨ρ1,b1,b2,b3,b4⟩=>?_)⟩
     have hle:=b4.le hs
     exact h4 ρ1 r a1 w1 Q (hro.mono hle) b1 b2 (hg.mono hle) b3 fun a2 w2 h5=>hQ a2 w2 (h5.comp b4)
   | exit id=>exact ⟨.exit id,E1,D1,S1,h1,fun ρ r a w Q hro hE hD hg hs hQ=>.of (h2 ρ r a w _ hro hE hD hg hs hQ)⟩
   | ret=>exact ⟨.ret,E1,D1,S1,h1,fun ρ r a w Q hro hE hD hg hs hQ=>.of (h2 ρ r a w _ hro hE hD hg hs hQ)⟩
end Go.Am
/- Parts of a heap. -/
namespace Go.Am
variable {P:Program}

/-- Fewer objects. -/
theorem Sim.restrict {ρ:Rho} {H H':Hs} {w:World} (hs:Sim ρ H w) (hsub:∀ id o,H'.get id=some o→H.get id=some o) (hn:H.next ≤ H'.next):Sim ρ H' w where
 obj id o h:=hs.obj id o (hsub id o h)
 sep i j li lj hi hj:=by
  obtain ⟨oi,hoi⟩:=Option.isSome_iff_exists.1 hi
  obtain ⟨oj,hoj⟩:=Option.isSome_iff_exists.1 hj
  exact hs.sep i j li lj (by rw [hsub i oi hoi];rfl) (by rw [hsub j oj hoj];rfl)
 fresh id h:=hs.fresh id (Nat.le_trans hn h)
/-- What an operation on a part of the heap leaves of the rest. 'A': the part, 'B': the rest. -/
theorem Sim.frame {ρ ρ':Rho} {H A A' H':Hs} {B:Nat→Option O} {w w':World} (hs:Sim ρ H w) (hA:∀ id o,A.get id=some o→H.get id=some o) (hB:∀ id o,B id=some o→H.get id=some o)
  (hnx:H.next ≤ A.next) (hdis:∀ id,(B id).isSome→A.get id=none) (hlt:∀ id,(B id).isSome→id < A.next) (hx:Ext ρ A w ρ' A' w') (hs':Sim ρ' A' w') (hn':H'.next=A'.next)
  (hH':∀ id o,H'.get id=some o→A'.get id=some o ∨ B id=some o):Sim ρ' H' w' where
 obj id o h:=by
  rcases hH' id o h with h1|h1
  ·exact hs'.obj id o h1
  ·obtain ⟨l,co,a,b,c⟩:=hs.obj id o (hB id o h1)
   have hbs:(B id).isSome:=by rw [h1];rfl
   have hle:ρ.le ρ':=fun i l' hi=>by
    rcases Nat.lt_or_ge i A.next with hi'|hi'
    ·rw [hx.rho i hi'];exact hi
    ·rw [hs.fresh i (Nat.le_trans hnx hi')] at hi;cases hi
   refine ⟨l,co,by rw [hx.rho id (hlt id hbs)];exact a,?_,c.mono hle⟩
   have hlb:l.blk < w.heap.size:=by
    rcases Nat.lt_or_ge l.blk w.heap.size with h'|h'
    ·exact h'
    ·simp [Array.getElem?_eq_none h'] at b
   rw [hx.keep l.blk hlb ?_]
   ·exact b
   ·rintro ⟨i,li,hi,hli,hr,hb⟩
    obtain ⟨oi,hoi⟩:=Option.isSome_iff_exists.1 hi
    have hne:i ≠ id:=fun e=>by
     subst e
     rw [hdis i hbs] at hi;cases hi
    exact hs.sep i id li l (by rw [hA i oi hoi];rfl) (by rw [hB id o h1];rfl) hli a hr hne hb
 sep i j li lj hi hj hli hlj hr hne:=by
  obtain ⟨oi,hoi⟩:=Option.isSome_iff_exists.1 hi
  obtain ⟨oj,hoj⟩:=Option.isSome_iff_exists.1 hj
  have place:∀ id o l,B id=some o→ρ' id=some l→ρ id=some l∧l.blk < w.heap.size:=fun id o l hb hl=>by
   have hbs:(B id).isSome:=by rw [hb];rfl
   rw [hx.rho id (hlt id hbs)] at hl
   obtain ⟨l',co,a,b,_⟩:=hs.obj id o (hB id o hb)
   rw [hl] at a;cases a
   refine ⟨hl,?_⟩
   rcases Nat.lt_or_ge l.blk w.heap.size with h'|h'
   ·exact h'
   ·simp [Array.getElem?_eq_none h'] at b
  rcases hH' i oi hoi with h1|h1 <;> rcases hH' j oj hoj with h2|h2
  ·exact hs'.sep i j li lj (by rw [h1];rfl) (by rw [h2];rfl) hli hlj hr hne
  ·obtain ⟨p1,p2⟩:=place j oj lj h2 hlj
   have hbs:(B j).isSome:=by rw [h2];rfl
   intro e
   rcases hx.own li.blk ⟨i,li,by rw [h1];rfl,hli,hr,rfl⟩ with h3|⟨i2,l2,a1,a2,a3,a4⟩
   ·omega
   ·obtain ⟨o2,ho2⟩:=Option.isSome_iff_exists.1 a1
    have hne2:i2 ≠ j:=fun e=>by
     subst e
     rw [hdis i2 hbs] at a1;cases a1
    exact hs.sep i2 j l2 lj (by rw [hA i2 o2 ho2];rfl) (by rw [hB j oj h2];rfl) a2 p1 a3 hne2 (by rw [a4,e])
  ·obtain ⟨p1,p2⟩:=place i oi li h1 hli
   have hbs:(B i).isSome:=by rw [h1];rfl
   intro e
   rcases hx.has lj.blk ⟨j,lj,by rw [h2];rfl,hlj,rfl⟩ with h3|⟨i2,l2,a1,a2,a4⟩
   ·omega
   ·obtain ⟨o2,ho2⟩:=Option.isSome_iff_exists.1 a1
    have hne2:i ≠ i2:=fun e=>by
     subst e
     rw [hdis i hbs] at a1;cases a1
    exact hs.sep i i2 li l2 (by rw [hB i oi h1];rfl) (by rw [hA i2 o2 ho2];rfl) p1 a2 hr hne2 (by rw [a4,e])
  ·obtain ⟨p1,_⟩:=place i oi li h1 hli
   obtain ⟨p2,_⟩:=place j oj lj h2 hlj
   exact hs.sep i j li lj (by rw [hB i oi h1];rfl) (by rw [hB j oj h2];rfl) p1 p2 hr hne
 fresh id h:=hs'.fresh id (by rw [← hn'];exact h)
end Go.Am
/- The evaluator: drawn regions (whose operations' order is not fixed). Definitions alone.
   In index order; the operations that act (class 3) stand one behind the other in every order; objects that are made (class 2) have numbers of their own, and lie beside the heap until the next acting operation that comes behind them in every order (or the end);
   what reads memory is read again at every state of the heap that it may meet. -/
namespace Go.Am

noncomputable def bitN (s i:Nat):Bool:=Nat.beq (Nat.land (Nat.shiftRight s i) 1) 1
noncomputable def withN (s i:Nat):Nat:=Nat.lor s (Nat.shiftLeft 1 i)
def bindE (e:Edge):Bool:=match e.ground with|.textOnly _=>false|.gcOnly _=>false|_=>true
/-- What is found out of an operation without running it: the operations ahead of it in every order, the slots that these write, the slots that it reads; the slots written and read so far. -/
inductive Sx where
 | ok (anc dw own wr seen:Nat)
 | bad
noncomputable def fS (n:Nat) (k:Nat→Sx):Sx:=Nat.rec (motive:=fun _=>Sx) (k 0) (fun m _=>k (Nat.succ m)) n
/-- The sets of the operations ahead in every order, and of the slots that these write: of one operation, out of those of the earlier ones (the last one first). -/
noncomputable def ancK (i:Nat) (anc:List (Nat × Nat × Nat × Nat)) (l:List Edge):Nat→Nat→(Nat→Nat→Sx)→Sx :=
 List.rec (motive:=fun _=>Nat→Nat→(Nat→Nat→Sx)→Sx) (fun s d k=>fS s fun s=>fS d fun d=>k s d)
  (fun e _ ih s d k=>Bool.rec (motive:=fun _=>Sx) (ih s d k) (Bool.rec (motive:=fun _=>Sx) .bad (Option.rec (motive:=fun _=>Sx) .bad (fun q=>ih (Nat.lor (withN s e.on) q.1) (Nat.lor (Nat.lor d q.2.1) q.2.2.1) k) (nth anc (Nat.sub (Nat.sub i 1) e.on))) (Nat.blt e.on i)) (bindE e)) l
/-- A set with a slot, or without. -/
noncomputable def slotN (d:Option Tmp):Nat:=Option.rec 0 (fun t=>Nat.shiftLeft 1 t) d
/-- The slots that are read: those that an operation of the region writes are written by one ahead in every order. 'wr': what the earlier operations write; 'd': what those ahead write. -/
noncomputable def seesK (wr d:Nat) (l:List Operand):Nat→(Nat→Sx)→Sx :=
 List.rec (motive:=fun _=>Nat→(Nat→Sx)→Sx) (fun s k=>fS s k)
  (fun x _ ih s k=>Operand.rec (motive:=fun _=>Sx) (fun t=>Bool.rec (motive:=fun _=>Sx) (ih (withN s t) k) (Bool.rec (motive:=fun _=>Sx) .bad (ih (withN s t) k) (bitN d t)) (bitN wr t)) (fun _=>ih s k) (fun _=>ih s k) (fun _=>ih s k) x) l
/-- The same value. -/
noncomputable def eqL (f:V→V→Bool) (l:List V):List V→Bool :=
 List.rec (motive:=fun _=>List V→Bool) (fun m=>List.casesOn m true fun _ _=>false) (fun x _ ih m=>List.casesOn m false fun y m=>Bool.rec false (ih m) (f x y)) l
def fnEq (a b:Fn):Bool:=match a,b with|.func f,.func g=>f == g|_,_=>false
noncomputable def eqStep (ih:V→V→Bool) (a b:V):Bool:=match a,b with
  | .bool a,.bool b=>a == b
  | .int j x,.int k y=>kEq j k && eqI x y
  | .float .f64 x,.float .f64 y=>Nat.beq x y
  | .float .f32 x,.float .f32 y=>Nat.beq x y
  | .str s,.str t=>eqS s t
  | .ptr i o,.ptr j p=>Nat.beq i j && Nat.beq o p
  | .nilPtr,.nilPtr=>true
  | .slice a b c d e f,.slice a' b' c' d' e' f'=>Nat.beq a a' && Nat.beq b b' && Nat.beq c c' && Nat.beq d d' && Nat.beq e e' && (f == f')
  | .nilSlice,.nilSlice=>true
  | .map i,.map j=>Nat.beq i j
  | .nilMap,.nilMap=>true
  | .func f a b,.func g c d=>fnEq f g && eqL ih a c && eqL ih b d
  | .yield i,.yield j=>Nat.beq i j
  | .nilFunc,.nilFunc=>true
  | .iface t v,.iface u w=>Nat.beq t u && ih v w
  | .nilIface,.nilIface=>true
  | .agg a,.agg b=>eqL ih a b
  | .tup a,.tup b=>eqL ih a b
  | _,_=>false
noncomputable def eqV (n:Nat):V→V→Bool:=Nat.rec (motive:=fun _=>V→V→Bool) (fun _ _=>false) (fun _ ih=>eqStep ih) n
/-- A reader that is to be read again. -/
structure Rd where
 op:Op
 idx:Nat
 anc:Nat
 env:Env
 val:V
 sel:List (Nat × Nat × O)
/-- Of the objects that lie beside the heap: those ahead of an operation. -/
noncomputable def aheadL (anc:Nat) (l:List (Nat × Nat × O)):List (Nat × Nat × O):=List.rec (motive:=fun _=>List (Nat × Nat × O)) [] (fun q _ ih=>Bool.rec ih (q :: ih) (bitN anc q.1)) l
/-- Objects put into a heap, but those that it has. -/
noncomputable def putsK (prev:Nat) (l:List (Nat × Nat × O)):St→(St→Prop)→Prop :=
 List.rec (motive:=fun _=>St→(St→Prop)→Prop) (fun S k=>k S) (fun q _ ih S k=>Bool.rec (putK q.2.1 (some q.2.2) S fun S=>ih S k) (ih S k) (bitN prev q.1)) l
/-- A state of the heap ahead of an acting operation: its number, those ahead of it. -/
structure Ch where
 idx:Nat
 anc:Nat
 st:St
/-- A reader at one state: if it may be met there ('prev': those ahead of the acting operation before; 'nxt': the next acting operation), the same value. -/
noncomputable def rdAt (P:Program) (r:Rd) (prev:Nat) (nxt:Option Nat) (S:St) (k:Prop):Prop :=
 Bool.rec (Bool.rec (putsK prev r.sel S fun S=>readK P r.op r.env S fun v=>ifK (eqV 8 r.val v) k) k (Option.rec false (fun n=>bitN r.anc n) nxt)) k (bitN prev r.idx)
/-- All states, the last one first. -/
noncomputable def rdAll (P:Program) (r:Rd) (chs:List Ch):Option Nat→St→Prop→Prop :=
 List.rec (motive:=fun _=>Option Nat→St→Prop→Prop) (fun nxt S k=>rdAt P r 0 nxt S k) (fun c _ ih nxt S k=>rdAt P r c.anc nxt S (ih (some c.idx) c.st k)) chs
noncomputable def rdsAll (P:Program) (chs:List Ch) (S:St) (l:List Rd) (k:Prop):Prop:=List.rec (motive:=fun _=>Prop) k (fun r _ ih=>rdAll P r chs none S ih) l
/-- A number that an object is to have: at every state ahead of the operation that takes it into the heap, the heap has none of it. -/
noncomputable def noneK (i id prev:Nat) (S:St) (k:Prop):Prop:=Bool.rec (Option.casesOn (T.get deep id S.hp) k fun _=>False) k (bitN prev i)
noncomputable def alAll (i id:Nat) (chs:List Ch):St→Prop→Prop :=
 List.rec (motive:=fun _=>St→Prop→Prop) (fun S k=>noneK i id 0 S k) (fun c _ ih S k=>noneK i id c.anc S (ih c.st k)) chs
noncomputable def alsAll (chs:List Ch) (S:St) (l:List (Nat × Nat)) (k:Prop):Prop:=List.rec (motive:=fun _=>Prop) k (fun q _ ih=>alAll q.1 q.2 chs S ih) l
/-- Objects that lie beside the heap: those ahead of an operation are put into it. -/
noncomputable def mergeK (s:Nat) (l:List (Nat × Nat × O)):St→(List (Nat × Nat × O)→St→Prop)→Prop :=
 List.rec (motive:=fun _=>St→(List (Nat × Nat × O)→St→Prop)→Prop) (fun S k=>k [] S)
  (fun q _ ih S k=>Bool.rec (ih S fun l S=>k (q :: l) S) (putK q.2.1 (some q.2.2) S fun S=>ih S k) (bitN s q.1)) l
noncomputable def mergeAll (l:List (Nat × Nat × O)):St→(St→Prop)→Prop :=
 List.rec (motive:=fun _=>St→(St→Prop)→Prop) (fun S k=>k S) (fun q _ ih S k=>putK q.2.1 (some q.2.2) S fun S=>ih S k) l
structure Dr where
 env:Env
 st:St
 pend:List (Nat × Nat × O)
 chs:List Ch
 rds:List Rd
 als:List (Nat × Nat)
/-- One operation. -/
noncomputable def drOp (P:Program) (rc:CallT) (rd:RoundT) (base i anc:Nat) (o:Op) (d:Dr) (k:V→Dr→Prop):Prop :=
 Cl.rec (motive:=fun _=>Prop) (fun f=>f d.env fun v=>k v d)
  (fun f=>putsK 0 (aheadL anc d.pend) d.st fun S=>f d.env S fun v=>k v ⟨d.env,d.st,d.pend,d.chs,⟨o,i,anc,d.env,v,aheadL anc d.pend⟩ :: d.rds,d.als⟩)
  (fun f=>f d.env fun ob mk=>fN (Nat.add base i) fun id=>k (mk id) ⟨d.env,d.st,(i,id,ob) :: d.pend,d.chs,d.rds,(i,id) :: d.als⟩)
  (fun f=>ifK (List.rec (motive:=fun _=>Bool) true (fun c _ _=>bitN anc c.idx) d.chs) (mergeK anc d.pend d.st fun pend S=>f rc rd d.env S fun v S'=>k v ⟨d.env,S',pend,⟨i,anc,d.st⟩ :: d.chs,d.rds,d.als⟩)) (clOf P o)
/-- What is written: the slot is not read or written by an earlier operation. -/
noncomputable def drPut (d:Dr) (t:Option Tmp) (v:V) (k:Dr→Prop):Prop:=putDst d.env t v fun E=>k ⟨E,d.st,d.pend,d.chs,d.rds,d.als⟩
noncomputable def drGuard (ops:List Oper) (anc own:Nat) (g:Option (Nat × Bool)) (k:Nat→Sx):Sx :=
 Option.rec (motive:=fun _=>Sx) (k own) (fun q=>Option.rec (motive:=fun _=>Sx) .bad (fun t=>Bool.rec (motive:=fun _=>Sx) .bad (fS (withN own t) k) (bitN anc q.1)) (dstOf ops q.1)) g
/-- That the earlier operations that read a slot are ahead in every order. -/
noncomputable def freeK (anc t:Nat) (l:List (Nat × Nat × Nat × Nat)):Nat→Bool :=
 List.rec (motive:=fun _=>Nat→Bool) (fun _=>true) (fun q _ ih j=>Bool.rec (ih (Nat.pred j)) (Bool.rec false (ih (Nat.pred j)) (bitN anc j)) (bitN q.2.2.2 t)) l
/-- That a slot may be written: no earlier operation writes it, the operation itself does not read it, and those that read it are ahead in every order. -/
noncomputable def dstK (i:Nat) (ancs:List (Nat × Nat × Nat × Nat)) (anc wr own seen:Nat) (d:Option Tmp):Bool :=
 Option.rec true (fun t=>Bool.rec (Bool.rec (Bool.rec true (freeK anc t ancs (Nat.pred i)) (bitN seen t)) false (bitN own t)) false (bitN wr t)) d
noncomputable def stepS (ops:List Oper) (i:Nat) (ancs:List (Nat × Nat × Nat × Nat)) (wr seen:Nat) (o:Oper):Sx :=
 ancK i ancs o.after.toList 0 0 fun anc dw=>seesK wr dw o.op.operands.toList 0 fun own=>drGuard ops anc own o.guard fun own =>
  Bool.rec (motive:=fun _=>Sx) .bad (fS (Nat.lor wr (slotN o.dst)) fun wr=>fS (Nat.lor seen own) fun seen=>.ok anc dw own wr seen) (dstK i ancs anc wr own seen o.dst)
noncomputable def drOps (P:Program) (rc:CallT) (rd:RoundT) (base:Nat) (ops:List Oper) (l:List Oper):Nat→List (Nat × Nat × Nat × Nat)→Nat→Nat→Dr→(Dr→Prop)→Prop :=
 List.rec (motive:=fun _=>Nat→List (Nat × Nat × Nat × Nat)→Nat→Nat→Dr→(Dr→Prop)→Prop)
  (fun _ _ _ _ d k=>k d)
  (fun o _ ih i ancs wr seen d k=>Sx.rec (motive:=fun _=>Prop) (fun anc dw own wr seen =>
   guardK d.env ops o.guard (drOp P rc rd base i anc o.op d fun v d=>drPut d o.dst v fun d=>ih (Nat.succ i) ((anc,dw,slotN o.dst,own) :: ancs) wr seen d k)
      (drPut d o.dst undefV fun d=>ih (Nat.succ i) ((anc,dw,slotN o.dst,own) :: ancs) wr seen d k)) False (stepS ops i ancs wr seen o)) l
noncomputable def evDraw (P:Program) (rc:CallT) (rd:RoundT):DrawT:=fun ops E S k =>
 fN (Nat.add S.next (len' ops.toList)) fun nx=>drOps P rc rd S.next ops.toList ops.toList 0 [] 0 0 ⟨E,⟨S.hp,nx⟩,[],[],[],[]⟩ fun d =>
  rdsAll P d.chs d.st d.rds (alsAll d.chs d.st d.als (mergeAll d.pend d.st fun S=>k d.env S))
end Go.Am
/- Drawn regions: sets of numbers, what the evaluator's helpers find. -/
namespace Go.Am
variable {P:Program}

theorem bitN_eq (s i:Nat):bitN s i=s.testBit i:=by
 have h:bitN s i=Nat.beq ((s >>> i) &&& 1) 1:=rfl
 rw [h,Nat.testBit,Nat.and_comm]
 have:(1 &&& s >>> i)=(s >>> i) % 2:=by rw [Nat.and_comm];exact Nat.and_one_is_mod _
 rw [this]
 rcases Nat.mod_two_eq_zero_or_one (s >>> i) with h|h <;> rw [h] <;> rfl
theorem bitN_zero (i:Nat):bitN 0 i=false:=by rw [bitN_eq];simp
theorem bitN_lor (a b i:Nat):bitN (Nat.lor a b) i=(bitN a i || bitN b i):=by
 rw [bitN_eq,bitN_eq,bitN_eq];exact Nat.testBit_or a b i
theorem bitN_shift (t i:Nat):bitN (Nat.shiftLeft 1 t) i=decide (t=i):=by
 rw [bitN_eq]
 have:Nat.shiftLeft 1 t=2 ^ t:=Nat.one_shiftLeft t
 rw [this];exact Nat.testBit_two_pow
theorem bitN_with (s t i:Nat):bitN (withN s t) i=(bitN s i || decide (t=i)):=by
 unfold withN;rw [bitN_lor,bitN_shift]
theorem bitN_slot (d:Option Tmp) (i:Nat):bitN (slotN d) i=true ↔ d=some i:=by
 cases d with
 | none=>show bitN 0 i=true ↔ _;rw [bitN_zero];simp
 | some t=>show bitN (Nat.shiftLeft 1 t) i=true ↔ _;rw [bitN_shift];simp

theorem fS_eq (n:Nat) (k:Nat→Sx):fS n k=k n:=by cases n <;> rfl
theorem ancK_spec {i:Nat} {ancs:List (Nat × Nat × Nat × Nat)}:∀ {l:List Edge} {s d:Nat} {k:Nat→Nat→Sx},ancK i ancs l s d k ≠ .bad→∃ s' d',ancK i ancs l s d k=k s' d' ∧
  (∀ e ∈ l,bindE e=true→e.on < i∧bitN s' e.on=true∧∃ q,nth ancs (i - 1 - e.on)=some q∧∀ j,bitN q.1 j=true→bitN s' j=true) ∧
  (∀ j,bitN s j=true→bitN s' j=true) ∧
  (∀ j,bitN s' j=true→bitN s j=true ∨ ∃ e ∈ l,bindE e=true∧(e.on=j ∨ ∃ q,nth ancs (i - 1 - e.on)=some q∧bitN q.1 j=true)) ∧
  (∀ t,bitN d' t=true→bitN d t=true ∨ ∃ e ∈ l,bindE e=true∧∃ q,nth ancs (i - 1 - e.on)=some q∧(bitN q.2.1 t=true ∨ bitN q.2.2.1 t=true))
 | [],s,d,k,h=>by
   refine ⟨s,d,?_,by simp,fun _ h=>h,fun _ h=>.inl h,fun _ h=>.inl h⟩
   show fS s (fun s=>fS d fun d=>k s d)=_
   rw [fS_eq,fS_eq]
 | e :: l,s,d,k,h=>by
   have hdef:ancK i ancs (e :: l) s d k=Bool.rec (motive:=fun _=>Sx) (ancK i ancs l s d k) (Bool.rec (motive:=fun _=>Sx) .bad (Option.rec (motive:=fun _=>Sx) .bad (fun q=>ancK i ancs l (Nat.lor (withN s e.on) q.1) (Nat.lor (Nat.lor d q.2.1) q.2.2.1) k) (nth ancs (Nat.sub (Nat.sub i 1) e.on))) (Nat.blt e.on i)) (bindE e):=rfl
   rw [hdef] at h ⊢
   cases hb:bindE e with
   | false =>
     rw [hb] at h
     obtain ⟨s',d',h1,h2,h3,h4,h5⟩:=ancK_spec (show ancK i ancs l s d k ≠ .bad from h)
     refine ⟨s',d',h1,fun e' he' hb'=>?_,h3,fun j hj=>?_,fun t ht=>?_⟩
     ·rcases List.mem_cons.1 he' with rfl|he'
      ·rw [hb] at hb';cases hb'
      ·exact h2 e' he' hb'
     ·rcases h4 j hj with h|⟨e',he',r⟩
      ·exact .inl h
      ·exact .inr ⟨e',List.mem_cons_of_mem _ he',r⟩
     ·rcases h5 t ht with h|⟨e',he',r⟩
      ·exact .inl h
      ·exact .inr ⟨e',List.mem_cons_of_mem _ he',r⟩
   | true =>
     rw [hb] at h
     cases hlt:Nat.blt e.on i with
     | false=>rw [hlt] at h;exact absurd rfl h
     | true =>
     rw [hlt] at h
     have hlt':e.on < i:=by simpa using hlt
     cases hq:nth ancs (Nat.sub (Nat.sub i 1) e.on) with
     | none=>rw [hq] at h;exact absurd rfl h
     | some q =>
     rw [hq] at h
     have hq':nth ancs (i - 1 - e.on)=some q:=hq
     obtain ⟨s',d',h1,h2,h3,h4,h5⟩:=ancK_spec (show ancK i ancs l (Nat.lor (withN s e.on) q.1) (Nat.lor (Nat.lor d q.2.1) q.2.2.1) k ≠ .bad from h)
     refine ⟨s',d',h1,fun e' he' hb'=>?_,fun j hj=>h3 j (by rw [bitN_lor,bitN_with,hj];rfl),fun j hj=>?_,fun t ht=>?_⟩
     ·rcases List.mem_cons.1 he' with rfl|he'
      ·exact ⟨hlt',h3 _ (by rw [bitN_lor,bitN_with];simp),q,hq',fun j hj=>h3 j (by rw [bitN_lor,hj];simp)⟩
      ·exact h2 e' he' hb'
     ·rcases h4 j hj with h|⟨e',he',r⟩
      ·rw [bitN_lor,bitN_with] at h
       simp only [Bool.or_eq_true,decide_eq_true_eq] at h
       rcases h with (h|h)|h
       ·exact .inl h
       ·exact .inr ⟨e,by simp,hb,.inl h⟩
       ·exact .inr ⟨e,by simp,hb,.inr ⟨q,hq',h⟩⟩
      ·exact .inr ⟨e',List.mem_cons_of_mem _ he',r⟩
     ·rcases h5 t ht with h|⟨e',he',r⟩
      ·rw [bitN_lor,bitN_lor] at h
       simp only [Bool.or_eq_true] at h
       rcases h with (h|h)|h
       ·exact .inl h
       ·exact .inr ⟨e,by simp,hb,q,hq',.inl h⟩
       ·exact .inr ⟨e,by simp,hb,q,hq',.inr h⟩
      ·exact .inr ⟨e',List.mem_cons_of_mem _ he',r⟩
theorem seesK_spec {wr d:Nat}:∀ {l:List Operand} {s:Nat} {k:Nat→Sx},seesK wr d l s k ≠ .bad→∃ s',seesK wr d l s k=k s'∧(∀ t,bitN s t=true→bitN s' t=true) ∧
  ∀ t,Operand.tmp t ∈ l→bitN s' t=true∧(bitN wr t=true→bitN d t=true)
 | [],s,k,h=>⟨s,fS_eq s k,fun _ h=>h,by simp⟩
 | x :: l,s,k,h=>by
   cases x with
   | tmp t =>
     have hdef:seesK wr d (.tmp t :: l) s k=Bool.rec (motive:=fun _=>Sx) (seesK wr d l (withN s t) k) (Bool.rec (motive:=fun _=>Sx) .bad (seesK wr d l (withN s t) k) (bitN d t)) (bitN wr t):=rfl
     have key:seesK wr d (.tmp t :: l) s k=seesK wr d l (withN s t) k∧(bitN wr t=true→bitN d t=true):=by
      rw [hdef] at h ⊢
      cases hw:bitN wr t with
      | false=>exact ⟨rfl,fun h=>by cases h⟩
      | true =>
        rw [hw] at h
        cases hd:bitN d t with
        | false=>rw [hd] at h;exact absurd rfl h
        | true=>exact ⟨rfl,fun _=>rfl⟩
     rw [key.1] at h ⊢
     obtain ⟨s',h1,h2,h3⟩:=seesK_spec h
     refine ⟨s',h1,fun u hu=>h2 u (by rw [bitN_with,hu];rfl),fun u hu=>?_⟩
     rcases List.mem_cons.1 hu with hu|hu
     ·cases hu;exact ⟨h2 t (by rw [bitN_with];simp),key.2⟩
     ·exact h3 u hu
   | const c =>
     obtain ⟨s',h1,h2,h3⟩:=seesK_spec (show seesK wr d l s k ≠ .bad from h)
     exact ⟨s',h1,h2,fun u hu=>by rcases List.mem_cons.1 hu with hu|hu;cases hu;exact h3 u hu⟩
   | global c =>
     obtain ⟨s',h1,h2,h3⟩:=seesK_spec (show seesK wr d l s k ≠ .bad from h)
     exact ⟨s',h1,h2,fun u hu=>by rcases List.mem_cons.1 hu with hu|hu;cases hu;exact h3 u hu⟩
   | func c =>
     obtain ⟨s',h1,h2,h3⟩:=seesK_spec (show seesK wr d l s k ≠ .bad from h)
     exact ⟨s',h1,h2,fun u hu=>by rcases List.mem_cons.1 hu with hu|hu;cases hu;exact h3 u hu⟩
theorem freeK_spec {anc t:Nat}:∀ {l:List (Nat × Nat × Nat × Nat)} {n:Nat},l.length=n→freeK anc t l (Nat.pred n)=true→∀ j q,j < n→nth l (n - 1 - j)=some q→bitN q.2.2.2 t=true→bitN anc j=true
 | [],n,hl,_,j,q,hj,_,_=>by simp at hl;omega
 | q0 :: l,n,hl,h,j,q,hj,hq,hb=>by
   have hl':l.length=n - 1:=by simp at hl;omega
   have h':Bool.rec (motive:=fun _=>Bool) (freeK anc t l (Nat.pred (Nat.pred n))) (Bool.rec (motive:=fun _=>Bool) false (freeK anc t l (Nat.pred (Nat.pred n))) (bitN anc (Nat.pred n))) (bitN q0.2.2.2 t)=true:=h
   have hp:Nat.pred n=n - 1:=rfl
   by_cases e:j=n - 1
   ·subst e
    rw [show n - 1 - (n - 1)=0 by omega] at hq
    have:q0=q:=by cases hq;rfl
    subst this
    rw [hb,hp] at h'
    cases hx:bitN anc (n - 1) with
    | true=>rfl
    | false=>rw [hx] at h';cases h'
   ·have rest:freeK anc t l (Nat.pred (n - 1))=true:=by
     rw [← hp]
     cases hx:bitN q0.2.2.2 t with
     | false=>rw [hx] at h';exact h'
     | true =>
       rw [hx] at h'
       cases hy:bitN anc (Nat.pred n) with
       | false=>rw [hy] at h';cases h'
       | true=>rw [hy] at h';exact h'
    refine freeK_spec hl' rest j q (by omega) ?_ hb
    have:n - 1 - j=(n - 1 - 1 - j)+1:=by omega
    rw [this] at hq;exact hq
theorem dstK_spec {i:Nat} {ancs:List (Nat × Nat × Nat × Nat)} {anc wr own seen:Nat} {d:Option Tmp} (h:dstK i ancs anc wr own seen d=true) {t:Tmp} (ht:d=some t) :
  bitN wr t=false∧bitN own t=false∧(bitN seen t=false ∨ freeK anc t ancs (Nat.pred i)=true):=by
 subst ht
 have h':Bool.rec (motive:=fun _=>Bool) (Bool.rec (motive:=fun _=>Bool) (Bool.rec (motive:=fun _=>Bool) true (freeK anc t ancs (Nat.pred i)) (bitN seen t)) false (bitN own t)) false (bitN wr t)=true:=h
 cases h1:bitN wr t with
 | true=>rw [h1] at h';cases h'
 | false =>
   rw [h1] at h'
   cases h2:bitN own t with
   | true=>rw [h2] at h';cases h'
   | false =>
     rw [h2] at h'
     cases h3:bitN seen t with
     | false=>exact ⟨rfl,rfl,.inl rfl⟩
     | true=>rw [h3] at h';exact ⟨rfl,rfl,.inr h'⟩

/-! The same value. -/
theorem eqL_spec {f:V→V→Bool} (hf:∀ a b,f a b=true→a=b):∀ {l m:List V},eqL f l m=true→l=m
 | [],[],_=>rfl
 | [],_ :: _,h=>by cases h
 | _ :: _,[],h=>by cases h
 | x :: l,y :: m,h=>by
   have h':Bool.rec (motive:=fun _=>Bool) false (eqL f l m) (f x y)=true:=h
   cases hx:f x y with
   | false=>rw [hx] at h';cases h'
   | true=>rw [hx] at h';rw [hf x y hx,eqL_spec hf h']
theorem fnEq_spec {a b:Fn} (h:fnEq a b=true):a=b:=by
 unfold fnEq at h
 split at h
 ·rw [eq_of_beq h]
 ·cases h
theorem eqStep_spec {f:V→V→Bool} (hf:∀ a b,f a b=true→a=b) {a b:V} (h:eqStep f a b=true):a=b:=by
 unfold eqStep at h
 split at h <;> first
  | rfl
  | (cases h;done)
  | (simp only [Bool.and_eq_true] at h)
  | skip
 ·rw [eq_of_beq h]
 ·rw [of_decide_eq_true h.1];rw [eqI_eq] at h;rw [eq_of_beq h.2]
 ·rw [Nat.eq_of_beq_eq_true h]
 ·rw [Nat.eq_of_beq_eq_true h]
 ·rw [eqS_eq] at h;rw [eq_of_beq h]
 ·rw [Nat.eq_of_beq_eq_true h.1,Nat.eq_of_beq_eq_true h.2]
 ·obtain ⟨⟨⟨⟨⟨h1,h2⟩,h3⟩,h4⟩,h5⟩,h6⟩:=h
  rw [Nat.eq_of_beq_eq_true h1,Nat.eq_of_beq_eq_true h2,Nat.eq_of_beq_eq_true h3,Nat.eq_of_beq_eq_true h4,Nat.eq_of_beq_eq_true h5,eq_of_beq h6]
 ·rw [Nat.eq_of_beq_eq_true h]
 ·rw [fnEq_spec h.1.1,eqL_spec hf h.1.2,eqL_spec hf h.2]
 ·rw [Nat.eq_of_beq_eq_true h]
 ·rw [Nat.eq_of_beq_eq_true h.1,hf _ _ h.2]
 ·rw [eqL_spec hf h]
 ·rw [eqL_spec hf h]
theorem eqV_spec:∀ {n:Nat} {a b:V},eqV n a b=true→a=b
 | 0,_,_,h=>by cases h
 | n+1,a,b,h=>eqStep_spec (fun a b h=>eqV_spec h) (show eqStep (eqV n) a b=true from h)
end Go.Am
/- Drawn regions: what the evaluator has found out about the operations, in index order. -/
namespace Go.Am
open Classical
variable {P:Program}

/-- A heap with objects laid over it, of those numbers that 'p' says. -/
noncomputable def lay (base:Nat) (al:Nat→Option O) (p:Nat→Prop) (H:Hs):Hs :=
 ⟨fun id=>if base ≤ id∧p (id - base)∧(al (id - base)).isSome then al (id - base) else H.get id,H.next⟩
theorem lay_congr {base:Nat} {al al':Nat→Option O} {p p':Nat→Prop} (H:Hs) (h:∀ i,(p i∧(al i).isSome ↔ p' i∧(al' i).isSome)∧(p i→(al i).isSome→al i=al' i)):lay base al p H=lay base al' p' H:=by
 unfold lay
 congr 1
 funext id
 have h1:=h (id - base)
 by_cases hb:base ≤ id
 ·by_cases hp:p (id - base)∧(al (id - base)).isSome
  ·rw [if_pos ⟨hb,hp⟩,if_pos ⟨hb,h1.1.1 hp⟩,h1.2 hp.1 hp.2]
  ·rw [if_neg (fun x=>hp x.2),if_neg (fun x=>hp (h1.1.2 x.2))]
 ·rw [if_neg (fun x=>hb x.1),if_neg (fun x=>hb x.1)]
theorem lay_empty {base:Nat} {al:Nat→Option O} {p:Nat→Prop} (H:Hs) (h:∀ i,p i→(al i).isSome→False):lay base al p H=H:=by
 unfold lay
 cases H
 congr 1
 funext id
 rw [if_neg (fun x=>h _ x.2.1 x.2.2)]
theorem lay_put {base:Nat} {al:Nat→Option O} {p:Nat→Prop} {i:Nat} {o:O} (H:Hs) (ha:al i=some o):(lay base al p H).put (base+i) (some o)=lay base al (fun j=>j=i ∨ p j) H:=by
 unfold lay Hs.put
 congr 1
 funext id
 by_cases e:id=base+i
 ·subst e
  rw [if_pos rfl,if_pos ⟨by omega,.inl (by omega),by rw [Nat.add_sub_cancel_left,ha];rfl⟩,Nat.add_sub_cancel_left,ha]
 ·rw [if_neg e]
  by_cases hb:base ≤ id
  ·have e':id - base ≠ i:=by omega
   simp only [e',false_or]
  ·simp only [hb,false_and,if_false]

def prevOf (l:List Ch):Nat:=match l with|[]=>0|c :: _=>c.anc
noncomputable def stOf (l:List Ch) (H:Hs):Hs:=match l.getLast? with|some c=>c.st.hs|none=>H
def nxOf (l:List Ch):Option Nat:=l.getLast?.map (·.idx)
theorem stOf_cons (c:Ch) (l:List Ch) (H:Hs):stOf (c :: l) H=stOf l c.st.hs:=by
 unfold stOf
 cases l with
 | nil=>rfl
 | cons d l =>
   rw [List.getLast?_cons_cons]
   cases h:(d :: l).getLast? with
   | none=>simp at h
   | some x=>rfl
theorem stOf_snoc (l:List Ch) (c:Ch) (H:Hs):stOf (l ++ [c]) H=c.st.hs:=by
 unfold stOf;simp
theorem nxOf_snoc (l:List Ch) (c:Ch):nxOf (l ++ [c])=some c.idx:=by
 unfold nxOf;simp

structure Rec where
 anc:Nat
 dw:Nat
 env:Env
 val:V
 al:Option O
/-- The slots that an operation reads. -/
def Reads (ops:Array Oper) (o:Oper) (t:Tmp):Prop:=Operand.tmp t ∈ o.op.operands.toList ∨ ∃ q,o.guard=some q∧dstOf ops.toList q.1=some t
/-- Some slots of a frame. -/
def ERs (ρ:Rho) (E:Env) (tmps:Array Value) (s:Tmp→Prop):Prop:=∀ t v,s t→tget E t=some v→∃ v',tmps[t]?=some v'∧VR ρ v v'
theorem EvR.of_ERs {ρ:Rho} {E:Env} {tmps:Array Value} {s:Tmp→Prop} (he:ERs ρ E tmps s) (hg:Globs ρ) {l:List Operand} (hl:∀ t,Operand.tmp t ∈ l→s t):EvR ρ E (evT tmps) l:=fun x hx v hv=>by
 cases x with
 | tmp t =>
   obtain ⟨v',a,b⟩:=he t v (hl t hx) hv
   have:evT tmps (.tmp t)=v':=by simp [evT,Array.getD_eq_getD_getElem?,a]
   rw [this];exact b
 | const c=>obtain ⟨a,rfl⟩:=hv;exact VR.ofV a
 | global g =>
   have hv':OpV (blank 0) (.global g) v:=hv
   exact (EvR.of_ER (E:=blank 0) (tmps:=tmps) (ρ:=ρ) (fun t v h=>absurd (blank_get h).2 (by omega)) hg [.global g]) (.global g) (by simp) v hv'
 | func f =>
   have hv':OpV (blank 0) (.func f) v:=hv
   exact (EvR.of_ER (E:=blank 0) (tmps:=tmps) (ρ:=ρ) (fun t v h=>absurd (blank_get h).2 (by omega)) hg [.func f]) (.func f) (by simp) v hv'
/-- Whether an operation is wanted. -/
def Gd (ops:Array Oper) (E:Env) (o:Oper) (b:Bool):Prop:=∀ (ρ:Rho) (tmps:Array Value),ERs ρ E tmps (Reads ops o)→Region.wanted o (yielded ops tmps)=b
theorem guardK_gd {E:Env} {ops:Array Oper} {o:Oper} {yes no:Prop} (h:guardK E ops.toList o.guard yes no):(yes∧Gd ops E o true) ∨ (no∧Gd ops E o false):=by
 cases hg:o.guard with
 | none =>
   rw [hg] at h
   exact .inl ⟨h,fun ρ tmps _=>by simp [Region.wanted,hg]⟩
 | some q =>
   rw [hg] at h
   obtain ⟨t,h1,v,h3,h4⟩:=guardK_some h
   have hr:Reads ops o t:=.inr ⟨q,hg,h1⟩
   have hd:(ops[q.1]?).bind (·.dst)=some t:=by
    unfold dstOf at h1
    rw [nth_eq] at h1
    have e:ops.toList[q.1]?=ops[q.1]?:=by simp
    rw [e] at h1
    cases ho:ops[q.1]? with
    | none=>rw [ho] at h1;cases h1
    | some o'=>rw [ho] at h1;exact h1
   have hw:∀ tmps,Region.wanted o (yielded ops tmps)=(yielded ops tmps q.1 == some q.2):=fun tmps=>by simp [Region.wanted,hg]
   split at h4
   ·rename_i b
    have hy:∀ (ρ:Rho) (tmps:Array Value),ERs ρ E tmps (Reads ops o)→yielded ops tmps q.1=some b:=fun ρ tmps he=>by
     obtain ⟨v',a,c⟩:=he t _ hr h3
     cases c
     unfold yielded
     rw [hd,Option.bind_some,a]
    have hf:∀ (x:Bool),(b == x)=true→Gd ops E o (b == q.2)→True:=fun _ _ _=>trivial
    have hgd:Gd ops E o (b == q.2):=fun ρ tmps he=>by rw [hw,hy ρ tmps he];rfl
    cases b <;> cases hq:q.2 <;> rw [hq] at h4 hgd
    ·exact .inl ⟨h4,hgd⟩
    ·exact .inr ⟨h4,hgd⟩
    ·exact .inr ⟨h4,hgd⟩
    ·exact .inl ⟨h4,hgd⟩
   ·refine .inr ⟨h4,fun ρ tmps he=>?_⟩
    obtain ⟨v',a,c⟩:=he t _ hr h3
    cases c
    rw [hw]
    unfold yielded
    rw [hd,Option.bind_some,a]
    rfl
   ·exact h4.elim

/-- What the slots are ahead of an operation. -/
def EnvAt (ops:Array Oper) (E0:Env) (R:Nat→Rec) (i:Nat) (E:Env):Prop :=
 ∀ t v,tget E t=some v→(tget E0 t).isSome∧((∃ k o,k < i∧ops[k]?=some o∧o.dst=some t∧v=(R k).val) ∨ ((∀ k o,k < i→ops[k]?=some o→o.dst ≠ some t)∧tget E0 t=some v))
/-- What an operation does. -/
inductive Kind (P:Program) (ops:Array Oper) (base:Nat) (d:Dr) (i:Nat) (o:Oper) (r:Rec):Prop where
 | skip (g:Gd ops r.env o false) (hv:r.val=undefV) (ha:r.al=none) (hn:∀ c ∈ d.chs,c.idx ≠ i)
 | pure (g:Gd ops r.env o true) (hd:∀ c,o.op ≠ .defer c) (h:PureS P o.op r.env r.val) (ha:r.al=none) (hn:∀ c ∈ d.chs,c.idx ≠ i)
 | read (g:Gd ops r.env o true) (hd:∀ c,o.op ≠ .defer c) (sel:List (Nat × Nat × O)) (h:⟨o.op,i,r.anc,r.env,r.val,sel⟩ ∈ d.rds) (ha:r.al=none) (hn:∀ c ∈ d.chs,c.idx ≠ i)
 | alloc (g:Gd ops r.env o true) (hd:∀ c,o.op ≠ .defer c) (ob:O) (mk:Nat→V) (ha:r.al=some ob) (h:AllocS P o.op r.env ob mk) (hv:r.val=mk (base+i)) (hm:(i,base+i) ∈ d.als) (hn:∀ c ∈ d.chs,c.idx ≠ i)
 | chain (g:Gd ops r.env o true) (hd:∀ c,o.op ≠ .defer c) (c:Ch) (hc:c ∈ d.chs) (hi:c.idx=i) (ha:r.al=none)
/-- An acting operation. -/
def ChFact (P:Program) (ops:Array Oper) (base:Nat) (R:Nat→Rec) (H:Hs) (later:List Ch) (c:Ch) (earlier:List Ch):Prop :=
 c.anc=(R c.idx).anc∧(∀ e ∈ earlier,bitN c.anc e.idx=true)∧∃ o,ops[c.idx]?=some o ∧
  OpW P o.op (R c.idx).env (lay base (fun i=>(R i).al) (fun i=>bitN c.anc i=true∧bitN (prevOf earlier) i=false) c.st.hs) (R c.idx).val (stOf later H)
structure Inv (P:Program) (ops:Array Oper) (base:Nat) (E0:Env) (H0:Hs) (n:Nat) (ancs:List (Nat × Nat × Nat × Nat)) (wr seen:Nat) (d:Dr) (R:Nat→Rec):Prop where
 out:∀ i,n ≤ i→(R i).al=none
 alen:ancs.length=n
 ancs:∀ j,j < n→∃ o own,ops[j]?=some o∧nth ancs (n - 1 - j)=some ((R j).anc,(R j).dw,slotN o.dst,own)∧∀ t,Reads ops o t→bitN own t=true
 wr:∀ k o t,k < n→ops[k]?=some o→o.dst=some t→bitN wr t=true
 seen:∀ k o t,k < n→ops[k]?=some o→Reads ops o t→bitN seen t=true
 dw:∀ i t,i < n→bitN (R i).dw t=true→∃ k o,bitN (R i).anc k=true∧ops[k]?=some o∧o.dst=some t
 lt:∀ i j,i < n→bitN (R i).anc j=true→j < i
 edge:∀ i o e,i < n→ops[i]?=some o→e ∈ o.after.toList→bindE e=true→e.on < i
 back:∀ i o j,i < n→ops[i]?=some o→bitN (R i).anc j=true→∃ e ∈ o.after.toList,bindE e=true∧(e.on=j ∨ bitN (R e.on).anc j=true)
 trans:∀ i j k,i < n→bitN (R i).anc j=true→bitN (R j).anc k=true→bitN (R i).anc k=true
 reads:∀ i o t k ok,i < n→k < n→ops[i]?=some o→Reads ops o t→ops[k]?=some ok→ok.dst=some t→bitN (R i).anc k=true ∨ bitN (R k).anc i=true
 dst:∀ i o k ok t,i < n→k < n→ops[i]?=some o→ops[k]?=some ok→o.dst=some t→ok.dst=some t→i=k
 slot:∀ i o t,i < n→ops[i]?=some o→o.dst=some t→(tget E0 t).isSome
 envs:∀ i,i < n→EnvAt ops E0 R i (R i).env
 env:EnvAt ops E0 R n d.env
 kind:∀ i o,i < n→ops[i]?=some o→Kind P ops base d i o (R i)
 chlt:∀ c ∈ d.chs,c.idx < n
 chain:∀ later c earlier,d.chs=later ++ c :: earlier→ChFact P ops base R d.st.hs later c earlier
 start:stOf d.chs d.st.hs=H0
 pend1:∀ q ∈ d.pend,q.2.1=base+q.1∧(R q.1).al=some q.2.2
 rsel:∀ r ∈ d.rds,∀ q ∈ r.sel,q.2.1=base+q.1∧(R q.1).al=some q.2.2∧bitN r.anc q.1=true
 pend2:∀ i,(R i).al.isSome→((∃ q ∈ d.pend,q.1=i) ↔ bitN (prevOf d.chs) i=false)
end Go.Am
/- Drawn regions: the evaluator keeps what it has found out. -/
namespace Go.Am
open Classical
variable {P:Program}

theorem lay_put' {base:Nat} {al:Nat→Option O} {p:Nat→Prop} {i:Nat} {o:O} (H:Hs) (ha:al i=some o):lay base al p (H.put (base+i) (some o))=lay base al (fun j=>j=i ∨ p j) H:=by
 unfold lay Hs.put
 congr 1
 funext id
 by_cases e:id=base+i
 ·subst e
  have hs:(al (base+i - base)).isSome:=by rw [Nat.add_sub_cancel_left,ha];rfl
  rw [if_pos (⟨by omega,.inl (by omega),hs⟩:base ≤ base+i∧(base+i - base=i ∨ p (base+i - base))∧(al (base+i - base)).isSome=true)]
  by_cases hp:p (base+i - base)
  ·rw [if_pos ⟨by omega,hp,hs⟩]
  ·rw [if_neg (fun x=>hp x.2.1)]
   show (if base+i=base+i then some o else H.get (base+i))=_
   rw [if_pos rfl,Nat.add_sub_cancel_left,ha]
 ·by_cases hb:base ≤ id
  ·have e':id - base ≠ i:=by omega
   simp only [e',false_or,e,if_false]
  ·rw [if_neg (fun x=>hb x.1),if_neg (fun x=>hb x.1)]
   show (if id=base+i then some o else H.get id)=_
   rw [if_neg e]
theorem mergeK_spec {base s:Nat} {al:Nat→Option O}:∀ {l:List (Nat × Nat × O)} {S:St} {k:List (Nat × Nat × O)→St→Prop},(∀ q ∈ l,q.2.1=base+q.1∧al q.1=some q.2.2)→mergeK s l S k →
  ∃ l' S',k l' S'∧(∀ q,q ∈ l' ↔ q ∈ l∧bitN s q.1=false)∧S'.hs=lay base al (fun i=>(∃ q ∈ l,q.1=i)∧bitN s i=true) S.hs
 | [],S,k,hl,h=>⟨[],S,h,by simp,(lay_empty _ fun i ⟨⟨q,hq,_⟩,_⟩ _=>by cases hq).symm⟩
 | q :: l,S,k,hl,h=>by
   obtain ⟨hq1,hq2⟩:=hl q (by simp)
   have hl':∀ q ∈ l,q.2.1=base+q.1∧al q.1=some q.2.2:=fun x hx=>hl x (by simp [hx])
   have h':Bool.rec (motive:=fun _=>Prop) (mergeK s l S fun l S=>k (q :: l) S) (putK q.2.1 (some q.2.2) S fun S=>mergeK s l S k) (bitN s q.1):=h
   cases hb:bitN s q.1 with
   | false =>
     rw [hb] at h'
     obtain ⟨l',S',h1,h2,h3⟩:=mergeK_spec hl' (show mergeK s l S fun l S=>k (q :: l) S from h')
     refine ⟨q :: l',S',h1,fun x=>?_,?_⟩
     ·constructor
      ·intro hx
       rcases List.mem_cons.1 hx with rfl|hx
       ·exact ⟨by simp,hb⟩
       ·exact ⟨by simp [((h2 x).1 hx).1],((h2 x).1 hx).2⟩
      ·rintro ⟨hx,hx2⟩
       rcases List.mem_cons.1 hx with rfl|hx
       ·simp
       ·exact List.mem_cons_of_mem _ ((h2 x).2 ⟨hx,hx2⟩)
     ·rw [h3]
      refine lay_congr _ fun i=>⟨⟨fun ⟨⟨⟨x,hx,hxi⟩,hbi⟩,hs⟩=>⟨⟨⟨x,by simp [hx],hxi⟩,hbi⟩,hs⟩,fun ⟨⟨⟨x,hx,hxi⟩,hbi⟩,hs⟩=>?_⟩,fun _ _=>rfl⟩
      rcases List.mem_cons.1 hx with rfl|hx
      ·subst hxi;rw [hb] at hbi;cases hbi
      ·exact ⟨⟨⟨x,hx,hxi⟩,hbi⟩,hs⟩
   | true =>
     rw [hb] at h'
     obtain ⟨S1,h4,h5⟩:=put_spec (show putK q.2.1 (some q.2.2) S fun S=>mergeK s l S k from h')
     obtain ⟨l',S',h1,h2,h3⟩:=mergeK_spec hl' h4
     refine ⟨l',S',h1,fun x=>?_,?_⟩
     ·rw [h2]
      constructor
      ·rintro ⟨a,b⟩;exact ⟨by simp [a],b⟩
      ·rintro ⟨hx,hx2⟩
       rcases List.mem_cons.1 hx with rfl|hx
       ·rw [hb] at hx2;cases hx2
       ·exact ⟨hx,hx2⟩
     ·rw [h3,h5,hq1,lay_put' _ hq2]
      refine lay_congr _ fun i=>⟨⟨fun ⟨hi,hs⟩=>⟨?_,hs⟩,fun ⟨⟨⟨x,hx,hxi⟩,hbi⟩,hs⟩=>⟨?_,hs⟩⟩,fun _ _=>rfl⟩
      ·rcases hi with rfl|⟨⟨x,hx,hxi⟩,hbi⟩
       ·exact ⟨⟨q,by simp,rfl⟩,hb⟩
       ·exact ⟨⟨x,by simp [hx],hxi⟩,hbi⟩
      ·rcases List.mem_cons.1 hx with rfl|hx
       ·exact .inl hxi.symm
       ·exact .inr ⟨⟨x,hx,hxi⟩,hbi⟩
theorem mergeAll_spec {base:Nat} {al:Nat→Option O}:∀ {l:List (Nat × Nat × O)} {S:St} {k:St→Prop},(∀ q ∈ l,q.2.1=base+q.1∧al q.1=some q.2.2)→mergeAll l S k →
  ∃ S',k S'∧S'.hs=lay base al (fun i=>∃ q ∈ l,q.1=i) S.hs
 | [],S,k,hl,h=>⟨S,h,(lay_empty _ fun i ⟨q,hq,_⟩ _=>by cases hq).symm⟩
 | q :: l,S,k,hl,h=>by
   obtain ⟨hq1,hq2⟩:=hl q (by simp)
   obtain ⟨S1,h4,h5⟩:=put_spec (show putK q.2.1 (some q.2.2) S fun S=>mergeAll l S k from h)
   obtain ⟨S',h1,h3⟩:=mergeAll_spec (fun x hx=>hl x (by simp [hx])) h4
   refine ⟨S',h1,?_⟩
   rw [h3,h5,hq1,lay_put' _ hq2]
   refine lay_congr _ fun i=>⟨⟨fun ⟨hi,hs⟩=>⟨?_,hs⟩,fun ⟨⟨x,hx,hxi⟩,hs⟩=>⟨?_,hs⟩⟩,fun _ _=>rfl⟩
   ·rcases hi with rfl|⟨x,hx,hxi⟩
    ·exact ⟨q,by simp,rfl⟩
    ·exact ⟨x,by simp [hx],hxi⟩
   ·rcases List.mem_cons.1 hx with rfl|hx
    ·exact .inl hxi.symm
    ·exact .inr ⟨x,hx,hxi⟩

theorem EnvAt.congr {ops:Array Oper} {E0 E:Env} {R R':Nat→Rec} {i:Nat} (h:EnvAt ops E0 R i E) (hR:∀ k,k < i→R' k=R k):EnvAt ops E0 R' i E:=fun t v ht=>by
 obtain ⟨h0,h1⟩:=h t v ht
 refine ⟨h0,?_⟩
 rcases h1 with ⟨k,o,a,b,c,e⟩|h1
 ·exact .inl ⟨k,o,a,b,c,by rw [hR k a];exact e⟩
 ·exact .inr h1
theorem EnvAt.put {ops:Array Oper} {E0 E:Env} {R R':Nat→Rec} {n:Nat} {o:Oper} {v:V} (h:EnvAt ops E0 R n E) (hR:∀ k,k < n→R' k=R k) (ho:ops[n]?=some o) (hv:(R' n).val=v)
  {k:Env→Prop} (hp:putDst E o.dst v k):∃ E',k E'∧EnvAt ops E0 R' (n+1) E'∧∀ t,o.dst=some t→(tget E0 t).isSome:=by
 cases hd:o.dst with
 | none =>
   rw [hd] at hp
   refine ⟨E,hp,fun t u ht=>?_,fun t ht=>by cases ht⟩
   obtain ⟨h0,h1⟩:=h.congr hR t u ht
   refine ⟨h0,?_⟩
   rcases h1 with ⟨k,o',a,b,c,e⟩|⟨h1,h2⟩
   ·exact .inl ⟨k,o',by omega,b,c,e⟩
   ·refine .inr ⟨fun k o' hk hok=>?_,h2⟩
    rcases Nat.lt_succ_iff_lt_or_eq.1 hk with hk|rfl
    ·exact h1 k o' hk hok
    ·rw [ho] at hok;cases hok;rw [hd];simp
 | some s =>
   rw [hd] at hp
   obtain ⟨E',h3,h4,h5⟩:=tset_spec (show tset E s v k from hp)
   obtain ⟨u0,hu0⟩:=Option.isSome_iff_exists.1 h4
   have hs0:(tget E0 s).isSome:=(h s u0 hu0).1
   refine ⟨E',h3,fun t u ht=>?_,fun t ht=>by cases ht;exact hs0⟩
   rw [h5] at ht
   by_cases e:t=s
   ·subst e
    simp at ht;subst ht
    exact ⟨hs0,.inl ⟨n,o,by omega,ho,hd,hv.symm⟩⟩
   ·simp [e] at ht
    obtain ⟨h0,h1⟩:=h.congr hR t u ht
    refine ⟨h0,?_⟩
    rcases h1 with ⟨k,o',a,b,c,e⟩|⟨h1,h2⟩
    ·exact .inl ⟨k,o',by omega,b,c,e⟩
    ·refine .inr ⟨fun k o' hk hok=>?_,h2⟩
     rcases Nat.lt_succ_iff_lt_or_eq.1 hk with hk|rfl
     ·exact h1 k o' hk hok
     ·rw [ho] at hok;cases hok;rw [hd];simpa using Ne.symm e

def Rset (R:Nat→Rec) (n:Nat) (r:Rec):Nat→Rec:=fun i=>if i=n then r else R i
theorem Rset_self (R:Nat→Rec) (n:Nat) (r:Rec):Rset R n r n=r:=by simp [Rset]
theorem Rset_ne (R:Nat→Rec) {n i:Nat} (r:Rec) (h:i ≠ n):Rset R n r i=R i:=by simp [Rset,h]
theorem Rset_lt (R:Nat→Rec) (n:Nat) (r:Rec):∀ k,k < n→Rset R n r k=R k:=fun k h=>Rset_ne R r (by omega)

theorem ChFact.congr {ops:Array Oper} {base:Nat} {R R':Nat→Rec} {H:Hs} {later earlier:List Ch} {c:Ch} {n:Nat} (h:ChFact P ops base R H later c earlier) (hc:c.idx < n) (hR:∀ k,k < n→R' k=R k)
  (hlt:∀ j,bitN c.anc j=true→j < c.idx):ChFact P ops base R' H later c earlier:=by
 obtain ⟨h1,h2,o,h3,h4⟩:=h
 refine ⟨by rw [hR _ hc];exact h1,h2,o,h3,?_⟩
 rw [hR _ hc]
 have:lay base (fun i=>(R' i).al) (fun i=>bitN c.anc i=true∧bitN (prevOf earlier) i=false) c.st.hs=lay base (fun i=>(R i).al) (fun i=>bitN c.anc i=true∧bitN (prevOf earlier) i=false) c.st.hs:=by
  refine lay_congr _ fun i=>?_
  by_cases hb:bitN c.anc i=true
  ·have:i < n:=by have:=hlt i hb;omega
   rw [hR i this]
   exact ⟨Iff.rfl,fun _ _=>rfl⟩
  ·exact ⟨⟨fun x=>absurd x.1.1 hb,fun x=>absurd x.1.1 hb⟩,fun x=>absurd x.1 hb⟩
 rw [this];exact h4
theorem aheadL_mem {anc:Nat} {q:Nat × Nat × O}:∀ {l:List (Nat × Nat × O)},q ∈ aheadL anc l→q ∈ l∧bitN anc q.1=true
 | [],h=>by cases h
 | x :: l,h=>by
   have h':q ∈ Bool.rec (motive:=fun _=>List (Nat × Nat × O)) (aheadL anc l) (x :: aheadL anc l) (bitN anc x.1):=h
   cases hb:bitN anc x.1 with
   | false =>
     rw [hb] at h'
     obtain ⟨h1,h2⟩:=aheadL_mem (show q ∈ aheadL anc l from h')
     exact ⟨List.mem_cons_of_mem _ h1,h2⟩
   | true =>
     rw [hb] at h'
     rcases List.mem_cons.1 h' with rfl|h'
     ·exact ⟨by simp,hb⟩
     ·obtain ⟨h1,h2⟩:=aheadL_mem h'
      exact ⟨List.mem_cons_of_mem _ h1,h2⟩
theorem putsK_spec {prev:Nat}:∀ {l:List (Nat × Nat × O)} {S:St} {k:St→Prop},putsK prev l S k →
  ∃ S',k S'∧S'.hs.next=S.hs.next∧∀ id o,S'.hs.get id=some o→S.hs.get id=some o ∨ ∃ q ∈ l,bitN prev q.1=false∧q.2.1=id∧q.2.2=o
 | [],S,k,h=>⟨S,h,rfl,fun _ _ h=>.inl h⟩
 | x :: l,S,k,h=>by
   have h':Bool.rec (motive:=fun _=>Prop) (putK x.2.1 (some x.2.2) S fun S=>putsK prev l S k) (putsK prev l S k) (bitN prev x.1):=h
   cases hb:bitN prev x.1 with
   | true =>
     rw [hb] at h'
     obtain ⟨S',h1,h2,h3⟩:=putsK_spec (show putsK prev l S k from h')
     refine ⟨S',h1,h2,fun id o ho=>?_⟩
     rcases h3 id o ho with h4|⟨q,hq,h4⟩
     ·exact .inl h4
     ·exact .inr ⟨q,List.mem_cons_of_mem _ hq,h4⟩
   | false =>
     rw [hb] at h'
     obtain ⟨S1,h1,h2⟩:=put_spec h'
     obtain ⟨S',h3,h4,h5⟩:=putsK_spec h1
     refine ⟨S',h3,by rw [h4,h2];rfl,fun id o ho=>?_⟩
     rcases h5 id o ho with h6|⟨q,hq,h6⟩
     ·rw [h2] at h6
      have h7:(if id=x.2.1 then some x.2.2 else S.hs.get id)=some o:=h6
      by_cases e:id=x.2.1
      ·rw [if_pos e] at h7;exact .inr ⟨x,by simp,hb,e.symm,Option.some.inj h7⟩
      ·rw [if_neg e] at h7;exact .inl h7
     ·exact .inr ⟨q,List.mem_cons_of_mem _ hq,h6⟩
end Go.Am
