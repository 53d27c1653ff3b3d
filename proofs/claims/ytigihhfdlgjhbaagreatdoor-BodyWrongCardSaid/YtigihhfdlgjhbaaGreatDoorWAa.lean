/- Part 1 of the proof that BodyWrong returns true, and leaves its arguments as they were, for every input, over a start where the listed variables hold what the program lays: the statement Rows.BodyWrongCardSaid. -/
import Derived.Calls
import Derived.Laws.Sem
import Derived.Laws.World
import Derived.Laws.Cells
import Derived.Laws.Rows
import GoSem.Dispatch
import Derived.Laws.Entries
import Derived.Laws.Strings
import Derived.Laws.StructEq
import Derived.Laws.Slices
import Derived.Laws.MakeOwn
import Derived.Laws.AppendOwn
import Derived.Maps.RangeRun
import Derived.KernelRfl
set_option linter.unusedVariables false
set_option linter.unusedSimpArgs false
set_option maxRecDepth 100000
set_option maxHeartbeats 400000000
namespace Go.Am
theorem om {p : Prop} (h : p := by omega) : p := h
theorem sm {p : Prop} (h : p := by simp) : p := h
theorem kr {p : Prop} (h : p := by kernel_rfl) : p := h
theorem dc {p : Prop} (h : p := by decide) : p := h
universe u
theorem ae {n k:Nat} (h:Nat.ble n k=true):n<=k:=Nat.le_of_ble_eq_true h
theorem af (n:Nat):n<=n:=Nat.le_refl n
theorem ag {n k:Nat} (h:n<=k):Nat.ble n k=true:=Nat.ble_eq_true_of_le h
theorem ai (n:Nat):0<=n:=Nat.zero_le n
theorem aj {n k:Nat} (h:Nat.beq n k=true):n=k:=Nat.eq_of_beq_eq_true h
theorem ak {α:Type u} {l:List α} {i:Nat} (h:i<l.length):l[i]?=some l[i]:=List.getElem?_eq_getElem h
theorem an {α:Type u} {i:Nat} {l:List α} (h:i<l.length):l.take (i+1)=l.take i++[l[i]]:=List.take_succ_eq_append_getElem h
theorem ao {α:Type u} {i:Nat} {a:α} {l:List α}:l[i]?=some a↔∃ h:i<l.length,l[i]=a:=List.getElem?_eq_some_iff
theorem aq {α:Type u} {l m:List α}:(l++m).length=l.length+m.length:=List.length_append
theorem au {α:Type u} {a:α} {l:List α}:(a::l).length=l.length+1:=List.length_cons
theorem av {α:Type u} {b:α} {l:List α} {a:α}:a∈b::l↔a=b∨a∈l:=List.mem_cons
theorem ay {α:Type u} {a b:α}:a∈[b]↔a=b:=List.mem_singleton
theorem az {α:Type u} {l:List α} {n:Nat} (h:n<l.length):l[n]∈l:=List.getElem_mem h
theorem bc {α:Type u} {o:Option α}:o.isSome↔∃ a,o=some a:=Option.isSome_iff_exists
theorem bd {α:Type u} {i:Nat} {l:List α} (h:l.length<=i):l.take i=l:=List.take_of_length_le h
theorem be {α:Type u} (y:α) {a:α} {l:List α} (h:a∈l):a∈y::l:=List.mem_cons_of_mem y h
theorem bf {α:Type u} (l:List α):l++[]=l:=List.append_nil l
theorem bg {n m k:Nat} (h:n<=m) (g:m<=k):n<=k:=Nat.le_trans h g
theorem bh {α:Type u} {i:Nat} {l:List α}:(List.take i l).length=min i l.length:=List.length_take
theorem bi {n m:Nat} (k:Nat) (h:n<=m):n*k<=m*k:=Nat.mul_le_mul_right k h
theorem bj {α:Type u}:([]:List α).Nodup:=List.nodup_nil
end Go.Am
namespace Go.Am
universe u
inductive V where
 | bool (b:Bool)
 | int (k:IntKind) (n:Int)
 | float (k:FloatKind) (bits:Nat)
 | str (s:List UInt8)
 | ptr (id off:Nat)
 | nilPtr
 | slice (id off len cap es:Nat) (ex:Bool)
 | nilSlice
 | map (id:Nat)
 | nilMap
 | func (fn:Fn) (first caps:List V)
 | yield (id:Nat)
 | nilFunc
 | iface (t:TypeId) (v:V)
 | nilIface
 | agg (cs:List V)
 | tup (vs:List V)
 | any
structure Loc where
 blk:Nat
 base:Nat
 csz:Nat
 rw:Bool
abbrev Rho:=Nat->Option Loc
mutual
inductive VR (ρ:Rho):V->Value->Prop
 | bool (b:Bool):VR ρ (.bool b) (.bool b)
 | int (k:IntKind) (n:Int):VR ρ (.int k n) (.int k n)
 | float (k:FloatKind) (n:Nat):VR ρ (.float k n) (.float k n)
 | str (s:List UInt8):VR ρ (.str s) (.string ⟨⟨s⟩⟩)
 | ptr {id:Nat} {l:Loc} (off:Nat) (h:ρ id=some l):VR ρ (.ptr id off) (.pointer (some ⟨l.blk,l.base+off,none⟩))
 | nilPtr:VR ρ .nilPtr (.pointer none)
 | sliceS {id:Nat} {l:Loc} (off len cap es:Nat) (ex:Bool) (off' cap':Nat) (sp:Option Nat) (h:ρ id=some l) (ho:0 < cap->off'=off) (hc:cap <= cap') (hx:ex=true->cap'=cap) (hl:len <= cap)
   (hr:l.rw=true->l.base+off'+cap' * es <= l.csz) (hsp:0 < cap'->sp=none):VR ρ (.slice id off len cap es ex) (.slice (some ⟨l.blk,l.base+off',sp⟩) len cap')
 | nilSlice:VR ρ .nilSlice (.slice none 0 0)
 | map {id:Nat} {l:Loc} (h:ρ id=some l):VR ρ (.map id) (.map (some l.blk))
 | nilMap:VR ρ .nilMap (.map none)
 | func (fn:Fn) {a b:List V} {a' b':List Value} (ha:VRs ρ a a') (hb:VRs ρ b b'):VR ρ (.func fn a b) (.func fn ⟨a'⟩ ⟨b'⟩)
 | yield {id:Nat} {l:Loc} (h:ρ id=some l):VR ρ (.yield id) (.func (.yield l.blk) #[] #[])
 | nilFunc:VR ρ .nilFunc .nilFunc
 | iface (t:TypeId) {v:V} {v':Value} (h:VR ρ v v'):VR ρ (.iface t v) (.iface t v')
 | nilIface:VR ρ .nilIface .nilIface
 | agg {a:List V} {a':List Value} (ha:VRs ρ a a'):VR ρ (.agg a) (.agg ⟨a'⟩)
 | tup {a:List V} {a':List Value} (ha:VRs ρ a a'):VR ρ (.tup a) (.tuple ⟨a'⟩)
 | any {v':Value} (h:v'.oneCell'=true):VR ρ .any v'
inductive VRs (ρ:Rho):List V->List Value->Prop
 | nil:VRs ρ [] []
 | cons {v:V} {v':Value} {l:List V} {l':List Value} (h:VR ρ v v') (hs:VRs ρ l l'):VRs ρ (v :: l) (v' :: l')
end
theorem VR.slice {ρ:Rho}{id:Nat}{l:Loc}(off len cap es:Nat)(ex:Bool)(off' cap':Nat)(h:ρ id=some l)(ho:0 < cap->off'=off)(hc:cap <= cap')(hx:ex=true->cap'=cap)(hl:len <= cap)
  (hr:l.rw=true->l.base+off'+cap' * es <= l.csz):VR ρ (.slice id off len cap es ex) (.slice (some ⟨l.blk,l.base+off',none⟩) len cap'):=.sliceS off len cap es ex off' cap' none h ho hc hx hl hr fun _=>rfl
def Rho.le (ρ ρ':Rho):Prop:=∀ id l,ρ id=some l->ρ' id=some l
theorem Rho.le_refl (ρ:Rho):ρ.le ρ:=fun _ _ h=>h
theorem Rho.le_trans {a b c:Rho}(h:a.le b)(k:b.le c):a.le c:=fun i l e=>k i l (h i l e)
mutual
theorem VR.mono {ρ ρ':Rho}(hle:ρ.le ρ'):∀ {v:V} {v':Value},VR ρ v v'->VR ρ' v v'
 | _,_,.bool b=>.bool b
 | _,_,.int k n=>.int k n
 | _,_,.float k n=>.float k n
 | _,_,.str s=>.str s
 | _,_,.ptr off h=>.ptr off (hle _ _ h)
 | _,_,.nilPtr=>.nilPtr
 | _,_,.sliceS off len cap es ex off' cap' sp h ho hc hx hl hr hsp=>.sliceS off len cap es ex off' cap' sp (hle _ _ h) ho hc hx hl hr hsp
 | _,_,.nilSlice=>.nilSlice
 | _,_,.map h=>.map (hle _ _ h)
 | _,_,.nilMap=>.nilMap
 | _,_,.func fn ha hb=>.func fn (VRs.mono hle ha) (VRs.mono hle hb)
 | _,_,.yield h=>.yield (hle _ _ h)
 | _,_,.nilFunc=>.nilFunc
 | _,_,.iface t h=>.iface t (VR.mono hle h)
 | _,_,.nilIface=>.nilIface
 | _,_,.agg ha=>.agg (VRs.mono hle ha)
 | _,_,.tup ha=>.tup (VRs.mono hle ha)
 | _,_,.any h=>.any h
theorem VRs.mono {ρ ρ':Rho}(hle:ρ.le ρ'):∀ {v:List V} {v':List Value},VRs ρ v v'->VRs ρ' v v'
 | _,_,.nil=>.nil
 | _,_,.cons h hs=>.cons (VR.mono hle h) (VRs.mono hle hs)
end
theorem VRs.length {ρ:Rho}:∀ {a:List V} {b:List Value},VRs ρ a b->a.length=b.length
 | _,_,.nil=>rfl
 | _,_,.cons _ hs=>by simp [VRs.length hs]
theorem VRs.get {ρ:Rho}:∀ {a:List V} {b:List Value},VRs ρ a b->∀ {i:Nat} {v:V},a[i]?=some v->∃ v',b[i]?=some v'∧VR ρ v v'
 | _,_,.nil,i,v,h=>by simp at h
 | _,_,.cons h hs,0,v,e=>by simp at e;subst e;exact ⟨_,rfl,h⟩
 | _,_,.cons h hs,i+1,v,e=>by simpa using hs.get (by simpa using e)
theorem VRs.append {ρ:Rho}:∀ {a:List V} {b:List Value} {c:List V} {d:List Value},VRs ρ a b->VRs ρ c d->VRs ρ (a ++ c) (b ++ d)
 | _,_,_,_,.nil,k=>k
 | _,_,_,_,.cons h hs,k=>.cons h (hs.append k)
theorem VRs.take {ρ:Rho}:∀ {a:List V} {b:List Value} (n:Nat),VRs ρ a b->VRs ρ (a.take n) (b.take n)
 | _,_,0,_=>by simp;exact .nil
 | _,_,n+1,.nil=>.nil
 | _,_,n+1,.cons h hs=>.cons h (hs.take n)
theorem VRs.drop {ρ:Rho}:∀ {a:List V} {b:List Value} (n:Nat),VRs ρ a b->VRs ρ (a.drop n) (b.drop n)
 | _,_,0,h=>h
 | _,_,n+1,.nil=>.nil
 | _,_,n+1,.cons h hs=>hs.drop n
theorem VRs.replicate {ρ:Rho}{v:V}{v':Value}(h:VR ρ v v'):∀ n,VRs ρ (List.replicate n v) (List.replicate n v')
 | 0=>.nil
 | n+1=>.cons h (VRs.replicate h n)
theorem VRs.of_get {ρ:Rho}:∀ {a:List V} {b:List Value},a.length=b.length->(∀ (i:Nat) (v:V) (v':Value),a[i]?=some v->b[i]?=some v'->VR ρ v v')->VRs ρ a b
 | [],[],_,_=>.nil
 | v :: a,v' :: b,hl,h=>.cons (h 0 v v' rfl rfl) (VRs.of_get (by simpa using hl) fun i x x' hx hx'=>h (i+1) x x' (by simpa using hx) (by simpa using hx'))
 | [],_ :: _,hl,_=>by simp at hl
 | _ :: _,[],hl,_=>by simp at hl
def V.cells:V->List V
 | .agg cs=>cs
 | v=>[v]
theorem VR.cells {ρ:Rho}{v:V}{v':Value}(h:VR ρ v v'):VRs ρ v.cells v'.cells.toList:=by
 cases h with
 | agg ha=>exact ha
 | bool b=>exact .cons (.bool b) .nil
 | int k n=>exact .cons (.int k n) .nil
 | float k n=>exact .cons (.float k n) .nil
 | str s=>exact .cons (.str s) .nil
 | ptr off h=>exact .cons (.ptr off h) .nil
 | nilPtr=>exact .cons .nilPtr .nil
 | sliceS off len cap es ex off' cap' sp h ho hc hx hl hr hsp=>exact .cons (.sliceS off len cap es ex off' cap' sp h ho hc hx hl hr hsp) .nil
 | nilSlice=>exact .cons .nilSlice .nil
 | map h=>exact .cons (.map h) .nil
 | nilMap=>exact .cons .nilMap .nil
 | func fn ha hb=>exact .cons (.func fn ha hb) .nil
 | yield h=>exact .cons (.yield h) .nil
 | nilFunc=>exact .cons .nilFunc .nil
 | iface t h=>exact .cons (.iface t h) .nil
 | nilIface=>exact .cons .nilIface .nil
 | tup ha=>exact .cons (.tup ha) .nil
 | any h1 =>
   have:v'.cells=#[v']:=by cases v' <;> first|rfl|cases h1
   rw [this];exact .cons (.any h1) .nil
def V.one:V->Bool
 | .agg _|.tup _=>false
 | _=>true
theorem VR.one {ρ:Rho}{v:V}{v':Value}(h:VR ρ v v'):v'.oneCell'=v.one:=by
 cases h <;> first|rfl|assumption
inductive D4 where|a|b|c|d
 deriving DecidableEq
def dig:Nat->D4|0=>.a|1=>.b|2=>.c|_=>.d
def dn:D4->Nat|.a=>1|.b=>2|.c=>3|.d=>4
noncomputable def digs (f:Nat):Nat->Option (List D4) :=
 Nat.rec (motive:=fun _=>Nat->Option (List D4)) (fun n=>Nat.rec (motive:=fun _=>Option (List D4)) (some []) (fun _ _=>none) n)
  (fun _ ih n=>Nat.rec (motive:=fun _=>Option (List D4)) (some []) (fun m _=>Option.rec (motive:=fun _=>Option (List D4)) none (fun l=>some (dig (Nat.mod m 4) :: l)) (ih (Nat.div m 4))) n) f
def numL:List D4->Nat|[]=>0|x :: l=>dn x+4 * numL l
theorem digs_num:∀ {f t:Nat} {l:List D4},digs f t=some l->numL l=t∧l.length <= f
 | f,0,l,h=>by
   have:some []=some l:=by cases f <;> exact h
   cases this;exact ⟨rfl,Nat.zero_le _⟩
 | 0,t+1,l,h=>by cases h
 | f+1,t+1,l,h=>by
   have h':Option.rec (motive:=fun _=>Option (List D4)) none (fun l=>some (dig (t % 4) :: l)) (digs f (t / 4))=some l:=h
   cases hd:digs f (t / 4) with
   | none=>rw [hd] at h';cases h'
   | some l' =>
     rw [hd] at h';cases h';obtain ⟨h1,h2⟩:=digs_num hd
     have hdn:dn (dig (t % 4))=t % 4+1:=by
      have:t % 4 < 4:=Nat.mod_lt _ (by omega);generalize t % 4=r at this
      match r,this with
      | 0,_=>rfl
      | 1,_=>rfl
      | 2,_=>rfl
      | 3,_=>rfl
     refine ⟨?_,by simp;omega⟩;show dn (dig (t % 4))+4 * numL l'=t+1;rw [hdn,h1];omega
inductive T (α:Type) where
 | nil
 | node (v:Option α) (a b c d:T α)
namespace T
variable {α:Type} {R:Sort u}
noncomputable def val (t:T α):Option α:=T.rec (motive:=fun _=>Option α) none (fun v _ _ _ _ _ _ _ _=>v) t
noncomputable def gA (t:T α)(f:T α->Option α):Option α:=T.rec (motive:=fun _=>Option α) none (fun _ a _ _ _ _ _ _ _=>f a) t
noncomputable def gB (t:T α)(f:T α->Option α):Option α:=T.rec (motive:=fun _=>Option α) none (fun _ _ b _ _ _ _ _ _=>f b) t
noncomputable def gC (t:T α)(f:T α->Option α):Option α:=T.rec (motive:=fun _=>Option α) none (fun _ _ _ c _ _ _ _ _=>f c) t
noncomputable def gD (t:T α)(f:T α->Option α):Option α:=T.rec (motive:=fun _=>Option α) none (fun _ _ _ _ d _ _ _ _=>f d) t
noncomputable def gX (x:D4):T α->(T α->Option α)->Option α:=D4.rec (motive:=fun _=>T α->(T α->Option α)->Option α) gA gB gC gD x
noncomputable def getL (l:List D4):T α->Option α:=List.rec (motive:=fun _=>T α->Option α) val (fun x _ ih t=>gX x t ih) l
noncomputable def get (d n:Nat)(t:T α):Option α:=Option.rec (motive:=fun _=>Option α) none (fun l=>getL l t) (digs d n)
noncomputable def put (x:Option α)(t:T α)(k:T α->R):R:=T.rec (motive:=fun _=>R) (k (.node x .nil .nil .nil .nil)) (fun _ a b c d _ _ _ _=>k (.node x a b c d)) t
noncomputable def sA (t:T α)(g:T α->(T α->R)->R)(k:T α->R):R:=T.rec (motive:=fun _=>R) (g .nil fun y=>k (.node none y .nil .nil .nil)) (fun v a b c d _ _ _ _=>g a fun y=>k (.node v y b c d)) t
noncomputable def sB (t:T α)(g:T α->(T α->R)->R)(k:T α->R):R:=T.rec (motive:=fun _=>R) (g .nil fun y=>k (.node none .nil y .nil .nil)) (fun v a b c d _ _ _ _=>g b fun y=>k (.node v a y c d)) t
noncomputable def sC (t:T α)(g:T α->(T α->R)->R)(k:T α->R):R:=T.rec (motive:=fun _=>R) (g .nil fun y=>k (.node none .nil .nil y .nil)) (fun v a b c d _ _ _ _=>g c fun y=>k (.node v a b y d)) t
noncomputable def sD (t:T α)(g:T α->(T α->R)->R)(k:T α->R):R:=T.rec (motive:=fun _=>R) (g .nil fun y=>k (.node none .nil .nil .nil y)) (fun v a b c d _ _ _ _=>g d fun y=>k (.node v a b c y)) t
noncomputable def sX (x:D4):T α->(T α->(T α->R)->R)->(T α->R)->R:=D4.rec (motive:=fun _=>T α->(T α->(T α->R)->R)->(T α->R)->R) sA sB sC sD x
noncomputable def setL (x:Option α)(l:List D4):T α->(T α->R)->R:=List.rec (motive:=fun _=>T α->(T α->R)->R) (put x) (fun q _ ih t k=>sX q t ih k) l
noncomputable def set (x:Option α)(d n:Nat)(t:T α)(k:T α->R)(f:R):R:=Option.rec (motive:=fun _=>R) f (fun l=>setL x l t k) (digs d n)
end T
end Go.Am
namespace Go.Am
universe u
noncomputable def nth {α:Type}(l:List α):Nat->Option α :=
 List.rec (motive:=fun _=>Nat->Option α) (fun _=>none) (fun x _ ih n=>Nat.casesOn n (some x) ih) l
theorem nth_eq {α:Type}:∀ (l:List α) (n:Nat),nth l n=l[n]?
 | [],_=>by simp [nth]
 | _ :: _,0=>rfl
 | _ :: l,n+1=>by have:=nth_eq l n;simpa [nth] using this
noncomputable def upd {α:Type}(x:α)(l:List α):Nat->(List α->Prop)->Prop :=
 List.rec (motive:=fun _=>Nat->(List α->Prop)->Prop) (fun _ _=>False)
  (fun y l ih n k=>Nat.casesOn n (k (x :: l)) fun m=>ih m fun l=>k (y :: l)) l
theorem upd_spec {α:Type}{x:α}:∀ {l:List α} {n:Nat} {k:List α->Prop},upd x l n k->n < l.length∧k (l.set n x)
 | [],_,_,h=>h.elim
 | y :: l,0,k,h=>⟨by simp,h⟩
 | y :: l,n+1,k,h=>by
   have:=upd_spec (l:=l) (n:=n) (k:=fun l=>k (y :: l)) h;exact ⟨by simpa using this.1,by simpa using this.2⟩
structure N4 (α:Type) where
 v:Option V
 a:α
 b:α
 c:α
 d:α
inductive P4 where
 | p0
 | p1 (x:D4)
 | p2 (x y:D4)
 | p3 (x y z:D4)
 | p4 (x y z u:D4)
 | bad
 deriving DecidableEq
abbrev Env:=N4 (N4 (N4 (N4 (N4 Unit))))
def pathL:List D4->P4
 | []=>.p0|[x]=>.p1 x|[x,y]=>.p2 x y|[x,y,z]=>.p3 x y z|[x,y,z,u]=>.p4 x y z u|_=>.bad
noncomputable def path (t:Nat):P4:=match digs 4 t with|some l=>pathL l|none=>.bad
def P4.num:P4->Nat
 | .p0=>0|.p1 x=>dn x+4 * 0|.p2 x y=>dn x+4 * (dn y+4 * 0)|.p3 x y z=>dn x+4 * (dn y+4 * (dn z+4 * 0))|.p4 x y z u=>dn x+4 * (dn y+4 * (dn z+4 * (dn u+4 * 0)))|.bad=>0
theorem path_num {t:Nat}(h:path t ≠ .bad):(path t).num=t:=by
 unfold path at h ⊢
 cases hd:digs 4 t with
 | none=>rw [hd] at h;exact absurd rfl h
 | some l =>
   obtain ⟨h1,h2⟩:=digs_num hd;show (pathL l).num=t;rw [<- h1]
   match l,h2 with
   | [],_=>rfl
   | [x],_=>rfl
   | [x,y],_=>rfl
   | [x,y,z],_=>rfl
   | [x,y,z,u],_=>rfl
   | _ :: _ :: _ :: _ :: _ :: _,h2=>simp at h2
theorem path_inj {t s:Nat}(h:path t ≠ .bad)(e:path s=path t):s=t:=by
 rw [<- path_num h,<- e,path_num (by rw [e];exact h)]
namespace N4
variable {α R:Type}
def sel (x:D4)(n:N4 α):α:=match x with|.a=>n.a|.b=>n.b|.c=>n.c|.d=>n.d
def upd (x:D4)(y:α)(n:N4 α):N4 α:=match x with|.a=>{ n with a:=y }|.b=>{ n with b:=y }|.c=>{ n with c:=y }|.d=>{ n with d:=y }
def setv (u:V)(n:N4 α):N4 α:={ n with v:=some u }
theorem sel_upd (x y:D4)(n:N4 α)(z:α):sel x (upd y z n)=if x=y then z else sel x n:=by cases x <;> cases y <;> rfl
theorem sel_setv (x:D4)(u:V)(n:N4 α):sel x (setv u n)=sel x n:=by cases x <;> rfl
theorem v_upd (y:D4)(z:α)(n:N4 α):(upd y z n).v=n.v:=by cases y <;> rfl
noncomputable def selA (n:N4 α)(k:α->R):R:=N4.rec (motive:=fun _=>R) (fun _ a _ _ _=>k a) n
noncomputable def selB (n:N4 α)(k:α->R):R:=N4.rec (motive:=fun _=>R) (fun _ _ b _ _=>k b) n
noncomputable def selC (n:N4 α)(k:α->R):R:=N4.rec (motive:=fun _=>R) (fun _ _ _ c _=>k c) n
noncomputable def selD (n:N4 α)(k:α->R):R:=N4.rec (motive:=fun _=>R) (fun _ _ _ _ d=>k d) n
noncomputable def selK (x:D4):N4 α->(α->R)->R:=D4.rec (motive:=fun _=>N4 α->(α->R)->R) selA selB selC selD x
theorem selK_eq (x:D4)(n:N4 α)(k:α->R):selK x n k=k (sel x n):=by cases n;cases x <;> rfl
noncomputable def svK (u:V)(n:N4 α)(k:N4 α->Prop):Prop:=N4.rec (fun v a b c d=>Option.rec (motive:=fun _=>Prop) False (fun _=>k ⟨some u,a,b,c,d⟩) v) n
theorem svK_spec {u:V}{n:N4 α}{k:N4 α->Prop}(h:svK u n k):n.v.isSome∧k (setv u n):=by
 cases n with
 | mk v a b c d =>
   cases v with
   | none=>exact h.elim
   | some w=>exact ⟨rfl,h⟩
noncomputable def upA (n:N4 α)(g:α->(α->Prop)->Prop)(k:N4 α->Prop):Prop:=N4.rec (motive:=fun _=>Prop) (fun v a b c d=>g a fun y=>k ⟨v,y,b,c,d⟩) n
noncomputable def upB (n:N4 α)(g:α->(α->Prop)->Prop)(k:N4 α->Prop):Prop:=N4.rec (motive:=fun _=>Prop) (fun v a b c d=>g b fun y=>k ⟨v,a,y,c,d⟩) n
noncomputable def upC (n:N4 α)(g:α->(α->Prop)->Prop)(k:N4 α->Prop):Prop:=N4.rec (motive:=fun _=>Prop) (fun v a b c d=>g c fun y=>k ⟨v,a,b,y,d⟩) n
noncomputable def upD (n:N4 α)(g:α->(α->Prop)->Prop)(k:N4 α->Prop):Prop:=N4.rec (motive:=fun _=>Prop) (fun v a b c d=>g d fun y=>k ⟨v,a,b,c,y⟩) n
noncomputable def upK (x:D4):N4 α->(α->(α->Prop)->Prop)->(N4 α->Prop)->Prop:=D4.rec (motive:=fun _=>N4 α->(α->(α->Prop)->Prop)->(N4 α->Prop)->Prop) upA upB upC upD x
theorem upK_spec {x:D4}{n:N4 α}{g:α->(α->Prop)->Prop}{k:N4 α->Prop}(h:upK x n g k):g (sel x n) fun y=>k (upd x y n):=by cases n;cases x <;> exact h
end N4
open N4 in
noncomputable def get0 (E:Env):Option V:=N4.rec (motive:=fun _=>Option V) (fun v _ _ _ _=>v) E
noncomputable def get1 (x:D4)(E:Env):Option V:=N4.selK x E fun n=>n.v
noncomputable def get2 (x y:D4)(E:Env):Option V:=N4.selK x E fun n=>N4.selK y n fun n=>n.v
noncomputable def get3 (x y z:D4)(E:Env):Option V:=N4.selK x E fun n=>N4.selK y n fun n=>N4.selK z n fun n=>n.v
noncomputable def get4 (x y z u:D4)(E:Env):Option V:=N4.selK x E fun n=>N4.selK y n fun n=>N4.selK z n fun n=>N4.selK u n fun n=>n.v
noncomputable def getN (_:Env):Option V:=none
noncomputable def getP (E:Env)(p:P4):Option V:=P4.rec (motive:=fun _=>Env->Option V) get0 get1 get2 get3 get4 getN p E
noncomputable def set0 (E:Env)(w:V)(k:Env->Prop):Prop:=N4.svK w E k
noncomputable def set1 (x:D4)(E:Env)(w:V)(k:Env->Prop):Prop:=N4.upK x E (N4.svK w) k
noncomputable def set2 (x y:D4)(E:Env)(w:V)(k:Env->Prop):Prop:=N4.upK x E (fun n k=>N4.upK y n (N4.svK w) k) k
noncomputable def set3 (x y z:D4)(E:Env)(w:V)(k:Env->Prop):Prop:=N4.upK x E (fun n k=>N4.upK y n (fun n k=>N4.upK z n (N4.svK w) k) k) k
noncomputable def set4 (x y z u:D4)(E:Env)(w:V)(k:Env->Prop):Prop:=N4.upK x E (fun n k=>N4.upK y n (fun n k=>N4.upK z n (fun n k=>N4.upK u n (N4.svK w) k) k) k) k
noncomputable def setN (_:Env)(_:V)(_:Env->Prop):Prop:=False
noncomputable def setP (E:Env)(p:P4)(w:V)(k:Env->Prop):Prop:=P4.rec (motive:=fun _=>Env->V->(Env->Prop)->Prop) set0 set1 set2 set3 set4 setN p E w k
noncomputable def tget (E:Env)(t:Nat):Option V:=getP E (path t)
noncomputable def tset (E:Env)(t:Nat)(v:V)(k:Env->Prop):Prop:=setP E (path t) v k
open N4 in
theorem setP_spec {E:Env}{p:P4}{w:V}{k:Env->Prop}(h:setP E p w k):p ≠ .bad∧∃ E',k E'∧(getP E p).isSome∧∀ q,getP E' q=if q=p then some w else getP E q:=by
 cases p with
 | bad=>exact h.elim
 | p0 =>
   refine ⟨by simp,?_⟩;obtain ⟨h1,h2⟩:=svK_spec (show svK w E k from h);refine ⟨_,h2,h1,fun q=>?_⟩
   cases q with
   | p0=>rfl
   | bad=>rfl
   | _=>simp only [getP,get0,get1,get2,get3,get4,selK_eq,sel_setv,reduceCtorEq,if_false]
 | p1 x =>
   refine ⟨by simp,?_⟩;obtain ⟨h1,h2⟩:=svK_spec (upK_spec (show upK x E (fun n k=>svK w n k) k from h));refine ⟨_,h2,by simpa only [getP,get0,get1,get2,get3,get4,selK_eq] using h1,fun q=>?_⟩
   cases q with
   | p0=>simp [getP,get0,v_upd]
   | p1 x'=>simp only [getP,get0,get1,get2,get3,get4,selK_eq,sel_upd,P4.p1.injEq];by_cases e:x'=x <;> simp [e,setv]
   | p2 x' y'=>simp only [getP,get0,get1,get2,get3,get4,selK_eq,sel_upd,reduceCtorEq,if_false];by_cases e:x'=x <;> simp [e,sel_setv]
   | p3 x' y' z'=>simp only [getP,get0,get1,get2,get3,get4,selK_eq,sel_upd,reduceCtorEq,if_false];by_cases e:x'=x <;> simp [e,sel_setv]
   | p4 x' y' z' u'=>simp only [getP,get0,get1,get2,get3,get4,selK_eq,sel_upd,reduceCtorEq,if_false];by_cases e:x'=x <;> simp [e,sel_setv]
   | bad=>rfl
 | p2 x y =>
   refine ⟨by simp,?_⟩;obtain ⟨h1,h2⟩:=svK_spec (upK_spec (upK_spec (show upK x E (fun n k=>upK y n (fun n k=>svK w n k) k) k from h)));refine ⟨_,h2,by simpa only [getP,get0,get1,get2,get3,get4,selK_eq] using h1,fun q=>?_⟩
   cases q with
   | p0=>simp [getP,get0,v_upd]
   | p1 x'=>simp only [getP,get0,get1,get2,get3,get4,selK_eq,sel_upd,reduceCtorEq,if_false];by_cases e:x'=x <;> simp [e,v_upd]
   | p2 x' y'=>simp only [getP,get0,get1,get2,get3,get4,selK_eq,sel_upd,P4.p2.injEq];by_cases e:x'=x <;> by_cases e2:y'=y <;> simp [e,e2,sel_upd,setv]
   | p3 x' y' z'=>simp only [getP,get0,get1,get2,get3,get4,selK_eq,sel_upd,reduceCtorEq,if_false];by_cases e:x'=x <;> by_cases e2:y'=y <;> simp [e,e2,sel_upd,sel_setv]
   | p4 x' y' z' u'=>simp only [getP,get0,get1,get2,get3,get4,selK_eq,sel_upd,reduceCtorEq,if_false];by_cases e:x'=x <;> by_cases e2:y'=y <;> simp [e,e2,sel_upd,sel_setv]
   | bad=>rfl
 | p3 x y z =>
   refine ⟨by simp,?_⟩;obtain ⟨h1,h2⟩:=svK_spec (upK_spec (upK_spec (upK_spec (show upK x E (fun n k=>upK y n (fun n k=>upK z n (fun n k=>svK w n k) k) k) k from h))));refine ⟨_,h2,by simpa only [getP,get0,get1,get2,get3,get4,selK_eq] using h1,fun q=>?_⟩
   cases q with
   | p0=>simp [getP,get0,v_upd]
   | p1 x'=>simp only [getP,get0,get1,get2,get3,get4,selK_eq,sel_upd,reduceCtorEq,if_false];by_cases e:x'=x <;> simp [e,v_upd]
   | p2 x' y'=>simp only [getP,get0,get1,get2,get3,get4,selK_eq,sel_upd,reduceCtorEq,if_false];by_cases e:x'=x <;> by_cases e2:y'=y <;> simp [e,e2,sel_upd,v_upd]
   | p3 x' y' z'=>simp only [getP,get0,get1,get2,get3,get4,selK_eq,sel_upd,P4.p3.injEq];by_cases e:x'=x <;> by_cases e2:y'=y <;> by_cases e3:z'=z <;> simp [e,e2,e3,sel_upd,setv]
   | p4 x' y' z' u'=>simp only [getP,get0,get1,get2,get3,get4,selK_eq,sel_upd,reduceCtorEq,if_false];by_cases e:x'=x <;> by_cases e2:y'=y <;> by_cases e3:z'=z <;> simp [e,e2,e3,sel_upd,sel_setv]
   | bad=>rfl
 | p4 x y z u =>
   refine ⟨by simp,?_⟩;obtain ⟨h1,h2⟩:=svK_spec (upK_spec (upK_spec (upK_spec (upK_spec (show upK x E (fun n k=>upK y n (fun n k=>upK z n (fun n k=>upK u n (fun n k=>svK w n k) k) k) k) k from h)))));refine ⟨_,h2,by simpa only [getP,get0,get1,get2,get3,get4,selK_eq] using h1,fun q=>?_⟩
   cases q with
   | p0=>simp [getP,get0,v_upd]
   | p1 x'=>simp only [getP,get0,get1,get2,get3,get4,selK_eq,sel_upd,reduceCtorEq,if_false];by_cases e:x'=x <;> simp [e,v_upd]
   | p2 x' y'=>simp only [getP,get0,get1,get2,get3,get4,selK_eq,sel_upd,reduceCtorEq,if_false];by_cases e:x'=x <;> by_cases e2:y'=y <;> simp [e,e2,sel_upd,v_upd]
   | p3 x' y' z'=>simp only [getP,get0,get1,get2,get3,get4,selK_eq,sel_upd,reduceCtorEq,if_false];by_cases e:x'=x <;> by_cases e2:y'=y <;> by_cases e3:z'=z <;> simp [e,e2,e3,sel_upd,v_upd]
   | p4 x' y' z' u'=>simp only [getP,get0,get1,get2,get3,get4,selK_eq,sel_upd,P4.p4.injEq];by_cases e:x'=x <;> by_cases e2:y'=y <;> by_cases e3:z'=z <;> by_cases e4:u'=u <;> simp [e,e2,e3,e4,sel_upd,setv]
   | bad=>rfl
theorem tset_spec {E:Env}{t:Nat}{v:V}{k:Env->Prop}(h:tset E t v k) :
  ∃ E',k E'∧(tget E t).isSome∧∀ s,tget E' s=if s=t then some v else tget E s:=by
 obtain ⟨hb,E',h1,h2,h3⟩:=setP_spec h;refine ⟨E',h1,h2,fun s=>?_⟩;show getP E' (path s)=_;rw [h3];by_cases e:path s=path t
 ·rw [if_pos e,if_pos (path_inj hb e)]
 ·rw [if_neg e,if_neg (fun h=>e (by rw [h]))];rfl
def ER (ρ:Rho)(E:Env)(tmps:Array Value):Prop:=∀ t v,tget E t=some v->∃ v',tmps[t]?=some v'∧VR ρ v v'
theorem ER.mono {ρ ρ':Rho}(h:ρ.le ρ'){E:Env}{tmps:Array Value}(he:ER ρ E tmps):ER ρ' E tmps :=
 fun t v hv=>let ⟨v',a,b⟩:=he t v hv;⟨v',a,b.mono h⟩
theorem ER.set {ρ:Rho}{E E':Env}{tmps:Array Value}{t:Nat}{v:V}{v':Value}(he:ER ρ E tmps)(hs:(tget E t).isSome)
  (hE:∀ s,tget E' s=if s=t then some v else tget E s) (hv:VR ρ v v'):ER ρ E' (tmps.setIfInBounds t v'):=by
 intro s x hx;rw [hE] at hx;obtain ⟨y,hy⟩:=Option.isSome_iff_exists.1 hs;obtain ⟨y',hy',_⟩:=he t y hy
 have hlt:t < tmps.size:=by
  rcases Nat.lt_or_ge t tmps.size with h|h
  ·exact h
  ·simp [Array.getElem?_eq_none h] at hy'
 by_cases hst:s=t
 ·subst hst;simp at hx;subst hx;exact ⟨v',by simp [hlt],hv⟩
 ·simp [hst] at hx;obtain ⟨x',hx',hr⟩:=he s x hx;exact ⟨x',by rw [Array.getElem?_setIfInBounds_ne (Ne.symm hst)];exact hx',hr⟩
def undefV:V:=.tup []
theorem VR.undef (ρ:Rho):VR ρ undefV undef:=.tup .nil
def bl0 (f:Nat->Option V):N4 Unit:=⟨f 0,(),(),(),()⟩
def bl1 (f:Nat->Option V):N4 (N4 Unit):=⟨f 0,bl0 fun q=>f (1+4 * q),bl0 fun q=>f (2+4 * q),bl0 fun q=>f (3+4 * q),bl0 fun q=>f (4+4 * q)⟩
def bl2 (f:Nat->Option V):N4 (N4 (N4 Unit)):=⟨f 0,bl1 fun q=>f (1+4 * q),bl1 fun q=>f (2+4 * q),bl1 fun q=>f (3+4 * q),bl1 fun q=>f (4+4 * q)⟩
def bl3 (f:Nat->Option V):N4 (N4 (N4 (N4 Unit))):=⟨f 0,bl2 fun q=>f (1+4 * q),bl2 fun q=>f (2+4 * q),bl2 fun q=>f (3+4 * q),bl2 fun q=>f (4+4 * q)⟩
def bl4 (f:Nat->Option V):Env:=⟨f 0,bl3 fun q=>f (1+4 * q),bl3 fun q=>f (2+4 * q),bl3 fun q=>f (3+4 * q),bl3 fun q=>f (4+4 * q)⟩
noncomputable def slotV (n t:Nat):Option V:=Bool.rec none (some undefV) (Nat.blt t n)
noncomputable def blank (n:Nat):Env:=bl4 (slotV n)
theorem bl4_get (f:Nat->Option V)(p:P4)(h:p ≠ .bad):getP (bl4 f) p=f p.num:=by
 cases p with
 | bad=>exact absurd rfl h
 | p0=>rfl
 | p1 x=>cases x <;> rfl
 | p2 x y=>cases x <;> cases y <;> rfl
 | p3 x y z=>cases x <;> cases y <;> cases z <;> rfl
 | p4 x y z u=>cases x <;> cases y <;> cases z <;> cases u <;> rfl
theorem blank_get {n t:Nat}{v:V}(h:tget (blank n) t=some v):v=undefV∧t < n:=by
 by_cases hb:path t=.bad
 ·have:getP (blank n) (path t)=some v:=h;rw [hb] at this;cases this
 ·have h':getP (blank n) (path t)=some v:=h;unfold blank at h';rw [bl4_get _ _ hb,path_num hb] at h';unfold slotV at h'
  cases hl:Nat.blt t n with
  | false=>rw [hl] at h';cases h'
  | true=>rw [hl] at h';exact ⟨(Option.some.inj h').symm,by simpa using hl⟩
theorem numL_pos (x:D4)(l:List D4):0 < numL (x :: l):=by show 0 < dn x+4 * numL l;cases x <;> simp only [dn] <;> omega
theorem numL_inj:∀ {l m:List D4},numL l=numL m->l=m
 | [],[],_=>rfl
 | [],y :: m,h=>by have:=numL_pos y m;rw [<- h] at this;exact absurd this (by simp [numL])
 | x :: l,[],h=>by have:=numL_pos x l;rw [h] at this;exact absurd this (by simp [numL])
 | x :: l,y :: m,h=>by
   have h':dn x+4 * numL l=dn y+4 * numL m:=h
   have hx:1 <= dn x∧dn x <= 4:=by cases x <;> simp [dn]
   have hy:1 <= dn y∧dn y <= 4:=by cases y <;> simp [dn]
   have e1:dn x=dn y:=by omega
   have e2:numL l=numL m:=by omega
   have e3:x=y:=by cases x <;> cases y <;> first|rfl|(simp [dn] at e1)
   rw [e3,numL_inj e2]
namespace T
variable {α:Type}
def ch (x:D4):T α->T α
 | .nil=>.nil
 | .node _ a b c d=>match x with|.a=>a|.b=>b|.c=>c|.d=>d
theorem getL_nil:∀ (l:List D4),getL l (T.nil:T α)=none
 | []=>rfl
 | x :: l=>by cases x <;> rfl
theorem getL_cons (x:D4)(l:List D4)(t:T α):getL (x :: l) t=getL l (ch x t):=by
 cases t with
 | nil =>
   show gX x .nil (getL l)=getL l .nil;rw [getL_nil];cases x <;> rfl
 | node v a b c d=>cases x <;> rfl
theorem setL_spec {x:Option α}:∀ {l:List D4} {t:T α} {k:T α->Prop},setL x l t k->∃ t',k t'∧∀ m,getL m t'=if m=l then x else getL m t
 | [],t,k,h=>by
   cases t with
   | nil =>
     refine ⟨_,h,fun m=>?_⟩
     cases m with
     | nil=>rfl
     | cons y m=>rw [getL_cons,getL_cons];cases y <;> simp [ch,getL_nil]
   | node v a b c d =>
     refine ⟨_,h,fun m=>?_⟩
     cases m with
     | nil=>rfl
     | cons y m=>rw [getL_cons,getL_cons];cases y <;> simp [ch]
 | q :: l,t,k,h=>by
   have h':sX q t (setL x l) k:=h
   have key:∃ u:T α->T α,setL x l (ch q t) (fun y=>k (u y))∧(∀ y,ch q (u y)=y)∧(∀ r y,r ≠ q->ch r (u y)=ch r t)∧∀ y,getL [] (u y)=getL [] t:=by
    cases t with
    | nil =>
      cases q
      ·exact ⟨fun y=>.node none y .nil .nil .nil,h',fun _=>rfl,fun r y hr=>by cases r <;> first|rfl|exact absurd rfl hr,fun _=>rfl⟩
      ·exact ⟨fun y=>.node none .nil y .nil .nil,h',fun _=>rfl,fun r y hr=>by cases r <;> first|rfl|exact absurd rfl hr,fun _=>rfl⟩
      ·exact ⟨fun y=>.node none .nil .nil y .nil,h',fun _=>rfl,fun r y hr=>by cases r <;> first|rfl|exact absurd rfl hr,fun _=>rfl⟩
      ·exact ⟨fun y=>.node none .nil .nil .nil y,h',fun _=>rfl,fun r y hr=>by cases r <;> first|rfl|exact absurd rfl hr,fun _=>rfl⟩
    | node v a b c d =>
      cases q
      ·exact ⟨fun y=>.node v y b c d,h',fun _=>rfl,fun r y hr=>by cases r <;> first|rfl|exact absurd rfl hr,fun _=>rfl⟩
      ·exact ⟨fun y=>.node v a y c d,h',fun _=>rfl,fun r y hr=>by cases r <;> first|rfl|exact absurd rfl hr,fun _=>rfl⟩
      ·exact ⟨fun y=>.node v a b y d,h',fun _=>rfl,fun r y hr=>by cases r <;> first|rfl|exact absurd rfl hr,fun _=>rfl⟩
      ·exact ⟨fun y=>.node v a b c y,h',fun _=>rfl,fun r y hr=>by cases r <;> first|rfl|exact absurd rfl hr,fun _=>rfl⟩
   obtain ⟨u,h1,h2,h3,h4⟩:=key;obtain ⟨y,h5,h6⟩:=setL_spec h1;refine ⟨u y,h5,fun m=>?_⟩
   cases m with
   | nil=>rw [h4];rfl
   | cons r m =>
     rw [getL_cons,getL_cons];by_cases hr:r=q
     ·subst hr;rw [h2,h6];by_cases e:m=l
      ·rw [if_pos e,if_pos (by rw [e])]
      ·rw [if_neg e,if_neg (fun h=>e (List.cons.inj h).2)]
     ·rw [h3 r y hr,if_neg (fun h=>hr (List.cons.inj h).1)]
theorem set_spec {x:Option α}{d m:Nat}{t:T α}{k:T α->Prop}(h:set x d m t k False):∃ t',k t'∧∀ n,get d n t'=if n=m then x else get d n t:=by
 unfold set at h
 cases hd:digs d m with
 | none=>rw [hd] at h;exact h.elim
 | some l =>
   rw [hd] at h;obtain ⟨t',h1,h2⟩:=setL_spec (show setL x l t k from h);refine ⟨t',h1,fun n=>?_⟩;unfold get;by_cases e:n=m
   ·subst e;rw [hd,if_pos rfl];show getL l t'=x;rw [h2,if_pos rfl]
   ·rw [if_neg e]
    cases hn:digs d n with
    | none=>rfl
    | some l2 =>
      show getL l2 t'=getL l2 t;rw [h2,if_neg (fun he=>e ?_)];rw [<- (digs_num hd).1,<- (digs_num hn).1,he]
end T
end Go.Am
namespace Go.Am
inductive Fl where
 | ro|ex|rw
inductive O where
 | cells (cs:List V) (elem:TypeId) (fl:Fl)
 | map (es:List (V × V × Nat)) (clock:Nat)
 | strIter (s:List UInt8) (pos:Nat)
 | mapIter (m:Option Nat) (since:Nat) (seen:List Nat) (stepped:Nat)
 | loop (st:LoopState) (pending:Option Code) (tmps:Env) (params:List Tmp) (assign body:Code) (defers:Nat)
 | deferred
structure St where
 hp:T O
 next:Nat
abbrev fA:Nat:=12
structure Hs where
 get:Nat->Option O
 next:Nat
noncomputable def St.hs (S:St):Hs:=⟨fun id=>T.get fA id S.hp,S.next⟩
def Hs.put (H:Hs)(id:Nat)(o:Option O):Hs:=⟨fun i=>if i=id then o else H.get i,H.next⟩
def Hs.new (H:Hs)(o:O):Hs:=⟨fun i=>if i=H.next then some o else H.get i,H.next+1⟩
def uZ (ρ:Rho):List (V × V × Nat)->List MapEntry->Prop
 | [],[]=>True
 | (k,v,b) :: es,e :: es'=>VR ρ k e.key∧VR ρ v e.val∧b=e.born∧uZ ρ es es'
 | _,_=>False
theorem uZ.mono {ρ ρ':Rho}(h:ρ.le ρ'):∀ {es:List (V × V × Nat)} {es':List MapEntry},uZ ρ es es'->uZ ρ' es es'
 | [],[],_=>trivial
 | (_,_,_) :: _,_ :: _,⟨a,b,c,d⟩=>⟨a.mono h,b.mono h,c,d.mono h⟩
 | [],_ :: _,h=>h.elim
 | _ :: _,[],h=>by cases h
def OR (ρ:Rho)(l:Loc):O->Obj->Prop
 | .cells cs elem fl,co=>∃ c f,co=.cells c elem f∧l.csz=c.size∧l.base+cs.length <= c.size ∧
   (∀ i v,cs[i]?=some v->∃ v',c[l.base+i]?=some v'∧VR ρ v v')∧(fl ≠ .ro->l.rw=true∧∀ off,off < c.size->¬ (f.1 <= off∧off < f.2))∧(fl=.ex->l.base=0∧cs.length=c.size)
 | .map es clock,co=>l.rw=true∧∃ es',co=.map es' clock∧uZ ρ es es'.toList
 | .strIter s pos,co=>(l.rw=true∧l.base=0)∧co=.stringIter ⟨⟨s⟩⟩ pos
 | .mapIter m since seen stepped,co=>(l.rw=true∧l.base=0)∧∃ m',co=.mapIter m' since ⟨seen⟩ stepped∧match m with
   | none=>m'=none
   | some id=>∃ l',ρ id=some l'∧m'=some l'.blk
 | .loop st pending tmps params assign body defers,co=>(l.rw=true∧l.base=0)∧∃ fn tmps' ld,co=.loop { state:=st,pending,fn,tmps:=tmps',params:=⟨params⟩,assign,body,defers:=ld.blk } ∧
   ER ρ tmps tmps'∧ρ defers=some ld
 | .deferred,co=>l.rw=true∧co=.deferred (some [])
theorem OR.mono {ρ ρ':Rho}(h:ρ.le ρ'){l:Loc}{o:O}{co:Obj}(ho:OR ρ l o co):OR ρ' l o co:=by
 cases o with
 | cells cs elem fl =>
   obtain ⟨c,f,a,b,c2,d,e⟩:=ho;exact ⟨c,f,a,b,c2,fun i v hv=>let ⟨v',x,y⟩:=d i v hv;⟨v',x,y.mono h⟩,e⟩
 | map es clock=>obtain ⟨r,es',a,b⟩:=ho;exact ⟨r,es',a,b.mono h⟩
 | strIter s pos=>exact ho
 | mapIter m since seen stepped =>
   obtain ⟨r,m',a,b⟩:=ho;refine ⟨r,m',a,?_⟩
   cases m with
   | none=>exact b
   | some id=>obtain ⟨l',x,y⟩:=b;exact ⟨l',h _ _ x,y⟩
 | loop st pending tmps params assign body defers =>
   obtain ⟨r,fn,tmps',ld,a,b,c⟩:=ho;exact ⟨r,fn,tmps',ld,a,b.mono h,h _ _ c⟩
 | deferred=>exact ho
structure cP (ρ:Rho)(S:Hs)(w:World):Prop where
 obj:∀ id o,S.get id=some o->∃ l co,ρ id=some l∧w.heap[l.blk]?=some co∧OR ρ l o co
 sep:∀ id id' l l',(S.get id).isSome->(S.get id').isSome->ρ id=some l->ρ id'=some l'->l.rw=true->id ≠ id'->l.blk ≠ l'.blk
 fresh:∀ id,S.next <= id->ρ id=none
def Own (ρ:Rho)(S:Hs)(b:Nat):Prop:=∃ id l,(S.get id).isSome∧ρ id=some l∧l.rw=true∧l.blk=b
def Has (ρ:Rho)(S:Hs)(b:Nat):Prop:=∃ id l,(S.get id).isSome∧ρ id=some l∧l.blk=b
structure Ext (ρ:Rho)(S:Hs)(w:World)(ρ':Rho)(S':Hs)(w':World):Prop where
 rho:∀ id,id < S.next->ρ' id=ρ id
 next:S.next <= S'.next
 size:w.heap.size <= w'.heap.size
 keep:∀ b,b < w.heap.size->¬ Own ρ S b->w'.heap[b]?=w.heap[b]?
 own:∀ b,Own ρ' S' b->w.heap.size <= b ∨ Own ρ S b
 has:∀ b,Has ρ' S' b->w.heap.size <= b ∨ Has ρ S b
 tape:w'.tape=w.tape
 os:w'.os=w.os
 output:w'.output=w.output
 drawn:w.drawn <= w'.drawn
theorem cP.lt {ρ:Rho}{S:Hs}{w:World}(h:cP ρ S w){id:Nat}{l:Loc}(hl:ρ id=some l):id < S.next:=by
 rcases Nat.lt_or_ge id S.next with h'|h'
 ·exact h'
 ·rw [h.fresh id h'] at hl;cases hl
theorem Ext.le {ρ ρ':Rho}{S S':Hs}{w w':World}(hs:cP ρ S w)(h:Ext ρ S w ρ' S' w'):ρ.le ρ' :=
 fun id l hl=>by rw [h.rho id (hs.lt hl)];exact hl
theorem Ext.refl (ρ:Rho)(S:Hs)(w:World):Ext ρ S w ρ S w:=⟨fun _ _=>rfl,af _,af _,fun _ _ _=>rfl,fun _ h=>.inr h,fun _ h=>.inr h,rfl,rfl,rfl,af _⟩
theorem Ext.trans {ρ ρ1 ρ2:Rho}{S S1 S2:Hs}{w w1 w2:World}(h:Ext ρ S w ρ1 S1 w1)(k:Ext ρ1 S1 w1 ρ2 S2 w2):Ext ρ S w ρ2 S2 w2 where
 rho id eP:=by rw [k.rho id (Nat.lt_of_lt_of_le eP h.next),h.rho id eP]
 next:=bg h.next k.next
 size:=bg h.size k.size
 keep b hb hn:=by
  rw [k.keep b (Nat.lt_of_lt_of_le hb h.size) (fun ho=>by
   rcases h.own b ho with h'|h'
   ·omega
   ·exact hn h'),h.keep b hb hn]
 own b hb:=by
  rcases k.own b hb with h'|h'
  ·exact .inl (bg h.size h')
  ·exact h.own b h'
 has b hb:=by
  rcases k.has b hb with h'|h'
  ·exact .inl (bg h.size h')
  ·exact h.has b h'
 tape:=k.tape.trans h.tape
 os:=k.os.trans h.os
 output:=k.output.trans h.output
 drawn:=bg h.drawn k.drawn
theorem cP.drew {ρ:Rho}{S:Hs}{w:World}(h:cP ρ S w):cP ρ S w.drew:=⟨h.obj,h.sep,h.fresh⟩
theorem Ext.drew (ρ:Rho)(S:Hs)(w:World):Ext ρ S w ρ S w.drew:=⟨fun _ _=>rfl,af _,af _,fun _ _ _=>rfl,fun _ h=>.inr h,fun _ h=>.inr h,rfl,rfl,rfl,Nat.le_succ _⟩
def Rho.put (ρ:Rho)(id:Nat)(l:Loc):Rho:=fun i=>if i=id then some l else ρ i
theorem Rho.put_self (ρ:Rho)(id:Nat)(l:Loc):(ρ.put id l) id=some l:=by simp [Rho.put]
theorem Rho.put_ne (ρ:Rho){id i:Nat}(l:Loc)(h:i ≠ id):(ρ.put id l) i=ρ i:=by simp [Rho.put,h]
theorem Rho.le_put {ρ:Rho}{id:Nat}(h:ρ id=none)(l:Loc):ρ.le (ρ.put id l):=fun i l' hi=>by
 by_cases e:i=id
 ·subst e;rw [h] at hi;cases hi
 ·rw [Rho.put_ne _ _ e];exact hi
noncomputable def bK (o:O)(S:St)(k:Nat->St->Prop):Prop :=
 St.rec (motive:=fun _=>Prop) (fun hp nx=>T.set (some o) fA nx hp (fun h=>k nx ⟨h,Nat.succ nx⟩) False) S
theorem eI {o:O}{S:St}{k:Nat->St->Prop}(h:bK o S k):∃ S',k S.next S'∧S'.hs=S.hs.new o:=by
 cases S;obtain ⟨t,hk,hg⟩:=T.set_spec h;exact ⟨⟨t,_+1⟩,hk,by simp only [St.hs,Hs.new];congr 1;funext id;exact hg id⟩
noncomputable def bD (id:Nat)(o:Option O)(S:St)(k:St->Prop):Prop :=
 St.rec (motive:=fun _=>Prop) (fun hp nx=>T.set o fA id hp (fun h=>k ⟨h,nx⟩) False) S
theorem bS {id:Nat}{o:Option O}{S:St}{k:St->Prop}(h:bD id o S k):∃ S',k S'∧S'.hs=S.hs.put id o:=by
 cases S;obtain ⟨t,hk,hg⟩:=T.set_spec h;exact ⟨⟨t,_⟩,hk,by simp only [St.hs,Hs.put];congr 1;funext i;exact hg i⟩
theorem cP.alloc_at {ρ:Rho}{S S':Hs}{w:World}(hs:cP ρ S w){o:O}{co:Obj}{csz:Nat}{id0:Nat}(hn:S.next <= S'.next)(hid0:id0 < S'.next)(h0:ρ id0=none)
  (hg:∀ id,S'.get id=if id=id0 then some o else S.get id) (hi:id0 < S.next ∨ S'.next=S.next+1∧id0=S.next)
  (ho:OR (ρ.put id0 ⟨w.heap.size,0,csz,true⟩) ⟨w.heap.size,0,csz,true⟩ o co) :
  cP (ρ.put id0 ⟨w.heap.size,0,csz,true⟩) S' (w.alloc co) where
 obj id o' h:=by
  rw [hg] at h;by_cases e:id=id0
  ·subst e;simp at h;subst h;exact ⟨_,co,Rho.put_self _ _ _,heap_alloc_new w co,ho⟩
  ·simp [e] at h;obtain ⟨l,co',a,b,c⟩:=hs.obj id o' h;refine ⟨l,co',by rw [Rho.put_ne _ _ e];exact a,?_,c.mono (Rho.le_put h0 _)⟩;have h':l.blk < w.heap.size:=(Array.getElem?_eq_some_iff.1 b).1
   first
   | exact (heap_alloc_old w co _ h').trans b
   | exact (heap_alloc_old w co h').trans b
 sep id id' l l' h h' hl hl' hr hne:=by
  have lt:∀ i li,(S.get i).isSome->ρ i=some li->li.blk < w.heap.size:=fun i li hi hli=>by
   obtain ⟨oi,hoi⟩:=bc.1 hi;obtain ⟨l2,co2,a,b,_⟩:=hs.obj i oi hoi;rw [hli] at a;cases a
   rcases Nat.lt_or_ge li.blk w.heap.size with h'|h'
   ·exact h'
   ·simp [Array.getElem?_eq_none h'] at b
  rw [hg] at h h';by_cases e:id=id0
  ·subst e;rw [Rho.put_self] at hl;cases hl;have e':id' ≠ id:=Ne.symm hne;simp [e'] at h';rw [Rho.put_ne _ _ e'] at hl';have:=lt id' l' h' hl';show w.heap.size ≠ l'.blk;omega
  ·simp [e] at h;rw [Rho.put_ne _ _ e] at hl;by_cases e':id'=id0
   ·subst e';rw [Rho.put_self] at hl';cases hl';have:=lt id l h hl;show l.blk ≠ w.heap.size;omega
   ·simp [e'] at h';rw [Rho.put_ne _ _ e'] at hl';exact hs.sep id id' l l' h h' hl hl' hr hne
 fresh id h:=by
  rw [Rho.put_ne _ _ om];exact hs.fresh id om
theorem cP.alloc {ρ:Rho}{S:Hs}{w:World}(hs:cP ρ S w){o:O}{co:Obj}{csz:Nat}
  (ho:OR (ρ.put S.next ⟨w.heap.size,0,csz,true⟩) ⟨w.heap.size,0,csz,true⟩ o co) :
  cP (ρ.put S.next ⟨w.heap.size,0,csz,true⟩) (S.new o) (w.alloc co)∧Ext ρ S w (ρ.put S.next ⟨w.heap.size,0,csz,true⟩) (S.new o) (w.alloc co):=by
 have hg:∀ id,(S.new o).get id=if id=S.next then some o else S.get id:=fun _=>rfl
 have hn:(S.new o).next=S.next+1:=rfl;have h0:ρ S.next=none:=hs.fresh _ (af _);refine ⟨hs.alloc_at om om h0 hg (.inr ⟨hn,rfl⟩) ho,?_⟩
 exact {
  rho:=fun id eP=>Rho.put_ne _ _ om
  next:=om
  size:=by simp
  keep:=fun b hb _=>by first|exact heap_alloc_old w co b hb|exact heap_alloc_old w co hb
  own:=fun b ⟨id,l,h,hl,hr,hb⟩=>by
   rw [hg] at h;by_cases e:id=S.next
   ·subst e;rw [Rho.put_self] at hl;cases hl;exact .inl (Nat.le_of_eq hb)
   ·simp [e] at h;rw [Rho.put_ne _ _ e] at hl;exact .inr ⟨id,l,h,hl,hr,hb⟩
  has:=fun b ⟨id,l,h,hl,hb⟩=>by
   rw [hg] at h;by_cases e:id=S.next
   ·subst e;rw [Rho.put_self] at hl;cases hl;exact .inl (Nat.le_of_eq hb)
   ·simp [e] at h;rw [Rho.put_ne _ _ e] at hl;exact .inr ⟨id,l,h,hl,hb⟩
  tape:=rfl,os:=rfl,output:=rfl,drawn:=af _ }
theorem cP.cell {ρ:Rho}{S:Hs}{w:World}(hs:cP ρ S w){id:Nat}{cs:List V}{e:TypeId}{fl:Fl}(h:S.get id=some (.cells cs e fl))
  {l:Loc} (hl:ρ id=some l) {i:Nat} {v:V} (hv:cs[i]?=some v):∃ v',w.cell? ⟨l.blk,l.base+i,none⟩=some v'∧VR ρ v v':=by
 obtain ⟨l',co,a,b,c,f,rfl,_,_,hc,_,_⟩:=hs.obj id _ h;rw [hl] at a;cases a;obtain ⟨v',hv',hr⟩:=hc i v hv;exact ⟨v',by simp [World.cell?,b,hv'],hr⟩
theorem cP.loadCells {P:Program}{ρ:Rho}{S:Hs}{w:World}(hs:cP ρ S w){id:Nat}{cs:List V}{e:TypeId}{fl:Fl}(h:S.get id=some (.cells cs e fl))
  {l:Loc} (hl:ρ id=some l) {off n:Nat} (hle:off+n <= cs.length) :
  ∃ c':List Value,(loadCells ⟨l.blk,l.base+off,none⟩ n).run P w=.ok ⟨c'⟩ w∧VRs ρ ((cs.drop off).take n) c':=by
 have hex:∀ j,j < n->∃ v',w.cell? ((⟨l.blk,l.base+off,none⟩:Addr).add j)=some v'∧∃ v,cs[off+j]?=some v∧VR ρ v v':=fun j hj=>by
  have hlt:off+j < cs.length:=om;obtain ⟨v',a,b⟩:=hs.cell h hl (i:=off+j) (v:=cs[off+j]) (by simp [hlt]);refine ⟨v',?_,_,by simp [hlt],b⟩;rw [<- a];unfold Addr.add;by_cases h0:j=0
  ·subst h0;simp
  ·simp [h0,Nat.add_assoc]
 classical
 let f:Nat->Value:=fun j=>if hj:j < n then Classical.choose (hex j hj) else undef
 have hf:∀ j,j < n->w.cell? ((⟨l.blk,l.base+off,none⟩:Addr).add j)=some (f j):=fun j hj=>by
  have:=(Classical.choose_spec (hex j hj)).1;simp only [f,hj,dif_pos];exact this
 have hr:=run_loadCells (P:=P) (w:=w) ⟨l.blk,l.base+off,none⟩ n f hf;refine ⟨(List.range n).map f,?_,VRs.of_get (by simp;omega) fun i v v' hv hv'=>?_⟩
 ·exact hr
 ·have hi:i < n:=by
   rcases Nat.lt_or_ge i n with h'|h'
   ·exact h'
   ·simp [List.getElem?_eq_none (l:=(List.range n).map f) (by simpa using h')] at hv'
  have h1:v'=f i:=by
   simp [hi] at hv';exact hv'.symm
  have h2:=(Classical.choose_spec (hex i hi)).2
  have h3:f i=Classical.choose (hex i hi):=by simp only [f,hi,dif_pos]
  rw [h1,h3];obtain ⟨u,hu,hru⟩:=h2
  have:v=u:=by
   rw [List.getElem?_take,if_pos hi,List.getElem?_drop,hu] at hv;exact (Option.some.inj hv).symm
  rw [this];exact hru
theorem cP.put_cells {ρ:Rho}{S:Hs}{w w':World}(hs:cP ρ S w){id:Nat}{cs cs':List V}{e:TypeId}{fl fl':Fl}(h:S.get id=some (.cells cs e fl))
  {l:Loc} (hl:ρ id=some l) (hrw:l.rw=true) {co':Obj} (hb:w'.heap[l.blk]?=some co') (hoth:∀ b,b ≠ l.blk->w'.heap[b]?=w.heap[b]?)
  (hsz:w'.heap.size=w.heap.size) (ht:w'.tape=w.tape) (hos:w'.os=w.os) (hout:w'.output=w.output) (ho:OR ρ l (.cells cs' e fl') co') (hdr:w.drawn <= w'.drawn:=by exact af _) :
  cP ρ (S.put id (some (.cells cs' e fl'))) w'∧Ext ρ S w ρ (S.put id (some (.cells cs' e fl'))) w':=by
 have hsome:(S.get id).isSome:=by rw [h];rfl
 have hget:∀ i,((S.put id (some (.cells cs' e fl'))).get i).isSome->(S.get i).isSome:=fun i hi=>by
  by_cases e:i=id
  ·subst e;exact hsome
  ·simpa [Hs.put,e] using hi
 refine ⟨⟨fun i o hi=>?_,fun i j li lj hi hj=>hs.sep i j li lj (hget i hi) (hget j hj),hs.fresh⟩,?_⟩
 ·by_cases e:i=id
  ·subst e;simp [Hs.put] at hi;subst hi;exact ⟨l,co',hl,hb,ho⟩
  ·simp [Hs.put,e] at hi;obtain ⟨li,co,a,b,c⟩:=hs.obj i o hi;refine ⟨li,co,a,?_,c⟩;rw [hoth _ (fun hbe=>hs.sep id i l li hsome (by rw [hi];rfl) hl a hrw (Ne.symm e) hbe.symm)];exact b
 ·exact {
   rho:=fun _ _=>rfl
   next:=af _
   size:=Nat.le_of_eq hsz.symm
   keep:=fun b _ hn=>hoth b fun hbe=>hn ⟨id,l,hsome,hl,hrw,hbe.symm⟩
   own:=fun b ⟨i,li,hi,hli,hr,hb⟩=>.inr ⟨i,li,hget i hi,hli,hr,hb⟩
   has:=fun b ⟨i,li,hi,hli,hb⟩=>.inr ⟨i,li,hget i hi,hli,hb⟩
   tape:=ht,os:=hos,output:=hout,drawn:=hdr }
theorem cP.store1 {P:Program}{ρ:Rho}{S:Hs}{w:World}(hs:cP ρ S w){id:Nat}{cs:List V}{e:TypeId}{fl:Fl}(hfl:fl ≠ .ro)(h:S.get id=some (.cells cs e fl))
  {l:Loc} (hl:ρ id=some l) {i:Nat} (hi:i < cs.length) {v:V} {v':Value} (hv:VR ρ v v') (h1:v.one=true) :
  ∃ w',(store ⟨l.blk,l.base+i,none⟩ v').run P w=.ok () w'∧cP ρ (S.put id (some (.cells (cs.set i v) e fl))) w'∧Ext ρ S w ρ (S.put id (some (.cells (cs.set i v) e fl))) w':=by
 obtain ⟨l',co,a,b,c,f,rfl,hsz,hle,hc,hf,hx⟩:=hs.obj id _ h;rw [hl] at a;cases a;obtain ⟨u',hu',_⟩:=hc i cs[i] (by simp [hi]);have hlt:l.base+i < c.size:=om
 have hcell:w.cell? ⟨l.blk,l.base+i,none⟩=some u':=by simp [World.cell?,b,hu']
 have hfr:w.frozen? ⟨l.blk,l.base+i,none⟩=false:=by
  have:=(hf hfl).2 (l.base+i) hlt;simp [World.frozen?,b];omega
 refine ⟨w.setCell ⟨l.blk,l.base+i,none⟩ v',?_,?_⟩
 ·rw [run_store _ _ _ _ _ (by rw [hv.one];exact h1),hcell,hfr];rfl
 ·refine hs.put_cells h hl (hf hfl).1 (co':=.cells (c.setIfInBounds (l.base+i) v') e f) ?_ ?_ sm rfl rfl rfl ?_
  ·simp only [World.setCell,Array.getElem?_modify,if_true,b,Option.map_some];rfl
  ·intro b' hb';exact heap_setCell_other _ _ _ _ hb'
  ·refine ⟨_,f,rfl,by simpa using hsz,by simpa using hle,fun j u hu=>?_,fun _=>⟨(hf hfl).1,fun off ho=>(hf hfl).2 off (by simpa using ho)⟩,fun h=>by simpa using hx h⟩;by_cases hji:j=i
   ·subst hji;rw [List.getElem?_set_self hi] at hu;cases hu;exact ⟨v',by simp [hlt],hv⟩
   ·rw [List.getElem?_set_ne (Ne.symm hji)] at hu;obtain ⟨u2,hu2,hr2⟩:=hc j u hu;exact ⟨u2,by rw [Array.getElem?_setIfInBounds_ne om];exact hu2,hr2⟩
def over {α:Type}(vs:List α)(off:Nat)(cs:List α):List α:=match vs with
 | []=>cs
 | v :: vs=>over vs (off+1) (cs.set off v)
noncomputable def aMp (vs:List V):List V->(List V->Prop)->Prop :=
 List.rec (motive:=fun _=>List V->(List V->Prop)->Prop) (fun cs k=>k cs)
  (fun v _ ih cs k=>List.rec (motive:=fun _=>Prop) False (fun _ cs _=>ih cs fun r=>k (v :: r)) cs) vs
noncomputable def eJ (vs:List V)(off:Nat):List V->(List V->Prop)->Prop :=
 Nat.rec (motive:=fun _=>List V->(List V->Prop)->Prop) (fun cs k=>aMp vs cs k)
  (fun _ ih cs k=>List.rec (motive:=fun _=>Prop) False (fun c cs _=>ih cs fun r=>k (c :: r)) cs) off
theorem yJ {c:V}:∀ {vs:List V} {off:Nat} {cs:List V},over vs (off+1) (c :: cs)=c :: over vs off cs
 | [],_,_=>rfl
 | v :: vs,off,cs=>by
   show over vs (off+1+1) ((c :: cs).set (off+1) v)=c :: over vs (off+1) (cs.set off v);rw [List.set_cons_succ,yJ]
theorem aGL:∀ {vs cs:List V} {k:List V->Prop},aMp vs cs k->vs.length <= cs.length∧k (over vs 0 cs)
 | [],cs,k,h=>⟨ai _,h⟩
 | v :: vs,[],k,h=>h.elim
 | v :: vs,c :: cs,k,h=>by
   obtain ⟨h1,h2⟩:=aGL (show aMp vs cs fun r=>k (v :: r) from h);refine ⟨by simp;exact h1,?_⟩;show k (over vs (0+1) ((c :: cs).set 0 v));rw [List.set_cons_zero,yJ];exact h2
theorem nC:∀ {vs:List V} {off:Nat} {cs:List V} {k:List V->Prop},eJ vs off cs k->off+vs.length <= cs.length+(if vs=[] then off else 0)∧k (over vs off cs)
 | vs,0,cs,k,h=>by
   obtain ⟨h1,h2⟩:=aGL (show aMp vs cs k from h);exact ⟨om,h2⟩
 | vs,off+1,[],k,h=>h.elim
 | vs,off+1,c :: cs,k,h=>by
   obtain ⟨h1,h2⟩:=nC (show eJ vs off cs fun r=>k (c :: r) from h);rw [yJ];refine ⟨?_,h2⟩;simp only [au]
   split at h1
   ·rename_i hv
    rw [if_pos hv];omega
   ·rename_i hv
    rw [if_neg hv];omega
theorem Hs.put_put (H:Hs)(id:Nat)(o o':Option O):(H.put id o).put id o'=H.put id o':=by
 simp only [Hs.put];congr 1;funext i;split <;> rfl
theorem Hs.put_self (H:Hs){id:Nat}{o:Option O}(h:H.get id=o):H.put id o=H:=by
 cases H;simp only [Hs.put];congr 1;funext i;split
 ·rename_i e;rw [e];exact h.symm
 ·rfl
theorem Hs.get_put (H:Hs)(id:Nat)(o:Option O):(H.put id o).get id=o:=by simp [Hs.put]
theorem cP.storeCells {P:Program}{ρ:Rho}{e:TypeId}{fl:Fl}(hfl:fl ≠ .ro){id:Nat}{l:Loc}(hl:ρ id=some l){off:Nat} :
  ∀ {vs:List V} {vs':List Value},VRs ρ vs vs'->(∀ v ∈ vs,v.one=true)->∀ {S:Hs} {w:World} {cs:List V} {i:Nat},cP ρ S w->S.get id=some (.cells cs e fl)->off+i+vs.length <= cs.length ->
  ∃ w',(storeCells ⟨l.blk,l.base+off,none⟩ vs' i).run P w=.ok () w'∧cP ρ (S.put id (some (.cells (over vs (off+i) cs) e fl))) w'∧Ext ρ S w ρ (S.put id (some (.cells (over vs (off+i) cs) e fl))) w'
 | [],_,.nil,_,S,w,cs,i,hs,h,_=>⟨w,by simp [Go.storeCells],by rw [over,Hs.put_self _ h];exact hs,by rw [over,Hs.put_self _ h];exact .refl _ _ _⟩
 | v :: vs,v' :: vs',.cons hv hvs,hone,S,w,cs,i,hs,h,hle=>by
   obtain ⟨w1,hr,hs1,he1⟩:=hs.store1 (P:=P) hfl h hl (i:=off+i) (by simp at hle;omega) hv (hone v sm)
   have hle2:off+(i+1)+vs.length <= (cs.set (off+i) v).length:=by
    have:=hle;simp at this ⊢;omega
   obtain ⟨w2,hr2,hs2,he2⟩:=cP.storeCells (P:=P) hfl hl hvs (fun u hu=>hone u (by simp [hu])) (i:=i+1) (cs:=cs.set (off+i) v) hs1 (Hs.get_put _ _ _) hle2;rw [Hs.put_put] at hs2 he2;refine ⟨w2,?_,hs2,he1.trans he2⟩;simp only [Go.storeCells,Sem.run_bind]
   have ha:(⟨l.blk,l.base+off,none⟩:Addr).add i=⟨l.blk,l.base+(off+i),none⟩:=by
    unfold Addr.add;by_cases h0:i=0
    ·subst h0;simp
    ·simp [h0,Nat.add_assoc]
   rw [ha,hr];exact hr2
noncomputable def fN (n:Nat)(k:Nat->Prop):Prop:=Nat.casesOn n (k 0) fun m=>k (Nat.succ m)
noncomputable def fI (n:Int)(k:Int->Prop):Prop:=Int.casesOn n (fun n=>fN n fun n=>k (Int.ofNat n)) (fun n=>fN n fun n=>k (Int.negSucc n))
noncomputable def fB (b:Bool)(k:Bool->Prop):Prop:=Bool.rec (k false) (k true) b
noncomputable def dD (b:Bool)(k:Prop):Prop:=Bool.rec False k b
noncomputable def qG (x y:Int):Bool:=Int.casesOn x (fun a=>Int.casesOn y (fun b=>Nat.blt a b) (fun _=>false)) (fun a=>Int.casesOn y (fun _=>true) (fun b=>Nat.blt b a))
noncomputable def xU (x y:Int):Bool:=Int.casesOn x (fun a=>Int.casesOn y (fun b=>Nat.beq a b) (fun _=>false)) (fun a=>Int.casesOn y (fun _=>false) (fun b=>Nat.beq a b))
def rF:IntKind->Nat
 | .i8=>127|.i16=>32767|.i32=>2147483647|.i64=>9223372036854775807
 | .u8=>255|.u16=>65535|.u32=>4294967295|.u64=>18446744073709551615
def aCI:IntKind->Option Nat
 | .i8=>some 127|.i16=>some 32767|.i32=>some 2147483647|.i64=>some 9223372036854775807
 | _=>none
noncomputable def eQ (k:IntKind)(n:Int)(c:Int->Prop):Prop :=
 Int.casesOn n (fun m=>Bool.rec (fI (k.wrap n) c) (fN m fun m=>c (Int.ofNat m)) (Nat.ble m (rF k)))
  (fun m=>Option.casesOn (aCI k) (fI (k.wrap n) c) fun t=>Bool.rec (fI (k.wrap n) c) (fN m fun m=>c (Int.negSucc m)) (Nat.ble m t))
def kEq (a b:IntKind):Bool:=decide (a=b)
noncomputable def kG (a:List UInt8):List UInt8->Bool :=
 List.rec (motive:=fun _=>List UInt8->Bool) (fun b=>List.casesOn b true fun _ _=>false)
  (fun x _ ih b=>List.casesOn b false fun y b=>Bool.rec false (ih b) (Nat.beq x.toNat y.toNat)) a
noncomputable def jJ (a:List UInt8):List UInt8->Bool :=
 List.rec (motive:=fun _=>List UInt8->Bool) (fun b=>List.casesOn b false fun _ _=>true)
  (fun x _ ih b=>List.casesOn b false fun y b=>Bool.rec (Nat.blt x.toNat y.toNat) (ih b) (Nat.beq x.toNat y.toNat)) a
noncomputable def dH {α:Type}(l:List α):Nat:=List.rec (motive:=fun _=>Nat->Nat) (fun n=>n) (fun _ _ ih n=>ih (Nat.succ n)) l 0
noncomputable def fX {α:Type}(n:Nat):List α->(List α->Prop)->Prop :=
 Nat.rec (motive:=fun _=>List α->(List α->Prop)->Prop) (fun _ k=>k []) (fun _ ih l k=>List.casesOn l False fun x l=>ih l fun r=>k (x :: r)) n
noncomputable def kM {α:Type}(n:Nat):List α->(List α->Prop)->Prop :=
 Nat.rec (motive:=fun _=>List α->(List α->Prop)->Prop) (fun l k=>k l) (fun _ ih l k=>List.casesOn l False fun _ l=>ih l k) n
noncomputable def nH {α:Type}(a b:List α):(List α->Prop)->Prop :=
 List.rec (motive:=fun _=>(List α->Prop)->Prop) (fun k=>k b) (fun x _ ih k=>ih fun r=>k (x :: r)) a
def ofV1:Value->V
 | .bool b=>.bool b|.int k n=>.int k n|.float k b=>.float k b|.string s=>.str s.data.toList
 | .pointer none=>.nilPtr|.slice none 0 0=>.nilSlice|.map none=>.nilMap|.nilFunc=>.nilFunc|.nilIface=>.nilIface
 | _=>.tup [.tup []]
def aCJ:Value->Bool
 | .bool _|.int ..|.float ..|.string _|.pointer none|.slice none 0 0|.map none|.nilFunc|.nilIface=>true
 | _=>false
def ofV:Value->V
 | .agg cs=>.agg (cs.toList.map ofV1)
 | v=>ofV1 v
def okV:Value->Bool
 | .agg cs=>cs.toList.all aCJ
 | v=>aCJ v
noncomputable def uW (P:Program)(t:TypeId)(k:Nat->Prop):Prop:=Option.casesOn (P.info? t) False fun i=>k i.size
def pY (P:Program)(t:TypeId):Option Bool:=match P.underlying t with|none=>none|some (.struct _)=>some true|some (.array ..)=>some true|some _=>some false
def aEC (P:Program)(t:TypeId)(i:Nat):Option Field:=match P.underlying t with|some (.struct fs)=>fs[i]?|_=>none
def qY (P:Program)(t:TypeId):Option TypeId:=match P.underlying t with|some (.slice e)=>some e|_=>none
def aPY (P:Program)(t:TypeId):Option (Nat × TypeId):=match P.underlying t with|some (.array n e)=>some (n,e)|_=>none
def aAa (P:Program)(t:TypeId):Option V:=match P.info? t with
 | some i=>match i.zero with|some z=>if okV z then some (ofV z) else none|none=>none
 | none=>none
def uD (P:Program)(t:TypeId):Option (List V):=match aAa P t with|some z=>some z.cells|none=>none
abbrev aI:Nat:=1000
inductive Oc where
 | slot (p:P4)
 | val (v:V)
 | bad
noncomputable def opc (x:Operand):Oc:=match x with
 | .tmp t=>.slot (path t)
 | .const v=>match okV v with|true=>.val (ofV v)|false=>.bad
 | .global g=>match Nat.blt g aI with|true=>.val (.ptr g 0)|false=>.bad
 | .func f=>.val (.func (.func f) [] [])
noncomputable def aIL (p:P4)(E:Env)(k:V->Prop):Prop:=Option.rec (motive:=fun _=>Prop) False k (getP E p)
noncomputable def aON (v:V)(_:Env)(k:V->Prop):Prop:=k v
noncomputable def aOM (_:Env)(_:V->Prop):Prop:=False
noncomputable def eZ (E:Env)(x:Operand)(k:V->Prop):Prop:=Oc.rec (motive:=fun _=>Env->(V->Prop)->Prop) aIL aON aOM (opc x) E k
noncomputable def rY (E:Env)(l:List Operand):(List V->Prop)->Prop :=
 List.rec (motive:=fun _=>(List V->Prop)->Prop) (fun k=>k []) (fun x _ ih k=>eZ E x fun v=>ih fun vs=>k (v :: vs)) l
noncomputable def xG (v:V)(k:Bool->Prop):Prop:=V.rec (motive_1:=fun _=>Prop) (motive_2:=fun _=>Prop) (fun b=>k b) (fun _ _=>False) (fun _ _=>False) (fun _=>False) (fun _ _=>False) False (fun _ _ _ _ _ _=>False) False (fun _=>False) False (fun _ _ _ _ _=>False) (fun _=>False) False (fun _ _ _=>False) False (fun _ _=>False) (fun _ _=>False) False True (fun _ _ _ _=>True) v
noncomputable def aHm (v:V)(k:IntKind->Int->Prop):Prop:=V.rec (motive_1:=fun _=>Prop) (motive_2:=fun _=>Prop) (fun _=>False) (fun a n=>k a n) (fun _ _=>False) (fun _=>False) (fun _ _=>False) False (fun _ _ _ _ _ _=>False) False (fun _=>False) False (fun _ _ _ _ _=>False) (fun _=>False) False (fun _ _ _=>False) False (fun _ _=>False) (fun _ _=>False) False True (fun _ _ _ _=>True) v
noncomputable def aFg (v:V)(k:List UInt8->Prop):Prop:=V.rec (motive_1:=fun _=>Prop) (motive_2:=fun _=>Prop) (fun _=>False) (fun _ _=>False) (fun _ _=>False) (fun s=>k s) (fun _ _=>False) False (fun _ _ _ _ _ _=>False) False (fun _=>False) False (fun _ _ _ _ _=>False) (fun _=>False) False (fun _ _ _=>False) False (fun _ _=>False) (fun _ _=>False) False True (fun _ _ _ _=>True) v
noncomputable def aFf (v:V)(k:Nat->Nat->Prop):Prop:=V.rec (motive_1:=fun _=>Prop) (motive_2:=fun _=>Prop) (fun _=>False) (fun _ _=>False) (fun _ _=>False) (fun _=>False) (fun i o=>k i o) False (fun _ _ _ _ _ _=>False) False (fun _=>False) False (fun _ _ _ _ _=>False) (fun _=>False) False (fun _ _ _=>False) False (fun _ _=>False) (fun _ _=>False) False True (fun _ _ _ _=>True) v
noncomputable def aUk (v:V)(k:List V->Prop):Prop:=V.rec (motive_1:=fun _=>Prop) (motive_2:=fun _=>Prop) (fun _=>False) (fun _ _=>False) (fun _ _=>False) (fun _=>False) (fun _ _=>False) False (fun _ _ _ _ _ _=>False) False (fun _=>False) False (fun _ _ _ _ _=>False) (fun _=>False) False (fun _ _ _=>False) False (fun l _=>k l) (fun _ _=>False) False True (fun _ _ _ _=>True) v
noncomputable def aWs (v:V)(k:List V->Prop):Prop:=V.rec (motive_1:=fun _=>Prop) (motive_2:=fun _=>Prop) (fun _=>False) (fun _ _=>False) (fun _ _=>False) (fun _=>False) (fun _ _=>False) False (fun _ _ _ _ _ _=>False) False (fun _=>False) False (fun _ _ _ _ _=>False) (fun _=>False) False (fun _ _ _=>False) False (fun _ _=>False) (fun l _=>k l) False True (fun _ _ _ _=>True) v
noncomputable def aHn (v:V)(k:Nat->Prop):Prop:=V.rec (motive_1:=fun _=>Prop) (motive_2:=fun _=>Prop) (fun _=>False) (fun _ n=>Int.rec (motive:=fun _=>Prop) (fun n=>k n) (fun _=>False) n) (fun _ _=>False) (fun _=>False) (fun _ _=>False) False (fun _ _ _ _ _ _=>False) False (fun _=>False) False (fun _ _ _ _ _=>False) (fun _=>False) False (fun _ _ _=>False) False (fun _ _=>False) (fun _ _=>False) False True (fun _ _ _ _=>True) v
noncomputable def aUl (v:V)(k:Nat->Nat->Nat->Nat->Nat->Bool->Prop)(no:Prop):Prop:=V.rec (motive_1:=fun _=>Prop) (motive_2:=fun _=>Prop) (fun _=>False) (fun _ _=>False) (fun _ _=>False) (fun _=>False) (fun _ _=>False) False (fun i o n c es ex=>k i o n c es ex) (no) (fun _=>False) False (fun _ _ _ _ _=>False) (fun _=>False) False (fun _ _ _=>False) False (fun _ _=>False) (fun _ _=>False) False True (fun _ _ _ _=>True) v
abbrev jC:=Env->(V->Prop)->Prop
noncomputable def aCT (x:Operand):jC:=fun E k=>eZ E x k
noncomputable def aMX (c a b:Operand):jC:=fun E k=>eZ E c fun v=>xG v fun t=>Bool.rec (eZ E b k) (eZ E a k) t
noncomputable def xM (x:Operand):jC:=fun E k=>eZ E x fun v=>match v with|.ptr i o=>k (.ptr i o)|.func (.func f) a b=>k (.func (.func f) a b)|.yield i=>k (.yield i)|_=>False
noncomputable def xQ (op:BinOp)(a:IntKind)(x y:Int)(k:V->Prop):Prop:=match op with
 | .and=>fI (a.wrap (BitVec.ofInt a.bits x &&& BitVec.ofInt a.bits y).toNat) fun n=>k (.int a n)
 | .or=>fI (a.wrap (BitVec.ofInt a.bits x ||| BitVec.ofInt a.bits y).toNat) fun n=>k (.int a n)
 | .xor=>fI (a.wrap (BitVec.ofInt a.bits x ^^^ BitVec.ofInt a.bits y).toNat) fun n=>k (.int a n)
 | .andNot=>fI (a.wrap (BitVec.ofInt a.bits x &&& ~~~ BitVec.ofInt a.bits y).toNat) fun n=>k (.int a n)
 | _=>False
noncomputable def aGj (op:BinOp)(a:IntKind)(x y:Int)(k:V->Prop):Prop:=match op with
 | .add=>eQ a (Int.add x y) fun n=>k (.int a n)
 | .sub=>eQ a (Int.sub x y) fun n=>k (.int a n)
 | .mul=>eQ a (Int.mul x y) fun n=>k (.int a n)
 | .quo=>Bool.rec (eQ a (Int.tdiv x y) fun n=>k (.int a n)) False (xU y 0)
 | .rem=>Bool.rec (fI (Int.tmod x y) fun n=>k (.int a n)) False (xU y 0)
 | .eql=>fB (xU x y) fun b=>k (.bool b)
 | .neq=>fB (xU x y) fun b=>k (.bool (!b))
 | .lss=>fB (qG x y) fun b=>k (.bool b)
 | .leq=>fB (qG y x) fun b=>k (.bool (!b))
 | .gtr=>fB (qG y x) fun b=>k (.bool b)
 | .geq=>fB (qG x y) fun b=>k (.bool (!b))
 | .and=>xQ .and a x y k
 | .or=>xQ .or a x y k
 | .xor=>xQ .xor a x y k
 | .andNot=>xQ .andNot a x y k
 | _=>False
noncomputable def aEZ (op:BinOp)(a:IntKind)(x y:Int)(k:V->Prop):Prop :=
 Int.casesOn y (fun y=>match op with
  | .shl=>fI (a.wrap (x * 2 ^ (min y a.bits))) fun n=>k (.int a n)
  | .shr=>fI (x.fdiv (2 ^ (min y a.bits))) fun n=>k (.int a n)
  | _=>False) (fun _=>False)
noncomputable def aKx (op:BinOp)(x y:List UInt8)(k:V->Prop):Prop:=match op with
 | .add=>dD (Nat.ble (Nat.add (dH x) (dH y)) 9223372036854775807) (nH x y fun s=>k (.str s))
 | .eql=>fB (kG x y) fun b=>k (.bool b)
 | .neq=>fB (kG x y) fun b=>k (.bool (!b))
 | .lss=>fB (jJ x y) fun b=>k (.bool b)
 | .geq=>fB (jJ x y) fun b=>k (.bool (!b))
 | .leq=>fB (jJ x y) fun a=>fB (kG x y) fun b=>k (.bool (a || b))
 | .gtr=>fB (jJ x y) fun a=>fB (kG x y) fun b=>k (.bool (!(a || b)))
 | _=>False
noncomputable def aEE (op:BinOp)(a:FloatKind)(x y:Nat)(k:V->Prop):Prop:=match op with
 | .add=>Option.casesOn (a.format.add x y) False fun r=>fN r fun r=>k (.float a r)
 | .sub=>Option.casesOn (a.format.sub x y) False fun r=>fN r fun r=>k (.float a r)
 | .mul=>Option.casesOn (a.format.mul x y) False fun r=>fN r fun r=>k (.float a r)
 | .quo=>Option.casesOn (a.format.div x y) False fun r=>fN r fun r=>k (.float a r)
 | .eql=>fB (a.format.order x y == some .eq) fun b=>k (.bool b)
 | .neq=>fB (a.format.order x y == some .eq) fun b=>k (.bool (!b))
 | .lss=>fB (a.format.order x y == some .lt) fun b=>k (.bool b)
 | .gtr=>fB (a.format.order x y == some .gt) fun b=>k (.bool b)
 | _=>False
noncomputable def mT (ks:List Nat):List V->List V->Option Bool :=
 List.rec (motive:=fun _=>List V->List V->Option Bool) (fun _ _=>some true)
  (fun c _ ih a b=>match a,b with
   | x :: a,y :: b=>match c,x,y with
     | 0,.int j m,.int k n=>Bool.rec none (Bool.rec (some false) (ih a b) (xU m n)) (kEq j k)
     | 1,.str s,.str t=>Bool.rec (some false) (ih a b) (kG s t)
     | 2,.bool s,.bool t=>Bool.rec (some false) (ih a b) (s == t)
     | _,_,_=>none
   | _,_=>none) ks
def tH (P:Program):List Field->Nat->Option (List Nat)
 | [],_=>some []
 | f :: fs,i=>if f.offset == i && f.name != "_" && pY P f.type == some false then
     match P.underlying f.type,tH P fs (i+1) with
     | some (.int _),some r=>some (0 :: r)
     | some .string,some r=>some (1 :: r)
     | some .bool,some r=>some (2 :: r)
     | _,_=>none
  else none
def aOZ (P:Program)(t:TypeId):Option (List Nat):=match P.underlying t with
 | some (.struct fs)=>if !P.stoodInHeld t && !P.eqGuardType P.depth t then tH P fs.toList 0 else none
 | _=>none
def eqD (P:Program)(c:Bool)(t:TypeId)(d:TypeDesc)(x y:V):Option Bool:=match d,x,y with
 | .bool,.bool a,.bool b=>some (a == b)
 | .pointer _,.nilPtr,.nilPtr=>some true
 | .pointer _,.nilPtr,.ptr _ _=>some false
 | .pointer _,.ptr _ _,.nilPtr=>some false
 | .pointer e,.ptr i o,.ptr j p=>match P.info? e with
   | some f=>if f.size=0 then none else if i=j then some (o == p) else none
   | none=>none
 | .slice _,.nilSlice,.nilSlice=>some true
 | .slice _,.nilSlice,.slice ..=>some false
 | .slice _,.slice ..,.nilSlice=>some false
 | .map _ _,.nilMap,.nilMap=>some true
 | .map _ _,.nilMap,.map _=>some false
 | .map _ _,.map _,.nilMap=>some false
 | .func _ _ _,.nilFunc,.nilFunc=>some true
 | .func _ _ _,.nilFunc,.func ..=>some false
 | .func _ _ _,.func ..,.nilFunc=>some false
 | .interface _,.nilIface,.iface ..=>some false
 | .interface _,.iface ..,.nilIface=>some false
 | .interface _,.nilIface,.nilIface=>if c then some true else none
 | _,_,_=>none
def isC:Operand->Bool|.const _=>true|_=>false
noncomputable def eqK (P:Program)(c:Bool)(t:TypeId)(x y:V)(k:Bool->Prop):Prop:=match x,y with
 | .agg a,.agg b=>Option.casesOn (aOZ P t) False fun ks=>Option.casesOn (mT ks a b) False fun b=>fB b k
 | x,y=>Option.casesOn (P.underlying t) False fun d=>Option.casesOn (eqD P c t d x y) False fun b=>fB b k
def V.notAny:V->Bool|.any=>false|_=>true
noncomputable def aEq (P:Program)(c:Bool)(t:TypeId)(op:BinOp)(x y:V)(k:V->Prop):Prop:=match x,y with
 | .int a n,.int b m=>match op with
   | .shl=>aEZ .shl a n m k
   | .shr=>aEZ .shr a n m k
   | op=>dD (kEq a b) (aGj op a n m k)
 | .str s,.str t=>aKx op s t k
 | .float a n,.float b m=>match a,b with|.f64,.f64=>aEE op .f64 n m k|.f32,.f32=>aEE op .f32 n m k|_,_=>False
 | x,y=>dD (x.notAny && y.notAny) (match op with
   | .eql=>eqK P c t x y fun b=>k (.bool b)
   | .neq=>eqK P c t x y fun b=>k (.bool (!b))
   | _=>False)
structure Ic where
 run:IntKind->Int->Int->(V->Prop)->Prop
noncomputable def aVT (op:BinOp):Ic:=match op with
 | .add=>⟨fun a x y k=>eQ a (Int.add x y) fun n=>k (.int a n)⟩
 | .sub=>⟨fun a x y k=>eQ a (Int.sub x y) fun n=>k (.int a n)⟩
 | .mul=>⟨fun a x y k=>eQ a (Int.mul x y) fun n=>k (.int a n)⟩
 | .quo=>⟨fun a x y k=>Bool.rec (eQ a (Int.tdiv x y) fun n=>k (.int a n)) False (xU y 0)⟩
 | .rem=>⟨fun a x y k=>Bool.rec (fI (Int.tmod x y) fun n=>k (.int a n)) False (xU y 0)⟩
 | .eql=>⟨fun _ x y k=>fB (xU x y) fun b=>k (.bool b)⟩
 | .neq=>⟨fun _ x y k=>fB (xU x y) fun b=>k (.bool (!b))⟩
 | .lss=>⟨fun _ x y k=>fB (qG x y) fun b=>k (.bool b)⟩
 | .leq=>⟨fun _ x y k=>fB (qG y x) fun b=>k (.bool (!b))⟩
 | .gtr=>⟨fun _ x y k=>fB (qG y x) fun b=>k (.bool b)⟩
 | .geq=>⟨fun _ x y k=>fB (qG x y) fun b=>k (.bool (!b))⟩
 | op=>⟨aGj op⟩
structure Fb where
 run:V->V->(V->Prop)->Prop
noncomputable def aVL (g:IntKind->Int->Int->(V->Prop)->Prop)(h:List UInt8->List UInt8->(V->Prop)->Prop)(x y:V)(k:V->Prop)(r:Prop):Prop:=V.rec (motive_1:=fun _=>Prop) (motive_2:=fun _=>Prop) (fun _=>r) (fun a n=>aHm y fun b m=>dD (kEq a b) (g a n m k)) (fun _ _=>r) (fun s=>aFg y fun t=>h s t k) (fun _ _=>r) r (fun _ _ _ _ _ _=>r) r (fun _=>r) r (fun _ _ _ _ _=>r) (fun _=>r) r (fun _ _ _=>r) r (fun _ _=>r) (fun _ _=>r) r True (fun _ _ _ _=>True) x
noncomputable def aSj (g:IntKind->Int->Int->(V->Prop)->Prop)(h:List UInt8->List UInt8->(V->Prop)->Prop)(rest:V->V->(V->Prop)->Prop)(x y:V)(k:V->Prop):Prop:=aVL g h x y k (rest x y k)
noncomputable def fbC (P:Program)(c:Bool)(t:TypeId)(op:BinOp):Fb:=match op with
 | .shl=>⟨aEq P c t .shl⟩
 | .shr=>⟨aEq P c t .shr⟩
 | op=>Ic.rec (fun g=>⟨aSj g (aKx op) (aEq P c t op)⟩) (aVT op)
noncomputable def aSS (P:Program)(op:BinOp)(t:TypeId)(x y:Operand):jC:=fun E k=>eZ E x fun v=>eZ E y fun u=>Fb.rec (motive:=fun _=>Prop) (fun f=>f v u k) (fbC P (isC x || isC y) t op)
noncomputable def aUn (op:UnOp)(x:Operand):jC:=fun E k=>eZ E x fun v=>match op,v with
 | .not,.bool b=>fB b fun b=>k (.bool (!b))
 | .neg,.int a n=>eQ a (Int.sub 0 n) fun n=>k (.int a n)
 | .neg,.float a n=>fN (Op.negFloat a n) fun r=>k (.float a r)
 | .xor,.int a n=>xQ .xor a (if a.signed then -1 else a.max) n k
 | _,_=>False
noncomputable def aJu (P:Program)(s d:TypeId)(x:Operand):jC:=fun E k=>eZ E x fun v=>Option.casesOn (P.underlying s) False fun s'=>Option.casesOn (P.underlying d) False fun d'=>match d',v with
 | .int a,.int _ n=>eQ a n fun n=>k (.int a n)
 | .float a,.int _ n=>fN (a.nearest n) fun r=>k (.float a r)
 | .string,.str s=>k (.str s)
 | _,_=>False
noncomputable def aHF (P:Program)(t:TypeId)(x:Operand):jC:=fun E k=>eZ E x fun v=>Option.casesOn (P.underlying t) False fun d=>match d with|.interface _=>False|_=>k (.iface t v)
def aGB (P:Program)(t:TypeId):Bool:=match P.underlying t with|some (.interface _)=>false|some _=>true|none=>false
noncomputable def aJF (P:Program)(t:TypeId)(ok:Bool)(v:V)(k:V->Prop):Prop:=match v with
 | .nilIface=>dD ok (Option.casesOn (aAa P t) False fun z=>k (.tup [z,.bool false]))
 | .iface u v=>Bool.rec (dD ok (Option.casesOn (aAa P t) False fun z=>k (.tup [z,.bool false]))) (Bool.rec (k v) (k (.tup [v,.bool true])) ok) (Nat.beq u t)
 | _=>False
noncomputable def aDZ (P:Program)(x:Operand)(t:TypeId)(ok:Bool):jC:=fun E k=>eZ E x fun v=>dD (aGB P t) (aJF P t ok v k)
noncomputable def aMU (fn:Fn)(a b:Array Operand):jC:=fun E k=>rY E a.toList fun a=>rY E b.toList fun b=>k (.func fn a b)
noncomputable def lQ (E:Env)(x:Option Operand)(d:Nat)(k:Nat->Prop):Prop:=Option.casesOn x (k d) fun x=>eZ E x fun v=>aHn v k
noncomputable def aEr (n:Nat)(es id off:Nat)(E:Env)(lo hi:Option Operand)(k:V->Prop):Prop :=
 lQ E hi n fun h=>lQ E lo 0 fun l=>dD (Nat.ble h n) (dD (Nat.ble l h) (fN (Nat.add off (Nat.mul l es)) fun o=>fN (Nat.sub h l) fun m=>fN (Nat.sub n l) fun c=>k (.slice id o m c es true)))
noncomputable def aEf (P:Program)(t:TypeId)(x:Operand)(lo hi mx:Option Operand):jC:=fun E k=>eZ E x fun v=>Option.casesOn (P.underlying t) False fun d=>match d,v with
 | .string,.str s=>Option.casesOn mx (lQ E hi (dH s) fun h=>lQ E lo 0 fun l=>dD (Nat.ble h (dH s)) (dD (Nat.ble l h) (kM l s fun s=>fX (Nat.sub h l) s fun s=>k (.str s)))) fun _=>False
 | .slice e,.slice id off n c es ex=>uW P e fun sz=>dD (Nat.beq sz es) (lQ E hi n fun h=>lQ E lo 0 fun l=>dD (Nat.ble l h)
   (Option.casesOn mx (dD (Nat.ble h c) (fN (Nat.add off (Nat.mul l es)) fun o=>fN (Nat.sub h l) fun n=>fN (Nat.sub c l) fun c=>k (.slice id o n c es ex)))
    (fun m=>eZ E m fun m=>aHn m fun m=>dD (hi.isSome) (dD (Nat.ble h m) (dD (Nat.ble m c) (fN (Nat.add off (Nat.mul l es)) fun o=>fN (Nat.sub h l) fun n=>fN (Nat.sub m l) fun c=>k (.slice id o n c es true)))))))
 | .slice e,.nilSlice=>uW P e fun _=>Option.casesOn mx (lQ E hi 0 fun h=>lQ E lo 0 fun l=>dD (Nat.beq h 0) (dD (Nat.beq l 0) (k .nilSlice))) fun _=>False
 | _,_=>False
noncomputable def uH (P:Program)(t:TypeId)(x:Operand)(i:Nat):jC:=fun E k=>eZ E x fun v=>aFf v fun id off =>
 Option.casesOn (aEC P t i) False fun f=>uW P f.type fun n=>Nat.casesOn n False fun _=>fN (Nat.add off f.offset) fun o=>k (.ptr id o)
noncomputable def cR (P:Program)(t:TypeId)(off:Nat)(cs:List V)(k:V->Prop):Prop :=
 Option.casesOn (pY P t) False fun g=>Bool.rec (Option.casesOn (nth cs off) False k) (uW P t fun n=>kM off cs fun r=>fX n r fun r=>k (.agg r)) g
noncomputable def aHD (P:Program)(t:TypeId)(x:Operand)(i:Nat):jC:=fun E k=>eZ E x fun v=>aUk v fun cs =>
 Option.casesOn (aEC P t i) False fun f=>cR P f.type f.offset cs k
structure Ix where
 run:V->Nat->(V->Prop)->Prop
noncomputable def ixA (P:Program)(t:TypeId):Ix:=match P.underlying t with
 | some (.slice e)=>match P.info? e with|some i=>⟨fun v n k=>aUl v (fun id off len _ es _=>dD (Nat.beq i.size es) (dD (Nat.blt n len) (fN (Nat.add off (Nat.mul n es)) fun o=>k (.ptr id o)))) False⟩|none=>⟨fun _ _ _=>False⟩
 | some (.array m e)=>match P.info? e with|some i=>⟨fun v n k=>aFf v fun id off=>dD (Nat.blt n m) (fN (Nat.add off (Nat.mul n i.size)) fun o=>k (.ptr id o))⟩|none=>⟨fun _ _ _=>False⟩
 | _=>⟨fun _ _ _=>False⟩
noncomputable def uI (P:Program)(t:TypeId)(x ix:Operand):jC:=fun E k=>eZ E x fun v=>eZ E ix fun i=>aHn i fun i=>Ix.rec (motive:=fun _=>Prop) (fun f=>f v i k) (ixA P t)
noncomputable def ixV (P:Program)(t:TypeId):Ix:=match P.underlying t with
 | some .string=>⟨fun v i k=>aFg v fun s=>Option.rec (motive:=fun _=>Prop) False (fun b=>fN b.toNat fun n=>k (.int .u8 (Int.ofNat n))) (nth s i)⟩
 | some (.array m e)=>match P.info? e with|some f=>⟨fun v i k=>aUk v fun cs=>dD (Nat.blt i m) (cR P e (Nat.mul i f.size) cs k)⟩|none=>⟨fun _ _ _=>False⟩
 | _=>⟨fun _ _ _=>False⟩
noncomputable def aHG (P:Program)(t:TypeId)(x ix:Operand):jC:=fun E k=>eZ E x fun v=>eZ E ix fun i=>aHn i fun i=>Ix.rec (motive:=fun _=>Prop) (fun f=>f v i k) (ixV P t)
noncomputable def aAF (x:Operand)(i:Nat):jC:=fun E k=>eZ E x fun v=>aWs v fun l=>Option.casesOn (nth l i) False k
def wR (P:Program):List Field->Option (List (Nat × Nat))
 | []=>some []
 | f :: fs=>match P.info? f.type with
   | none=>none
   | some i=>match wR P fs with
     | none=>none
     | some r=>some ((f.offset,i.size) :: r)
def aOY (P:Program)(t:TypeId):Option (Nat->Option (Nat × Nat)):=match P.underlying t with
 | some (.struct fs)=>match wR P fs.toList with|some l=>some fun i=>l[i]?|none=>none
 | some (.array _ e)=>match P.info? e with|some i=>some fun n=>some (n * i.size,i.size)|none=>none
 | _=>none
noncomputable def aNY (E:Env)(place:Nat->Option (Nat × Nat))(l:List (Nat × Operand)):List V->(List V->Prop)->Prop :=
 List.rec (motive:=fun _=>List V->(List V->Prop)->Prop) (fun cs k=>k cs)
  (fun p _ ih cs k=>Option.casesOn (place p.1) False fun q=>eZ E p.2 fun v=>dD (Nat.beq (dH v.cells) q.2) (dD (Nat.blt 0 q.2) (eJ v.cells q.1 cs fun cs=>ih cs k))) l
noncomputable def aHA (P:Program)(t:TypeId)(ps:Array (Nat × Operand)):jC:=fun E k =>
 Option.casesOn (uD P t) False fun z=>Option.casesOn (aOY P t) False fun pl=>aNY E pl ps.toList z fun cs=>k (.agg cs)
theorem bV {n:Nat}{k:Nat->Prop}(h:fN n k):k n:=by cases n <;> exact h
theorem sS {n:Int}{k:Int->Prop}(h:fI n k):k n:=by
 cases n with
 | ofNat n=>exact bV (k:=fun n=>k (Int.ofNat n)) h
 | negSucc n=>exact bV (k:=fun n=>k (Int.negSucc n)) h
theorem dX {b:Bool}{k:Bool->Prop}(h:fB b k):k b:=by cases b <;> exact h
theorem aT {b:Bool}{k:Prop}(h:dD b k):b=true∧k:=by
 cases b with
 | false=>exact h.elim
 | true=>exact ⟨rfl,h⟩
theorem bF (x y:Int):qG x y=decide (x < y):=by
 cases x <;> cases y <;> simp only [qG,Nat.blt_eq]
 ·rename_i a b
  show Nat.blt a b=_;rw [Bool.eq_iff_iff];simp
 ·simp;omega
 ·simp;omega
 ·rename_i a b
  show Nat.blt b a=_;rw [Bool.eq_iff_iff];simp;omega
theorem iZ (x y:Int):xU x y=(x == y):=by
 cases x <;> cases y <;> simp only [xU]
 ·rename_i a b
  show Nat.beq a b=_;rw [Bool.eq_iff_iff];simp;omega
 ·rw [Bool.eq_iff_iff];simp
 ·rw [Bool.eq_iff_iff];simp
 ·rename_i a b
  show Nat.beq a b=_;rw [Bool.eq_iff_iff];simp
theorem qU (k:IntKind)(n:Int)(h1:k.min <= n)(h2:n <= k.max):k.wrap n=n:=by
 cases k <;> simp [IntKind.wrap,IntKind.min,IntKind.max,IntKind.signed,IntKind.bits] at * <;> first|(split <;> omega)|omega
theorem lU {a:IntKind}{n:Int}{k:Int->Prop}(h:eQ a n k):k (a.wrap n):=by
 cases n with
 | ofNat m =>
   have h':Bool.rec (motive:=fun _=>Prop) (fI (a.wrap (Int.ofNat m)) k) (fN m fun m=>k (Int.ofNat m)) (Nat.ble m (rF a)):=h
   cases hb:Nat.ble m (rF a) with
   | false=>rw [hb] at h';exact sS h'
   | true =>
     rw [hb] at h';have hm:=ae hb
     rw [qU a (Int.ofNat m) (by cases a <;> simp [IntKind.min,IntKind.signed,IntKind.bits] <;> omega) (by
      cases a <;> simp [IntKind.max,IntKind.signed,IntKind.bits,rF] at * <;> omega)]
     exact bV (k:=fun m=>k (Int.ofNat m)) h'
 | negSucc m =>
   have h':Option.rec (motive:=fun _=>Prop) (fI (a.wrap (Int.negSucc m)) k) (fun t=>Bool.rec (motive:=fun _=>Prop) (fI (a.wrap (Int.negSucc m)) k) (fN m fun m=>k (Int.negSucc m)) (Nat.ble m t)) (aCI a):=h
   cases hl:aCI a with
   | none=>rw [hl] at h';exact sS h'
   | some t =>
     rw [hl] at h'
     cases hb:Nat.ble m t with
     | false=>simp only [hb] at h';exact sS h'
     | true =>
       simp only [hb] at h';have hm:=ae hb
       rw [qU a (Int.negSucc m) (by
        cases a <;> simp [aCI] at hl <;> subst hl <;> simp [IntKind.min,IntKind.signed,IntKind.bits] <;> omega) (by
        cases a <;> simp [IntKind.max,IntKind.signed,IntKind.bits] <;> omega)]
       exact bV (k:=fun m=>k (Int.negSucc m)) h'
theorem aIC {a b:IntKind}(h:kEq a b=true):a=b:=of_decide_eq_true h
theorem xF {a b:UInt8}(h:a.toNat=b.toNat):a=b:=UInt8.toNat_inj.1 h
theorem cY:∀ (a b:List UInt8),kG a b=(a == b)
 | [],[]=>rfl
 | [],_ :: _=>rfl
 | _ :: _,[]=>rfl
 | x :: a,y :: b=>by
   show Bool.rec (motive:=fun _=>Bool) false (kG a b) (Nat.beq x.toNat y.toNat)=_;rw [cY a b,List.cons_beq_cons]
   cases h:Nat.beq x.toNat y.toNat with
   | true=>rw [xF (aj h)];simp
   | false =>
     have:(x == y)=false:=by
      rw [beq_eq_false_iff_ne];intro e;rw [e] at h;simp at h
     rw [this];rfl
theorem qH:∀ (a b:List UInt8),jJ a b=Op.bytesLess a b
 | [],[]=>rfl
 | [],_ :: _=>rfl
 | _ :: _,[]=>rfl
 | x :: a,y :: b=>by
   show Bool.rec (motive:=fun _=>Bool) (Nat.blt x.toNat y.toNat) (jJ a b) (Nat.beq x.toNat y.toNat)=_;rw [qH a b];simp only [Op.bytesLess]
   cases h:Nat.beq x.toNat y.toNat with
   | true =>
     rw [xF (aj h)];simp [UInt8.lt_irrefl]
   | false =>
     have hne:(x == y)=false:=by
      rw [beq_eq_false_iff_ne];intro e;rw [e] at h;simp at h
     rw [hne];show Nat.blt x.toNat y.toNat=_;rw [Bool.eq_iff_iff];simp [UInt8.lt_iff_toNat_lt]
theorem aM {α:Type}(l:List α):dH l=l.length:=by
 have:∀ (l:List α) (n:Nat),(List.rec (motive:=fun _=>Nat->Nat) (fun n=>n) (fun _ _ ih n=>ih (Nat.succ n)) l n:Nat)=n+l.length:=by
  intro l
  induction l with
  | nil=>intro n;rfl
  | cons x l ih=>intro n;show (List.rec (motive:=fun _=>Nat->Nat) (fun n=>n) (fun _ _ ih n=>ih (Nat.succ n)) l (Nat.succ n):Nat)=_;rw [ih];simp;omega
 have h:=this l 0;rw [Nat.zero_add] at h;exact h
theorem gP {α:Type}:∀ {n:Nat} {l:List α} {k:List α->Prop},fX n l k->n <= l.length∧k (l.take n)
 | 0,_,_,h=>⟨ai _,by rw [List.take_zero];exact h⟩
 | n+1,[],_,h=>h.elim
 | n+1,x :: l,k,h=>by
   obtain ⟨a,b⟩:=gP (show fX n l fun r=>k (x :: r) from h);exact ⟨by simpa using a,by simpa using b⟩
theorem iD {α:Type}:∀ {n:Nat} {l:List α} {k:List α->Prop},kM n l k->n <= l.length∧k (l.drop n)
 | 0,_,_,h=>⟨ai _,by rw [List.drop_zero];exact h⟩
 | n+1,[],_,h=>h.elim
 | n+1,x :: l,k,h=>by
   obtain ⟨a,b⟩:=iD (show kM n l k from h);exact ⟨by simpa using a,by simpa using b⟩
theorem jV {α:Type}{a b:List α}{k:List α->Prop}(h:nH a b k):k (a ++ b):=by
 induction a generalizing k with
 | nil=>exact h
 | cons x a ih=>exact ih (k:=fun r=>k (x :: r)) h
theorem aQ {α:Type}{o:Option α}{k:α->Prop}(h:Option.rec (motive:=fun _=>Prop) False k o):∃ a,o=some a∧k a:=by
 cases o with
 | none=>exact h.elim
 | some a=>exact ⟨a,rfl,h⟩
theorem VR.ofV1 {ρ:Rho}{v:Value}(h:aCJ v=true):VR ρ (ofV1 v) v:=by
 cases v with
 | bool b=>exact .bool b
 | int k n=>exact .int k n
 | float k n=>exact .float k n
 | string s=>exact .str s.data.toList
 | pointer a=>cases a with
   | none=>exact .nilPtr
   | some a=>simp [aCJ] at h
 | slice a len cap=>cases a with
   | none =>
     cases len <;> cases cap <;> simp [aCJ] at h;exact .nilSlice
   | some a=>simp [aCJ] at h
 | map r=>cases r with
   | none=>exact .nilMap
   | some a=>simp [aCJ] at h
 | nilFunc=>exact .nilFunc
 | nilIface=>exact .nilIface
 | _=>simp [aCJ] at h
theorem VRs.ofV1 {ρ:Rho}:∀ {l:List Value},l.all aCJ=true->VRs ρ (l.map Am.ofV1) l
 | [],_=>.nil
 | v :: l,h=>by
   simp at h;exact .cons (VR.ofV1 h.1) (VRs.ofV1 (by simpa using h.2))
theorem VR.ofV {ρ:Rho}{v:Value}(h:okV v=true):VR ρ (ofV v) v:=by
 cases v with
 | agg cs=>exact .agg (VRs.ofV1 (by simpa [okV] using h))
 | bool _|int _ _|float _ _|complex _ _ _|string _|pointer _|slice _ _ _|map _|chan _|func _ _ _|nilFunc|iface _ _|nilIface|tuple _=>exact VR.ofV1 (by simpa [okV] using h)
theorem eX {P:Program}{t:TypeId}{k:Nat->Prop}(h:uW P t k):∃ i,P.info? t=some i∧k i.size:=aQ h
theorem pB {P:Program}{t:TypeId}{i:TypeInfo}(h:P.info? t=some i)(w:World):(typeInfo t).run P w=.ok i w:=by simp [typeInfo,h]
theorem bP {P:Program}{t:TypeId}{i:TypeInfo}(h:P.info? t=some i)(w:World):(sizeOf t).run P w=.ok i.size w:=by simp [sizeOf,pB h]
theorem qO {P:Program}{t:TypeId}{g:Bool}(h:pY P t=some g)(w:World):(isAgg t).run P w=.ok g w:=by
 unfold pY at h
 cases hu:P.underlying t with
 | none=>rw [hu] at h;simp at h
 | some d =>
   rw [hu] at h;cases d <;> simp at h <;> subst h <;> simp [isAgg,run_underlying hu]
theorem qV {P:Program}{t:TypeId}{z:V}(h:aAa P t=some z):∃ i v,P.info? t=some i∧i.zero=some v∧okV v=true∧z=ofV v:=by
 unfold aAa at h
 cases hi:P.info? t with
 | none=>rw [hi] at h;simp at h
 | some i =>
   rw [hi] at h
   cases hz:i.zero with
   | none=>simp [hz] at h
   | some v =>
     simp only [hz] at h
     split at h
     ·rename_i ho;simp at h;exact ⟨i,v,rfl,hz,ho,h.symm⟩
     ·simp at h
theorem dA {P:Program}{t:TypeId}{i:TypeInfo}{v:Value}(h:P.info? t=some i)(hz:i.zero=some v)(w:World):(zeroValue t).run P w=.ok v w:=by
 simp [zeroValue,pB h,hz]
theorem lV {P:Program}{t:TypeId}{z:List V}(h:uD P t=some z):∃ i v,P.info? t=some i∧i.zero=some v∧okV v=true∧z=(ofV v).cells:=by
 unfold uD at h
 cases hv:aAa P t with
 | none=>rw [hv] at h;simp at h
 | some u =>
   rw [hv] at h;simp at h;obtain ⟨i,v,a,b,c,rfl⟩:=qV hv;exact ⟨i,v,a,b,c,h.symm⟩
def OpV (E:Env)(x:Operand)(v:V):Prop:=match x with
 | .tmp t=>tget E t=some v
 | .const c=>okV c=true∧v=ofV c
 | .global g=>g < aI∧v=.ptr g 0
 | .func f=>v=.func (.func f) [] []
theorem bG {E:Env}{x:Operand}{k:V->Prop}(h:eZ E x k):∃ v,OpV E x v∧k v:=by
 cases x with
 | tmp t=>obtain ⟨v,a,b⟩:=aQ (show Option.rec (motive:=fun _=>Prop) False k (tget E t) from h);exact ⟨v,a,b⟩
 | const c =>
   have h':Oc.rec (motive:=fun _=>Env->(V->Prop)->Prop) aIL aON aOM (match okV c with|true=>Oc.val (ofV c)|false=>.bad) E k:=h
   cases hc:okV c with
   | true=>rw [hc] at h';exact ⟨_,⟨hc,rfl⟩,h'⟩
   | false=>rw [hc] at h';exact h'.elim
 | global g =>
   have h':Oc.rec (motive:=fun _=>Env->(V->Prop)->Prop) aIL aON aOM (match Nat.blt g aI with|true=>Oc.val (.ptr g 0)|false=>.bad) E k:=h
   cases hc:Nat.blt g aI with
   | true=>rw [hc] at h';exact ⟨_,⟨by simpa using hc,rfl⟩,h'⟩
   | false=>rw [hc] at h';exact h'.elim
 | func f=>exact ⟨_,rfl,h⟩
def aMQ (E:Env):List Operand->List V->Prop
 | [],[]=>True
 | x :: l,v :: vs=>OpV E x v∧aMQ E l vs
 | _,_=>False
theorem lP {E:Env}:∀ {l:List Operand} {k:List V->Prop},rY E l k->∃ vs,aMQ E l vs∧k vs
 | [],k,h=>⟨[],trivial,h⟩
 | x :: l,k,h=>by
   obtain ⟨v,a,b⟩:=bG (show eZ E x fun v=>rY E l fun vs=>k (v :: vs) from h);obtain ⟨vs,c,d⟩:=lP b;exact ⟨v :: vs,⟨a,c⟩,d⟩
def vC (ρ:Rho)(E:Env)(ev:Operand->Value)(l:List Operand):Prop:=∀ x ∈ l,∀ v,OpV E x v->VR ρ v (ev x)
theorem vC.one {ρ:Rho}{E:Env}{ev:Operand->Value}{l:List Operand}(h:vC ρ E ev l){x:Operand}(hx:x ∈ l){v:V}(hv:OpV E x v):VR ρ v (ev x):=h x hx v hv
theorem vC.list {ρ:Rho}{E:Env}{ev:Operand->Value}{l:List Operand}(h:vC ρ E ev l):∀ {xs:List Operand} {vs:List V},(∀ x ∈ xs,x ∈ l)->aMQ E xs vs->VRs ρ vs (xs.map ev)
 | [],[],_,_=>.nil
 | x :: xs,v :: vs,hl,⟨a,b⟩=>.cons (h x (hl x sm) v a) (h.list (fun y hy=>hl y (by simp [hy])) b)
 | [],_ :: _,_,h=>h.elim
 | _ :: _,[],_,h=>h.elim
def evT (tmps:Array Value):Operand->Value
 | .tmp t=>tmps.getD t undef
 | .const v=>v
 | .global g=>.pointer (some ⟨g,0,none⟩)
 | .func f=>.func (.func f) #[] #[]
def dZ (ρ:Rho):Prop:=∀ g,g < aI->∃ l,ρ g=some l∧l.blk=g∧l.base=0
theorem vC.of_ER {ρ:Rho}{E:Env}{tmps:Array Value}(he:ER ρ E tmps)(hg:dZ ρ)(l:List Operand):vC ρ E (evT tmps) l:=fun x _ v hv=>by
 cases x with
 | tmp t =>
   obtain ⟨v',a,b⟩:=he t v hv
   have:evT tmps (.tmp t)=v':=by simp [evT,Array.getD_eq_getD_getElem?,a]
   rw [this];exact b
 | const c=>obtain ⟨a,rfl⟩:=hv;exact VR.ofV a
 | global g =>
   obtain ⟨a,rfl⟩:=hv;obtain ⟨l,h1,h2,h3⟩:=hg g a;have:=VR.ptr (ρ:=ρ) 0 h1;rw [h2,h3] at this;exact this
 | func f=>cases hv;exact .func _ .nil .nil
theorem aCq {v:V}{k:Bool->Prop}(h:xG v k):∃ b,v=.bool b∧k b:=by cases v <;> first|exact h.elim|exact ⟨_,rfl,h⟩
theorem gW {v:V}{k:IntKind->Int->Prop}(h:aHm v k):∃ a n,v=.int a n∧k a n:=by cases v <;> first|exact h.elim|exact ⟨_,_,rfl,h⟩
theorem lT {v:V}{k:List UInt8->Prop}(h:aFg v k):∃ b,v=.str b∧k b:=by cases v <;> first|exact h.elim|exact ⟨_,rfl,h⟩
theorem kE {v:V}{k:Nat->Nat->Prop}(h:aFf v k):∃ i o,v=.ptr i o∧k i o:=by cases v <;> first|exact h.elim|exact ⟨_,_,rfl,h⟩
theorem aDW {v:V}{k:List V->Prop}(h:aUk v k):∃ b,v=.agg b∧k b:=by cases v <;> first|exact h.elim|exact ⟨_,rfl,h⟩
theorem aMG {v:V}{k:List V->Prop}(h:aWs v k):∃ b,v=.tup b∧k b:=by cases v <;> first|exact h.elim|exact ⟨_,rfl,h⟩
theorem lS {v:V}{k:Nat->Prop}(h:aHn v k):∃ a n,v=.int a (Int.ofNat n)∧k n:=by
 cases v with
 | int a n=>cases n with
   | ofNat n=>exact ⟨a,n,rfl,h⟩
   | negSucc n=>exact h.elim
 | _=>exact h.elim
section
variable {P:Program} {E:Env}
def iV (P:Program)(o:Op)(E:Env)(v:V):Prop :=
 ∀ (ρ:Rho) (ev:Operand->Value) (x:Oper) (w:World),x.op=o->vC ρ E ev o.operands.toList->∃ v',(execOp ev x).run P w=.ok (.value v') w∧VR ρ v v'
theorem aHI {x:Operand}{k:V->Prop}(h:aCT x E k):∃ v,k v∧iV P (.move x) E v:=by
 obtain ⟨v,a,b⟩:=bG (show eZ E x k from h);exact ⟨v,b,fun ρ ev o w ho hev=>⟨ev x,by simp [execOp,ho],hev.one (by simp [Op.operands]) a⟩⟩
theorem aEb {x:Operand}{k:V->Prop}(h:aCT x E k):∃ v,k v∧iV P (.assign x) E v:=by
 obtain ⟨v,a,b⟩:=bG (show eZ E x k from h);exact ⟨v,b,fun ρ ev o w ho hev=>⟨ev x,by simp [execOp,ho],hev.one (by simp [Op.operands]) a⟩⟩
theorem aHK {c a b:Operand}{k:V->Prop}(h:aMX c a b E k):∃ v,k v∧iV P (.pick c a b) E v:=by
 obtain ⟨u,h1,h2⟩:=bG (show eZ E c _ from h);obtain ⟨t,rfl,h3⟩:=aCq h2
 cases t with
 | false =>
   obtain ⟨v,h4,h5⟩:=bG (show eZ E b k from h3);refine ⟨v,h5,fun ρ ev o w ho hev=>⟨ev b,?_,hev.one (by simp [Op.operands]) h4⟩⟩;have hc:=hev.one (x:=c) (by simp [Op.operands]) h1;generalize hce:ev c=cv at hc;cases hc;simp [execOp,ho,hce,asBool]
 | true =>
   obtain ⟨v,h4,h5⟩:=bG (show eZ E a k from h3);refine ⟨v,h5,fun ρ ev o w ho hev=>⟨ev a,?_,hev.one (by simp [Op.operands]) h4⟩⟩;have hc:=hev.one (x:=c) (by simp [Op.operands]) h1;generalize hce:ev c=cv at hc;cases hc;simp [execOp,ho,hce,asBool]
theorem aAH {x:Operand}{k:V->Prop}(h:xM x E k):∃ v,k v∧iV P (.nilCheck x) E v:=by
 obtain ⟨v,a,b⟩:=bG (show eZ E x _ from h)
 cases v with
 | ptr i o =>
   refine ⟨_,b,fun ρ ev oo w ho hev=>⟨ev x,?_,hev.one (by simp [Op.operands]) a⟩⟩;have hc:=hev.one (x:=x) (by simp [Op.operands]) a;generalize hce:ev x=cv at hc;cases hc;simp [execOp,ho,hce]
 | func fn c d =>
   cases fn with
   | func f =>
     refine ⟨_,b,fun ρ ev oo w ho hev=>⟨ev x,?_,hev.one (by simp [Op.operands]) a⟩⟩;have hc:=hev.one (x:=x) (by simp [Op.operands]) a;generalize hce:ev x=cv at hc;cases hc;simp [execOp,ho,hce]
   | _=>exact b.elim
 | yield i =>
   refine ⟨_,b,fun ρ ev oo w ho hev=>⟨ev x,?_,hev.one (by simp [Op.operands]) a⟩⟩;have hc:=hev.one (x:=x) (by simp [Op.operands]) a;generalize hce:ev x=cv at hc;cases hc;simp [execOp,ho,hce]
 | _=>exact b.elim
theorem mA {op:BinOp}{a:IntKind}{x y:Int}{k:V->Prop}(h:xQ op a x y k):∃ n,k (.int a n)∧∀ w,(Op.intBits op a x y).run P w=.ok (.int a n) w:=by
 cases op <;> first|exact h.elim|exact ⟨_,sS (k:=fun n=>k (.int a n)) h,fun w=>by simp [Op.intBits]⟩
theorem aIz {op:BinOp}{a:IntKind}{x y:Int}{k:V->Prop}(hs:op ≠ .shl)(hr:op ≠ .shr)(h:aGj op a x y k) :
  ∃ v v',k v∧(∀ ρ,VR ρ v v')∧∀ t w,(binOp op t (.int a x) (.int a y)).run P w=.ok v' w:=by
 cases op with
 | add=>exact ⟨_,_,lU (k:=fun n=>k (.int a n)) h,fun ρ=>.int _ _,fun t w=>by simp only [binOp,Op.intArith,ne_eq,not_true_eq_false,if_false];rfl⟩
 | sub=>exact ⟨_,_,lU (k:=fun n=>k (.int a n)) h,fun ρ=>.int _ _,fun t w=>by simp only [binOp,Op.intArith,ne_eq,not_true_eq_false,if_false];rfl⟩
 | mul=>exact ⟨_,_,lU (k:=fun n=>k (.int a n)) h,fun ρ=>.int _ _,fun t w=>by simp only [binOp,Op.intArith,ne_eq,not_true_eq_false,if_false];rfl⟩
 | quo =>
   have h':Bool.rec (motive:=fun _=>Prop) (eQ a (Int.tdiv x y) fun n=>k (.int a n)) False (xU y 0):=h;rw [iZ] at h';by_cases hy:y=0
   ·subst hy;exact h'.elim
   ·have:(y == 0)=false:=by simpa using hy
    rw [this] at h';exact ⟨_,_,lU (k:=fun n=>k (.int a n)) h',fun ρ=>.int _ _,fun t w=>by simp [binOp,Op.intDiv,hy]⟩
 | rem =>
   have h':Bool.rec (motive:=fun _=>Prop) (fI (Int.tmod x y) fun n=>k (.int a n)) False (xU y 0):=h;rw [iZ] at h';by_cases hy:y=0
   ·subst hy;exact h'.elim
   ·have:(y == 0)=false:=by simpa using hy
    rw [this] at h';exact ⟨_,_,sS (k:=fun n=>k (.int a n)) h',fun ρ=>.int _ _,fun t w=>by simp [binOp,Op.intDiv,hy]⟩
 | and=>obtain ⟨n,a1,b⟩:=mA (P:=P) (op:=.and) h;exact ⟨_,_,a1,fun ρ=>.int _ _,fun t w=>by simpa [binOp] using b w⟩
 | or=>obtain ⟨n,a1,b⟩:=mA (P:=P) (op:=.or) h;exact ⟨_,_,a1,fun ρ=>.int _ _,fun t w=>by simpa [binOp] using b w⟩
 | xor=>obtain ⟨n,a1,b⟩:=mA (P:=P) (op:=.xor) h;exact ⟨_,_,a1,fun ρ=>.int _ _,fun t w=>by simpa [binOp] using b w⟩
 | andNot=>obtain ⟨n,a1,b⟩:=mA (P:=P) (op:=.andNot) h;exact ⟨_,_,a1,fun ρ=>.int _ _,fun t w=>by simpa [binOp] using b w⟩
 | eql=>exact ⟨_,_,dX (k:=fun b=>k (.bool b)) h,fun ρ=>.bool _,fun t w=>by simp [binOp,Op.intCmp,iZ]⟩
 | neq=>exact ⟨_,_,dX (k:=fun b=>k (.bool (!b))) h,fun ρ=>.bool _,fun t w=>by simp [binOp,Op.intCmp,iZ,bne]⟩
 | lss=>exact ⟨_,_,dX (k:=fun b=>k (.bool b)) h,fun ρ=>.bool _,fun t w=>by simp [binOp,Op.intCmp,bF]⟩
 | leq=>exact ⟨_,_,dX (k:=fun b=>k (.bool (!b))) h,fun ρ=>.bool _,fun t w=>by simp [binOp,Op.intCmp,bF,<- Int.not_lt]⟩
 | gtr=>exact ⟨_,_,dX (k:=fun b=>k (.bool b)) h,fun ρ=>.bool _,fun t w=>by simp [binOp,Op.intCmp,bF]⟩
 | geq=>exact ⟨_,_,dX (k:=fun b=>k (.bool (!b))) h,fun ρ=>.bool _,fun t w=>by simp [binOp,Op.intCmp,bF,<- Int.not_lt]⟩
 | shl=>exact absurd rfl hs
 | shr=>exact absurd rfl hr
theorem wX {op:BinOp}{a b:IntKind}{x y:Int}{k:V->Prop}(h:aEZ op a x y k) :
  ∃ v v',k v∧(∀ ρ,VR ρ v v')∧∀ t w,(binOp op t (.int a x) (.int b y)).run P w=.ok v' w:=by
 cases y with
 | negSucc y=>exact h.elim
 | ofNat y =>
   have hn:¬ ((Int.ofNat y) < 0):=by simp
   have ht:(Int.ofNat y).toNat=y:=rfl
   cases op <;> first
    | exact h.elim
    | (refine ⟨_,_,sS (k:=fun n=>k (.int a n)) h,fun ρ=>.int _ _,fun t w=>?_⟩
       simp only [binOp,Op.shift,hn,if_false,ht,Sem.run_pure])
theorem aJi {op:BinOp}{x y:List UInt8}{k:V->Prop}(h:aKx op x y k) :
  ∃ v v',k v∧(∀ ρ,VR ρ v v')∧∀ t w,(binOp op t (.string ⟨⟨x⟩⟩) (.string ⟨⟨y⟩⟩)).run P w=.ok v' w:=by
 have hl:∀ l:List UInt8,(⟨⟨l⟩⟩:ByteArray).toList=l:=fun l=>ByteArray.toList_eq _
 cases op with
 | add =>
   obtain ⟨h1,h2⟩:=aT h;rw [aM,aM] at h1;have h1':x.length+y.length <= 9223372036854775807:=ae h1;refine ⟨_,_,jV h2,fun ρ=>.str _,fun t w=>?_⟩
   have hs:¬ (((⟨⟨x⟩⟩:ByteArray).size+(⟨⟨y⟩⟩:ByteArray).size:Nat):Int) > IntKind.i64.max:=by
    have e1:(⟨⟨x⟩⟩:ByteArray).size=x.length:=rfl;have e2:(⟨⟨y⟩⟩:ByteArray).size=y.length:=rfl;rw [e1,e2];simp [IntKind.max,IntKind.signed,IntKind.bits];omega
   have ha:(⟨⟨x⟩⟩:ByteArray) ++ (⟨⟨y⟩⟩:ByteArray)=⟨⟨x ++ y⟩⟩:=by
    apply ByteArray.ext;simp [ByteArray.data_append]
   simp only [binOp,Op.stringOp,if_neg hs,ha,Sem.run_pure]
 | eql=>exact ⟨_,_,dX (k:=fun b=>k (.bool b)) h,fun ρ=>.bool _,fun t w=>by simp [binOp,Op.stringOp,cY,hl]⟩
 | neq=>exact ⟨_,_,dX (k:=fun b=>k (.bool (!b))) h,fun ρ=>.bool _,fun t w=>by simp [binOp,Op.stringOp,cY,hl]⟩
 | lss=>exact ⟨_,_,dX (k:=fun b=>k (.bool b)) h,fun ρ=>.bool _,fun t w=>by simp [binOp,Op.stringOp,qH,hl]⟩
 | geq=>exact ⟨_,_,dX (k:=fun b=>k (.bool (!b))) h,fun ρ=>.bool _,fun t w=>by simp [binOp,Op.stringOp,qH,hl]⟩
 | leq=>exact ⟨_,_,dX (k:=fun b=>k (.bool (_ || b))) (dX (k:=fun a=>fB (kG x y) fun b=>k (.bool (a || b))) h),fun ρ=>.bool _,fun t w=>by simp [binOp,Op.stringOp,qH,cY,hl]⟩
 | gtr=>exact ⟨_,_,dX (k:=fun b=>k (.bool (!(_ || b)))) (dX (k:=fun a=>fB (kG x y) fun b=>k (.bool (!(a || b)))) h),fun ρ=>.bool _,fun t w=>by simp [binOp,Op.stringOp,qH,cY,hl]⟩
 | _=>exact h.elim
theorem vW {op:BinOp}{a:FloatKind}{x y:Nat}{k:V->Prop}(h:aEE op a x y k) :
  ∃ v v',k v∧(∀ ρ,VR ρ v v')∧∀ t w,(binOp op t (.float a x) (.float a y)).run P w=.ok v' w:=by
 cases op with
 | add=>obtain ⟨r,h1,h2⟩:=aQ h;exact ⟨_,_,bV (k:=fun r=>k (.float a r)) h2,fun ρ=>.float _ _,fun t w=>by simp [binOp,Op.floatArith,h1]⟩
 | sub=>obtain ⟨r,h1,h2⟩:=aQ h;exact ⟨_,_,bV (k:=fun r=>k (.float a r)) h2,fun ρ=>.float _ _,fun t w=>by simp [binOp,Op.floatArith,h1]⟩
 | mul=>obtain ⟨r,h1,h2⟩:=aQ h;exact ⟨_,_,bV (k:=fun r=>k (.float a r)) h2,fun ρ=>.float _ _,fun t w=>by simp [binOp,Op.floatArith,h1]⟩
 | quo=>obtain ⟨r,h1,h2⟩:=aQ h;exact ⟨_,_,bV (k:=fun r=>k (.float a r)) h2,fun ρ=>.float _ _,fun t w=>by simp [binOp,Op.floatArith,h1]⟩
 | eql=>exact ⟨_,_,dX (k:=fun b=>k (.bool b)) h,fun ρ=>.bool _,fun t w=>by simp [binOp,Op.floatCmp]⟩
 | neq=>exact ⟨_,_,dX (k:=fun b=>k (.bool (!b))) h,fun ρ=>.bool _,fun t w=>by simp [binOp,Op.floatCmp,bne]⟩
 | lss=>exact ⟨_,_,dX (k:=fun b=>k (.bool b)) h,fun ρ=>.bool _,fun t w=>by simp [binOp,Op.floatCmp]⟩
 | gtr=>exact ⟨_,_,dX (k:=fun b=>k (.bool b)) h,fun ρ=>.bool _,fun t w=>by simp [binOp,Op.floatCmp]⟩
 | _=>exact h.elim
end
section
variable {P:Program} {E:Env}
theorem qP {t:TypeId}{cs:Array Value}{off:Nat}{v:Value}(h:pY P t=some false)(hv:cs[off]?=some v)(w:World):(part t cs off).run P w=.ok v w:=by
 simp [part,qO h,hv]
theorem tX:∀ {fs:List Field} {ks:List Nat} {i:Nat} {a b:List V} {r:Bool} {ρ:Rho} {xs ys:List Value},
  tH P fs i=some ks->mT ks a b=some r->VRs ρ a (xs.drop i)->VRs ρ b (ys.drop i)->∀ d w,(Op.eqFields (d+1) ⟨xs⟩ ⟨ys⟩ fs).run P w=.ok r w
 | [],ks,i,a,b,r,ρ,xs,ys,hp,he,_,_,d,w=>by
   simp [tH] at hp;subst hp;have:some true=some r:=he;cases this;simp [Op.eqFields]
 | f :: fs,ks,i,a,b,r,ρ,xs,ys,hp,he,ha,hb,d,w=>by
   simp only [tH] at hp
   split at hp
   case isFalse=>cases hp
   case isTrue hc =>
   simp only [Bool.and_eq_true,beq_iff_eq,bne_iff_ne,ne_eq] at hc;obtain ⟨⟨ho,hn⟩,hg⟩:=hc
   have step:∀ (kd:Nat) (r':List Nat),ks=kd :: r'->tH P fs (i+1)=some r' ->
     (∀ (x y:V) (x' y':Value),∀ a b,mT (kd :: r') (x :: a) (y :: b)=some r->VR ρ x x'->VR ρ y y'->∃ e,(∀ w,(Op.equalIn (d+1) f.type x' y').run P w=.ok e w)∧(e=false->r=false)∧(e=true->mT r' a b=some r)) ->
     (Op.eqFields (d+1) ⟨xs⟩ ⟨ys⟩ (f :: fs)).run P w=.ok r w:=by
    intro kd r' hk hr' hx;subst hk
    cases a with
    | nil=>exact absurd he (by simp [mT])
    | cons x a =>
      cases b with
      | nil=>exact absurd he (by simp [mT])
      | cons y b =>
        generalize hxs:xs.drop i=xd at ha;generalize hys:ys.drop i=yd at hb
        cases ha with
        | cons hax has =>
          cases hb with
          | cons hby hbs =>
            rename_i x' xd y' yd
            obtain ⟨e,h1,h2,h3⟩:=hx x y x' y' a b he hax hby
            have gx:(⟨xs⟩:Array Value)[f.offset]?=some x':=by
             have:xs[i]?=some x':=by
              have:=congrArg (fun l=>l[0]?) hxs;simpa [List.getElem?_drop] using this
             rw [ho];simpa using this
            have gy:(⟨ys⟩:Array Value)[f.offset]?=some y':=by
             have:ys[i]?=some y':=by
              have:=congrArg (fun l=>l[0]?) hys;simpa [List.getElem?_drop] using this
             rw [ho];simpa using this
            have dx:xs.drop (i+1)=xd:=by
             have:=congrArg (List.drop 1) hxs;simpa [List.drop_drop,Nat.add_comm] using this
            have dy:ys.drop (i+1)=yd:=by
             have:=congrArg (List.drop 1) hys;simpa [List.drop_drop,Nat.add_comm] using this
            have hne:f.name ≠ "_" := hn;simp only [Op.eqFields,if_pos hne,Sem.run_bind,qP hg gx,qP hg gy,h1,Result.andThen_ok]
            cases e with
            | false=>rw [h2 rfl];simp
            | true =>
              have:=tX hr' (h3 rfl) (by rw [dx];exact has) (by rw [dy];exact hbs) d w;simpa using this
   split at hp
   ·rename_i _ r' hu hr'
    cases hp;refine step 0 _ rfl hr' fun x y x' y' a b hq hx hy=>?_
    cases x <;> cases y <;> first|(cases hq;done)|skip
    rename_i j m k n
    have hq':Bool.rec (motive:=fun _=>Option Bool) none (Bool.rec (some false) (mT r' a b) (xU m n)) (kEq j k)=some r:=hq
    cases hk:kEq j k with
    | false=>rw [hk] at hq';cases hq'
    | true =>
      rw [hk] at hq';have:=aIC hk;subst this;cases hx;cases hy;refine ⟨m == n,fun w=>run_equalIn_int w d _ _ _ _ _ hu,fun h=>?_,fun h=>?_⟩
      ·simp only [iZ,h] at hq';cases hq';rfl
      ·simp only [iZ,h] at hq';exact hq'
   ·rename_i r' hu hr'
    cases hp;refine step 1 _ rfl hr' fun x y x' y' a b hq hx hy=>?_
    cases x <;> cases y <;> first|(cases hq;done)|skip
    rename_i s t
    have hq':Bool.rec (motive:=fun _=>Option Bool) (some false) (mT r' a b) (kG s t)=some r:=hq;cases hx;cases hy;refine ⟨s == t,fun w=>by rw [run_equalIn_string w d _ _ _ hu,ByteArray.toList_eq,ByteArray.toList_eq],fun h=>?_,fun h=>?_⟩
    ·simp only [cY,h] at hq';cases hq';rfl
    ·simp only [cY,h] at hq';exact hq'
   ·rename_i r' hu hr'
    cases hp;refine step 2 _ rfl hr' fun x y x' y' a b hq hx hy=>?_
    cases x <;> cases y <;> first|(cases hq;done)|skip
    rename_i s t
    have hq':Bool.rec (motive:=fun _=>Option Bool) (some false) (mT r' a b) (s == t)=some r:=hq;cases hx;cases hy;refine ⟨s == t,fun w=>run_equalIn_bool' w d _ _ _ hu,fun h=>?_,fun h=>?_⟩
    ·simp only [h] at hq';cases hq';rfl
    ·simp only [h] at hq';exact hq'
   ·cases hp
theorem aNM {c:Bool}{t:TypeId}{d:TypeDesc}{x y:V}{r:Bool}(hd:P.underlying t=some d)(h:eqD P c t d x y=some r){ρ:Rho}{x' y':Value}(hx:VR ρ x x')(hy:VR ρ y y') :
  (∀ w,(Op.equal t x' y').run P w=.ok r w)∧∀ (op:BinOp) (ox oy:Operand) (w:World),c=(isC ox || isC oy)->(eqGuard op t ox oy x' y').run P w=.ok () w:=by
 have hg:∀ (x' y':Value),(∀ l l',¬ (x'=.agg l∧y'=.agg l'))->¬ (x'=.nilIface∧y'=.nilIface)->∀ (op:BinOp) (ox oy:Operand) (w:World),(eqGuard op t ox oy x' y').run P w=.ok () w:=by
  intro x' y' h1 h2 op ox oy w
  cases op <;> first
   | rfl
   | (unfold eqGuard
      simp only [Bool.not_true,Bool.false_eq_true,if_false]
      split
      ·exact absurd ⟨rfl,rfl⟩ h2
      ·exact absurd ⟨rfl,rfl⟩ (h1 _ _)
      ·rfl)
 have h9:∀ (x' y':Value) (r:Bool),(∀ d w,(Op.equalIn (d+1) t x' y').run P w=.ok r w)->∀ w,(Op.equal t x' y').run P w=.ok r w:=fun _ _ _ h w=>h 9999 w;unfold eqD at h
 split at h <;> first
  | (cases h;done)
  | (cases h;cases hx;cases hy;exact ⟨h9 _ _ _ fun d w=>by simp [Op.equalIn,run_underlying hd],fun op ox oy w _=>hg _ _ sm sm op ox oy w⟩)
  | skip
 ·rename_i e i o j p
  split at h
  ·rename_i f hf
   split at h
   ·cases h
   ·rename_i hs
    split at h
    ·rename_i hij
     subst hij;cases h
     cases hx with
     | ptr off hl =>
       cases hy with
       | ptr off' hl' =>
         rw [hl] at hl';cases hl';refine ⟨h9 _ _ _ fun d w=>?_,fun op ox oy w _=>hg _ _ sm sm op ox oy w⟩;simp only [Op.equalIn,run_underlying hd,Sem.run_bind,Result.andThen_ok,bP hf,ne_eq,hs,not_false_eq_true,if_true,sameAddr,beq_self_eq_true,Sem.run_pure]
         congr 1
         rw [Bool.eq_iff_iff];simp
    ·cases h
  ·cases h
 ·split at h
  ·rename_i hc
   cases h;cases hx;cases hy;refine ⟨h9 _ _ _ fun d w=>by simp [Op.equalIn,run_underlying hd],fun op ox oy w hcc=>?_⟩;rw [hc] at hcc
   cases op <;> first
    | rfl
    | (unfold eqGuard
       cases ox <;> cases oy <;> first|(simp [isC] at hcc;done)|simp)
  ·cases h
theorem aFU {c:Bool}{t:TypeId}{x y:V}{k:Bool->Prop}(h:eqK P c t x y k) :
  ∃ r,k r∧∀ ρ x' y',VR ρ x x'->VR ρ y y'->(∀ w,(Op.equal t x' y').run P w=.ok r w)∧∀ (op:BinOp) (ox oy:Operand) (w:World),c=(isC ox || isC oy)->(eqGuard op t ox oy x' y').run P w=.ok () w:=by
 unfold eqK at h
 split at h
 ·rename_i a b
  obtain ⟨ks,h1,h2⟩:=aQ h;obtain ⟨r,h3,h4⟩:=aQ h2;refine ⟨r,dX h4,fun ρ x' y' hx hy=>?_⟩;unfold aOZ at h1
  split at h1
  ·rename_i fs hu
   split at h1
   ·rename_i hc
    simp only [Bool.and_eq_true,Bool.not_eq_true'] at hc
    have hf:P.fieldsOf t=fs:=by simp [Program.fieldsOf,hu]
    cases hx with
    | agg ha =>
      cases hy with
      | agg hb =>
        rename_i a' b'
        refine ⟨fun w=>?_,fun op ox oy w _=>run_eqGuard_agg w op t ox oy _ _ hc.2⟩;have e1:(Op.equal t (.agg ⟨a'⟩) (.agg ⟨b'⟩)).run P w=(Op.eqFields 9999 ⟨a'⟩ ⟨b'⟩ (P.fieldsOf t).toList).run P w:=run_equalIn_agg w 9999 t _ _ (by rw [hf];exact hu) hc.1;rw [e1,hf];exact tX h1 h3 (by simpa using ha) (by simpa using hb) 9998 w
   ·cases h1
  ·cases h1
 ·obtain ⟨d,h1,h2⟩:=aQ h;obtain ⟨r,h3,h4⟩:=aQ h2;exact ⟨r,dX h4,fun ρ x' y' hx hy=>aNM h1 h3 hx hy⟩
end
section
variable {P:Program} {E:Env}
theorem jX {op:BinOp}(t:TypeId)(x y:Operand)(a b:Value)(ha:∀ l,a ≠ .agg l)(hb:a ≠ .nilIface)(w:World):(eqGuard op t x y a b).run P w=.ok () w:=by
 cases op <;> first
  | rfl
  | (unfold eqGuard
     simp only [Bool.not_true,Bool.false_eq_true,if_false]
     split
     ·exact absurd rfl hb
     ·exact absurd rfl (ha _)
     ·rfl)
theorem aLf {c:Bool}{t:TypeId}{op:BinOp}{x y:V}{k:V->Prop}(h:aEq P c t op x y k) :
  ∃ v,k v∧∀ ρ x' y',VR ρ x x'->VR ρ y y'->∃ v',VR ρ v v'∧(∀ w,(binOp op t x' y').run P w=.ok v' w)∧∀ (ox oy:Operand) (w:World),c=(isC ox || isC oy)->(eqGuard op t ox oy x' y').run P w=.ok () w:=by
 unfold aEq at h
 split at h
 ·rename_i a n b m
  split at h
  ·obtain ⟨v,v',h1,h2,h3⟩:=wX (P:=P) (b:=b) h;refine ⟨v,h1,fun ρ x' y' hx hy=>?_⟩;cases hx;cases hy;exact ⟨v',h2 ρ,fun w=>h3 t w,fun ox oy w _=>jX t ox oy _ _ sm sm w⟩
  ·obtain ⟨v,v',h1,h2,h3⟩:=wX (P:=P) (b:=b) h;refine ⟨v,h1,fun ρ x' y' hx hy=>?_⟩;cases hx;cases hy;exact ⟨v',h2 ρ,fun w=>h3 t w,fun ox oy w _=>jX t ox oy _ _ sm sm w⟩
  ·rename_i hs hr
   obtain ⟨hk,h'⟩:=aT h;have:=aIC hk;subst this;obtain ⟨v,v',h1,h2,h3⟩:=aIz (P:=P) (fun e=>hs e) (fun e=>hr e) h';refine ⟨v,h1,fun ρ x' y' hx hy=>?_⟩;cases hx;cases hy;exact ⟨v',h2 ρ,fun w=>h3 t w,fun ox oy w _=>jX t ox oy _ _ sm sm w⟩
 ·obtain ⟨v,v',h1,h2,h3⟩:=aJi (P:=P) h;refine ⟨v,h1,fun ρ x' y' hx hy=>?_⟩;cases hx;cases hy;exact ⟨v',h2 ρ,fun w=>h3 t w,fun ox oy w _=>jX t ox oy _ _ sm sm w⟩
 ·split at h
  ·obtain ⟨v,v',h1,h2,h3⟩:=vW (P:=P) h;refine ⟨v,h1,fun ρ x' y' hx hy=>?_⟩;cases hx;cases hy;exact ⟨v',h2 ρ,fun w=>h3 t w,fun ox oy w _=>jX t ox oy _ _ sm sm w⟩
  ·obtain ⟨v,v',h1,h2,h3⟩:=vW (P:=P) h;refine ⟨v,h1,fun ρ x' y' hx hy=>?_⟩;cases hx;cases hy;exact ⟨v',h2 ρ,fun w=>h3 t w,fun ox oy w _=>jX t ox oy _ _ sm sm w⟩
  ·exact h.elim
 ·rename_i n1 n2 n3
  obtain ⟨hna,h⟩:=aT h
  have key:∀ x' y' ρ,VR ρ x x'->VR ρ y y'->∀ r,(∀ w,(Op.equal t x' y').run P w=.ok r w)->(∀ w,(binOp .eql t x' y').run P w=.ok (.bool r) w)∧(∀ w,(binOp .neq t x' y').run P w=.ok (.bool (!r)) w):=by
   intro x' y' ρ hx hy r hr
   have base:∀ (x' y':Value),(∀ a n b m,¬ (x'=.int a n∧y'=.int b m))->(∀ s u,¬ (x'=.string s∧y'=.string u))->(∀ a n b m,¬ (x'=.float a n∧y'=.float b m)) ->
     (∀ a n q b m p,¬ (x'=.complex a n q∧y'=.complex b m p))->(∀ w,(Op.equal t x' y').run P w=.ok r w) ->
     (∀ w,(binOp .eql t x' y').run P w=.ok (.bool r) w)∧(∀ w,(binOp .neq t x' y').run P w=.ok (.bool (!r)) w):=by
    intro x' y' e1 e2 e3 e4 hr
    constructor
    ·intro w;unfold binOp
     split <;> first
      | exact absurd ⟨rfl,rfl⟩ (e1 _ _ _ _)
      | exact absurd ⟨rfl,rfl⟩ (e2 _ _)
      | exact absurd ⟨rfl,rfl⟩ (e3 _ _ _ _)
      | exact absurd ⟨rfl,rfl⟩ (e4 _ _ _ _ _ _)
      | simp_all
    ·intro w;unfold binOp
     split <;> first
      | exact absurd ⟨rfl,rfl⟩ (e1 _ _ _ _)
      | exact absurd ⟨rfl,rfl⟩ (e2 _ _)
      | exact absurd ⟨rfl,rfl⟩ (e3 _ _ _ _)
      | exact absurd ⟨rfl,rfl⟩ (e4 _ _ _ _ _ _)
      | simp_all
   refine base x' y' ?_ ?_ ?_ ?_ hr
   ·rintro a n b m ⟨rfl,rfl⟩;cases hx <;> cases hy <;> first|exact n1 _ _ _ _ rfl rfl|simp [V.notAny] at hna
   ·rintro s u ⟨rfl,rfl⟩;cases hx <;> cases hy <;> first|exact n2 _ _ rfl rfl|simp [V.notAny] at hna
   ·rintro a n b m ⟨rfl,rfl⟩;cases hx <;> cases hy <;> first|exact n3 _ _ _ _ rfl rfl|simp [V.notAny] at hna
   ·rintro a n q b m p ⟨rfl,rfl⟩;cases hx;simp [V.notAny] at hna
  split at h
  ·obtain ⟨r,h1,h2⟩:=aFU h;refine ⟨_,h1,fun ρ x' y' hx hy=>?_⟩;obtain ⟨h3,h4⟩:=h2 ρ x' y' hx hy;exact ⟨.bool r,.bool r,(key x' y' ρ hx hy r h3).1,fun ox oy w hc=>h4 _ ox oy w hc⟩
  ·obtain ⟨r,h1,h2⟩:=aFU h;refine ⟨_,h1,fun ρ x' y' hx hy=>?_⟩;obtain ⟨h3,h4⟩:=h2 ρ x' y' hx hy;exact ⟨.bool (!r),.bool (!r),(key x' y' ρ hx hy r h3).2,fun ox oy w hc=>h4 _ ox oy w hc⟩
  ·exact h.elim
theorem aOm (op:BinOp):(aVT op).run=aGj op:=by cases op <;> rfl
theorem aIr {c:Bool}{t:TypeId}{op:BinOp}(h1:op ≠ .shl)(h2:op ≠ .shr){x y:V}{k:V->Prop}(h:aSj (aGj op) (aKx op) (aEq P c t op) x y k):aEq P c t op x y k:=by
 cases x with
 | int a n =>
   obtain ⟨b,m,rfl,h3⟩:=gW (show aHm y _ from h)
   cases op <;> first|exact absurd rfl h1|exact absurd rfl h2|exact h3
 | str s =>
   obtain ⟨t,rfl,h3⟩:=lT (show aFg y _ from h);exact h3
 | _=>exact h
theorem aNX {c:Bool}{t:TypeId}{op:BinOp}{x y:V}{k:V->Prop}(h:Fb.rec (motive:=fun _=>Prop) (fun f=>f x y k) (fbC P c t op)):aEq P c t op x y k:=by
 by_cases h1:op=.shl
 ·subst h1;exact h
 by_cases h2:op=.shr
 ·subst h2;exact h
 refine aIr h1 h2 ?_;rw [<- aOm]
 cases op <;> first|exact absurd rfl h1|exact absurd rfl h2|exact h
theorem aKP {op:BinOp}{t u:TypeId}{x y:Operand}{k:V->Prop}(h:aSS P op t x y E k):∃ v,k v∧iV P (.binOp op t x y u) E v:=by
 obtain ⟨a,h1,h2⟩:=bG (show eZ E x _ from h);obtain ⟨b,h3,h4⟩:=bG h2;obtain ⟨v,h5,h6⟩:=aLf (aNX h4);refine ⟨v,h5,fun ρ ev o w ho hev=>?_⟩;obtain ⟨v',h7,h8,h9⟩:=h6 ρ (ev x) (ev y) (hev.one (by simp [Op.operands]) h1) (hev.one (by simp [Op.operands]) h3);exact ⟨v',by simp [execOp,ho,h9 x y w rfl,h8],h7⟩
theorem aMY {op:UnOp}{t:TypeId}{x:Operand}{k:V->Prop}(h:aUn op x E k):∃ v,k v∧iV P (.unOp op t x) E v:=by
 obtain ⟨a,h1,h2⟩:=bG (show eZ E x _ from h)
 split at h2
 ·refine ⟨_,dX (k:=fun b=>k (.bool (!b))) h2,fun ρ ev o w ho hev=>?_⟩;have hc:=hev.one (x:=x) (by simp [Op.operands]) h1;generalize hce:ev x=cv at hc;cases hc;exact ⟨_,by simp [execOp,ho,hce,Op.unary],.bool _⟩
 ·refine ⟨_,lU (k:=fun n=>k (.int _ n)) h2,fun ρ ev o w ho hev=>?_⟩;have hc:=hev.one (x:=x) (by simp [Op.operands]) h1;generalize hce:ev x=cv at hc;cases hc;exact ⟨_,by simp only [execOp,ho,hce,Op.unary,Op.intArith,Sem.run_bind,Sem.run_pure,Result.andThen_ok];rfl,.int _ _⟩
 ·refine ⟨_,bV (k:=fun n=>k (.float _ n)) h2,fun ρ ev o w ho hev=>?_⟩;have hc:=hev.one (x:=x) (by simp [Op.operands]) h1;generalize hce:ev x=cv at hc;cases hc;exact ⟨_,by simp [execOp,ho,hce,Op.unary],.float _ _⟩
 ·obtain ⟨n,h3,h4⟩:=mA (P:=P) h2;refine ⟨_,h3,fun ρ ev o w ho hev=>?_⟩;have hc:=hev.one (x:=x) (by simp [Op.operands]) h1;generalize hce:ev x=cv at hc;cases hc;exact ⟨_,by simp [execOp,ho,hce,Op.unary,h4],.int _ _⟩
 ·exact h2.elim
theorem aHB {s d:TypeId}{x:Operand}{k:V->Prop}(h:aJu P s d x E k):∃ v,k v∧iV P (.convert s d x) E v:=by
 obtain ⟨a,h1,h2⟩:=bG (show eZ E x _ from h);obtain ⟨s',hs,h3⟩:=aQ h2;obtain ⟨d',hd,h4⟩:=aQ h3
 split at h4
 ·refine ⟨_,lU (k:=fun n=>k (.int _ n)) h4,fun ρ ev o w ho hev=>?_⟩;have hc:=hev.one (x:=x) (by simp [Op.operands]) h1;generalize hce:ev x=cv at hc;cases hc;refine ⟨_,?_,.int _ _⟩;simp [execOp,ho,hce,convert,run_underlying hs,run_underlying hd,Conv.intToInt]
 ·refine ⟨_,bV (k:=fun n=>k (.float _ n)) h4,fun ρ ev o w ho hev=>?_⟩;have hc:=hev.one (x:=x) (by simp [Op.operands]) h1;generalize hce:ev x=cv at hc;cases hc;refine ⟨_,?_,.float _ _⟩;simp [execOp,ho,hce,convert,run_underlying hs,run_underlying hd,Conv.intToFloat]
 ·refine ⟨_,h4,fun ρ ev o w ho hev=>?_⟩;have hc:=hev.one (x:=x) (by simp [Op.operands]) h1;generalize hce:ev x=cv at hc;cases hc;refine ⟨_,?_,.str _⟩;simp [execOp,ho,hce,convert,run_underlying hs,run_underlying hd]
 ·exact h4.elim
theorem aFv {t:TypeId}{x:Operand}{k:V->Prop}(h:aHF P t x E k):∃ v,k v∧iV P (.makeInterface t x) E v:=by
 obtain ⟨a,h1,h2⟩:=bG (show eZ E x _ from h);obtain ⟨d,hd,h3⟩:=aQ h2
 have h4:k (.iface t a)∧∀ ms,d ≠ .interface ms:=by
  split at h3
  ·exact h3.elim
  ·rename_i hn;exact ⟨h3,hn⟩
 refine ⟨_,h4.1,fun ρ ev o w ho hev=>⟨.iface t (ev x),?_,.iface t (hev.one (by simp [Op.operands]) h1)⟩⟩;simp only [execOp,ho,Instr.makeInterface,Sem.run_bind,run_underlying hd,Result.andThen_ok]
 cases d <;> first|exact absurd rfl (h4.2 _)|rfl
theorem aHE {fn:Fn}{a b:Array Operand}{k:V->Prop}(h:aMU fn a b E k):∃ v,k v∧iV P (.makeFunc fn a b) E v:=by
 obtain ⟨va,h1,h2⟩:=lP (show rY E a.toList _ from h);obtain ⟨vb,h3,h4⟩:=lP h2;refine ⟨_,h4,fun ρ ev o w ho hev=>⟨.func fn ⟨a.toList.map ev⟩ ⟨b.toList.map ev⟩,?_,.func fn (hev.list (by simp [Op.operands];exact fun x hx=>.inl hx) h1) (hev.list (by simp [Op.operands];exact fun x hx=>.inr hx) h3)⟩⟩
 have e:∀ c:Array Operand,c.map ev=⟨c.toList.map ev⟩:=fun c=>by cases c;simp
 simp [execOp,ho,Instr.makeFunc,e]
theorem aCw {x:Operand}{i:Nat}{k:V->Prop}(h:aAF x i E k):∃ v,k v∧iV P (.extract x i) E v:=by
 obtain ⟨a,h1,h2⟩:=bG (show eZ E x _ from h);obtain ⟨l,rfl,h3⟩:=aMG h2;obtain ⟨v,h4,h5⟩:=aQ h3;rw [nth_eq] at h4;refine ⟨v,h5,fun ρ ev o w ho hev=>?_⟩;have hc:=hev.one (x:=x) (by simp [Op.operands]) h1;generalize hce:ev x=cv at hc
 cases hc with
 | tup ha =>
   obtain ⟨v',h6,h7⟩:=ha.get h4;exact ⟨v',by simp [execOp,ho,hce,Instr.extract,h6],h7⟩
end
section
variable {P:Program} {E:Env}
theorem Addr.add_mk (b o n:Nat):(⟨b,o,none⟩:Addr).add n=⟨b,o+n,none⟩:=by
 unfold Addr.add;by_cases h:n=0
 ·subst h;simp
 ·simp [h]
theorem gI {x:Option Operand}{d:Nat}{k:Nat->Prop}(h:lQ E x d k) :
  ∃ n,k n∧(x=none->n=d)∧∀ ρ (ev:Operand->Value),(∀ y,x=some y->∀ v,OpV E y v->VR ρ v (ev y))->∀ y,x=some y->∃ a,ev y=.int a (Int.ofNat n):=by
 cases x with
 | none=>exact ⟨d,h,fun _=>rfl,fun _ _ _ _ h=>by cases h⟩
 | some y =>
   obtain ⟨v,h1,h2⟩:=bG (show eZ E y _ from h);obtain ⟨a,n,rfl,h3⟩:=lS h2;refine ⟨n,h3,⟨fun h=>(by cases h),fun ρ ev he z hz=>?_⟩⟩;cases hz;have hc:=he y rfl _ h1;generalize hce:ev y=cv at hc;cases hc;exact ⟨a,rfl⟩
theorem wU {a:IntKind}{n y:Nat}{code:BoundsCode}(h:n <= y)(w:World):(Instr.sliceBound (.int a (Int.ofNat n)) y code).run P w=.ok n w:=by
 have:0 <= (Int.ofNat n)∧(Int.ofNat n) <= (y:Int):=⟨sm,by simp;omega⟩
 simp only [Instr.sliceBound,asIntOf,pure_bind];rw [if_pos this];rfl
theorem eW {a:IntKind}{n y:Nat}{code:BoundsCode}(h:n <= y)(w:World):(Instr.sliceBound (.int a (n:Int)) y code).run P w=.ok n w:=wU h w
theorem iU {isS:Bool}{len cap l h:Nat}{lo hi:Option Value}(hlo:lo=none∧l=0 ∨ ∃ a,lo=some (.int a (Int.ofNat l)))(hhi:hi=none∧h=len ∨ ∃ a,hi=some (.int a (Int.ofNat h)))
  (h1:l <= h) (h2:h <= cap) (w:World):(Instr.sliceBounds isS len cap lo hi none).run P w=.ok (l,h,cap) w:=by
 rcases hhi with ⟨rfl,rfl⟩|⟨a,rfl⟩ <;> rcases hlo with ⟨rfl,rfl⟩|⟨b,rfl⟩ <;>
  simp [Instr.sliceBounds,eW h1,eW h2]
theorem yQ {isS:Bool}{len cap l h m:Nat}{lo hi mx:Option Value}(hlo:lo=none∧l=0 ∨ ∃ a,lo=some (.int a (Int.ofNat l)))(hhi:∃ a,hi=some (.int a (Int.ofNat h)))(hmx:∃ a,mx=some (.int a (Int.ofNat m)))
  (h1:l <= h) (h2:h <= m) (h3:m <= cap) (w:World):(Instr.sliceBounds isS len cap lo hi mx).run P w=.ok (l,h,m) w:=by
 obtain ⟨a,rfl⟩:=hhi;obtain ⟨c,rfl⟩:=hmx
 rcases hlo with ⟨rfl,rfl⟩|⟨b,rfl⟩ <;>
  simp [Instr.sliceBounds,eW h1,eW h2,eW h3]
theorem bnd {x:Option Operand}{n d:Nat}{ev:Operand->Value}(h1:x=none->n=d)(h2:∀ y,x=some y->∃ a,ev y=.int a (Int.ofNat n)) :
  (x.map ev=none∧n=d ∨ ∃ a,x.map ev=some (.int a (Int.ofNat n))):=by
 cases x with
 | none=>exact .inl ⟨rfl,h1 rfl⟩
 | some y=>obtain ⟨a,h⟩:=h2 y rfl;exact .inr ⟨a,by simp [h]⟩
theorem aCB (s:List UInt8)(l h:Nat)(hl:l <= h)(hh:h <= s.length):(⟨⟨s⟩⟩:ByteArray).extract l h=⟨⟨(s.drop l).take (h - l)⟩⟩:=by
 apply ByteArray.ext;rw [ByteArray.data_extract];apply Array.ext';simp [List.drop_take]
theorem aFM {n es id off:Nat}{lo hi:Option Operand}{k:V->Prop}(h:aEr n es id off E lo hi k) :
  ∃ v,k v∧∀ (ρ:Rho) (ev:Operand->Value) (l:Loc),(∀ y,lo=some y->∀ v,OpV E y v->VR ρ v (ev y))->(∀ y,hi=some y->∀ v,OpV E y v->VR ρ v (ev y))->ρ id=some l->(l.rw=true->l.base+off+n * es <= l.csz) ->
    ∃ lb hb:Nat,(∀ w,(Instr.sliceBounds false n n (lo.map ev) (hi.map ev) none).run P w=.ok (lb,hb,n) w) ∧
      VR ρ v (.slice (some (if n=lb then ⟨l.blk,l.base+off,none⟩ else (⟨l.blk,l.base+off,none⟩:Addr).add (lb * es))) (hb - lb) (n - lb)):=by
 obtain ⟨hb,h1,e1,f1⟩:=gI (show lQ E hi n _ from h);obtain ⟨lb,h2,e2,f2⟩:=gI h1;obtain ⟨g1,h3⟩:=aT h2;obtain ⟨g2,h4⟩:=aT h3;have g1':=ae g1;have g2':=ae g2;refine ⟨_,bV (k:=fun c=>k (.slice id _ _ c es true)) (bV (k:=fun m=>fN (Nat.sub n lb) fun c=>k (.slice id _ m c es true)) (bV (k:=fun o=>fN (Nat.sub hb lb) fun m=>fN (Nat.sub n lb) fun c=>k (.slice id o m c es true)) h4)),fun ρ ev l hlo hhi hl hr=>⟨lb,hb,fun w=>?_,?_⟩⟩
 ·exact iU (bnd e2 (f2 ρ ev hlo)) (bnd e1 (f1 ρ ev hhi)) g2' g1' w
 ·have ha:(if n=lb then (⟨l.blk,l.base+off,none⟩:Addr) else (⟨l.blk,l.base+off,none⟩:Addr).add (lb * es))=⟨l.blk,l.base+(if n=lb then off else off+lb * es),none⟩:=by
   split
   ·rfl
   ·rw [Addr.add_mk,Nat.add_assoc]
  rw [ha];refine .slice (off+lb * es) (hb - lb) (n - lb) es true _ (n - lb) hl (fun hc=>?_) (af _) (fun _=>rfl) om (fun hrw=>?_)
  ·rw [if_neg om]
  ·have:=hr hrw
   split
   ·rename_i e;subst e;simp;omega
   ·have e2:n * es=lb * es+(n - lb) * es:=by rw [<- Nat.add_mul];congr 1;omega
    omega
theorem aAd {t:TypeId}{x:Operand}{i:Nat}{k:V->Prop}(h:uH P t x i E k):∃ v,k v∧iV P (.fieldAddr t x i) E v:=by
 obtain ⟨a,h1,h2⟩:=bG (show eZ E x _ from h);obtain ⟨id,off,rfl,h3⟩:=kE h2;obtain ⟨f,h4,h5⟩:=aQ h3;obtain ⟨fi,h6,h7⟩:=eX h5
 have h8:fi.size ≠ 0∧fN (Nat.add off f.offset) fun o=>k (.ptr id o):=by
  cases hs:fi.size with
  | zero=>rw [hs] at h7;exact h7.elim
  | succ n=>rw [hs] at h7;exact ⟨sm,h7⟩
 refine ⟨_,bV h8.2,fun ρ ev o w ho hev=>?_⟩;have hc:=hev.one (x:=x) (by simp [Op.operands]) h1;generalize hce:ev x=cv at hc
 cases hc with
 | ptr _ hl =>
   rename_i l
   unfold aEC at h4
   split at h4
   ·rename_i fs hu
    refine ⟨.pointer (some ⟨l.blk,l.base+(off+f.offset),none⟩),?_,.ptr _ hl⟩;simp [execOp,ho,hce,Instr.fieldAt,run_underlying hu,h4,Instr.sureAddr,fieldPlace,bP h6,h8.1,Addr.add_mk,Nat.add_assoc]
   ·cases h4
theorem aBN {t:TypeId}{off:Nat}{cs:List V}{k:V->Prop}(h:cR P t off cs k) :
  ∃ v,k v∧∀ (ρ:Rho) (cs':List Value),VRs ρ cs cs'->∃ v',VR ρ v v'∧∀ w,(part t ⟨cs'⟩ off).run P w=.ok v' w:=by
 obtain ⟨g,hg,h1⟩:=aQ (show Option.rec (motive:=fun _=>Prop) False _ (pY P t) from h)
 cases g with
 | false =>
   obtain ⟨v,h2,h3⟩:=aQ (show Option.rec (motive:=fun _=>Prop) False k (nth cs off) from h1);rw [nth_eq] at h2;refine ⟨v,h3,fun ρ cs' hc=>?_⟩;obtain ⟨v',h4,h5⟩:=hc.get h2;exact ⟨v',h5,fun w=>qP hg (by simpa using h4) w⟩
 | true =>
   obtain ⟨i,hi,h2⟩:=eX (show uW P t _ from h1);obtain ⟨h3,h4⟩:=iD h2;obtain ⟨h5,h6⟩:=gP h4;refine ⟨_,h6,fun ρ cs' hc=>⟨.agg ⟨(cs'.drop off).take i.size⟩,.agg ((hc.drop off).take i.size),fun w=>?_⟩⟩;simp only [part,Sem.run_bind,qO hg,bP hi,Result.andThen_ok,if_true,Sem.run_pure]
   congr 2
   apply Array.ext';simp [List.drop_take]
theorem aFu {t:TypeId}{x:Operand}{i:Nat}{k:V->Prop}(h:aHD P t x i E k):∃ v,k v∧iV P (.field t x i) E v:=by
 obtain ⟨a,h1,h2⟩:=bG (show eZ E x _ from h);obtain ⟨cs,rfl,h3⟩:=aDW h2;obtain ⟨f,h4,h5⟩:=aQ h3;obtain ⟨v,h6,h7⟩:=aBN h5;refine ⟨v,h6,fun ρ ev o w ho hev=>?_⟩;have hc:=hev.one (x:=x) (by simp [Op.operands]) h1;generalize hce:ev x=cv at hc
 cases hc with
 | agg ha =>
   obtain ⟨v',h8,h9⟩:=h7 ρ _ ha;unfold aEC at h4
   split at h4
   ·rename_i fs hu
    exact ⟨v',by simp [execOp,ho,hce,Instr.field,run_underlying hu,h4,asAgg,h9],h8⟩
   ·cases h4
theorem aCj {t:TypeId}{i:TypeInfo}(h:P.info? t=some i){k:Nat->Prop}(hk:k i.size):uW P t k:=by
 unfold uW;rw [h];exact hk
theorem aQP {t:TypeId}{v:V}{i:Nat}{k:V->Prop}(h:Ix.rec (motive:=fun _=>Prop) (fun f=>f v i k) (ixA P t)):Option.rec (motive:=fun _=>Prop) False (fun d=>match d,v with
  | .slice e,.slice id off n _ es _=>uW P e fun sz=>dD (Nat.beq sz es) (dD (Nat.blt i n) (fN (Nat.add off (Nat.mul i es)) fun o=>k (.ptr id o)))
  | .array n e,.ptr id off=>uW P e fun es=>dD (Nat.blt i n) (fN (Nat.add off (Nat.mul i es)) fun o=>k (.ptr id o))
  | _,_=>False) (P.underlying t):=by
 unfold ixA at h
 split at h
 ·rename_i e hu
  rw [hu]
  split at h
  ·rename_i f hf
   cases v <;> first|exact False.elim h|exact aCj hf h
  ·exact False.elim h
 ·rename_i m e hu
  rw [hu]
  split at h
  ·rename_i f hf
   obtain ⟨id,off,rfl,h1⟩:=kE h;exact aCj hf h1
  ·exact False.elim h
 ·exact False.elim h
theorem aQQ {t:TypeId}{v:V}{i:Nat}{k:V->Prop}(h:Ix.rec (motive:=fun _=>Prop) (fun f=>f v i k) (ixV P t)):Option.rec (motive:=fun _=>Prop) False (fun d=>match d,v with
  | .string,.str s=>Option.rec (motive:=fun _=>Prop) False (fun b=>fN b.toNat fun n=>k (.int .u8 (Int.ofNat n))) (nth s i)
  | .array n e,.agg cs=>uW P e fun es=>dD (Nat.blt i n) (cR P e (Nat.mul i es) cs k)
  | _,_=>False) (P.underlying t):=by
 unfold ixV at h
 split at h
 ·rename_i hu
  rw [hu];obtain ⟨s,rfl,h1⟩:=lT h;exact h1
 ·rename_i m e hu
  rw [hu]
  split at h
  ·rename_i f hf
   obtain ⟨cs,rfl,h1⟩:=aDW h;exact aCj hf h1
  ·exact False.elim h
 ·exact False.elim h
theorem aAe {t:TypeId}{x ix:Operand}{k:V->Prop}(h:uI P t x ix E k):∃ v,k v∧iV P (.indexAddr t x ix) E v:=by
 obtain ⟨a,h1,h2⟩:=bG (show eZ E x _ from h);obtain ⟨b,h3,h4⟩:=bG h2;obtain ⟨kd,i,rfl,h5⟩:=lS h4;replace h5:=aQP h5;obtain ⟨d,hd,h6⟩:=aQ h5
 split at h6
 ·rename_i e id off n cap es ex _
  obtain ⟨ei,hei,h7⟩:=eX h6;obtain ⟨g1,h8⟩:=aT h7;obtain ⟨g2,h9⟩:=aT h8;have g1':=aj g1
  have g2':i < n:=by simpa using g2
  refine ⟨_,bV (k:=fun o=>k (.ptr id o)) h9,fun ρ ev o w ho hev=>?_⟩;have hc:=hev.one (x:=x) (by simp [Op.operands]) h1;have hi:=hev.one (x:=ix) (by simp [Op.operands]) h3;generalize hce:ev x=cv at hc;generalize hie:ev ix=iv at hi;cases hi
  cases hc with
  | sliceS _ _ _ _ _ off' cap' sp hl hoff hcap hx hlen hr hsp =>
    rename_i l
    have:off'=off:=hoff om;subst this;obtain rfl:=hsp om;refine ⟨.pointer (some ⟨l.blk,l.base+(off'+i * es),none⟩),?_,.ptr _ hl⟩;have hlt:(0:Int) <= Int.ofNat i∧(Int.ofNat i) < (n:Int):=⟨sm,by simp;omega⟩
    simp only [execOp,ho,hce,hie,Instr.indexAt,asIntOf,Sem.run_bind,Sem.run_pure,Result.andThen_ok,run_underlying hd];rw [if_pos hlt];simp [bP hei,Addr.add_mk,g1',Nat.add_assoc]
 ·rename_i n e id off _
  obtain ⟨ei,hei,h7⟩:=eX h6;obtain ⟨g2,h9⟩:=aT h7
  have g2':i < n:=by simpa using g2
  refine ⟨_,bV (k:=fun o=>k (.ptr id o)) h9,fun ρ ev o w ho hev=>?_⟩;have hc:=hev.one (x:=x) (by simp [Op.operands]) h1;have hi:=hev.one (x:=ix) (by simp [Op.operands]) h3;generalize hce:ev x=cv at hc;generalize hie:ev ix=iv at hi;cases hi
  cases hc with
  | ptr _ hl =>
    rename_i l
    refine ⟨.pointer (some ⟨l.blk,l.base+(off+i * ei.size),none⟩),?_,.ptr _ hl⟩;have hlt:(0:Int) <= Int.ofNat i∧(Int.ofNat i) < (n:Int):=⟨sm,by simp;omega⟩
    simp only [execOp,ho,hce,hie,Instr.indexAt,asIntOf,Sem.run_bind,Sem.run_pure,Result.andThen_ok,run_underlying hd,Instr.sureAddr];rw [if_pos hlt];simp [bP hei,Addr.add_mk,Nat.add_assoc]
 ·exact h6.elim
theorem aFw {t:TypeId}{x ix:Operand}{k:V->Prop}(h:aHG P t x ix E k):∃ v,k v∧iV P (.index t x ix) E v:=by
 obtain ⟨a,h1,h2⟩:=bG (show eZ E x _ from h);obtain ⟨b,h3,h4⟩:=bG h2;obtain ⟨kd,i,rfl,h5⟩:=lS h4;replace h5:=aQQ h5;obtain ⟨d,hd,h6⟩:=aQ h5
 split at h6
 ·rename_i s _
  obtain ⟨c,h7,h8⟩:=aQ h6;rw [nth_eq] at h7;refine ⟨_,bV (k:=fun n=>k (.int .u8 (Int.ofNat n))) h8,fun ρ ev o w ho hev=>?_⟩;have hc:=hev.one (x:=x) (by simp [Op.operands]) h1;have hi:=hev.one (x:=ix) (by simp [Op.operands]) h3;generalize hce:ev x=cv at hc;generalize hie:ev ix=iv at hi;cases hi;cases hc
  have hg:(⟨⟨s⟩⟩:ByteArray)[i]?=some c:=by
   have hlt:i < s.length:=by
    rcases Nat.lt_or_ge i s.length with h'|h'
    ·exact h'
    ·simp [List.getElem?_eq_none h'] at h7
   have hlt':i < (⟨⟨s⟩⟩:ByteArray).size:=hlt;rw [getElem?_pos (⟨⟨s⟩⟩:ByteArray) i hlt'];rw [ak hlt] at h7;exact h7
  have hp:(0:Int) <= Int.ofNat i:=by simp
  refine ⟨_,?_,.int .u8 _⟩;simp only [execOp,ho,hce,hie,Instr.index,asIntOf,Sem.run_bind,Sem.run_pure,Result.andThen_ok,run_underlying hd,if_pos hp];have ht:(Int.ofNat i).toNat=i:=rfl;rw [ht,hg];rfl
 ·rename_i n e cs _
  obtain ⟨ei,hei,h7⟩:=eX h6;obtain ⟨g2,h9⟩:=aT h7
  have g2':i < n:=by simpa using g2
  obtain ⟨v,h10,h11⟩:=aBN h9;refine ⟨v,h10,fun ρ ev o w ho hev=>?_⟩;have hc:=hev.one (x:=x) (by simp [Op.operands]) h1;have hi:=hev.one (x:=ix) (by simp [Op.operands]) h3;generalize hce:ev x=cv at hc;generalize hie:ev ix=iv at hi;cases hi
  cases hc with
  | agg ha =>
    obtain ⟨v',h12,h13⟩:=h11 ρ _ ha;refine ⟨v',?_,h12⟩;have hlt:(0:Int) <= Int.ofNat i∧(Int.ofNat i) < (n:Int):=⟨sm,by simp;omega⟩
    simp only [execOp,ho,hce,hie,Instr.index,asIntOf,Sem.run_bind,Sem.run_pure,Result.andThen_ok,run_underlying hd];rw [if_pos hlt];have ht:(Int.ofNat i).toNat=i:=rfl;rw [ht];have hm:Nat.mul i ei.size=i * ei.size:=rfl;rw [hm] at h13;simp [bP hei,h13]
 ·exact h6.elim
end
section
variable {P:Program} {E:Env}
theorem yH {α:Type}{o:Option α}{k:Prop}(h:Option.rec (motive:=fun _=>Prop) k (fun _=>False) o):o=none∧k:=by
 cases o with
 | none=>exact ⟨rfl,h⟩
 | some a=>exact h.elim
theorem aDz {t:TypeId}{x:Operand}{lo hi mx:Option Operand}:x ∈ (Op.slice t x lo hi mx).operands.toList∧(∀ y,lo=some y->y ∈ (Op.slice t x lo hi mx).operands.toList)∧(∀ y,hi=some y->y ∈ (Op.slice t x lo hi mx).operands.toList)∧(∀ y,mx=some y->y ∈ (Op.slice t x lo hi mx).operands.toList):=by
 refine ⟨by simp [Op.operands],fun y h=>?_,fun y h=>?_,fun y h=>?_⟩ <;> subst h <;> simp [Op.operands]
theorem aFy {t:TypeId}{x:Operand}{lo hi mx:Option Operand}{k:V->Prop}(h:aEf P t x lo hi mx E k):∃ v,k v∧iV P (.slice t x lo hi mx) E v:=by
 obtain ⟨a,h1,h2⟩:=bG (show eZ E x _ from h);obtain ⟨d,hd,h3⟩:=aQ h2;obtain ⟨mx0,mlo,mhi,mmx⟩:=@aDz t x lo hi mx
 split at h3
 ·rename_i s
  obtain ⟨rfl,h4⟩:=yH h3;obtain ⟨hb,h5,e1,f1⟩:=gI (show lQ E hi (dH s) _ from h4);obtain ⟨lb,h6,e2,f2⟩:=gI h5;obtain ⟨g1,h7⟩:=aT h6;obtain ⟨g2,h8⟩:=aT h7;obtain ⟨g3,h9⟩:=iD h8;obtain ⟨g4,h10⟩:=gP h9;rw [aM] at g1 e1;have g1':=ae g1;have g2':=ae g2;refine ⟨_,h10,fun ρ ev o w ho hev=>?_⟩;have hc:=hev.one mx0 h1;generalize hce:ev x=cv at hc;cases hc;refine ⟨_,?_,.str _⟩;have hsz:(⟨⟨s⟩⟩:ByteArray).size=s.length:=rfl;have hb2:=iU (P:=P) (isS:=false) (len:=s.length) (cap:=s.length) (bnd e2 (f2 ρ ev fun y hy v hv=>hev.one (mlo y hy) hv)) (bnd e1 (f1 ρ ev fun y hy v hv=>hev.one (mhi y hy) hv)) g2' g1' w;have hbe:=aCB s lb hb g2' g1';have hm:Nat.sub hb lb=hb - lb:=rfl;simp only [execOp,ho,hce,Instr.sliceAt,Instr.slice,Sem.run_bind,run_underlying hd,Result.andThen_ok,hsz,hb2,Option.map_none,Option.isSome_none,Bool.false_eq_true,if_false,Sem.run_pure,hbe,hm]
 ·rename_i e id off n c es ex
  obtain ⟨ei,hei,h4⟩:=eX h3;obtain ⟨g0,h5⟩:=aT h4;obtain ⟨hb,h6,e1,f1⟩:=gI (show lQ E hi n _ from h5);obtain ⟨lb,h7,e2,f2⟩:=gI h6;obtain ⟨g2,h8⟩:=aT h7;have g0':=aj g0;have g2':=ae g2;have hm:Nat.mul lb es=lb * es:=rfl
  cases mx with
  | none =>
    obtain ⟨g1,h9⟩:=aT (show dD (Nat.ble hb c) _ from h8);have g1':=ae g1;refine ⟨_,bV (k:=fun c=>k (.slice id _ _ c es ex)) (bV (k:=fun m=>fN (Nat.sub c lb) fun c=>k (.slice id _ m c es ex)) (bV (k:=fun o=>fN (Nat.sub hb lb) fun m=>fN (Nat.sub c lb) fun c=>k (.slice id o m c es ex)) h9)),fun ρ ev o w ho hev=>?_⟩;have hc:=hev.one mx0 h1;generalize hce:ev x=cv at hc
    cases hc with
    | sliceS _ _ _ _ _ off' cap' sp hl hoff hcap hx hlen hr hsp =>
      rename_i l
      have hb2:=iU (P:=P) (isS:=true) (len:=n) (cap:=cap') (bnd e2 (f2 ρ ev fun y hy v hv=>hev.one (mlo y hy) hv)) (bnd e1 (f1 ρ ev fun y hy v hv=>hev.one (mhi y hy) hv)) g2' om w
      have ha:(if cap'=lb then some (⟨l.blk,l.base+off',sp⟩:Addr) else (some (⟨l.blk,l.base+off',sp⟩:Addr)).map (·.add (lb * ei.size)))=some ⟨l.blk,l.base+(if cap'=lb then off' else off'+lb * es),sp⟩:=by
       split
       ·rfl
       ·obtain rfl:=hsp om;simp [Addr.add_mk,Nat.add_assoc,g0']
      refine ⟨.slice (some ⟨l.blk,l.base+(if cap'=lb then off' else off'+lb * es),sp⟩) (hb - lb) (cap' - lb),?_,?_⟩
      ·simp only [execOp,ho,hce,Instr.sliceAt,Instr.slice,Sem.run_bind,run_underlying hd,Result.andThen_ok,hb2,Option.map_none,bP hei,Sem.run_pure,ha]
      ·refine .sliceS _ (hb - lb) (c - lb) es ex _ (cap' - lb) sp hl (fun hcc=>?_) om (fun he=>by rw [hx he]) om (fun hrw=>?_) (fun h=>hsp om)
       ·rw [if_neg om,hoff om];rfl
       ·have:=hr hrw
        split
        ·rename_i e;subst e;simp;omega
        ·have e2:cap' * es=lb * es+(cap' - lb) * es:=by rw [<- Nat.add_mul];congr 1;omega
         omega
  | some y =>
    obtain ⟨vm,h9,h10⟩:=bG (show eZ E y _ from h8);obtain ⟨am,m,rfl,h11⟩:=lS h10;obtain ⟨gh,h12⟩:=aT h11;obtain ⟨g3,h13⟩:=aT h12;obtain ⟨g4,h14⟩:=aT h13;have g3':=ae g3;have g4':=ae g4;refine ⟨_,bV (k:=fun c=>k (.slice id _ _ c es true)) (bV (k:=fun q=>fN (Nat.sub m lb) fun c=>k (.slice id _ q c es true)) (bV (k:=fun o=>fN (Nat.sub hb lb) fun q=>fN (Nat.sub m lb) fun c=>k (.slice id o q c es true)) h14)),fun ρ ev o w ho hev=>?_⟩;have hc:=hev.one mx0 h1;have hmv:=hev.one (mmx y rfl) h9;generalize hce:ev x=cv at hc;generalize hme:ev y=mv at hmv;cases hmv
    cases hc with
    | sliceS _ _ _ _ _ off' cap' sp hl hoff hcap hx hlen hr hsp =>
      rename_i l
      obtain ⟨yh,rfl⟩:=bc.1 gh;obtain ⟨ah,hah⟩:=f1 ρ ev (fun y hy v hv=>hev.one (mhi y hy) hv) yh rfl;have hb2:=yQ (P:=P) (isS:=true) (len:=n) (cap:=cap') (lo:=lo.map ev) (hi:=some (ev yh)) (mx:=some (.int am (Int.ofNat m))) (bnd e2 (f2 ρ ev fun y hy v hv=>hev.one (mlo y hy) hv)) ⟨ah,by rw [hah]⟩ ⟨am,rfl⟩ g2' g3' om w
      have ha:(if m=lb then some (⟨l.blk,l.base+off',sp⟩:Addr) else some ((⟨l.blk,l.base+off',sp⟩:Addr).add (lb * ei.size)))=some ⟨l.blk,l.base+(if m=lb then off' else off'+lb * es),sp⟩:=by
       split
       ·rfl
       ·obtain rfl:=hsp om;simp [Addr.add_mk,Nat.add_assoc,g0']
      refine ⟨.slice (some ⟨l.blk,l.base+(if m=lb then off' else off'+lb * es),sp⟩) (hb - lb) (m - lb),?_,?_⟩
      ·simp only [execOp,ho,hce,hme,Instr.sliceAt,Instr.slice,Sem.run_bind,run_underlying hd,Result.andThen_ok,hb2,Option.map_some,bP hei,Sem.run_pure,ha]
      ·refine .sliceS _ (hb - lb) (m - lb) es true _ (m - lb) sp hl (fun hcc=>?_) (af _) (fun _=>rfl) om (fun hrw=>?_) (fun h=>hsp om)
       ·have hcc':0 < m - lb:=hcc;rw [if_neg om,hoff om];rfl
       ·have:=hr hrw;have hmc:m * es <= cap' * es:=bi _ om
        split
        ·rename_i e;subst e;simp;omega
        ·have e2:m * es=lb * es+(m - lb) * es:=by rw [<- Nat.add_mul];congr 1;omega
         omega
 ·rename_i e
  obtain ⟨ei,hei,h4⟩:=eX h3;obtain ⟨rfl,h5⟩:=yH h4;obtain ⟨hb,h6,e1,f1⟩:=gI (show lQ E hi 0 _ from h5);obtain ⟨lb,h7,e2,f2⟩:=gI h6;obtain ⟨g1,h8⟩:=aT h7;obtain ⟨g2,h9⟩:=aT h8;have g1':=aj g1;have g2':=aj g2;subst g1';subst g2';refine ⟨_,h9,fun ρ ev o w ho hev=>?_⟩;have hc:=hev.one mx0 h1;generalize hce:ev x=cv at hc;cases hc;have hb2:=iU (P:=P) (isS:=true) (len:=0) (cap:=0) (bnd e2 (f2 ρ ev fun y hy v hv=>hev.one (mlo y hy) hv)) (bnd e1 (f1 ρ ev fun y hy v hv=>hev.one (mhi y hy) hv)) (af _) (af _) w;refine ⟨.slice none 0 0,?_,.nilSlice⟩;simp only [execOp,ho,hce,Instr.sliceAt,Instr.slice,Sem.run_bind,run_underlying hd,Result.andThen_ok,hb2,Option.map_none,bP hei,Sem.run_pure];simp
 ·exact h3.elim
theorem VRs.set {ρ:Rho}{v:V}{v':Value}(hv:VR ρ v v'):∀ {a:List V} {b:List Value} (i:Nat),VRs ρ a b->VRs ρ (a.set i v) (b.set i v')
 | _,_,_,.nil=>.nil
 | _,_,0,.cons _ hs=>.cons hv hs
 | _,_,i+1,.cons h hs=>.cons h (hs.set hv i)
theorem VRs.over {ρ:Rho}:∀ {a:List V} {b:List Value} {c:List V} {d:List Value} (off:Nat),VRs ρ a b->VRs ρ c d->VRs ρ (Am.over a off c) (Am.over b off d)
 | _,_,_,_,_,.nil,k=>k
 | _,_,_,_,off,.cons h hs,k=>hs.over (off+1) (k.set h off)
theorem aIs (cells:List Value):∀ (vs:List Value) (off j:Nat) (cs:Array Value),cs.toList=cells ->
  (((vs.zipIdx j).foldl (fun (cs:Array Value) (p:Value × Nat)=>cs.setIfInBounds (off+p.2) p.1) cs).toList=Am.over vs (off+j) cells):=by
 intro vs
 induction vs generalizing cells with
 | nil=>intro off j cs h;simpa [Am.over] using h
 | cons v vs ih =>
   intro off j cs h;simp only [List.zipIdx_cons,List.foldl_cons];rw [ih (cells.set (off+j) v) off (j+1) (cs.setIfInBounds (off+j) v) (by simp [h])];simp [Am.over,Nat.add_assoc]
theorem aLr {place:Nat->Option (Nat × Nat)}{i off n:Nat}{v:Value}{rest:List (Nat × Value)}{cells:List Value}(hp:place i=some (off,n))(hn:v.cells.toList.length=n)(hle:off+n <= cells.length) :
  Instr.fill place ⟨cells⟩ ((i,v) :: rest)=Instr.fill place ⟨Am.over v.cells.toList off cells⟩ rest:=by
 have e1:v.cells.size=n:=by simpa using hn
 have e2:¬ (off+v.cells.size > (⟨cells⟩:Array Value).size):=by simp [e1];omega
 have e3:(v.cells.size ≠ n || off+v.cells.size > (⟨cells⟩:Array Value).size)=false:=by simp [e1];omega
 have e4:v.cells.zipIdx.foldl (fun (cs:Array Value) (p:Value × Nat)=>cs.setIfInBounds (off+p.2) p.1) ⟨cells⟩=⟨Am.over v.cells.toList off cells⟩:=by
  apply Array.ext';rw [<- Array.foldl_toList,Array.toList_zipIdx];have:=aIs cells v.cells.toList off 0 ⟨cells⟩ rfl;simpa using this
 simp only [Instr.fill,hp];rw [show (decide (v.cells.size ≠ n) || decide (off+v.cells.size > (⟨cells⟩:Array Value).size))=false by simpa using e3];simp only [Bool.false_eq_true,if_false];exact congrArg (fun c=>Instr.fill place c rest) e4
theorem uM {place:Nat->Option (Nat × Nat)}:∀ {l:List (Nat × Operand)} {cs:List V} {k:List V->Prop},aNY E place l cs k ->
  ∃ r,k r∧∀ (ρ:Rho) (ev:Operand->Value) (cs':List Value),(∀ p ∈ l,∀ v,OpV E p.2 v->VR ρ v (ev p.2))->VRs ρ cs cs'->∃ r',VRs ρ r r'∧Instr.fill place ⟨cs'⟩ (l.map fun p=>(p.1,ev p.2))=some ⟨r'⟩
 | [],cs,k,h=>⟨cs,h,fun ρ ev cs' _ hc=>⟨cs',hc,rfl⟩⟩
 | p :: l,cs,k,h=>by
   obtain ⟨q,h1,h2⟩:=aQ (show Option.rec (motive:=fun _=>Prop) False _ (place p.1) from h);obtain ⟨v,h3,h4⟩:=bG h2;obtain ⟨h5,h6'⟩:=aT h4;obtain ⟨hpos,h6⟩:=aT h6';obtain ⟨h7,h8⟩:=nC h6;obtain ⟨r,h9,h10⟩:=uM (l:=l) h8;refine ⟨r,h9,fun ρ ev cs' hev hc=>?_⟩;have hv:=hev p sm v h3;have hvc:=hv.cells;rw [aM] at h5;have h5':=aj h5;obtain ⟨r',h11,h12⟩:=h10 ρ ev (Am.over (ev p.2).cells.toList q.1 cs') (fun p' hp'=>hev p' (by simp [hp'])) (hvc.over q.1 hc);refine ⟨r',h11,?_⟩;rw [<- h12];have hlen:cs.length=cs'.length:=hc.length;have hvl:=hvc.length
   have hz:v.cells ≠ []:=fun hz=>by
    have hp':0 < q.2:=by simpa using hpos
    rw [hz] at h5';simp at h5';omega
   simp only [hz,if_false,Nat.add_zero] at h7;exact aLr (by rw [h1]) (by rw [<- hvl];exact h5') om
theorem wS:∀ {fs:List Field} {l:List (Nat × Nat)},wR P fs=some l->∀ w,(fs.mapM (fun f=>do pure (f.offset,<- sizeOf f.type):Field->Sem (Nat × Nat))).run P w=.ok l w
 | [],l,h,w=>by simp [wR] at h;subst h;simp
 | f :: fs,l,h,w=>by
   simp only [wR] at h
   split at h
   ·cases h
   ·rename_i i hi
    split at h
    ·cases h
    ·rename_i r hr
     cases h;have:=wS hr w;simp only [List.mapM_cons,Sem.run_bind,bP hi,Result.andThen_ok,Sem.run_pure];rw [this];simp only [Result.andThen_ok]
theorem aFq {t:TypeId}{ps:Array (Nat × Operand)}{k:V->Prop}(h:aHA P t ps E k):∃ v,k v∧iV P (.build t ps) E v:=by
 obtain ⟨z,hz,h1⟩:=aQ (show Option.rec (motive:=fun _=>Prop) False _ (uD P t) from h);obtain ⟨pl,hpl,h2⟩:=aQ h1;obtain ⟨r,h3,h4⟩:=uM h2;obtain ⟨i,zv,hi,hzv,hok,rfl⟩:=lV hz;refine ⟨_,h3,fun ρ ev o w ho hev=>?_⟩;obtain ⟨r',h5,h6⟩:=h4 ρ ev zv.cells.toList (fun p hp v hv=>hev p.2 (by simp [Op.operands];exact ⟨p.1,by simpa using hp⟩) v hv) (VR.ofV hok).cells;refine ⟨.agg ⟨r'⟩,?_,.agg h5⟩
 have hmap:(ps.map fun p=>(p.1,ev p.2)).toList=ps.toList.map fun p=>(p.1,ev p.2):=by simp
 have hz':zv.cells=⟨zv.cells.toList⟩:=by cases zv.cells;rfl
 have h6':Instr.fill pl zv.cells (ps.toList.map fun p=>(p.1,ev p.2))=some ⟨r'⟩:=by rw [hz'];exact h6
 unfold aOY at hpl
 split at hpl
 ·rename_i fs hu
  split at hpl
  ·rename_i l hl
   cases hpl
   have hm:(fs.mapM (fun f=>do pure (f.offset,<- sizeOf f.type):Field->Sem (Nat × Nat))).run P w=.ok ⟨l⟩ w:=by
    have:=wS hl w;rw [Array.mapM_eq_mapM_toList,Sem.run_map,this];rfl
   have h6'':Instr.fill (fun i:Nat=>(⟨l⟩:Array (Nat × Nat))[i]?) zv.cells (ps.toList.map fun p=>(p.1,ev p.2))=some ⟨r'⟩:=by
    have hg:(fun i:Nat=>(⟨l⟩:Array (Nat × Nat))[i]?)=fun i:Nat=>l[i]?:=by funext i;simp
    rw [hg];exact h6'
   simp only [execOp,ho,Instr.build,Sem.run_bind,dA hi hzv,Result.andThen_ok,run_underlying hu];rw [hm];simp only [Result.andThen_ok,hmap,h6''];rfl
  ·cases hpl
 ·rename_i n e hu
  split at hpl
  ·rename_i ei hei
   cases hpl;simp only [execOp,ho,Instr.build,Sem.run_bind,dA hi hzv,Result.andThen_ok,run_underlying hu,bP hei,hmap,h6'];rfl
  ·cases hpl
 ·cases hpl
end
noncomputable def cM (S:St)(id:Nat)(k:List V->TypeId->Fl->Prop):Prop :=
 Option.rec (motive:=fun _=>Prop) False (fun o=>O.rec (motive:=fun _=>Prop) (fun cs e fl=>k cs e fl) (fun _ _=>False) (fun _ _=>False) (fun _ _ _ _=>False) (fun _ _ _ _ _ _ _=>False) False o) (T.get fA id S.hp)
noncomputable def mC (S:St)(id:Nat)(k:List (V × V × Nat)->Nat->Prop):Prop :=
 Option.rec (motive:=fun _=>Prop) False (fun o=>O.rec (motive:=fun _=>Prop) (fun _ _ _=>False) (fun es c=>k es c) (fun _ _=>False) (fun _ _ _ _=>False) (fun _ _ _ _ _ _ _=>False) False o) (T.get fA id S.hp)
def wrK (fl:Fl)(k:Prop):Prop:=match fl with|.ro=>False|_=>k
noncomputable def cQ (l:List V):Bool:=List.rec (motive:=fun _=>Bool) true (fun v _ ih=>Bool.rec false ih v.one) l
abbrev tS:=Env->St->(V->Prop)->Prop
noncomputable def aKc (P:Program)(t:TypeId)(a:V)(S:St)(k:V->Prop):Prop :=
 aFf a fun id off=>cM S id fun cs _ _=>cR P t off cs k
noncomputable def aMV (P:Program)(t:TypeId)(a:Operand):tS:=fun E S k=>eZ E a fun v=>aKc P t v S k
def aIH (P:Program)(t:TypeId):Option (TypeId × TypeId):=match P.underlying t with|some (.map a b)=>some (a,b)|_=>none
def aGm (P:Program)(t:TypeId):Option Nat:=match P.underlying t with|some (.int _)=>some 0|some .string=>some 1|some .bool=>some 2|_=>none
noncomputable def aFV (c:Nat)(a b:V):Option Bool:=match c,a,b with
 | 0,.int j x,.int k y=>Bool.rec none (some (xU x y)) (kEq j k)
 | 1,.str s,.str t=>some (kG s t)
 | 2,.bool a,.bool b=>some (a == b)
 | _,_,_=>none
noncomputable def nQ (c:Nat)(key:V)(es:List (V × V × Nat)):Nat->Option (Option (Nat × V)) :=
 List.rec (motive:=fun _=>Nat->Option (Option (Nat × V))) (fun _=>some none)
  (fun e _ ih n=>Option.rec (motive:=fun _=>Option (Option (Nat × V))) none (fun b=>Bool.rec (ih (Nat.succ n)) (some (some (n,e.2.1))) b) (aFV c key e.1)) es
noncomputable def aIt (P:Program)(t:TypeId)(ok:Bool)(r:Option (Nat × V))(k:V->Prop):Prop :=
 Option.casesOn r (Option.casesOn (aAa P t) False fun z=>Bool.rec (k z) (k (.tup [z,.bool false])) ok) fun r=>Bool.rec (k r.2) (k (.tup [r.2,.bool true])) ok
noncomputable def aEd (P:Program)(t:TypeId)(m key:Operand)(ok:Bool):tS:=fun E S k=>eZ E m fun m=>eZ E key fun key=>Option.casesOn (aIH P t) False fun q=>Option.casesOn (aGm P q.1) False fun c=>match m with
 | .nilMap=>aIt P q.2 ok none k
 | .map id=>mC S id fun es _=>Option.casesOn (nQ c key es 0) False fun r=>aIt P q.2 ok r k
 | _=>False
noncomputable def aTe (P:Program)(t:TypeId)(v:V)(S:St)(k:V->Prop):Prop:=Option.casesOn (P.underlying t) False fun d=>match d,v with
 | .string,.str s=>fN (dH s) fun n=>k (.int .i64 (Int.ofNat n))
 | .array n _,_=>k (.int .i64 (Int.ofNat n))
 | .pointer a,_=>Option.casesOn (aPY P a) False fun q=>k (.int .i64 (Int.ofNat q.1))
 | .slice _,.slice _ _ n _ _ _=>k (.int .i64 (Int.ofNat n))
 | .slice _,.nilSlice=>k (.int .i64 0)
 | .map _ _,.nilMap=>k (.int .i64 0)
 | .map _ _,.map id=>mC S id fun es _=>fN (dH es) fun n=>k (.int .i64 (Int.ofNat n))
 | _,_=>False
noncomputable def aTd (P:Program)(t:TypeId)(v:V)(k:V->Prop):Prop:=Option.casesOn (P.underlying t) False fun d=>match d,v with
 | .slice _,.nilSlice=>k (.int .i64 0)
 | .slice _,.slice _ _ _ c _ true=>k (.int .i64 (Int.ofNat c))
 | _,_=>False
noncomputable def sK (P:Program)(t:TypeId)(x:Operand)(lo hi mx:Option Operand):tS:=fun E S k=>eZ E x fun v=>aFf v fun id off=>cM S id fun cs _ _ =>
 Option.casesOn (P.underlying t) False fun d=>Option.casesOn mx (match d with
 | .pointer a=>Option.casesOn (aPY P a) False fun q=>uW P q.2 fun es=>dD (Nat.ble (Nat.add off (Nat.mul q.1 es)) (dH cs)) (aEr q.1 es id off E lo hi k)
 | .array n e=>uW P e fun es=>dD (Nat.ble (Nat.add off (Nat.mul n es)) (dH cs)) (aEr n es id off E lo hi k)
 | _=>False) fun _=>False
noncomputable def aFr (P:Program)(s d:TypeId)(x:Operand):tS:=fun E S k=>eZ E x fun v=>aFf v fun id off=>cM S id fun cs e fl =>
 Option.casesOn (P.underlying s) False fun s'=>Option.casesOn (P.underlying d) False fun d'=>match s',d' with
 | .pointer t,.unsafePointer=>uW P t fun n=>Nat.casesOn n False fun _=>dD (Nat.blt off (dH cs)) (k (.ptr id off))
 | .unsafePointer,.pointer u=>match fl with
   | .ex=>uW P u fun _=>dD (liesAt P P.depth e (dH cs / P.cellsOf e) off u 1) (k (.ptr id off))
   | _=>False
 | _,_=>False
abbrev oX:=Env->(O->(Nat->V)->Prop)->Prop
noncomputable def aHz (P:Program)(t:TypeId):oX:=fun _ k=>Option.casesOn (uD P t) False fun z=>k (.cells z t .ex) fun id=>.ptr id 0
noncomputable def aST (t:TypeId)(x:Operand):oX:=fun E k=>eZ E x fun v=>k (.cells v.cells t .ex) fun id=>.ptr id 0
def repl {α:Type}(z:List α):Nat->List α
 | 0=>[]
 | n+1=>z ++ repl z n
noncomputable def rJ (P:Program)(t:TypeId)(n:Nat)(ps:Array (Nat × Operand)):oX:=fun E k =>
 Option.casesOn (qY P t) False fun e=>Option.casesOn (uD P e) False fun z=>uW P e fun es=>dD (Nat.beq (dH z) es) (dD (Nat.ble (Nat.mul n es) 16777216)
  (aNY E (fun i=>some (i * es,es)) ps.toList (repl z n) fun cs=>k (.cells cs e .ex) fun id=>.slice id 0 n n es true))
noncomputable def aAG (P:Program)(t:TypeId)(r:Option Operand):oX:=fun E k=>Option.casesOn r (k (.map [] 0) fun id=>.map id) fun r=>Option.casesOn (aIH P t) False fun _=>eZ E r fun v=>aHm v fun _ _=>k (.map [] 0) fun id=>.map id
noncomputable def uJ (P:Program)(t:TypeId)(l c:Operand):oX:=fun E k=>eZ E l fun l=>aHn l fun l=>eZ E c fun c=>aHn c fun c =>
 Option.casesOn (qY P t) False fun e=>Option.casesOn (uD P e) False fun z=>Option.casesOn (P.info? e) False fun i=>dD (Nat.beq (dH z) i.size) (dD (Nat.ble l c) (dD (Nat.ble c 281474976710656) (dD (Nat.ble (Nat.mul i.bytes c) 281474976710656)
  (k (.cells (repl z c) e .ex) fun id=>.slice id 0 l c i.size true))))
abbrev OpT:=Env->St->(V->St->Prop)->Prop
noncomputable def aUd (P:Program)(t:TypeId)(a x:V)(S:St)(k:St->Prop):Prop :=
 aFf a fun id off=>cM S id fun cs e fl=>wrK fl (uW P t fun n=>dD (Nat.beq (dH x.cells) n) (dD (Nat.blt 0 n) (dD (cQ x.cells) (eJ x.cells off cs fun cs=>bD id (some (.cells cs e fl)) S k))))
noncomputable def aHM (P:Program)(t:TypeId)(a x:Operand):OpT:=fun E S k=>eZ E a fun v=>eZ E x fun x=>aUd P t v x S fun S=>k undefV S
noncomputable def jM (P:Program)(t:TypeId)(m key x:Operand):OpT:=fun E S k=>eZ E m fun m=>eZ E key fun key=>eZ E x fun x=>Option.casesOn (aIH P t) False fun q=>Option.casesOn (aGm P q.1) False fun c=>match m with
 | .map id=>mC S id fun es n=>Option.casesOn (nQ c key es 0) False fun r=>Option.casesOn r (nH es [(key,x,n)] fun es=>bD id (some (.map es (Nat.succ n))) S fun S=>k undefV S)
   fun r=>Option.casesOn (nth es r.1) False fun e=>upd (key,x,e.2.2) es r.1 fun es=>bD id (some (.map es n)) S fun S=>k undefV S
 | _=>False
noncomputable def aHL (P:Program)(t:TypeId)(x:Operand):OpT:=fun E S k=>eZ E x fun v=>Option.casesOn (P.underlying t) False fun d=>match d,v with
 | .string,.str s=>bK (.strIter s 0) S fun id S=>k (.ptr id 0) S
 | .map _ _,.nilMap=>bK (.mapIter none 0 [] 0) S fun id S=>k (.ptr id 0) S
 | .map _ _,.map m=>mC S m fun _ c=>bK (.mapIter (some m) c [] c) S fun id S=>k (.ptr id 0) S
 | _,_=>False
noncomputable def aNu (n:Nat)(es:List (V × V × Nat)):Bool:=List.rec (motive:=fun _=>Bool) true (fun e _ ih=>Bool.rec false ih (Nat.blt e.2.2 n)) es
noncomputable def aOx (n:Nat)(l:List Nat):Bool:=List.rec (motive:=fun _=>Bool) false (fun m _ ih=>Bool.rec ih true (Nat.beq m n)) l
noncomputable def aGt (seen:List Nat)(es:List (V × V × Nat)):List (V × V × Nat):=List.rec (motive:=fun _=>List (V × V × Nat)) [] (fun e _ ih=>Bool.rec (e :: ih) ih (aOx e.2.2 seen)) es
noncomputable def aMW (x:Operand)(isS:Bool):OpT:=fun E S k=>eZ E x fun v=>aFf v fun id off=>Nat.casesOn off (Option.casesOn (T.get fA id S.hp) False fun o=>match o,isS with
 | .strIter s pos,true=>Bool.rec (k (.tup [.bool false]) S)
   (Prod.casesOn (Utf8.decode ⟨⟨s⟩⟩ pos) fun c w=>fN c fun c=>fN (Nat.add pos w) fun p=>bD id (some (.strIter s p)) S fun S=>k (.tup [.bool true,.int .i64 (Int.ofNat pos),.int .i32 (Int.ofNat c)]) S) (Nat.blt pos (dH s))
 | .mapIter none _ _ _,false=>k (.tup [.bool false]) S
 | .mapIter (some m) since seen stepped,false=>mC S m fun es clock=>dD (Nat.ble since stepped) (dD (aNu since es) (match aGt seen es with
   | []=>k (.tup [.bool false]) S
   | [e]=>nH seen [e.2.2] fun seen=>bD id (some (.mapIter (some m) since seen clock)) S fun S=>k (.tup [.bool true,e.1,e.2.1]) S
   | _=>False))
 | _,_=>False) fun _=>False
noncomputable def aHC (x:Operand):tS:=fun E S k=>eZ E x fun v=>aFf v fun id off=>Nat.rec (motive:=fun _=>Prop)
 (Option.rec (motive:=fun _=>Prop) False (fun o=>match o with
  | .mapIter (some m) _ seen stepped=>Option.rec (motive:=fun _=>Prop) False (fun b=>mC S m fun es c=>dD (Nat.beq c stepped)
    (Option.rec (motive:=fun _=>Prop) False (fun e=>k (.tup [e.1,e.2.1])) (es.find? fun e=>e.2.2 == b))) seen.getLast?
  | _=>False) (T.get fA id S.hp)) (fun _ _=>False) off
noncomputable def pT (s:List UInt8):(List V->Prop)->Prop :=
 List.rec (motive:=fun _=>(List V->Prop)->Prop) (fun k=>k []) (fun b _ ih k=>fN b.toNat fun n=>ih fun r=>k (.int .u8 (Int.ofNat n) :: r)) s
noncomputable def aRG (es:Nat)(S:St)(x:V)(k:List V->Nat->Prop):Prop:=match x with
 | .nilSlice=>k [] 0
 | .str s=>dD (Nat.beq es 1) (pT s fun cs=>k cs (dH s))
 | .slice id off n _ es' _=>dD (Nat.beq es es') (cM S id fun cs _ _=>kM off cs fun r=>fX (Nat.mul n es) r fun r=>k r n)
 | _=>False
def yI (P:Program)(ts:Array TypeId):Bool:=match ts[1]? with|none=>true|some t=>match P.underlying t with|none=>false|some (.int _)=>false|some _=>true
noncomputable def aO (P:Program)(ts:Array TypeId)(s x:V)(S:St)(k:V->St->Prop):Prop :=
 dD (yI P ts) (Option.casesOn (ts[0]?) False fun t=>Option.casesOn (qY P t) False fun e=>Option.casesOn (P.info? e) False fun i=>Option.casesOn (uD P e) False fun z=>dD (Nat.beq (dH z) i.size) (aRG i.size S x fun xs m=>match s with
 | .nilSlice=>match m with
   | 0=>k .nilSlice S
   | m=>dD (Nat.ble (Nat.mul m (Nat.succ i.bytes)) 70368744177664) (bK (.cells xs e .rw) S fun id S=>k (.slice id 0 m m i.size false) S)
 | .slice id off n c es ex=>dD (Nat.beq es i.size) (fN (Nat.add n m) fun need=>Bool.rec
   (dD (Nat.ble (Nat.mul need (Nat.succ i.bytes)) 70368744177664) (cM S id fun cs e' fl=>kM off cs fun r=>fX (Nat.mul n es) r fun old=>nH old xs fun all =>
    Bool.rec (wrK fl (dD (Nat.beq e e') (dD (cQ xs) (bD id none S fun S=>bK (.cells all e .rw) S fun id S=>k (.slice id 0 need need es false) S))))
     (bK (.cells all e .rw) S fun id S=>k (.slice id 0 need need es false) S) ex))
   (match m with
    | 0=>k (.slice id off n c es ex) S
    | _=>dD (Nat.blt 0 es) (cM S id fun cs e fl=>wrK fl (dD (cQ xs) (eJ xs (Nat.add off (Nat.mul n es)) cs fun cs=>bD id (some (.cells cs e fl)) S fun S=>k (.slice id off need c es ex) S))))
   (Nat.ble need c))
 | _=>False))
noncomputable def aSa (P:Program)(ts:Array TypeId)(d x:V)(S:St)(k:V->St->Prop):Prop :=
 Option.casesOn (ts[0]?) False fun t=>Option.casesOn (qY P t) False fun e=>uW P e fun sz=>dD (Nat.blt 0 sz) (aRG sz S x fun xs m=>match d with
 | .nilSlice=>k (.int .i64 0) S
 | .slice id off n _ es _=>dD (Nat.beq es sz) (fN (Nat.min m n) fun q=>fX (Nat.mul q es) xs fun xs=>match q with
   | 0=>k (.int .i64 0) S
   | q=>cM S id fun cs e fl=>wrK fl (dD (cQ xs) (eJ xs off cs fun cs=>bD id (some (.cells cs e fl)) S fun S=>k (.int .i64 (Int.ofNat q)) S)))
 | _=>False)
section
variable {P:Program} {E:Env}
def oN (P:Program)(o:Op)(E:Env)(H:Hs)(v:V):Prop :=
 ∀ (ρ:Rho) (ev:Operand->Value) (x:Oper) (w:World),x.op=o->vC ρ E ev o.operands.toList->cP ρ H w->∃ v',(execOp ev x).run P w=.ok (.value v') w∧VR ρ v v'
theorem iV.read {o:Op}{v:V}(h:iV P o E v)(H:Hs):oN P o E H v:=fun ρ ev x w hx he _=>h ρ ev x w hx he
theorem fV {S:St}{id:Nat}{k:List V->TypeId->Fl->Prop}(h:cM S id k):∃ cs e fl,S.hs.get id=some (.cells cs e fl)∧k cs e fl:=by
 obtain ⟨o,h1,h2⟩:=aQ (show Option.rec (motive:=fun _=>Prop) False _ (T.get fA id S.hp) from h)
 cases o <;> first|exact h2.elim|exact ⟨_,_,_,h1,h2⟩
theorem gV {S:St}{id:Nat}{k:List (V × V × Nat)->Nat->Prop}(h:mC S id k):∃ es n,S.hs.get id=some (.map es n)∧k es n:=by
 obtain ⟨o,h1,h2⟩:=aQ (show Option.rec (motive:=fun _=>Prop) False _ (T.get fA id S.hp) from h)
 cases o <;> first|exact h2.elim|exact ⟨_,_,h1,h2⟩
theorem pW {fl:Fl}{k:Prop}(h:wrK fl k):fl ≠ .ro∧k:=by cases fl <;> first|exact h.elim|exact ⟨sm,h⟩
theorem jU:∀ {l:List V},cQ l=true->∀ v ∈ l,v.one=true
 | [],_,v,hv=>by cases hv
 | u :: l,h,v,hv=>by
   have h':Bool.rec (motive:=fun _=>Bool) false (cQ l) u.one=true:=h
   cases hu:u.one with
   | false=>rw [hu] at h';cases h'
   | true =>
     rw [hu] at h'
     rcases av.1 hv with rfl|hv
     ·exact hu
     ·exact jU h' v hv
theorem aEL {t:TypeId}{id off:Nat}{cs:List V}{e:TypeId}{fl:Fl}{H:Hs}{k:V->Prop}(hg:H.get id=some (.cells cs e fl))(h:cR P t off cs k) :
  ∃ v,k v∧∀ (ρ:Rho) (w:World) (l:Loc),cP ρ H w->ρ id=some l->∃ v',(loadVar t ⟨l.blk,l.base+off,none⟩).run P w=.ok v' w∧VR ρ v v':=by
 obtain ⟨g,hag,h1⟩:=aQ (show Option.rec (motive:=fun _=>Prop) False _ (pY P t) from h)
 cases g with
 | false =>
   obtain ⟨v,h2,h3⟩:=aQ (show Option.rec (motive:=fun _=>Prop) False k (nth cs off) from h1);rw [nth_eq] at h2;refine ⟨v,h3,fun ρ w l hs hl=>?_⟩;obtain ⟨v',h4,h5⟩:=hs.cell hg hl h2;exact ⟨v',by simp [loadVar,qO hag,h4],h5⟩
 | true =>
   obtain ⟨i,hi,h2⟩:=eX (show uW P t _ from h1);obtain ⟨h3,h4⟩:=iD h2;obtain ⟨h5,h6⟩:=gP h4;refine ⟨_,h6,fun ρ w l hs hl=>?_⟩;obtain ⟨c',h7,h8⟩:=hs.loadCells (P:=P) hg hl (off:=off) (n:=i.size) (by simp at h5;omega);exact ⟨.agg ⟨c'⟩,by simp [loadVar,qO hag,bP hi,h7],.agg h8⟩
theorem aBC {t:TypeId}{a:V}{S:St}{k:V->Prop}(h:aKc P t a S k) :
  ∃ v,k v∧∀ (ρ:Rho) (w:World) (a':Value),cP ρ S.hs w->VR ρ a a'->∃ ad v',a'=.pointer (some ad)∧(loadVar t ad).run P w=.ok v' w∧VR ρ v v':=by
 obtain ⟨id,off,rfl,h1⟩:=kE h;obtain ⟨cs,e,fl,hg,h2⟩:=fV h1;obtain ⟨v,h3,h4⟩:=aEL hg h2;refine ⟨v,h3,fun ρ w a' hs ha=>?_⟩
 cases ha with
 | ptr _ hl =>
   obtain ⟨v',h5,h6⟩:=h4 ρ w _ hs hl;exact ⟨_,v',rfl,h5,h6⟩
theorem aHH {t:TypeId}{a:Operand}{S:St}{k:V->Prop}(h:aMV P t a E S k):∃ v,k v∧oN P (.load t a) E S.hs v:=by
 obtain ⟨va,h1,h2⟩:=bG (show eZ E a _ from h);obtain ⟨v,h3,h4⟩:=aBC h2;refine ⟨v,h3,fun ρ ev o w ho hev hs=>?_⟩;obtain ⟨ad,v',h5,h6,h7⟩:=h4 ρ w _ hs (hev.one (x:=a) (by simp [Op.operands]) h1);exact ⟨v',by simp [execOp,ho,h5,Instr.loadAt,Instr.sureAddr,h6],h7⟩
theorem tE {t:TypeId}{q:TypeId × TypeId}(h:aIH P t=some q):P.underlying t=some (.map q.1 q.2):=by
 unfold aIH at h;split at h
 ·cases h;assumption
 ·cases h
theorem pO {t:TypeId}{c:Nat}(h:aGm P t=some c):∃ d,P.underlying t=some d∧((c=0∧∃ k,d=.int k) ∨ (c=1∧d=.string) ∨ (c=2∧d=.bool)):=by
 unfold aGm at h;split at h <;> first|(cases h;done)|(cases h;exact ⟨_,by assumption,sm⟩)
theorem gO {t:TypeId}{c:Nat}(h:aGm P t=some c)(emp:Bool)(v:Value)(w:World):(Instr.checkKey emp 10000 t v).run P w=.ok () w:=by
 obtain ⟨d,hd,hc⟩:=pO h
 have:∀ n,(Instr.checkKey emp (n+1) t v).run P w=.ok () w:=fun n=>by
  rcases hc with ⟨_,k,rfl⟩|⟨_,rfl⟩|⟨_,rfl⟩ <;> (cases v <;> simp [Instr.checkKey,run_underlying hd])
 exact this 9999
theorem aIi {t:TypeId}{c:Nat}{d:TypeDesc}(hd:P.underlying t=some d)(h:aGm P t=some c){a b:V}{r:Bool}(he:aFV c a b=some r){ρ:Rho}{a' b':Value}(ha:VR ρ a a')(hb:VR ρ b b'):Instr.sameNow d a' b'=some r:=by
 obtain ⟨d',hd',hc⟩:=pO h;rw [hd] at hd';cases hd';unfold aFV at he
 split at he
 ·rename_i j x k y
  rcases hc with ⟨_,kd,rfl⟩|⟨hc,_⟩|⟨hc,_⟩ <;> first|cases hc|skip
  have he':Bool.rec (motive:=fun _=>Option Bool) none (some (xU x y)) (kEq j k)=some r:=he
  cases hk:kEq j k with
  | false=>rw [hk] at he';cases he'
  | true =>
    rw [hk] at he';have:=aIC hk;subst this;cases he';cases ha;cases hb;simp [Instr.sameNow,iZ]
 ·rename_i s u
  rcases hc with ⟨hc,_⟩|⟨_,rfl⟩|⟨hc,_⟩ <;> first|cases hc|skip
  cases he;cases ha;cases hb;simp only [Instr.sameNow,cY];rw [beq_toListBytes,ByteArray.toList_eq,ByteArray.toList_eq]
 ·rename_i x y
  rcases hc with ⟨hc,_⟩|⟨hc,_⟩|⟨_,rfl⟩ <;> first|cases hc|skip
  cases he;cases ha;cases hb;simp [Instr.sameNow]
 ·cases he
def aRV (r:Option (Nat × V))(ρ:Rho)(r':Option (Nat × Value)):Prop:=match r,r' with|none,none=>True|some (i,v),some (i',v')=>i=i'∧VR ρ v v'|_,_=>False
theorem lI {t:TypeId}{c:Nat}{d:TypeDesc}(hd:P.underlying t=some d)(h:aGm P t=some c){key:V}{ρ:Rho}{key':Value}(hk:VR ρ key key') :
  ∀ {es:List (V × V × Nat)} {es':List MapEntry} {n:Nat} {r:Option (Nat × V)},nQ c key es n=some r->uZ ρ es es' ->
    ∃ r',Instr.findNow d key' es' n=some r'∧aRV r ρ r'
 | [],[],n,r,he,_=>by
   have:some none=some r:=he;cases this;exact ⟨none,rfl,trivial⟩
 | (k1,v1,b1) :: es,e :: es',n,r,he,hE=>by
   obtain ⟨h1,h2,h3,h4⟩:=hE;have he':Option.rec (motive:=fun _=>Option (Option (Nat × V))) none (fun b=>Bool.rec (nQ c key es (Nat.succ n)) (some (some (n,v1))) b) (aFV c key k1)=some r:=he
   cases hq:aFV c key k1 with
   | none=>rw [hq] at he';cases he'
   | some b =>
     rw [hq] at he';have hsn:=aIi hd h hq hk h1
     cases b with
     | true =>
       have:some (some (n,v1))=some r:=he';cases this;exact ⟨some (n,e.val),by simp [Instr.findNow,hsn],rfl,h2⟩
     | false =>
       obtain ⟨r',h5,h6⟩:=lI hd h hk (show nQ c key es (n+1)=some r from he') h4;exact ⟨r',by simp [Instr.findNow,hsn,h5],h6⟩
 | [],_ :: _,_,_,_,hE=>hE.elim
 | _ :: _,[],_,_,_,hE=>by cases hE
theorem kB {t:TypeId}{d:TypeDesc}(hd:P.underlying t=some d){key:Value}{es:List MapEntry}{r:Option (Nat × Value)}(h:Instr.findNow d key es 0=some r)(w:World):(Instr.findKey t key es).run P w=.ok r w:=by
 simp [Instr.findKey,run_underlying hd,h]
theorem cP.map {ρ:Rho}{H:Hs}{w:World}(hs:cP ρ H w){id:Nat}{es:List (V × V × Nat)}{n:Nat}(h:H.get id=some (.map es n)){l:Loc}(hl:ρ id=some l) :
  ∃ es',w.heap[l.blk]?=some (.map es' n)∧uZ ρ es es'.toList:=by
 obtain ⟨l',co,a,b,_,es',rfl,c⟩:=hs.obj id _ h;rw [hl] at a;cases a;exact ⟨es',b,c⟩
theorem dQ {w:World}{b:Nat}{es:Array MapEntry}{n:Nat}(h:w.heap[b]?=some (.map es n)):(getObj b).run P w=.ok (.map es n) w:=by
 simp [getObj,Sem.run,h]
def aBn (ok:Bool)(v:Value)(b:Bool):Value:=if ok then .tuple #[v,.bool b] else v
theorem zL {t:TypeId}{ok:Bool}{r:Option (Nat × V)}{k:V->Prop}(h:aIt P t ok r k) :
  ∃ v,k v∧∀ (ρ:Rho) (r':Option (Nat × Value)),aRV r ρ r'->∃ v',VR ρ v v' ∧
    (r'=none->∃ z,(∀ w,(zeroValue t).run P w=.ok z w)∧v'=aBn ok z false)∧(∀ p,r'=some p->v'=aBn ok p.2 true):=by
 cases r with
 | none =>
   obtain ⟨z,hz,h1⟩:=aQ (show Option.rec (motive:=fun _=>Prop) False _ (aAa P t) from h);obtain ⟨i,zv,hi,hzv,hok,rfl⟩:=qV hz
   cases ok with
   | false =>
     refine ⟨_,h1,fun ρ r' hr=>?_⟩
     cases r' with
     | none=>exact ⟨zv,VR.ofV hok,fun _=>⟨zv,dA hi hzv,rfl⟩,fun p hp=>by cases hp⟩
     | some _=>exact hr.elim
   | true =>
     refine ⟨_,h1,fun ρ r' hr=>?_⟩
     cases r' with
     | none=>exact ⟨.tuple #[zv,.bool false],.tup (.cons (VR.ofV hok) (.cons (.bool _) .nil)),fun _=>⟨zv,dA hi hzv,rfl⟩,fun p hp=>by cases hp⟩
     | some _=>exact hr.elim
 | some p =>
   cases ok with
   | false =>
     refine ⟨_,h,fun ρ r' hr=>?_⟩
     cases r' with
     | none=>exact hr.elim
     | some p'=>exact ⟨p'.2,hr.2,(fun h=>by cases h),fun p hp=>by cases hp;rfl⟩
   | true =>
     refine ⟨_,h,fun ρ r' hr=>?_⟩
     cases r' with
     | none=>exact hr.elim
     | some p'=>exact ⟨.tuple #[p'.2,.bool true],.tup (.cons hr.2 (.cons (.bool _) .nil)),(fun h=>by cases h),fun p hp=>by cases hp;rfl⟩
theorem aEe {t:TypeId}{m key:Operand}{ok:Bool}{S:St}{k:V->Prop}(h:aEd P t m key ok E S k):∃ v,k v∧oN P (.lookup t m key ok) E S.hs v:=by
 obtain ⟨vm,h1,h2⟩:=bG (show eZ E m _ from h);obtain ⟨vk,h3,h4⟩:=bG h2;obtain ⟨q,hq,h5⟩:=aQ h4;obtain ⟨c,hc,h6⟩:=aQ h5;have hu:=tE hq;obtain ⟨d,hd,_⟩:=pO hc
 split at h6
 ·obtain ⟨v,h7,h8⟩:=zL h6;refine ⟨v,h7,fun ρ ev o w ho hev hs=>?_⟩;have hm:=hev.one (x:=m) (by simp [Op.operands]) h1;generalize hme:ev m=mv at hm;cases hm;obtain ⟨v',h9,h10,_⟩:=h8 ρ none trivial;obtain ⟨z,hz,rfl⟩:=h10 rfl;refine ⟨_,?_,h9⟩;simp only [execOp,ho,hme,Instr.lookup,Sem.run_bind,run_underlying hu,Result.andThen_ok,Sem.run_pure,gO hc];rw [kB hd (r:=none) (by simp [Instr.findNow])];simp [hz,aBn]
 ·rename_i id
  obtain ⟨es,n,hg,h7⟩:=gV h6;obtain ⟨r,hr,h8⟩:=aQ h7;obtain ⟨v,h9,h10⟩:=zL h8;refine ⟨v,h9,fun ρ ev o w ho hev hs=>?_⟩;have hm:=hev.one (x:=m) (by simp [Op.operands]) h1;have hk:=hev.one (x:=key) (by simp [Op.operands]) h3;generalize hme:ev m=mv at hm
  cases hm with
  | map hl =>
    obtain ⟨es',hb,hE⟩:=hs.map hg hl;obtain ⟨r',hf,hrr⟩:=lI hd hc hk hr hE;obtain ⟨v',h11,h12,h13⟩:=h10 ρ r' hrr;refine ⟨v',?_,h11⟩;simp only [execOp,ho,hme,Instr.lookup,Sem.run_bind,run_underlying hu,Result.andThen_ok,Sem.run_pure,gO hc,dQ hb];rw [kB hd hf]
    cases r' with
    | none=>obtain ⟨z,hz,rfl⟩:=h12 rfl;simp [hz,aBn]
    | some p=>rw [h13 p rfl];simp [aBn]
 ·exact h6.elim
end
section
variable {P:Program} {E:Env}
theorem arg1 {l:List Value}{v:V}{ρ:Rho}(h:VRs ρ [v] l):∃ v',l=[v']∧VR ρ v v':=by
 cases h with
 | cons h hs=>cases hs;exact ⟨_,rfl,h⟩
theorem arg2 {l:List Value}{v u:V}{ρ:Rho}(h:VRs ρ [v,u] l):∃ v' u',l=[v',u']∧VR ρ v v'∧VR ρ u u':=by
 cases h with
 | cons h hs =>
   obtain ⟨u',rfl,hu⟩:=Am.arg1 hs;exact ⟨_,u',rfl,h,hu⟩
theorem vU {x:Oper}{c:Call}{b:Builtin}(hx:x.op=.call c)(hb:c.callee=.builtin b)(ev:Operand->Value)(w:World) :
  (execOp ev x).run P w=(builtin b c.argTypes x.type (c.args.map fun|.const _=>true|_=>false) (c.args.map ev)).run P w:=by
 simp [execOp,hx,resolve,hb,invoke];rfl
theorem tU {c:Call}{b:Builtin}(hb:c.callee=.builtin b):(Op.call c).operands.toList=c.args.toList:=by
 simp [Op.operands,Call.operands,hb]
theorem qI (ev:Operand->Value)(a:Array Operand):a.map ev=⟨a.toList.map ev⟩:=by cases a;simp
theorem aCY {t:TypeId}{v:V}{S:St}{k:V->Prop}(h:aTe P t v S k) :
  ∃ r,k r∧∀ (ρ:Rho) (w:World) (v':Value) (ts:Array TypeId) (ty:TypeId),ts[0]?=some t->cP ρ S.hs w->VR ρ v v'->∃ r',(Builtin.len_ ts ty #[v']).run P w=.ok r' w∧VR ρ r r':=by
 obtain ⟨d,hd,h1⟩:=aQ (show Option.rec (motive:=fun _=>Prop) False _ (P.underlying t) from h)
 split at h1
 ·refine ⟨_,bV (k:=fun n=>k (.int .i64 (Int.ofNat n))) h1,fun ρ w v' ts ty hts hs hv=>?_⟩;cases hv
  rename_i s
  refine ⟨_,?_,.int .i64 _⟩
  have:(⟨⟨s⟩⟩:ByteArray).size=dH s:=by rw [aM];rfl
  simp [Builtin.len_,hts,run_underlying hd,goInt,this]
 ·refine ⟨_,h1,fun ρ w v' ts ty hts hs hv=>⟨_,?_,.int .i64 _⟩⟩;simp [Builtin.len_,hts,run_underlying hd,goInt]
 ·obtain ⟨q,hq,h2⟩:=aQ h1;unfold aPY at hq
  split at hq
  ·rename_i n e hu
   cases hq;refine ⟨_,h2,fun ρ w v' ts ty hts hs hv=>⟨_,?_,.int .i64 _⟩⟩;simp [Builtin.len_,hts,run_underlying hd,run_underlying hu,goInt]
  ·cases hq
 ·refine ⟨_,h1,fun ρ w v' ts ty hts hs hv=>?_⟩;cases hv;refine ⟨_,?_,.int .i64 _⟩;simp [Builtin.len_,hts,run_underlying hd,goInt]
 ·refine ⟨_,h1,fun ρ w v' ts ty hts hs hv=>?_⟩;cases hv;refine ⟨_,?_,.int .i64 _⟩;simp [Builtin.len_,hts,run_underlying hd,goInt]
 ·refine ⟨_,h1,fun ρ w v' ts ty hts hs hv=>?_⟩;cases hv;refine ⟨_,?_,.int .i64 _⟩;simp [Builtin.len_,hts,run_underlying hd,goInt]
 ·obtain ⟨es,n,hg,h2⟩:=gV h1;refine ⟨_,bV (k:=fun n=>k (.int .i64 (Int.ofNat n))) h2,fun ρ w v' ts ty hts hs hv=>?_⟩
  cases hv with
  | map hl =>
    obtain ⟨es',hb,hE⟩:=hs.map hg hl
    have hlen:∀ {a:List (V × V × Nat)} {b:List MapEntry},uZ ρ a b->a.length=b.length:=by
     intro a
     induction a with
     | nil=>intro b hb;cases b with|nil=>rfl|cons=>exact hb.elim
     | cons x a ih=>intro b hb;cases b with|nil=>cases hb|cons y b=>simp [ih hb.2.2.2]
    refine ⟨_,?_,.int .i64 _⟩
    have:es'.size=dH es:=by rw [aM,hlen hE];simp
    simp [Builtin.len_,hts,run_underlying hd,goInt,dQ hb,this]
 ·exact h1.elim
theorem aCX {t:TypeId}{v:V}{k:V->Prop}(h:aTd P t v k) :
  ∃ r,k r∧∀ (ρ:Rho) (w:World) (v':Value) (ts:Array TypeId) (ty:TypeId),ts[0]?=some t->VR ρ v v'->∃ r',(Builtin.cap_ ts ty #[v']).run P w=.ok r' w∧VR ρ r r':=by
 obtain ⟨d,hd,h1⟩:=aQ (show Option.rec (motive:=fun _=>Prop) False _ (P.underlying t) from h)
 split at h1
 ·refine ⟨_,h1,fun ρ w v' ts ty hts hv=>?_⟩;cases hv;refine ⟨_,?_,.int .i64 _⟩;simp [Builtin.cap_,hts,run_underlying hd,goInt]
 ·refine ⟨_,h1,fun ρ w v' ts ty hts hv=>?_⟩
  cases hv with
  | sliceS _ _ _ _ _ off' cap' sp hl hoff hcap hx hlen hr hsp =>
    refine ⟨_,?_,.int .i64 _⟩;simp [Builtin.cap_,hts,run_underlying hd,goInt,hx rfl]
 ·exact h1.elim
theorem aAI {t:TypeId}{x:Operand}{lo hi mx:Option Operand}{S:St}{k:V->Prop}(h:sK P t x lo hi mx E S k):∃ v,k v∧oN P (.slice t x lo hi mx) E S.hs v:=by
 obtain ⟨a,h1,h2⟩:=bG (show eZ E x _ from h);obtain ⟨id,off,rfl,h3⟩:=kE h2;obtain ⟨cs,e,fl,hg,h4⟩:=fV h3;obtain ⟨d,hd,h5⟩:=aQ h4;obtain ⟨rfl,h6⟩:=yH h5;obtain ⟨mx0,mlo,mhi,_⟩:=@aDz t x lo hi none
 have fin:∀ (n es:Nat),Nat.ble (Nat.add off (Nat.mul n es)) (dH cs)=true->aEr n es id off E lo hi k ->
   ∃ v,k v∧∀ (ρ:Rho) (ev:Operand->Value) (w:World) (l:Loc),vC ρ E ev (Op.slice t x lo hi none).operands.toList->cP ρ S.hs w->ρ id=some l ->
     ∃ lb hb:Nat,(∀ w,(Instr.sliceBounds false n n (lo.map ev) (hi.map ev) none).run P w=.ok (lb,hb,n) w) ∧
       VR ρ v (.slice (some (if n=lb then ⟨l.blk,l.base+off,none⟩ else (⟨l.blk,l.base+off,none⟩:Addr).add (lb * es))) (hb - lb) (n - lb)):=by
  intro n es hle hc;obtain ⟨v,h7,h8⟩:=aFM (P:=P) hc;refine ⟨v,h7,fun ρ ev w l hev hs hl=>h8 ρ ev l (fun y hy v hv=>hev.one (mlo y hy) hv) (fun y hy v hv=>hev.one (mhi y hy) hv) hl fun _=>?_⟩;obtain ⟨l',co,a,b,c,f,rfl,hsz,hlec,_,_,_⟩:=hs.obj id _ hg;rw [hl] at a;cases a;have:=ae hle;rw [aM] at this;have h2:off+n * es <= cs.length:=this;omega
 split at h6
 ·rename_i a
  obtain ⟨q,hq,h7⟩:=aQ h6;obtain ⟨ei,hei,h8⟩:=eX h7;obtain ⟨h9,h10⟩:=aT h8;unfold aPY at hq
  split at hq
  ·rename_i n el hu
   cases hq;obtain ⟨v,h11,h12⟩:=fin n ei.size h9 h10;refine ⟨v,h11,fun ρ ev o w ho hev hs=>?_⟩;have hc:=hev.one mx0 h1;generalize hce:ev x=cv at hc
   cases hc with
   | ptr _ hl =>
     obtain ⟨lb,hb,hrun,hv⟩:=h12 ρ ev w _ hev hs hl;refine ⟨_,?_,hv⟩;simp [execOp,ho,hce,Instr.sliceAt,Instr.slice,run_underlying hd,run_underlying hu,asAddr,hrun,bP hei]
  ·cases hq
 ·rename_i n el
  obtain ⟨ei,hei,h8⟩:=eX h6;obtain ⟨h9,h10⟩:=aT h8;obtain ⟨v,h11,h12⟩:=fin n ei.size h9 h10;refine ⟨v,h11,fun ρ ev o w ho hev hs=>?_⟩;have hc:=hev.one mx0 h1;generalize hce:ev x=cv at hc
  cases hc with
  | ptr _ hl =>
    obtain ⟨lb,hb,hrun,hv⟩:=h12 ρ ev w _ hev hs hl;refine ⟨_,?_,hv⟩;simp [execOp,ho,hce,Instr.sliceAt,run_underlying hd,Instr.sureAddr,hrun,bP hei]
 ·exact h6.elim
theorem cP.shape {ρ:Rho}{H:Hs}{w:World}(hs:cP ρ H w){id:Nat}{cs:List V}{e:TypeId}{fl:Fl}(h:H.get id=some (.cells cs e fl)){l:Loc}(hl:ρ id=some l) :
  w.shape? l.blk=some (e,l.csz)∧l.base+cs.length <= l.csz∧(fl=.ex->l.base=0∧cs.length=l.csz):=by
 obtain ⟨l',co,a,b,c,f,rfl,hsz,hle,_,_,hx⟩:=hs.obj id _ h;rw [hl] at a;cases a;exact ⟨by simp [World.shape?,b,hsz],om,fun hfl=>⟨(hx hfl).1,by rw [hsz];exact (hx hfl).2⟩⟩
theorem aBV {w:World}{b:Nat}{q:TypeId × Nat}(h:w.shape? b=some q):(viewAt b).run P w=.ok none w:=by
 simp [viewAt,h]
theorem aGU {w:World}{b:Nat}{q:TypeId × Nat}(h:w.shape? b=some q):(cellsIn b).run P w=.ok (some q.2) w:=by
 simp [cellsIn,h]
theorem aCv {s d:TypeId}{x:Operand}{S:St}{k:V->Prop}(h:aFr P s d x E S k):∃ v,k v∧oN P (.convert s d x) E S.hs v:=by
 obtain ⟨a,h1,h2⟩:=bG (show eZ E x _ from h);obtain ⟨id,off,rfl,h3⟩:=kE h2;obtain ⟨cs,e,fl,hg,h4⟩:=fV h3;obtain ⟨s',hs',h5⟩:=aQ h4;obtain ⟨d',hd',h6⟩:=aQ h5
 split at h6
 ·rename_i t
  obtain ⟨ti,hti,h7⟩:=eX h6
  have h8:ti.size ≠ 0∧dD (Nat.blt off (dH cs)) (k (.ptr id off)):=by
   cases hz:ti.size with
   | zero=>rw [hz] at h7;exact h7.elim
   | succ n=>rw [hz] at h7;exact ⟨sm,h7⟩
  obtain ⟨hn,h9⟩:=h8;obtain ⟨hlt,h10⟩:=aT h9
  have hlt':off < cs.length:=by rw [aM] at hlt;simpa using hlt
  refine ⟨_,h10,fun ρ ev o w ho hev hs=>?_⟩;have hc:=hev.one (x:=x) (by simp [Op.operands]) h1;generalize hce:ev x=cv at hc
  cases hc with
  | ptr _ hl =>
    rename_i l
    obtain ⟨hsh,hle,_⟩:=hs.shape hg hl;refine ⟨_,?_,.ptr off hl⟩;have hge:¬ (l.csz <= l.base+off):=om;simp [execOp,ho,hce,convert,run_underlying hs',run_underlying hd',Conv.unsafePointer,Conv.seenAt,aBV hsh,aGU hsh,bP hti,hn,hge]
 ·rename_i u
  cases fl with
  | ro=>exact h6.elim
  | rw=>exact h6.elim
  | ex =>
    obtain ⟨ui,hui,h7⟩:=eX h6;obtain ⟨hlie,h8⟩:=aT h7;rw [aM] at hlie;refine ⟨_,h8,fun ρ ev o w ho hev hs=>?_⟩;have hc:=hev.one (x:=x) (by simp [Op.operands]) h1;generalize hce:ev x=cv at hc
    cases hc with
    | ptr _ hl =>
      rename_i l
      obtain ⟨hsh,hle,hx⟩:=hs.shape hg hl;obtain ⟨hb0,hcl⟩:=hx rfl;refine ⟨_,?_,.ptr off hl⟩
      have hva:(variablesAt ⟨l.blk,l.base+off,none⟩ u 1).run P w=.ok true w:=by
       simp [variablesAt,hsh,<- hcl,hb0,hlie]
      simp [execOp,ho,hce,convert,run_underlying hs',run_underlying hd',Conv.unsafePointer,Conv.seenAt,aBV hsh,bP hui,hva]
 ·exact h6.elim
def nD (P:Program)(op:Op)(E:Env)(o:O)(mk:Nat->V):Prop :=
 ∀ (ρ:Rho) (ev:Operand->Value) (x:Oper) (w:World) (id0:Nat),x.op=op->vC ρ E ev op.operands.toList->ρ id0=none ->
   ∃ v' co csz,(execOp ev x).run P w=.ok (.value v') (w.alloc co)∧VR (ρ.put id0 ⟨w.heap.size,0,csz,true⟩) (mk id0) v'∧OR (ρ.put id0 ⟨w.heap.size,0,csz,true⟩) ⟨w.heap.size,0,csz,true⟩ o co
theorem OR.cells_new {ρ:Rho}{cs:List V}{cs':List Value}(h:VRs ρ cs cs')(b:Nat)(t:TypeId)(fl:Fl):OR ρ ⟨b,0,cs'.length,true⟩ (.cells cs t fl) (.cells ⟨cs'⟩ t):=by
 refine ⟨⟨cs'⟩,(0,0),rfl,sm,by simp [h.length],fun i v hi=>?_,fun _=>⟨rfl,fun off _=>by simp⟩,fun _=>⟨rfl,by simp [h.length]⟩⟩;obtain ⟨v',a,b⟩:=h.get hi;exact ⟨v',by simpa using a,b⟩
theorem VR.ptr_new {ρ:Rho}{id b csz:Nat}:VR (ρ.put id ⟨b,0,csz,true⟩) (.ptr id 0) (.pointer (some ⟨b,0,none⟩)):=by
 have:=VR.ptr (ρ:=ρ.put id ⟨b,0,csz,true⟩) 0 (Rho.put_self _ _ _);simpa using this
theorem aFp {t:TypeId}{k:O->(Nat->V)->Prop}(h:aHz P t E k):∃ o mk,k o mk∧nD P (.alloc t) E o mk:=by
 obtain ⟨z,hz,h1⟩:=aQ (show Option.rec (motive:=fun _=>Prop) False _ (uD P t) from h);obtain ⟨i,zv,hi,hzv,hok,rfl⟩:=lV hz;refine ⟨_,_,h1,fun ρ ev x w id0 hx hev h0=>⟨.pointer (some ⟨w.heap.size,0,none⟩),.cells zv.cells t,zv.cells.toList.length,?_,VR.ptr_new,?_⟩⟩
 ·simp [execOp,hx,Instr.alloc,dA hi hzv,newVar,newRow]
 ·have:=OR.cells_new (VR.ofV (ρ:=ρ.put id0 ⟨w.heap.size,0,zv.cells.toList.length,true⟩) hok).cells w.heap.size t .ex;simpa using this
theorem aKQ {t:TypeId}{x:Operand}{k:O->(Nat->V)->Prop}(h:aST t x E k):∃ o mk,k o mk∧nD P (.box t x) E o mk:=by
 obtain ⟨v,h1,h2⟩:=bG (show eZ E x _ from h);refine ⟨_,_,h2,fun ρ ev y w id0 hy hev h0=>⟨.pointer (some ⟨w.heap.size,0,none⟩),.cells (ev x).cells t,(ev x).cells.toList.length,?_,VR.ptr_new,?_⟩⟩
 ·simp [execOp,hy,Instr.box,newVar,newRow]
 ·have hv:=(hev.one (x:=x) (by simp [Op.operands]) h1).cells.mono (Rho.le_put h0 ⟨w.heap.size,0,(ev x).cells.toList.length,true⟩);have:=OR.cells_new hv w.heap.size t .ex;simpa using this
theorem aCx {t:TypeId}{r:Option Operand}{k:O->(Nat->V)->Prop}(h:aAG P t r E k):∃ o mk,k o mk∧nD P (.makeMap t r) E o mk:=by
 have fin:∀ (hrun:∀ ρ (ev:Operand->Value) (w:World),vC ρ E ev (Op.makeMap t r).operands.toList->(Instr.makeMap t (r.map ev)).run P w=.ok (.map (some w.heap.size)) (w.alloc (.map #[] 0))),
   nD P (.makeMap t r) E (.map [] 0) fun id=>.map id:=fun hrun ρ ev x w id0 hx hev h0 =>
  ⟨.map (some w.heap.size),.map #[] 0,0,by simp [execOp,hx,hrun ρ ev w hev],.map (Rho.put_self _ _ _),⟨rfl,#[],rfl,trivial⟩⟩
 cases r with
 | none=>exact ⟨_,_,h,fin fun ρ ev w _=>by simp [Instr.makeMap]⟩
 | some y =>
   obtain ⟨q,hq,h1⟩:=aQ (show Option.rec (motive:=fun _=>Prop) False _ (aIH P t) from h);obtain ⟨v,h2,h3⟩:=bG h1;obtain ⟨a,n,rfl,h4⟩:=gW h3;refine ⟨_,_,h4,fin fun ρ ev w hev=>?_⟩;have hc:=hev.one (x:=y) (by simp [Op.operands]) h2;generalize hce:ev y=cv at hc;cases hc;simp [Instr.makeMap,hce,run_underlying (tE hq),asInt,asIntOf]
theorem VRs.repl {ρ:Rho}{a:List V}{b:List Value}(h:VRs ρ a b):∀ n,VRs ρ (Am.repl a n) (Am.repl b n)
 | 0=>.nil
 | n+1=>h.append (h.repl n)
theorem kA {α:Type}(z:List α):∀ n,(repl z n).length=n * z.length
 | 0=>by simp [repl]
 | n+1=>by simp [repl,kA z n,Nat.add_mul];omega
theorem aGM {α:Type}(z:List α)(hz:z ≠ []):∀ (n i:Nat),i < n * z.length->(repl z n)[i]?=z[i % z.length]?
 | 0,i,h=>by simp at h
 | n+1,i,h=>by
   have hp:0 < z.length:=List.length_pos_iff.2 hz;simp only [repl];by_cases hi:i < z.length
   ·rw [List.getElem?_append_left hi,Nat.mod_eq_of_lt hi]
   ·rw [List.getElem?_append_right om,aGM z hz n (i - z.length) (by rw [Nat.add_mul] at h;omega)]
    have:i % z.length=(i - z.length) % z.length:=by rw [Nat.mod_eq_sub_mod om]
    rw [this]
theorem xX (z:Array Value)(n m:Nat)(hz:z.size=m) :
  ((Array.range (n * m)).map (z[· % z.size]!))=⟨repl z.toList n⟩:=by
 apply Array.ext';apply List.ext_getElem?;intro i
 have hl:(repl z.toList n).length=n * m:=by rw [kA];simp [hz]
 by_cases hi:i < n * m
 ·have hm:0 < m:=Nat.pos_of_ne_zero fun h=>by subst h;simp at hi
  have hne:z.toList ≠ []:=by intro h;have h2:=congrArg List.length h;simp [hz] at h2;omega
  have:=aGM z.toList hne n i (by simpa [hz] using hi);show _=(repl z.toList n)[i]?;rw [this];have hmod:i % z.size < z.size:=Nat.mod_lt _ om;simp [hi,hmod]
 ·show _=(repl z.toList n)[i]?
  have h1:((Array.range (n * m)).map (z[· % z.size]!)).toList.length=n * m:=by simp
  rw [List.getElem?_eq_none om,List.getElem?_eq_none om]
theorem xL {t:TypeId}{n:Nat}{ps:Array (Nat × Operand)}{k:O->(Nat->V)->Prop}(h:rJ P t n ps E k):∃ o mk,k o mk∧nD P (.buildSlice t n ps) E o mk:=by
 obtain ⟨e,he,h1⟩:=aQ (show Option.rec (motive:=fun _=>Prop) False _ (qY P t) from h);obtain ⟨z,hz,h2⟩:=aQ h1;obtain ⟨ei,hei,h3⟩:=eX h2;obtain ⟨h4,h5⟩:=aT h3;obtain ⟨h6,h7⟩:=aT h5;obtain ⟨r,h8,h9⟩:=uM h7;obtain ⟨i,zv,hi,hzv,hok,rfl⟩:=lV hz;rw [hei] at hi;cases hi
 have hu:P.underlying t=some (.slice e):=by
  unfold qY at he;split at he
  ·cases he;assumption
  ·cases he
 refine ⟨_,_,h8,fun ρ ev x w id0 hx hev h0=>?_⟩;have hzl:=(VR.ofV (ρ:=ρ) hok).cells
 have hsz:zv.cells.size=ei.size:=by
  rw [aM] at h4;have:=aj h4;have h2:=hzl.length;simp at h2;omega
 obtain ⟨r',h10,h11⟩:=h9 ρ ev (repl zv.cells.toList n) (fun p hp v hv=>hev p.2 (by simp [Op.operands];exact ⟨p.1,by simpa using hp⟩) v hv) (hzl.repl n)
 have hmap:(ps.map fun p=>(p.1,ev p.2)).toList=ps.toList.map fun p=>(p.1,ev p.2):=by simp
 have hle:n * ei.size <= 16777216:=ae h6;refine ⟨.slice (some ⟨w.heap.size,0,none⟩) n n,.cells ⟨r'⟩ e,r'.length,?_,?_,OR.cells_new (h10.mono (Rho.le_put h0 _)) _ _ _⟩
 ·have hng:¬ (n * ei.size > 2 ^ 24):=om
  have h11':Instr.fill (fun i=>some (i * ei.size,ei.size)) ⟨repl zv.cells.toList n⟩ (ps.map fun p=>(p.1,ev p.2)).toList=some ⟨r'⟩:=by rw [hmap];exact h11
  simp only [execOp,hx,Instr.buildSlice,Sem.run_bind,run_underlying hu,Result.andThen_ok,bP hei,if_neg hng,Sem.run_pure];by_cases h0:n * ei.size=0
  ·have hcells:((Array.range (n * ei.size)).map ((#[]:Array Value)[· % (#[]:Array Value).size]!))=⟨repl zv.cells.toList n⟩:=by
    rw [h0];apply Array.ext'
    have:(repl zv.cells.toList n).length=0:=by rw [kA];simp [hsz,h0]
    simp [List.length_eq_zero_iff.1 this]
   rw [if_pos h0];simp only [pure_bind,hcells,h11'];simp [newRow]
  ·have hcells:=xX zv.cells n ei.size hsz;rw [if_neg h0];simp only [Sem.run_bind,dA hei hzv,Result.andThen_ok,Sem.run_pure,hcells,h11'];simp [newRow]
 ·have hlen:n * ei.size=r'.length:=by
   have a1:=h10.length
   have a2:∀ (l:List (Nat × Value)) (c c':Array Value),Instr.fill (fun i=>some (i * ei.size,ei.size)) c l=some c'->c'.size=c.size:=by
    intro l
    induction l with
    | nil=>intro c c' h;simp [Instr.fill] at h;rw [h]
    | cons p l ih =>
      intro c c' h;simp only [Instr.fill] at h
      split at h
      ·cases h
      ·rw [ih _ _ h]
       have:∀ (vs:List (Value × Nat)) (c:Array Value),(vs.foldl (fun cs (p':Value × Nat)=>cs.setIfInBounds (p.1 * ei.size+p'.2) p'.1) c).size=c.size:=by
        intro vs
        induction vs with
        | nil=>intro c;rfl
        | cons q vs ih=>intro c;simp [ih]
       rw [<- Array.foldl_toList];exact this _ _
   have a3:=a2 _ _ _ h11
   have a4:(repl zv.cells.toList n).length=n * ei.size:=by rw [kA];simp [hsz]
   simp at a3;omega
  have:=VR.slice (ρ:=ρ.put id0 ⟨w.heap.size,0,r'.length,true⟩) 0 n n ei.size true 0 n (Rho.put_self _ _ _) (fun _=>rfl) (af _) (fun _=>rfl) (af _) (fun _=>by simp;omega);simpa using this
theorem aAf {t:TypeId}{l c:Operand}{k:O->(Nat->V)->Prop}(h:uJ P t l c E k):∃ o mk,k o mk∧nD P (.makeSlice t l c) E o mk:=by
 obtain ⟨vl,h1,h2⟩:=bG (show eZ E l _ from h);obtain ⟨al,ln,rfl,h3⟩:=lS h2;obtain ⟨vc,h4,h5⟩:=bG h3;obtain ⟨ac,cn,rfl,h6⟩:=lS h5;obtain ⟨e,he,h7⟩:=aQ h6;obtain ⟨z,hz,h8⟩:=aQ h7;obtain ⟨ei,hei,h9⟩:=aQ h8;obtain ⟨g1,h10⟩:=aT h9;obtain ⟨g2,h11⟩:=aT h10;obtain ⟨g3,h12⟩:=aT h11;obtain ⟨g4,h13⟩:=aT h12;obtain ⟨i,zv,hi,hzv,hok,rfl⟩:=lV hz;rw [hei] at hi;cases hi
 have hu:P.underlying t=some (.slice e):=by
  unfold qY at he;split at he
  ·cases he;assumption
  ·cases he
 refine ⟨_,_,h13,fun ρ ev x w id0 hx hev h0=>?_⟩;have hzl:=(VR.ofV (ρ:=ρ) hok).cells
 have hsz:zv.cells.size=ei.size:=by
  rw [aM] at g1;have:=aj g1;have h2:=hzl.length;simp at h2;omega
 have g2':=ae g2;have g3':=ae g3;have g4':ei.bytes * cn <= 281474976710656:=ae g4;have yA:=hev.one (x:=l) (by simp [Op.operands]) h1;have hcv:=hev.one (x:=c) (by simp [Op.operands]) h4;generalize hle:ev l=lv at yA;generalize hce:ev c=cv at hcv;cases yA;cases hcv
 have hrl:(repl zv.cells.toList cn).length=cn * ei.size:=by rw [kA];simp [hsz]
 refine ⟨.slice (some ⟨w.heap.size,0,none⟩) ln cn,.cells ⟨repl zv.cells.toList cn⟩ e,(repl zv.cells.toList cn).length,?_,?_,OR.cells_new ((hzl.repl cn).mono (Rho.le_put h0 _)) _ _ _⟩
 ·have hb:(ei.bytes:Int) * (Int.ofNat cn) <= 281474976710656:=by
   have:((ei.bytes * cn:Nat):Int) <= ((281474976710656:Nat):Int):=Int.ofNat_le.2 g4';rwa [Int.natCast_mul] at this
  have hm:=run_make w t e ei zv hu hei hzv al ac (Int.ofNat ln) (Int.ofNat cn) (Int.natCast_nonneg ln) (Int.ofNat_le.2 g2') hb (Int.le_trans (Int.ofNat_le.2 g3') dc);have hc:madeCells zv.cells (cn * ei.size)=⟨repl zv.cells.toList cn⟩:=xX zv.cells cn ei.size hsz;have t1:(Int.ofNat ln).toNat=ln:=rfl;have t2:(Int.ofNat cn).toNat=cn:=rfl;rw [t1,t2,hc] at hm;simp only [execOp,hx,hle,hce,Sem.run_bind,hm,Result.andThen_ok,Sem.run_pure]
 ·have:=VR.slice (ρ:=ρ.put id0 ⟨w.heap.size,0,(repl zv.cells.toList cn).length,true⟩) 0 ln cn ei.size true 0 cn (Rho.put_self _ _ _) (fun _=>rfl) (af _) (fun _=>rfl) g2' (fun _=>by simp;omega);simpa using this
end
section
variable {P:Program} {E:Env}
def OpS (P:Program)(o:Op)(E:Env)(H:Hs)(v:V)(H':Hs):Prop :=
 ∀ (ρ:Rho) (ev:Operand->Value) (x:Oper) (w:World),x.op=o->vC ρ E ev o.operands.toList->cP ρ H w ->
   ∃ v' w' ρ',((execOp ev x).run P w=.ok (.value v') w' ∨ (v'=undef∧(execOp ev x).run P w=.ok .skip w'))∧VR ρ' v v'∧cP ρ' H' w'∧Ext ρ H w ρ' H' w'
theorem oN.op {o:Op}{H:Hs}{v:V}(h:oN P o E H v):OpS P o E H v H:=fun ρ ev x w hx he hs =>
 let ⟨v',h1,h2⟩:=h ρ ev x w hx he hs
 ⟨v',w,ρ,.inl h1,h2,hs,Ext.refl _ _ _⟩
theorem nD.op {o:Op}{ob:O}{mk:Nat->V}{H:Hs}(h:nD P o E ob mk):OpS P o E H (mk H.next) (H.new ob):=fun ρ ev x w hx he hs =>
 let ⟨v',co,csz,h1,h2,h3⟩:=h ρ ev x w H.next hx he (hs.fresh _ (af _))
 let ⟨h4,h5⟩:=hs.alloc h3
 ⟨v',w.alloc co,_,.inl h1,h2,h4,h5⟩
theorem aFz {t:TypeId}{a x:Operand}{S:St}{k:V->St->Prop}(h:aHM P t a x E S k):∃ v S',k v S'∧OpS P (.store t a x) E S.hs v S'.hs:=by
 obtain ⟨va,h1,h2⟩:=bG (show eZ E a _ from h);obtain ⟨vx,h3,h4⟩:=bG h2;obtain ⟨id,off,rfl,h5⟩:=kE h4;obtain ⟨cs,e,fl,hg,h6⟩:=fV h5;obtain ⟨hfl,h7⟩:=pW h6;obtain ⟨i,hi,h8⟩:=eX h7;obtain ⟨g1,h9⟩:=aT h8;obtain ⟨g0,h9'⟩:=aT h9;obtain ⟨g2,h10⟩:=aT h9';obtain ⟨g3,h11⟩:=nC h10;obtain ⟨S',h12,hS'⟩:=bS h11;refine ⟨_,S',h12,fun ρ ev o w ho hev hs=>?_⟩;rw [aM] at g1;have g1':=aj g1;have hp:=hev.one (x:=a) (by simp [Op.operands]) h1;have hx:=hev.one (x:=x) (by simp [Op.operands]) h3;generalize hpe:ev a=pv at hp;generalize hxe:ev x=xv at hx
 have hne:vx.cells ≠ []:=fun hz=>by
  have:0 < i.size:=by simpa using g0
  rw [hz] at g1';simp at g1';omega
 simp only [hne,if_false,Nat.add_zero] at g3
 cases hp with
 | ptr _ hl =>
   rename_i l
   obtain ⟨w',hr,hs',he⟩:=cP.storeCells (P:=P) hfl hl (off:=off) hx.cells (jU g2) (i:=0) hs hg (by simpa using g3);refine ⟨undef,w',ρ,.inr ⟨rfl,?_⟩,VR.undef ρ,?_,?_⟩
   ·have hsz:xv.cells.size=i.size:=by
     have:=hx.cells.length;simp at this;omega
    simp [execOp,ho,hpe,hxe,Instr.storeAt,Instr.sureAddr,storeVar,bP hi,hsz,hr]
   ·rw [hS'];exact hs'
   ·rw [hS'];exact he
theorem cP.put_obj {ρ:Rho}{H:Hs}{w w':World}(hs:cP ρ H w){id:Nat}{o o':O}(h:H.get id=some o)
  {l:Loc} (hl:ρ id=some l) (hrw:l.rw=true) {co':Obj} (hb:w'.heap[l.blk]?=some co') (hoth:∀ b,b ≠ l.blk->w'.heap[b]?=w.heap[b]?)
  (hsz:w'.heap.size=w.heap.size) (ht:w'.tape=w.tape) (hos:w'.os=w.os) (hout:w'.output=w.output) (ho:OR ρ l o' co') (hdr:w.drawn <= w'.drawn:=by exact af _) :
  cP ρ (H.put id (some o')) w'∧Ext ρ H w ρ (H.put id (some o')) w':=by
 have hsome:(H.get id).isSome:=by rw [h];rfl
 have hget:∀ i,((H.put id (some o')).get i).isSome->(H.get i).isSome:=fun i hi=>by
  by_cases e:i=id
  ·subst e;exact hsome
  ·simpa [Hs.put,e] using hi
 refine ⟨⟨fun i oi hi=>?_,fun i j li lj hi hj=>hs.sep i j li lj (hget i hi) (hget j hj),hs.fresh⟩,?_⟩
 ·by_cases e:i=id
  ·subst e;simp [Hs.put] at hi;subst hi;exact ⟨l,co',hl,hb,ho⟩
  ·simp [Hs.put,e] at hi;obtain ⟨li,co,a,b,c⟩:=hs.obj i oi hi;refine ⟨li,co,a,?_,c⟩;rw [hoth _ (fun hbe=>hs.sep id i l li hsome (by rw [hi];rfl) hl a hrw (Ne.symm e) hbe.symm)];exact b
 ·exact {
   rho:=fun _ _=>rfl
   next:=af _
   size:=Nat.le_of_eq hsz.symm
   keep:=fun b _ hn=>hoth b fun hbe=>hn ⟨id,l,hsome,hl,hrw,hbe.symm⟩
   own:=fun b ⟨i,li,hi,hli,hr,hb⟩=>.inr ⟨i,li,hget i hi,hli,hr,hb⟩
   has:=fun b ⟨i,li,hi,hli,hb⟩=>.inr ⟨i,li,hget i hi,hli,hb⟩
   tape:=ht,os:=hos,output:=hout,drawn:=hdr }
end
section
variable {P:Program} {E:Env}
theorem iN {w:World}{b:Nat}{o o':Obj}(h:w.heap[b]?=some o)(hc:∀ c e f,o ≠ .cells c e f):(setObj b o').run P w=.ok () { w with heap:=w.heap.setIfInBounds b o' }:=by
 cases o <;> first|exact absurd rfl (hc _ _ _)|simp [setObj,Sem.run,h]
theorem jQ {w:World}{b:Nat}{o:Obj}(h:w.heap[b]?=some o)(hc:∀ c e f,o ≠ .cells c e f):(getObj b).run P w=.ok o w:=by
 cases o <;> first|exact absurd rfl (hc _ _ _)|simp [getObj,Sem.run,h]
theorem iL {ρ:Rho}{H:Hs}{w:World}(hs:cP ρ H w){id:Nat}{o o':O}(h:H.get id=some o){l:Loc}(hl:ρ id=some l)(hrw:l.rw=true){co co':Obj}(hb:w.heap[l.blk]?=some co)(ho:OR ρ l o' co') :
  cP ρ (H.put id (some o')) { w with heap:=w.heap.setIfInBounds l.blk co' }∧Ext ρ H w ρ (H.put id (some o')) { w with heap:=w.heap.setIfInBounds l.blk co' }:=by
 have hlt:l.blk < w.heap.size:=by
  rcases Nat.lt_or_ge l.blk w.heap.size with h'|h'
  ·exact h'
  ·simp [Array.getElem?_eq_none h'] at hb
 refine hs.put_obj h hl hrw (co':=co') ?_ (fun b hb'=>?_) sm rfl rfl rfl ho
 ·simp [hlt]
 ·exact Array.getElem?_setIfInBounds_ne (Ne.symm hb')
theorem uZ.append {ρ:Rho}:∀ {a:List (V × V × Nat)} {b:List MapEntry} {c:List (V × V × Nat)} {d:List MapEntry},uZ ρ a b->uZ ρ c d->uZ ρ (a ++ c) (b ++ d)
 | [],[],_,_,_,h=>h
 | (_,_,_) :: _,_ :: _,_,_,⟨x,y,z,t⟩,h=>⟨x,y,z,t.append h⟩
 | [],_ :: _,_,_,h,_=>h.elim
 | _ :: _,[],_,_,h,_=>by cases h
theorem uZ.set {ρ:Rho}{k v:V}{n:Nat}:∀ {a:List (V × V × Nat)} {b:List MapEntry} (i:Nat) {e:V × V × Nat},uZ ρ a b->a[i]?=some e->∀ (f:MapEntry->MapEntry),(∀ e',b[i]?=some e'->e.2.2=e'.born->VR ρ k (f e').key∧VR ρ v (f e').val∧n=(f e').born)->uZ ρ (a.set i (k,v,n)) (b.modify i f)
 | (_,_,_) :: as,e' :: bs,0,_,⟨x,y,z,t⟩,he,f,hf=>by
   simp at he;have:=hf e' sm (by rw [<- he];exact z);simp only [List.set_cons_zero,List.modify_zero_cons];exact ⟨this.1,this.2.1,this.2.2,t⟩
 | (_,_,_) :: as,e' :: bs,i+1,e,⟨x,y,z,t⟩,he,f,hf=>by
   simp only [List.set_cons_succ,List.modify_succ_cons];exact ⟨x,y,z,t.set i (by simpa using he) f (by simpa using hf)⟩
 | [],_,_,_,_,he,_,_=>by simp at he
 | _ :: _,[],_,_,h,_,_,_=>by cases h
theorem aBj {d:TypeDesc}{k:Value}:∀ {es:List MapEntry} {n:Nat} {i:Nat} {v:Value},Instr.findNow d k es n=some (some (i,v))->∃ e,n <= i∧es[i - n]?=some e∧Instr.sameNow d k e.key=some true
 | [],n,i,v,h=>by simp [Instr.findNow] at h
 | e :: es,n,i,v,h=>by
   simp only [Instr.findNow] at h
   split at h
   ·rename_i hs
    simp at h;obtain ⟨rfl,rfl⟩:=h;exact ⟨e,af _,sm,hs⟩
   ·obtain ⟨e',h1,h2,h3⟩:=aBj h;refine ⟨e',om,?_,h3⟩;have:i - n=(i - (n+1))+1:=om;rw [this];simpa using h2
   ·cases h
theorem aOs {d:TypeDesc}{a b:Value}(h:Instr.sameNow d a b=some true)(w:World):(Instr.keyThatStays b a).run P w=.ok a w:=by
 have:Instr.sameBits 10000 b a=true:=by
  unfold Instr.sameNow at h
  split at h
  ·split at h
   ·rename_i hk;subst hk
    simp at h;subst h;simp [Instr.sameBits]
   ·cases h
  ·rename_i x y
   simp only [Option.some.injEq] at h
   have:x=y:=by
    rw [beq_toListBytes] at h;rw [ByteArray.toList_eq,ByteArray.toList_eq] at h;have:=eq_of_beq h;apply ByteArray.ext;apply Array.ext';exact this
   subst this;simp [Instr.sameBits];exact h
  ·simp at h;subst h;simp [Instr.sameBits]
  ·cases h
 simp [Instr.keyThatStays,this]
theorem aDV {t:TypeId}{m key x:Operand}{S:St}{k:V->St->Prop}(h:jM P t m key x E S k) :
  ∃ v S',k v S'∧∀ (ρ:Rho) (w:World) (ev:Operand->Value),(∀ y ∈ [m,key,x],∀ v,OpV E y v->VR ρ v (ev y))->cP ρ S.hs w ->
    ∃ w',(Instr.mapUpdate t (ev m) (ev key) (ev x)).run P w=.ok () w'∧v=undefV∧cP ρ S'.hs w'∧Ext ρ S.hs w ρ S'.hs w':=by
 obtain ⟨vm,h1,h2⟩:=bG (show eZ E m _ from h);obtain ⟨vk,h3,h4⟩:=bG h2;obtain ⟨vx,h5,h6⟩:=bG h4;obtain ⟨q,hq,h7⟩:=aQ h6;obtain ⟨c,hc,h8⟩:=aQ h7;have hu:=tE hq;obtain ⟨d,hd,_⟩:=pO hc
 split at h8
 ·rename_i id
  obtain ⟨es,n,hg,h9⟩:=gV h8;obtain ⟨r,hr,h10⟩:=aQ h9
  cases r with
  | none =>
    have h11:=jV (show nH es [(vk,vx,n)] _ from h10);obtain ⟨S',h12,hS'⟩:=bS h11;refine ⟨_,S',h12,fun ρ w ev hev hs=>?_⟩;have hm:=hev m sm _ h1;have hk:=hev key sm _ h3;have hx:=hev x sm _ h5;generalize hme:ev m=mv at hm
    cases hm with
    | map hl =>
      rename_i l
      obtain ⟨es',hb,hE⟩:=hs.map hg hl;obtain ⟨r',hf,hrr⟩:=lI hd hc hk hr hE
      cases r' with
      | some _=>exact hrr.elim
      | none =>
        have hrw:l.rw=true:=by
         obtain ⟨l',co,a,b,hr,_⟩:=hs.obj id _ hg;rw [hl] at a;cases a;exact hr
        have ho:OR ρ l (.map (es ++ [(vk,vx,n)]) (n+1)) (.map (es'.push { key:=ev key,val:=ev x,born:=n }) (n+1)):=by
         refine ⟨hrw,_,rfl,?_⟩;rw [Array.toList_push];exact hE.append ⟨hk,hx,rfl,trivial⟩
        have hp:=iL hs hg hl hrw hb ho;refine ⟨_,?_,rfl,by rw [hS'];exact hp.1,by rw [hS'];exact hp.2⟩;simp only [Instr.mapUpdate,Sem.run_bind,run_underlying hu,Result.andThen_ok,dQ hb,gO hc];rw [kB hd hf];simp only [Result.andThen_ok];exact iN hb sm
  | some p =>
    obtain ⟨e,he,h11⟩:=aQ (show Option.rec (motive:=fun _=>Prop) False _ (nth es p.1) from h10);rw [nth_eq] at he;obtain ⟨hlt,h12⟩:=upd_spec h11;obtain ⟨S',h13,hS'⟩:=bS h12;refine ⟨_,S',h13,fun ρ w ev hev hs=>?_⟩;have hm:=hev m sm _ h1;have hk:=hev key sm _ h3;have hx:=hev x sm _ h5;generalize hme:ev m=mv at hm
    cases hm with
    | map hl =>
      rename_i l
      obtain ⟨es',hb,hE⟩:=hs.map hg hl;obtain ⟨r',hf,hrr⟩:=lI hd hc hk hr hE
      cases r' with
      | none=>exact hrr.elim
      | some p' =>
        obtain ⟨i',v'⟩:=p';obtain ⟨i,v⟩:=p;obtain ⟨hii,_⟩:=hrr;have hii':i=i':=hii;subst hii';obtain ⟨e',_,he',hsn⟩:=aBj hf;rw [Nat.sub_zero] at he'
        have hrw:l.rw=true:=by
         obtain ⟨l',co,a,b,hr,_⟩:=hs.obj id _ hg;rw [hl] at a;cases a;exact hr
        have he2:es'[i]?=some e':=by simpa using he'
        have ho:OR ρ l (.map (es.set i (vk,vx,e.2.2)) n) (.map (es'.modify i fun e=>{ e with key:=ev key,val:=ev x }) n):=by
         refine ⟨hrw,_,rfl,?_⟩;rw [Array.toList_modify];exact hE.set i he _ fun e'' _ hb''=>⟨hk,hx,hb''⟩
        have hp:=iL hs hg hl hrw hb ho;refine ⟨_,?_,rfl,by rw [hS'];exact hp.1,by rw [hS'];exact hp.2⟩;simp only [Instr.mapUpdate,Sem.run_bind,run_underlying hu,Result.andThen_ok,dQ hb,gO hc];rw [kB hd hf];simp only [Result.andThen_ok,he2,Option.map_some,Option.getD_some,Sem.run_bind,aOs hsn];exact iN hb sm
 ·exact h8.elim
theorem aAg {t:TypeId}{m key x:Operand}{S:St}{k:V->St->Prop}(h:jM P t m key x E S k) :
  ∃ v S',k v S'∧OpS P (.mapUpdate t m key x) E S.hs v S'.hs:=by
 obtain ⟨v,S',h1,h2⟩:=aDV h;refine ⟨v,S',h1,fun ρ ev o w ho hev hs=>?_⟩;obtain ⟨w',h3,rfl,h4,h5⟩:=h2 ρ w ev (fun y hy=>hev y (by simpa [Op.operands] using hy)) hs;exact ⟨undef,w',ρ,.inr ⟨rfl,by simp [execOp,ho,h3]⟩,VR.undef ρ,h4,h5⟩
theorem aEc {t:TypeId}{m key x:Operand}{S:St}{k:V->St->Prop}(h:jM P t m key x E S k) :
  ∃ v S',k v S'∧OpS P (.insert t m key x) E S.hs v S'.hs:=by
 obtain ⟨v,S',h1,h2⟩:=aDV h;refine ⟨v,S',h1,fun ρ ev o w ho hev hs=>?_⟩;obtain ⟨w',h3,rfl,h4,h5⟩:=h2 ρ w ev (fun y hy=>hev y (by simpa [Op.operands] using hy)) hs;exact ⟨undef,w',ρ,.inr ⟨rfl,by simp [execOp,ho,h3]⟩,VR.undef ρ,h4,h5⟩
end
section
variable {P:Program} {E:Env}
theorem aFx {t:TypeId}{x:Operand}{S:St}{k:V->St->Prop}(h:aHL P t x E S k):∃ v S',k v S'∧OpS P (.range t x) E S.hs v S'.hs:=by
 obtain ⟨vx,h1,h2⟩:=bG (show eZ E x _ from h);obtain ⟨d,hd,h3⟩:=aQ h2
 have fin:∀ {o:O} {S':St} {w:World} {ρ:Rho} {co:Obj},S'.hs=S.hs.new o->cP ρ S.hs w->OR (ρ.put S.next ⟨w.heap.size,0,0,true⟩) ⟨w.heap.size,0,0,true⟩ o co ->
   ∃ ρ',VR ρ' (.ptr S.next 0) (.pointer (some ⟨w.heap.size,0,none⟩))∧cP ρ' S'.hs (w.alloc co)∧Ext ρ S.hs w ρ' S'.hs (w.alloc co):=by
  intro o S' w ρ co hS hs ho;obtain ⟨h4,h5⟩:=hs.alloc (csz:=0) ho;exact ⟨_,VR.ptr_new,by rw [hS];exact h4,by rw [hS];exact h5⟩
 split at h3
 ·rename_i s
  obtain ⟨S',h4,hS⟩:=eI h3;refine ⟨_,S',h4,fun ρ ev o w ho hev hs=>?_⟩;have hc:=hev.one (x:=x) (by simp [Op.operands]) h1;generalize hce:ev x=cv at hc;cases hc;obtain ⟨ρ',h5,h6,h7⟩:=fin (co:=.stringIter ⟨⟨s⟩⟩ 0) hS hs ⟨⟨rfl,rfl⟩,rfl⟩;exact ⟨_,_,ρ',.inl (by simp [execOp,ho,hce,Instr.range,run_underlying hd]),h5,h6,h7⟩
 ·obtain ⟨S',h4,hS⟩:=eI h3;refine ⟨_,S',h4,fun ρ ev o w ho hev hs=>?_⟩;have hc:=hev.one (x:=x) (by simp [Op.operands]) h1;generalize hce:ev x=cv at hc;cases hc;obtain ⟨ρ',h5,h6,h7⟩:=fin (co:=.mapIter none 0 #[] 0) hS hs ⟨⟨rfl,rfl⟩,_,rfl,rfl⟩;exact ⟨_,_,ρ',.inl (by simp [execOp,ho,hce,Instr.range,run_underlying hd]),h5,h6,h7⟩
 ·rename_i m
  obtain ⟨es,c,hg,h4'⟩:=gV h3;obtain ⟨S',h4,hS⟩:=eI h4';refine ⟨_,S',h4,fun ρ ev o w ho hev hs=>?_⟩;have hc:=hev.one (x:=x) (by simp [Op.operands]) h1;generalize hce:ev x=cv at hc
  cases hc with
  | map hl =>
    rename_i l
    obtain ⟨es',hb,_⟩:=hs.map hg hl;obtain ⟨ρ',h5,h6,h7⟩:=fin (co:=.mapIter (some l.blk) c #[] c) hS hs ⟨⟨rfl,rfl⟩,_,rfl,l,Rho.le_put (hs.fresh _ (af _)) _ _ _ hl,rfl⟩;exact ⟨_,_,ρ',.inl (by simp [execOp,ho,hce,Instr.range,run_underlying hd,dQ hb]),h5,h6,h7⟩
 ·exact h3.elim
theorem aLP {n:Nat}{k:Prop}(h:Nat.rec (motive:=fun _=>Prop) k (fun _ _=>False) n):n=0∧k:=by
 cases n with
 | zero=>exact ⟨rfl,h⟩
 | succ n=>exact h.elim
theorem uZ.mem {ρ:Rho}:∀ {es:List (V × V × Nat)} {es':List MapEntry} {e:MapEntry},uZ ρ es es'->e ∈ es'->∃ x ∈ es,VR ρ x.1 e.key∧VR ρ x.2.1 e.val∧x.2.2=e.born
 | [],[],_,_,h=>by cases h
 | x :: es,y :: es',e,⟨h1,h2,h3,h4⟩,h=>by
   rcases av.1 h with rfl|h
   ·exact ⟨x,sm,h1,h2,h3⟩
   ·obtain ⟨z,hz,h5⟩:=h4.mem h;exact ⟨z,by simp [hz],h5⟩
 | [],_ :: _,_,h,_=>h.elim
 | _ :: _,[],_,h,_=>h.elim
theorem uZ.mem2 {ρ:Rho}:∀ {es:List (V × V × Nat)} {es':List MapEntry} {x:V × V × Nat},uZ ρ es es'->x ∈ es->∃ e ∈ es',x.2.2=e.born
 | [],[],_,_,h=>by cases h
 | x :: es,y :: es',z,⟨h1,h2,h3,h4⟩,h=>by
   rcases av.1 h with rfl|h
   ·exact ⟨y,sm,h3⟩
   ·obtain ⟨e,he,h5⟩:=h4.mem2 h;exact ⟨e,by simp [he],h5⟩
 | [],_ :: _,_,h,_=>h.elim
 | _ :: _,[],_,h,_=>h.elim
theorem aAS {n:Nat}:∀ {es:List (V × V × Nat)},aNu n es=true->∀ x ∈ es,x.2.2 < n
 | [],_,_,hx=>by cases hx
 | e :: es,h,x,hx=>by
   have h':Bool.rec (motive:=fun _=>Bool) false (aNu n es) (Nat.blt e.2.2 n)=true:=h
   cases hb:Nat.blt e.2.2 n with
   | false=>rw [hb] at h';cases h'
   | true =>
     rw [hb] at h'
     rcases av.1 hx with rfl|hx
     ·simpa using hb
     ·exact aAS h' x hx
theorem aKe (n:Nat):∀ l:List Nat,aOx n l=l.contains n
 | []=>rfl
 | m :: l=>by
   have h:aOx n (m :: l)=Bool.rec (motive:=fun _=>Bool) (aOx n l) true (Nat.beq m n):=rfl;rw [h,List.contains_cons,aKe n l]
   cases hb:Nat.beq m n with
   | true=>have:=aj hb;subst this;simp
   | false =>
     have:¬ n=m:=fun e=>by subst e;simp at hb
     simp [this]
theorem sZ {ρ:Rho}{seen:List Nat}:∀ {es:List (V × V × Nat)} {es':List MapEntry},uZ ρ es es'->uZ ρ (aGt seen es) (es'.filter fun e=>!seen.contains e.born)
 | [],[],_=>trivial
 | (a,b,c) :: es,e :: es',⟨h1,h2,h3,h4⟩=>by
   have h:aGt seen ((a,b,c) :: es)=Bool.rec (motive:=fun _=>List (V × V × Nat)) ((a,b,c) :: aGt seen es) (aGt seen es) (aOx c seen):=rfl;rw [h,aKe,List.filter_cons,<- h3]
   cases hb:seen.contains c with
   | true=>simpa using sZ h4
   | false=>exact ⟨h1,h2,h3,sZ h4⟩
 | [],_ :: _,h=>h.elim
 | _ :: _,[],h=>h.elim
theorem aHJ {x:Operand}{isS:Bool}{S:St}{k:V->St->Prop}(h:aMW x isS E S k):∃ v S',k v S'∧OpS P (.next x isS) E S.hs v S'.hs:=by
 obtain ⟨vx,h1,h2⟩:=bG (show eZ E x _ from h);obtain ⟨id,off,rfl,h3⟩:=kE h2;obtain ⟨rfl,h4⟩:=aLP h3;obtain ⟨o,hg,h5⟩:=aQ h4;have hg':S.hs.get id=some o:=hg
 have base:∀ {ρ:Rho} {w:World} {ev:Operand->Value},vC ρ E ev (Op.next x isS).operands.toList->cP ρ S.hs w->∃ l co,ρ id=some l∧ev x=.pointer (some ⟨l.blk,l.base,none⟩)∧w.heap[l.blk]?=some co∧OR ρ l o co:=by
  intro ρ w ev hev hs;have hc:=hev.one (x:=x) (by simp [Op.operands]) h1;generalize hce:ev x=cv at hc
  cases hc with
  | ptr _ hl =>
    obtain ⟨l',co,a,b,c⟩:=hs.obj id _ hg';rw [hl] at a;cases a;exact ⟨_,co,hl,sm,b,c⟩
 split at h5
 ·rename_i s pos
  cases hb:Nat.blt pos (dH s) with
  | false =>
    rw [hb] at h5;refine ⟨_,S,h5,fun ρ ev o w ho hev hs=>?_⟩;obtain ⟨l,co,hl,he,hw,⟨hrw,h0⟩,rfl⟩:=base hev hs;rw [h0] at he
    have hlt:¬ pos < (⟨⟨s⟩⟩:ByteArray).size:=by
     rw [aM] at hb;have e:(⟨⟨s⟩⟩:ByteArray).size=s.length:=rfl;rw [e];intro hlt
     have:Nat.blt pos s.length=true:=by simpa using hlt
     rw [hb] at this;cases this
    refine ⟨_,w,ρ,.inl ?_,.tup (.cons (.bool false) .nil),hs,Ext.refl _ _ _⟩;simp [execOp,ho,he,Instr.next,jQ hw,hlt]
  | true =>
    rw [hb] at h5
    have hlt:pos < (⟨⟨s⟩⟩:ByteArray).size:=by
     rw [aM] at hb;have e:(⟨⟨s⟩⟩:ByteArray).size=s.length:=rfl;rw [e];simpa using hb
    generalize hdc:Utf8.decode ⟨⟨s⟩⟩ pos=cw at h5;obtain ⟨c,wd⟩:=cw;have h6:=bV (bV (k:=fun c=>fN (Nat.add pos wd) fun p=>bD id (some (.strIter s p)) S fun S=>k (.tup [.bool true,.int .i64 (Int.ofNat pos),.int .i32 (Int.ofNat c)]) S) h5);obtain ⟨S',h7,hS⟩:=bS h6;refine ⟨_,S',h7,fun ρ ev o w ho hev hs=>?_⟩;obtain ⟨l,co,hl,he,hw,⟨hrw,h0⟩,rfl⟩:=base hev hs;have hp:=iL hs hg' hl hrw hw (o':=.strIter s (pos+wd)) (co':=.stringIter ⟨⟨s⟩⟩ (pos+wd)) ⟨⟨hrw,h0⟩,rfl⟩;rw [h0] at he;refine ⟨_,_,ρ,.inl ?_,.tup (.cons (.bool true) (.cons (.int _ _) (.cons (.int _ _) .nil))),by rw [hS];exact hp.1,by rw [hS];exact hp.2⟩;simp only [execOp,ho,he,Instr.next,Sem.run_bind,jQ hw sm,Result.andThen_ok,if_pos hlt,hdc,iN hw sm,Sem.run_pure];rfl
 ·refine ⟨_,S,h5,fun ρ ev o w ho hev hs=>?_⟩;obtain ⟨l,co,hl,he,hw,⟨hrw,h0⟩,m',rfl,hm⟩:=base hev hs;have hm':m'=none:=hm;subst hm';rw [h0] at he;refine ⟨_,w,ρ,.inl ?_,.tup (.cons (.bool false) .nil),hs,Ext.refl _ _ _⟩;simp [execOp,ho,he,Instr.next,jQ hw]
 ·rename_i m since seen stepped
  obtain ⟨es,clock,hgm,h6⟩:=gV h5;obtain ⟨hsc,h7⟩:=aT h6;obtain ⟨hbn,h8⟩:=aT h7;have hsc:=ae hsc;have hbn:=aAS hbn
  have main:∀ {ρ:Rho} {ev:Operand->Value} {o:Oper} {w:World},o.op=.next x false->vC ρ E ev (Op.next x false).operands.toList->cP ρ S.hs w ->
    ∃ l lm es',ρ id=some l∧l.rw=true∧l.base=0∧ρ m=some lm∧w.heap[l.blk]?=some (.mapIter (some lm.blk) since ⟨seen⟩ stepped)∧uZ ρ es es' ∧
    ((es'.filter (fun e=>!seen.contains e.born)=[]∧(execOp ev o).run P w=.ok (.value (.tuple #[.bool false])) w) ∨
    ∃ e ∈ es'.filter (fun e=>!seen.contains e.born),∃ w1:World,(w1=w ∨ w1=w.drew)∧(execOp ev o).run P w=.ok (.value (.tuple #[.bool true,e.key,e.val])) (ChangeMaps.setBlock w1 l.blk (.mapIter (some lm.blk) since ((⟨seen⟩:Array Nat).push e.born) clock))):=by
   intro ρ ev o w ho hev hs;obtain ⟨l,co,hl,he,hw,⟨hrw,h0⟩,m',rfl,hmm⟩:=base hev hs;obtain ⟨lm,hlm,rfl⟩:=hmm;obtain ⟨es',hb2,hes⟩:=hs.map hgm hlm;rw [h0] at he
   have hold':∀ y ∈ es'.toList,y.born < since:=fun y hy=>by
    obtain ⟨z,hz,_,_,h3⟩:=hes.mem hy;rw [<- h3];exact hbn z hz
   refine ⟨l,lm,es'.toList,hl,hrw,h0,hlm,hw,hes,?_⟩
   rcases run_next_at (P:=P) w o.type l.blk lm.blk since stepped ⟨seen⟩ es' clock hw hb2 hold' hsc with ⟨hz,hrun⟩|⟨e,hemem,w1,hw1,hrun⟩
   ·refine .inl ⟨?_,?_⟩
    ·have hnil:leftOf es' ⟨seen⟩=#[]:=Array.eq_empty_of_size_eq_zero hz;unfold leftOf at hnil;have:=congrArg Array.toList hnil;simpa using this
    ·simp only [execOp,ho,he,Nat.zero_add,Sem.run_bind,hrun];rfl
   ·refine .inr ⟨e,?_,w1,hw1,?_⟩
    ·unfold leftOf at hemem;simpa using hemem
    ·simp only [execOp,ho,he,Nat.zero_add,Sem.run_bind,hrun];rfl
  split at h8
  ·rename_i hlk
   refine ⟨_,S,h8,fun ρ ev o w ho hev hs=>?_⟩;obtain ⟨l,lm,es',hl,hrw,h0,hlm,hw,hes,hcase⟩:=main ho hev hs;have hL:=sZ (seen:=seen) hes;rw [hlk] at hL
   rcases hcase with ⟨_,hr⟩|⟨e,he,_⟩
   ·exact ⟨_,w,ρ,.inl hr,.tup (.cons (.bool false) .nil),hs,Ext.refl _ _ _⟩
   ·generalize es'.filter (fun e=>!seen.contains e.born)=L at hL he
    cases L with
    | nil=>cases he
    | cons _ _=>exact hL.elim
  ·rename_i e0 hlk
   have h9:=jV (show nH seen [e0.2.2] _ from h8);obtain ⟨S',h10,hS⟩:=bS h9;refine ⟨_,S',h10,fun ρ ev o w ho hev hs=>?_⟩;obtain ⟨l,lm,es',hl,hrw,h0,hlm,hw,hes,hcase⟩:=main ho hev hs;have hL:=sZ (seen:=seen) hes;rw [hlk] at hL;generalize es'.filter (fun e=>!seen.contains e.born)=L at hL hcase
   cases L with
   | nil=>obtain ⟨_,_,_⟩:=e0;exact hL.elim
   | cons e1 L =>
     obtain ⟨a0,b0,c0⟩:=e0;obtain ⟨g1,g2,g3,g4⟩:=hL
     have hLn:L=[]:=by
      cases L with
      | nil=>rfl
      | cons _ _=>exact g4.elim
     subst hLn
     rcases hcase with ⟨hz,_⟩|⟨e,he,w1,hw1,hr⟩
     ·cases hz
     ·have:e=e1:=by simpa using he
      subst this
      have hlt:l.blk < w.heap.size:=by
       rcases Nat.lt_or_ge l.blk w.heap.size with h'|h'
       ·exact h'
       ·simp [Array.getElem?_eq_none h'] at hw
      have hh:w1.heap=w.heap∧w1.tape=w.tape∧w1.os=w.os∧w1.output=w.output∧w.drawn <= w1.drawn:=by
       rcases hw1 with rfl|rfl
       ·exact ⟨rfl,rfl,rfl,rfl,af _⟩
       ·exact ⟨rfl,rfl,rfl,rfl,Nat.le_succ _⟩
      have hp:=hs.put_obj (w':=ChangeMaps.setBlock w1 l.blk (.mapIter (some lm.blk) since ((⟨seen⟩:Array Nat).push e.born) clock)) hg' hl hrw (o':=.mapIter (some m) since (seen ++ [c0]) clock)
       (co':=.mapIter (some lm.blk) since ((⟨seen⟩:Array Nat).push e.born) clock) (by simp [ChangeMaps.setBlock,hh.1,hlt]) (fun b' hb'=>by simp [ChangeMaps.setBlock,hh.1,Array.getElem?_setIfInBounds_ne (Ne.symm hb')])
       (by simp [ChangeMaps.setBlock,hh.1]) hh.2.1 hh.2.2.1 hh.2.2.2.1 ⟨⟨hrw,h0⟩,some lm.blk,by rw [g3];simp,lm,hlm,rfl⟩ hh.2.2.2.2
      exact ⟨_,_,ρ,.inl hr,.tup (.cons (.bool true) (.cons g1 (.cons g2 .nil))),by rw [hS];exact hp.1,by rw [hS];exact hp.2⟩
  ·exact h8.elim
 ·exact h5.elim
theorem uZ.find {ρ:Rho}{b:Nat}:∀ {es:List (V × V × Nat)} {es':List MapEntry} {e:V × V × Nat},uZ ρ es es'->es.find? (fun e=>e.2.2 == b)=some e->∃ e',es'.find? (fun e=>e.born == b)=some e'∧VR ρ e.1 e'.key∧VR ρ e.2.1 e'.val
 | [],[],e,_,h=>by simp at h
 | (k,v,c) :: es,e' :: es',e,⟨h1,h2,h3,h4⟩,h=>by
   rw [List.find?_cons] at h;rw [List.find?_cons,<- h3]
   cases hb:c == b with
   | true =>
     rw [hb] at h;cases h;exact ⟨e',rfl,h1,h2⟩
   | false =>
     rw [hb] at h;exact h4.find h
 | [],_ :: _,_,h,_=>h.elim
 | _ :: _,[],_,h,_=>h.elim
theorem aFt {x:Operand}{S:St}{k:V->Prop}(h:aHC x E S k):∃ v,k v∧oN P (.entry x) E S.hs v:=by
 obtain ⟨vx,h1,h2⟩:=bG (show eZ E x _ from h);obtain ⟨id,off,rfl,h3⟩:=kE h2
 cases off with
 | succ n=>exact h3.elim
 | zero =>
 obtain ⟨o,hg,h5⟩:=aQ (show Option.rec (motive:=fun _=>Prop) False _ (T.get fA id S.hp) from h3);have hg':S.hs.get id=some o:=hg
 split at h5
 ·rename_i m since seen stepped
  obtain ⟨b,hb,h6⟩:=aQ h5;obtain ⟨es,c,hm,h7⟩:=gV h6;obtain ⟨hc,h8⟩:=aT h7;have hc':=aj hc;obtain ⟨e,he,h9⟩:=aQ h8;refine ⟨_,h9,fun ρ ev o w ho hev hs=>?_⟩;have hx:=hev.one (x:=x) (by simp [Op.operands]) h1;generalize hxe:ev x=xv at hx
  cases hx with
  | ptr _ hl =>
  rename_i l
  obtain ⟨l1,co,a1,b1,⟨_,h0⟩,m',rfl,hm2⟩:=hs.obj id _ hg';rw [hl] at a1;cases a1;obtain ⟨lm,hlm,rfl⟩:=hm2;obtain ⟨l2,co2,a2,b2,_,es',rfl,hes⟩:=hs.obj m _ hm;rw [hlm] at a2;cases a2;obtain ⟨e',hf,hk,hv⟩:=hes.find he;refine ⟨.tuple #[e'.key,e'.val],?_,.tup (.cons hk (.cons hv .nil))⟩
  have hback:(⟨seen⟩:Array Nat).back?=some b:=by rw [<- Array.getLast?_toList];exact hb
  have hfind:es'.find? (fun x=>x.born == b)=some e':=by rw [<- Array.find?_toList];exact hf
  simp [execOp,ho,hxe,h0,Instr.entry,jQ b1,jQ b2,hback,hc',hfind]
 ·exact h5.elim
end
end Go.Am
