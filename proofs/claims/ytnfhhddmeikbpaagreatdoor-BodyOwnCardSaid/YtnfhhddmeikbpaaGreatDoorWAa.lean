/- Part 1 of the proof that BodyOwn returns true, and leaves its arguments as they were, for every input, over a start where the listed variables hold what the program lays: the statement Rows.BodyOwnCardSaid. -/
import Derived.Calls
import Derived.Laws.Sem
import Derived.Laws.World
import Derived.Laws.Cells
import Derived.Laws.Rows
import GoSem.Dispatch
import Derived.Laws.Entries
import Derived.Laws.Strings
import Derived.Laws.StructEq
import Derived.Laws.Slices
set_option linter.unusedVariables false
set_option linter.unusedSimpArgs false
/- Abstract values, places, and what a world must hold for an abstract heap. Plain definitions; no program. -/
namespace Go.Am
universe u

inductive V where
 | bool (b:Bool)
 | int (k:IntKind) (n:Int)
 | float (k:FloatKind) (bits:Nat)
 | str (s:List UInt8)
 | ptr (id off:Nat)
 | nilPtr
 | slice (id off len cap es:Nat) (ex:Bool)
 | nilSlice
 | map (id:Nat)
 | nilMap
 | func (fn:Fn) (first caps:List V)
 | yield (id:Nat)
 | nilFunc
 | iface (t:TypeId) (v:V)
 | nilIface
 | agg (cs:List V)
 | tup (vs:List V)
 | any

structure Loc where
 blk:Nat
 base:Nat
 csz:Nat
 rw:Bool

abbrev Rho:=Nat→Option Loc

mutual
inductive VR (ρ:Rho):V→Value→Prop
 | bool (b:Bool):VR ρ (.bool b) (.bool b)
 | int (k:IntKind) (n:Int):VR ρ (.int k n) (.int k n)
 | float (k:FloatKind) (n:Nat):VR ρ (.float k n) (.float k n)
 | str (s:List UInt8):VR ρ (.str s) (.string ⟨⟨s⟩⟩)
 | ptr {id:Nat} {l:Loc} (off:Nat) (h:ρ id=some l):VR ρ (.ptr id off) (.pointer (some ⟨l.blk,l.base+off,none⟩))
 | nilPtr:VR ρ .nilPtr (.pointer none)
 | slice {id:Nat} {l:Loc} (off len cap es:Nat) (ex:Bool) (off' cap':Nat) (h:ρ id=some l) (ho:0 < cap→off'=off) (hc:cap ≤ cap') (hx:ex=true→cap'=cap) (hl:len ≤ cap)
   (hr:l.rw=true→l.base+off'+cap' * es ≤ l.csz):VR ρ (.slice id off len cap es ex) (.slice (some ⟨l.blk,l.base+off',none⟩) len cap')
 | nilSlice:VR ρ .nilSlice (.slice none 0 0)
 | map {id:Nat} {l:Loc} (h:ρ id=some l):VR ρ (.map id) (.map (some l.blk))
 | nilMap:VR ρ .nilMap (.map none)
 | func (fn:Fn) {a b:List V} {a' b':List Value} (ha:VRs ρ a a') (hb:VRs ρ b b'):VR ρ (.func fn a b) (.func fn ⟨a'⟩ ⟨b'⟩)
 | yield {id:Nat} {l:Loc} (h:ρ id=some l):VR ρ (.yield id) (.func (.yield l.blk) #[] #[])
 | nilFunc:VR ρ .nilFunc .nilFunc
 | iface (t:TypeId) {v:V} {v':Value} (h:VR ρ v v'):VR ρ (.iface t v) (.iface t v')
 | nilIface:VR ρ .nilIface .nilIface
 | agg {a:List V} {a':List Value} (ha:VRs ρ a a'):VR ρ (.agg a) (.agg ⟨a'⟩)
 | tup {a:List V} {a':List Value} (ha:VRs ρ a a'):VR ρ (.tup a) (.tuple ⟨a'⟩)
 | any {v':Value} (h:v'.oneCell'=true):VR ρ .any v'
inductive VRs (ρ:Rho):List V→List Value→Prop
 | nil:VRs ρ [] []
 | cons {v:V} {v':Value} {l:List V} {l':List Value} (h:VR ρ v v') (hs:VRs ρ l l'):VRs ρ (v :: l) (v' :: l')
end

def Rho.le (ρ ρ':Rho):Prop:=∀ id l,ρ id=some l→ρ' id=some l
theorem Rho.le_refl (ρ:Rho):ρ.le ρ:=fun _ _ h=>h
theorem Rho.le_trans {a b c:Rho} (h:a.le b) (k:b.le c):a.le c:=fun i l e=>k i l (h i l e)

mutual
theorem VR.mono {ρ ρ':Rho} (hle:ρ.le ρ'):∀ {v:V} {v':Value},VR ρ v v'→VR ρ' v v'
 | _,_,.bool b=>.bool b
 | _,_,.int k n=>.int k n
 | _,_,.float k n=>.float k n
 | _,_,.str s=>.str s
 | _,_,.ptr off h=>.ptr off (hle _ _ h)
 | _,_,.nilPtr=>.nilPtr
 | _,_,.slice off len cap es ex off' cap' h ho hc hx hl hr=>.slice off len cap es ex off' cap' (hle _ _ h) ho hc hx hl hr
 | _,_,.nilSlice=>.nilSlice
 | _,_,.map h=>.map (hle _ _ h)
 | _,_,.nilMap=>.nilMap
 | _,_,.func fn ha hb=>.func fn (VRs.mono hle ha) (VRs.mono hle hb)
 | _,_,.yield h=>.yield (hle _ _ h)
 | _,_,.nilFunc=>.nilFunc
 | _,_,.iface t h=>.iface t (VR.mono hle h)
 | _,_,.nilIface=>.nilIface
 | _,_,.agg ha=>.agg (VRs.mono hle ha)
 | _,_,.tup ha=>.tup (VRs.mono hle ha)
 | _,_,.any h=>.any h
theorem VRs.mono {ρ ρ':Rho} (hle:ρ.le ρ'):∀ {v:List V} {v':List Value},VRs ρ v v'→VRs ρ' v v'
 | _,_,.nil=>.nil
 | _,_,.cons h hs=>.cons (VR.mono hle h) (VRs.mono hle hs)
end

/-! Lists of related values. -/
theorem VRs.length {ρ:Rho}:∀ {a:List V} {b:List Value},VRs ρ a b→a.length=b.length
 | _,_,.nil=>rfl
 | _,_,.cons _ hs=>by simp [VRs.length hs]
theorem VRs.get {ρ:Rho}:∀ {a:List V} {b:List Value},VRs ρ a b→∀ {i:Nat} {v:V},a[i]?=some v→∃ v',b[i]?=some v'∧VR ρ v v'
 | _,_,.nil,i,v,h=>by simp at h
 | _,_,.cons h hs,0,v,e=>by simp at e;subst e;exact ⟨_,rfl,h⟩
 | _,_,.cons h hs,i+1,v,e=>by simpa using hs.get (by simpa using e)
theorem VRs.append {ρ:Rho}:∀ {a:List V} {b:List Value} {c:List V} {d:List Value},VRs ρ a b→VRs ρ c d→VRs ρ (a ++ c) (b ++ d)
 | _,_,_,_,.nil,k=>k
 | _,_,_,_,.cons h hs,k=>.cons h (hs.append k)
theorem VRs.take {ρ:Rho}:∀ {a:List V} {b:List Value} (n:Nat),VRs ρ a b→VRs ρ (a.take n) (b.take n)
 | _,_,0,_=>by simp;exact .nil
 | _,_,n+1,.nil=>.nil
 | _,_,n+1,.cons h hs=>.cons h (hs.take n)
theorem VRs.drop {ρ:Rho}:∀ {a:List V} {b:List Value} (n:Nat),VRs ρ a b→VRs ρ (a.drop n) (b.drop n)
 | _,_,0,h=>h
 | _,_,n+1,.nil=>.nil
 | _,_,n+1,.cons h hs=>hs.drop n
theorem VRs.replicate {ρ:Rho} {v:V} {v':Value} (h:VR ρ v v'):∀ n,VRs ρ (List.replicate n v) (List.replicate n v')
 | 0=>.nil
 | n+1=>.cons h (VRs.replicate h n)
theorem VRs.of_get {ρ:Rho}:∀ {a:List V} {b:List Value},a.length=b.length→(∀ (i:Nat) (v:V) (v':Value),a[i]?=some v→b[i]?=some v'→VR ρ v v')→VRs ρ a b
 | [],[],_,_=>.nil
 | v :: a,v' :: b,hl,h=>.cons (h 0 v v' rfl rfl) (VRs.of_get (by simpa using hl) fun i x x' hx hx'=>h (i+1) x x' (by simpa using hx) (by simpa using hx'))
 | [],_ :: _,hl,_=>by simp at hl
 | _ :: _,[],hl,_=>by simp at hl

def V.cells:V→List V
 | .agg cs=>cs
 | v=>[v]
theorem VR.cells {ρ:Rho} {v:V} {v':Value} (h:VR ρ v v'):VRs ρ v.cells v'.cells.toList:=by
 cases h with
 | agg ha=>exact ha
 | bool b=>exact .cons (.bool b) .nil
 | int k n=>exact .cons (.int k n) .nil
 | float k n=>exact .cons (.float k n) .nil
 | str s=>exact .cons (.str s) .nil
 | ptr off h=>exact .cons (.ptr off h) .nil
 | nilPtr=>exact .cons .nilPtr .nil
 | slice off len cap es ex off' cap' h ho hc hx hl hr=>exact .cons (.slice off len cap es ex off' cap' h ho hc hx hl hr) .nil
 | nilSlice=>exact .cons .nilSlice .nil
 | map h=>exact .cons (.map h) .nil
 | nilMap=>exact .cons .nilMap .nil
 | func fn ha hb=>exact .cons (.func fn ha hb) .nil
 | yield h=>exact .cons (.yield h) .nil
 | nilFunc=>exact .cons .nilFunc .nil
 | iface t h=>exact .cons (.iface t h) .nil
 | nilIface=>exact .cons .nilIface .nil
 | tup ha=>exact .cons (.tup ha) .nil
 | any h1 =>
   have:v'.cells=#[v']:=by cases v' <;> first|rfl|cases h1
   rw [this];exact .cons (.any h1) .nil

/-! One-cell values. -/
def V.one:V→Bool
 | .agg _|.tup _=>false
 | _=>true
theorem VR.one {ρ:Rho} {v:V} {v':Value} (h:VR ρ v v'):v'.oneCell'=v.one:=by
 cases h <;> first|rfl|assumption

/-! Numbers in digits 1 to 4, the lowest first. -/
inductive D4 where|a|b|c|d
 deriving DecidableEq
def dig:Nat→D4|0=>.a|1=>.b|2=>.c|_=>.d
def dn:D4→Nat|.a=>1|.b=>2|.c=>3|.d=>4
noncomputable def digs (f:Nat):Nat→Option (List D4) :=
 Nat.rec (motive:=fun _=>Nat→Option (List D4)) (fun n=>Nat.rec (motive:=fun _=>Option (List D4)) (some []) (fun _ _=>none) n)
  (fun _ ih n=>Nat.rec (motive:=fun _=>Option (List D4)) (some []) (fun m _=>Option.rec (motive:=fun _=>Option (List D4)) none (fun l=>some (dig (Nat.mod m 4) :: l)) (ih (Nat.div m 4))) n) f
def numL:List D4→Nat|[]=>0|x :: l=>dn x+4 * numL l
theorem digs_num:∀ {f t:Nat} {l:List D4},digs f t=some l→numL l=t∧l.length ≤ f
 | f,0,l,h=>by
   have:some []=some l:=by cases f <;> exact h
   cases this;exact ⟨rfl,Nat.zero_le _⟩
 | 0,t+1,l,h=>by cases h
 | f+1,t+1,l,h=>by
   have h':Option.rec (motive:=fun _=>Option (List D4)) none (fun l=>some (dig (t % 4) :: l)) (digs f (t / 4))=some l:=h
   cases hd:digs f (t / 4) with
   | none=>rw [hd] at h';cases h'
   | some l' =>
     rw [hd] at h';cases h'
     obtain ⟨h1,h2⟩:=digs_num hd
     have hdn:dn (dig (t % 4))=t % 4+1:=by
      have:t % 4 < 4:=Nat.mod_lt _ (by omega)
      generalize t % 4=r at this
      match r,this with
      | 0,_=>rfl
      | 1,_=>rfl
      | 2,_=>rfl
      | 3,_=>rfl
     refine ⟨?_,by simp;omega⟩
     show dn (dig (t % 4))+4 * numL l'=t+1
     rw [hdn,h1];omega

/-! The heap: a tree with four children a node, written with raw recursors so that the kernel runs it quickly. -/
inductive T (α:Type) where
 | nil
 | node (v:Option α) (a b c d:T α)

namespace T
variable {α:Type} {R:Sort u}
noncomputable def val (t:T α):Option α:=T.rec (motive:=fun _=>Option α) none (fun v _ _ _ _ _ _ _ _=>v) t
noncomputable def gA (t:T α) (f:T α→Option α):Option α:=T.rec (motive:=fun _=>Option α) none (fun _ a _ _ _ _ _ _ _=>f a) t
noncomputable def gB (t:T α) (f:T α→Option α):Option α:=T.rec (motive:=fun _=>Option α) none (fun _ _ b _ _ _ _ _ _=>f b) t
noncomputable def gC (t:T α) (f:T α→Option α):Option α:=T.rec (motive:=fun _=>Option α) none (fun _ _ _ c _ _ _ _ _=>f c) t
noncomputable def gD (t:T α) (f:T α→Option α):Option α:=T.rec (motive:=fun _=>Option α) none (fun _ _ _ _ d _ _ _ _=>f d) t
noncomputable def gX (x:D4):T α→(T α→Option α)→Option α:=D4.rec (motive:=fun _=>T α→(T α→Option α)→Option α) gA gB gC gD x
noncomputable def getL (l:List D4):T α→Option α:=List.rec (motive:=fun _=>T α→Option α) val (fun x _ ih t=>gX x t ih) l
noncomputable def get (d n:Nat) (t:T α):Option α:=Option.rec (motive:=fun _=>Option α) none (fun l=>getL l t) (digs d n)
noncomputable def put (x:Option α) (t:T α) (k:T α→R):R:=T.rec (motive:=fun _=>R) (k (.node x .nil .nil .nil .nil)) (fun _ a b c d _ _ _ _=>k (.node x a b c d)) t
noncomputable def sA (t:T α) (g:T α→(T α→R)→R) (k:T α→R):R:=T.rec (motive:=fun _=>R) (g .nil fun y=>k (.node none y .nil .nil .nil)) (fun v a b c d _ _ _ _=>g a fun y=>k (.node v y b c d)) t
noncomputable def sB (t:T α) (g:T α→(T α→R)→R) (k:T α→R):R:=T.rec (motive:=fun _=>R) (g .nil fun y=>k (.node none .nil y .nil .nil)) (fun v a b c d _ _ _ _=>g b fun y=>k (.node v a y c d)) t
noncomputable def sC (t:T α) (g:T α→(T α→R)→R) (k:T α→R):R:=T.rec (motive:=fun _=>R) (g .nil fun y=>k (.node none .nil .nil y .nil)) (fun v a b c d _ _ _ _=>g c fun y=>k (.node v a b y d)) t
noncomputable def sD (t:T α) (g:T α→(T α→R)→R) (k:T α→R):R:=T.rec (motive:=fun _=>R) (g .nil fun y=>k (.node none .nil .nil .nil y)) (fun v a b c d _ _ _ _=>g d fun y=>k (.node v a b c y)) t
noncomputable def sX (x:D4):T α→(T α→(T α→R)→R)→(T α→R)→R:=D4.rec (motive:=fun _=>T α→(T α→(T α→R)→R)→(T α→R)→R) sA sB sC sD x
noncomputable def setL (x:Option α) (l:List D4):T α→(T α→R)→R:=List.rec (motive:=fun _=>T α→(T α→R)→R) (put x) (fun q _ ih t k=>sX q t ih k) l
noncomputable def set (x:Option α) (d n:Nat) (t:T α) (k:T α→R) (f:R):R:=Option.rec (motive:=fun _=>R) f (fun l=>setL x l t k) (digs d n)
end T

end Go.Am
/- Plain lists, the frame's slots in chunks of eight, the heap's tree: operations with raw recursors in continuation form, and what they do. -/
namespace Go.Am
universe u

/-! Lists. -/
noncomputable def nth {α:Type} (l:List α):Nat→Option α :=
 List.rec (motive:=fun _=>Nat→Option α) (fun _=>none) (fun x _ ih n=>Nat.casesOn n (some x) ih) l
theorem nth_eq {α:Type}:∀ (l:List α) (n:Nat),nth l n=l[n]?
 | [],_=>by simp [nth]
 | _ :: _,0=>rfl
 | _ :: l,n+1=>by have:=nth_eq l n;simpa [nth] using this
noncomputable def upd {α:Type} (x:α) (l:List α):Nat→(List α→Prop)→Prop :=
 List.rec (motive:=fun _=>Nat→(List α→Prop)→Prop) (fun _ _=>False)
  (fun y l ih n k=>Nat.casesOn n (k (x :: l)) fun m=>ih m fun l=>k (y :: l)) l
theorem upd_spec {α:Type} {x:α}:∀ {l:List α} {n:Nat} {k:List α→Prop},upd x l n k→n < l.length∧k (l.set n x)
 | [],_,_,h=>h.elim
 | y :: l,0,k,h=>⟨by simp,h⟩
 | y :: l,n+1,k,h=>by
   have:=upd_spec (l:=l) (n:=n) (k:=fun l=>k (y :: l)) h
   exact ⟨by simpa using this.1,by simpa using this.2⟩

/-! The frame: a tree with four children a node; slot 0 lies in the root, slot 1 + r + 4 q in child r's slot q. -/
structure N4 (α:Type) where
 v:Option V
 a:α
 b:α
 c:α
 d:α
inductive P4 where
 | p0
 | p1 (x:D4)
 | p2 (x y:D4)
 | p3 (x y z:D4)
 | p4 (x y z u:D4)
 | bad
 deriving DecidableEq
abbrev Env:=N4 (N4 (N4 (N4 (N4 Unit))))
def pathL:List D4→P4
 | []=>.p0|[x]=>.p1 x|[x,y]=>.p2 x y|[x,y,z]=>.p3 x y z|[x,y,z,u]=>.p4 x y z u|_=>.bad
noncomputable def path (t:Nat):P4:=match digs 4 t with|some l=>pathL l|none=>.bad
def P4.num:P4→Nat
 | .p0=>0|.p1 x=>dn x+4 * 0|.p2 x y=>dn x+4 * (dn y+4 * 0)|.p3 x y z=>dn x+4 * (dn y+4 * (dn z+4 * 0))|.p4 x y z u=>dn x+4 * (dn y+4 * (dn z+4 * (dn u+4 * 0)))|.bad=>0
theorem path_num {t:Nat} (h:path t ≠ .bad):(path t).num=t:=by
 unfold path at h ⊢
 cases hd:digs 4 t with
 | none=>rw [hd] at h;exact absurd rfl h
 | some l =>
   obtain ⟨h1,h2⟩:=digs_num hd
   show (pathL l).num=t
   rw [← h1]
   match l,h2 with
   | [],_=>rfl
   | [x],_=>rfl
   | [x,y],_=>rfl
   | [x,y,z],_=>rfl
   | [x,y,z,u],_=>rfl
   | _ :: _ :: _ :: _ :: _ :: _,h2=>simp at h2
theorem path_inj {t s:Nat} (h:path t ≠ .bad) (e:path s=path t):s=t:=by
 rw [← path_num h,← e,path_num (by rw [e];exact h)]
namespace N4
variable {α R:Type}
def sel (x:D4) (n:N4 α):α:=match x with|.a=>n.a|.b=>n.b|.c=>n.c|.d=>n.d
def upd (x:D4) (y:α) (n:N4 α):N4 α:=match x with|.a=>{ n with a:=y }|.b=>{ n with b:=y }|.c=>{ n with c:=y }|.d=>{ n with d:=y }
def setv (u:V) (n:N4 α):N4 α:={ n with v:=some u }
theorem sel_upd (x y:D4) (n:N4 α) (z:α):sel x (upd y z n)=if x=y then z else sel x n:=by cases x <;> cases y <;> rfl
theorem sel_setv (x:D4) (u:V) (n:N4 α):sel x (setv u n)=sel x n:=by cases x <;> rfl
theorem v_upd (y:D4) (z:α) (n:N4 α):(upd y z n).v=n.v:=by cases y <;> rfl
noncomputable def selA (n:N4 α) (k:α→R):R:=N4.rec (motive:=fun _=>R) (fun _ a _ _ _=>k a) n
noncomputable def selB (n:N4 α) (k:α→R):R:=N4.rec (motive:=fun _=>R) (fun _ _ b _ _=>k b) n
noncomputable def selC (n:N4 α) (k:α→R):R:=N4.rec (motive:=fun _=>R) (fun _ _ _ c _=>k c) n
noncomputable def selD (n:N4 α) (k:α→R):R:=N4.rec (motive:=fun _=>R) (fun _ _ _ _ d=>k d) n
noncomputable def selK (x:D4):N4 α→(α→R)→R:=D4.rec (motive:=fun _=>N4 α→(α→R)→R) selA selB selC selD x
theorem selK_eq (x:D4) (n:N4 α) (k:α→R):selK x n k=k (sel x n):=by cases n;cases x <;> rfl
noncomputable def svK (u:V) (n:N4 α) (k:N4 α→Prop):Prop:=N4.rec (fun v a b c d=>Option.rec (motive:=fun _=>Prop) False (fun _=>k ⟨some u,a,b,c,d⟩) v) n
theorem svK_spec {u:V} {n:N4 α} {k:N4 α→Prop} (h:svK u n k):n.v.isSome∧k (setv u n):=by
 cases n with
 | mk v a b c d =>
   cases v with
   | none=>exact h.elim
   | some w=>exact ⟨rfl,h⟩
noncomputable def upA (n:N4 α) (g:α→(α→Prop)→Prop) (k:N4 α→Prop):Prop:=N4.rec (motive:=fun _=>Prop) (fun v a b c d=>g a fun y=>k ⟨v,y,b,c,d⟩) n
noncomputable def upB (n:N4 α) (g:α→(α→Prop)→Prop) (k:N4 α→Prop):Prop:=N4.rec (motive:=fun _=>Prop) (fun v a b c d=>g b fun y=>k ⟨v,a,y,c,d⟩) n
noncomputable def upC (n:N4 α) (g:α→(α→Prop)→Prop) (k:N4 α→Prop):Prop:=N4.rec (motive:=fun _=>Prop) (fun v a b c d=>g c fun y=>k ⟨v,a,b,y,d⟩) n
noncomputable def upD (n:N4 α) (g:α→(α→Prop)→Prop) (k:N4 α→Prop):Prop:=N4.rec (motive:=fun _=>Prop) (fun v a b c d=>g d fun y=>k ⟨v,a,b,c,y⟩) n
noncomputable def upK (x:D4):N4 α→(α→(α→Prop)→Prop)→(N4 α→Prop)→Prop:=D4.rec (motive:=fun _=>N4 α→(α→(α→Prop)→Prop)→(N4 α→Prop)→Prop) upA upB upC upD x
theorem upK_spec {x:D4} {n:N4 α} {g:α→(α→Prop)→Prop} {k:N4 α→Prop} (h:upK x n g k):g (sel x n) fun y=>k (upd x y n):=by cases n;cases x <;> exact h
end N4
open N4 in
noncomputable def get0 (E:Env):Option V:=N4.rec (motive:=fun _=>Option V) (fun v _ _ _ _=>v) E
noncomputable def get1 (x:D4) (E:Env):Option V:=N4.selK x E fun n=>n.v
noncomputable def get2 (x y:D4) (E:Env):Option V:=N4.selK x E fun n=>N4.selK y n fun n=>n.v
noncomputable def get3 (x y z:D4) (E:Env):Option V:=N4.selK x E fun n=>N4.selK y n fun n=>N4.selK z n fun n=>n.v
noncomputable def get4 (x y z u:D4) (E:Env):Option V:=N4.selK x E fun n=>N4.selK y n fun n=>N4.selK z n fun n=>N4.selK u n fun n=>n.v
noncomputable def getN (_:Env):Option V:=none
noncomputable def getP (E:Env) (p:P4):Option V:=P4.rec (motive:=fun _=>Env→Option V) get0 get1 get2 get3 get4 getN p E
noncomputable def set0 (E:Env) (w:V) (k:Env→Prop):Prop:=N4.svK w E k
noncomputable def set1 (x:D4) (E:Env) (w:V) (k:Env→Prop):Prop:=N4.upK x E (N4.svK w) k
noncomputable def set2 (x y:D4) (E:Env) (w:V) (k:Env→Prop):Prop:=N4.upK x E (fun n k=>N4.upK y n (N4.svK w) k) k
noncomputable def set3 (x y z:D4) (E:Env) (w:V) (k:Env→Prop):Prop:=N4.upK x E (fun n k=>N4.upK y n (fun n k=>N4.upK z n (N4.svK w) k) k) k
noncomputable def set4 (x y z u:D4) (E:Env) (w:V) (k:Env→Prop):Prop:=N4.upK x E (fun n k=>N4.upK y n (fun n k=>N4.upK z n (fun n k=>N4.upK u n (N4.svK w) k) k) k) k
noncomputable def setN (_:Env) (_:V) (_:Env→Prop):Prop:=False
noncomputable def setP (E:Env) (p:P4) (w:V) (k:Env→Prop):Prop:=P4.rec (motive:=fun _=>Env→V→(Env→Prop)→Prop) set0 set1 set2 set3 set4 setN p E w k
noncomputable def tget (E:Env) (t:Nat):Option V:=getP E (path t)
noncomputable def tset (E:Env) (t:Nat) (v:V) (k:Env→Prop):Prop:=setP E (path t) v k
open N4 in
theorem setP_spec {E:Env} {p:P4} {w:V} {k:Env→Prop} (h:setP E p w k):p ≠ .bad∧∃ E',k E'∧(getP E p).isSome∧∀ q,getP E' q=if q=p then some w else getP E q:=by
 cases p with
 | bad=>exact h.elim
 | p0 =>
   refine ⟨by simp,?_⟩
   obtain ⟨h1,h2⟩:=svK_spec (show svK w E k from h)
   refine ⟨_,h2,h1,fun q=>?_⟩
   cases q with
   | p0=>rfl
   | bad=>rfl
   | _=>simp only [getP,get0,get1,get2,get3,get4,selK_eq,sel_setv,reduceCtorEq,if_false]
 | p1 x =>
   refine ⟨by simp,?_⟩
   obtain ⟨h1,h2⟩:=svK_spec (upK_spec (show upK x E (fun n k=>svK w n k) k from h))
   refine ⟨_,h2,by simpa only [getP,get0,get1,get2,get3,get4,selK_eq] using h1,fun q=>?_⟩
   cases q with
   | p0=>simp [getP,get0,v_upd]
   | p1 x'=>simp only [getP,get0,get1,get2,get3,get4,selK_eq,sel_upd,P4.p1.injEq];by_cases e:x'=x <;> simp [e,setv]
   | p2 x' y'=>simp only [getP,get0,get1,get2,get3,get4,selK_eq,sel_upd,reduceCtorEq,if_false];by_cases e:x'=x <;> simp [e,sel_setv]
   | p3 x' y' z'=>simp only [getP,get0,get1,get2,get3,get4,selK_eq,sel_upd,reduceCtorEq,if_false];by_cases e:x'=x <;> simp [e,sel_setv]
   | p4 x' y' z' u'=>simp only [getP,get0,get1,get2,get3,get4,selK_eq,sel_upd,reduceCtorEq,if_false];by_cases e:x'=x <;> simp [e,sel_setv]
   | bad=>rfl
 | p2 x y =>
   refine ⟨by simp,?_⟩
   obtain ⟨h1,h2⟩:=svK_spec (upK_spec (upK_spec (show upK x E (fun n k=>upK y n (fun n k=>svK w n k) k) k from h)))
   refine ⟨_,h2,by simpa only [getP,get0,get1,get2,get3,get4,selK_eq] using h1,fun q=>?_⟩
   cases q with
   | p0=>simp [getP,get0,v_upd]
   | p1 x'=>simp only [getP,get0,get1,get2,get3,get4,selK_eq,sel_upd,reduceCtorEq,if_false];by_cases e:x'=x <;> simp [e,v_upd]
   | p2 x' y'=>simp only [getP,get0,get1,get2,get3,get4,selK_eq,sel_upd,P4.p2.injEq];by_cases e:x'=x <;> by_cases e2:y'=y <;> simp [e,e2,sel_upd,setv]
   | p3 x' y' z'=>simp only [getP,get0,get1,get2,get3,get4,selK_eq,sel_upd,reduceCtorEq,if_false];by_cases e:x'=x <;> by_cases e2:y'=y <;> simp [e,e2,sel_upd,sel_setv]
   | p4 x' y' z' u'=>simp only [getP,get0,get1,get2,get3,get4,selK_eq,sel_upd,reduceCtorEq,if_false];by_cases e:x'=x <;> by_cases e2:y'=y <;> simp [e,e2,sel_upd,sel_setv]
   | bad=>rfl
 | p3 x y z =>
   refine ⟨by simp,?_⟩
   obtain ⟨h1,h2⟩:=svK_spec (upK_spec (upK_spec (upK_spec (show upK x E (fun n k=>upK y n (fun n k=>upK z n (fun n k=>svK w n k) k) k) k from h))))
   refine ⟨_,h2,by simpa only [getP,get0,get1,get2,get3,get4,selK_eq] using h1,fun q=>?_⟩
   cases q with
   | p0=>simp [getP,get0,v_upd]
   | p1 x'=>simp only [getP,get0,get1,get2,get3,get4,selK_eq,sel_upd,reduceCtorEq,if_false];by_cases e:x'=x <;> simp [e,v_upd]
   | p2 x' y'=>simp only [getP,get0,get1,get2,get3,get4,selK_eq,sel_upd,reduceCtorEq,if_false];by_cases e:x'=x <;> by_cases e2:y'=y <;> simp [e,e2,sel_upd,v_upd]
   | p3 x' y' z'=>simp only [getP,get0,get1,get2,get3,get4,selK_eq,sel_upd,P4.p3.injEq];by_cases e:x'=x <;> by_cases e2:y'=y <;> by_cases e3:z'=z <;> simp [e,e2,e3,sel_upd,setv]
   | p4 x' y' z' u'=>simp only [getP,get0,get1,get2,get3,get4,selK_eq,sel_upd,reduceCtorEq,if_false];by_cases e:x'=x <;> by_cases e2:y'=y <;> by_cases e3:z'=z <;> simp [e,e2,e3,sel_upd,sel_setv]
   | bad=>rfl
 | p4 x y z u =>
   refine ⟨by simp,?_⟩
   obtain ⟨h1,h2⟩:=svK_spec (upK_spec (upK_spec (upK_spec (upK_spec (show upK x E (fun n k=>upK y n (fun n k=>upK z n (fun n k=>upK u n (fun n k=>svK w n k) k) k) k) k from h)))))
   refine ⟨_,h2,by simpa only [getP,get0,get1,get2,get3,get4,selK_eq] using h1,fun q=>?_⟩
   cases q with
   | p0=>simp [getP,get0,v_upd]
   | p1 x'=>simp only [getP,get0,get1,get2,get3,get4,selK_eq,sel_upd,reduceCtorEq,if_false];by_cases e:x'=x <;> simp [e,v_upd]
   | p2 x' y'=>simp only [getP,get0,get1,get2,get3,get4,selK_eq,sel_upd,reduceCtorEq,if_false];by_cases e:x'=x <;> by_cases e2:y'=y <;> simp [e,e2,sel_upd,v_upd]
   | p3 x' y' z'=>simp only [getP,get0,get1,get2,get3,get4,selK_eq,sel_upd,reduceCtorEq,if_false];by_cases e:x'=x <;> by_cases e2:y'=y <;> by_cases e3:z'=z <;> simp [e,e2,e3,sel_upd,v_upd]
   | p4 x' y' z' u'=>simp only [getP,get0,get1,get2,get3,get4,selK_eq,sel_upd,P4.p4.injEq];by_cases e:x'=x <;> by_cases e2:y'=y <;> by_cases e3:z'=z <;> by_cases e4:u'=u <;> simp [e,e2,e3,e4,sel_upd,setv]
   | bad=>rfl
theorem tset_spec {E:Env} {t:Nat} {v:V} {k:Env→Prop} (h:tset E t v k) :
  ∃ E',k E'∧(tget E t).isSome∧∀ s,tget E' s=if s=t then some v else tget E s:=by
 obtain ⟨hb,E',h1,h2,h3⟩:=setP_spec h
 refine ⟨E',h1,h2,fun s=>?_⟩
 show getP E' (path s)=_
 rw [h3]
 by_cases e:path s=path t
 ·rw [if_pos e,if_pos (path_inj hb e)]
 ·rw [if_neg e,if_neg (fun h=>e (by rw [h]))];rfl

/-- Slots as related lists: all slots that the chunks hold. -/
def ER (ρ:Rho) (E:Env) (tmps:Array Value):Prop:=∀ t v,tget E t=some v→∃ v',tmps[t]?=some v'∧VR ρ v v'
theorem ER.mono {ρ ρ':Rho} (h:ρ.le ρ') {E:Env} {tmps:Array Value} (he:ER ρ E tmps):ER ρ' E tmps :=
 fun t v hv=>let ⟨v',a,b⟩:=he t v hv;⟨v',a,b.mono h⟩
theorem ER.set {ρ:Rho} {E E':Env} {tmps:Array Value} {t:Nat} {v:V} {v':Value} (he:ER ρ E tmps) (hs:(tget E t).isSome)
  (hE:∀ s,tget E' s=if s=t then some v else tget E s) (hv:VR ρ v v'):ER ρ E' (tmps.setIfInBounds t v'):=by
 intro s x hx
 rw [hE] at hx
 obtain ⟨y,hy⟩:=Option.isSome_iff_exists.1 hs
 obtain ⟨y',hy',_⟩:=he t y hy
 have hlt:t < tmps.size:=by
  rcases Nat.lt_or_ge t tmps.size with h|h
  ·exact h
  ·simp [Array.getElem?_eq_none h] at hy'
 by_cases hst:s=t
 ·subst hst
  simp at hx;subst hx
  exact ⟨v',by simp [hlt],hv⟩
 ·simp [hst] at hx
  obtain ⟨x',hx',hr⟩:=he s x hx
  exact ⟨x',by rw [Array.getElem?_setIfInBounds_ne (Ne.symm hst)];exact hx',hr⟩

/-- A new frame. -/
def undefV:V:=.tup []
theorem VR.undef (ρ:Rho):VR ρ undefV undef:=.tup .nil
def bl0 (f:Nat→Option V):N4 Unit:=⟨f 0,(),(),(),()⟩
def bl1 (f:Nat→Option V):N4 (N4 Unit):=⟨f 0,bl0 fun q=>f (1+4 * q),bl0 fun q=>f (2+4 * q),bl0 fun q=>f (3+4 * q),bl0 fun q=>f (4+4 * q)⟩
def bl2 (f:Nat→Option V):N4 (N4 (N4 Unit)):=⟨f 0,bl1 fun q=>f (1+4 * q),bl1 fun q=>f (2+4 * q),bl1 fun q=>f (3+4 * q),bl1 fun q=>f (4+4 * q)⟩
def bl3 (f:Nat→Option V):N4 (N4 (N4 (N4 Unit))):=⟨f 0,bl2 fun q=>f (1+4 * q),bl2 fun q=>f (2+4 * q),bl2 fun q=>f (3+4 * q),bl2 fun q=>f (4+4 * q)⟩
def bl4 (f:Nat→Option V):Env:=⟨f 0,bl3 fun q=>f (1+4 * q),bl3 fun q=>f (2+4 * q),bl3 fun q=>f (3+4 * q),bl3 fun q=>f (4+4 * q)⟩
noncomputable def slotV (n t:Nat):Option V:=Bool.rec none (some undefV) (Nat.blt t n)
noncomputable def blank (n:Nat):Env:=bl4 (slotV n)
theorem bl4_get (f:Nat→Option V) (p:P4) (h:p ≠ .bad):getP (bl4 f) p=f p.num:=by
 cases p with
 | bad=>exact absurd rfl h
 | p0=>rfl
 | p1 x=>cases x <;> rfl
 | p2 x y=>cases x <;> cases y <;> rfl
 | p3 x y z=>cases x <;> cases y <;> cases z <;> rfl
 | p4 x y z u=>cases x <;> cases y <;> cases z <;> cases u <;> rfl
theorem blank_get {n t:Nat} {v:V} (h:tget (blank n) t=some v):v=undefV∧t < n:=by
 by_cases hb:path t=.bad
 ·have:getP (blank n) (path t)=some v:=h
  rw [hb] at this;cases this
 ·have h':getP (blank n) (path t)=some v:=h
  unfold blank at h'
  rw [bl4_get _ _ hb,path_num hb] at h'
  unfold slotV at h'
  cases hl:Nat.blt t n with
  | false=>rw [hl] at h';cases h'
  | true=>rw [hl] at h';exact ⟨(Option.some.inj h').symm,by simpa using hl⟩

/-! The tree. -/
theorem numL_pos (x:D4) (l:List D4):0 < numL (x :: l):=by show 0 < dn x+4 * numL l;cases x <;> simp only [dn] <;> omega
theorem numL_inj:∀ {l m:List D4},numL l=numL m→l=m
 | [],[],_=>rfl
 | [],y :: m,h=>by have:=numL_pos y m;rw [← h] at this;exact absurd this (by simp [numL])
 | x :: l,[],h=>by have:=numL_pos x l;rw [h] at this;exact absurd this (by simp [numL])
 | x :: l,y :: m,h=>by
   have h':dn x+4 * numL l=dn y+4 * numL m:=h
   have hx:1 ≤ dn x∧dn x ≤ 4:=by cases x <;> simp [dn]
   have hy:1 ≤ dn y∧dn y ≤ 4:=by cases y <;> simp [dn]
   have e1:dn x=dn y:=by omega
   have e2:numL l=numL m:=by omega
   have e3:x=y:=by cases x <;> cases y <;> first|rfl|(simp [dn] at e1)
   rw [e3,numL_inj e2]
namespace T
variable {α:Type}
/-- A child. -/
def ch (x:D4):T α→T α
 | .nil=>.nil
 | .node _ a b c d=>match x with|.a=>a|.b=>b|.c=>c|.d=>d
theorem getL_nil:∀ (l:List D4),getL l (T.nil:T α)=none
 | []=>rfl
 | x :: l=>by cases x <;> rfl
theorem getL_cons (x:D4) (l:List D4) (t:T α):getL (x :: l) t=getL l (ch x t):=by
 cases t with
 | nil =>
   show gX x .nil (getL l)=getL l .nil
   rw [getL_nil]
   cases x <;> rfl
 | node v a b c d=>cases x <;> rfl
theorem setL_spec {x:Option α}:∀ {l:List D4} {t:T α} {k:T α→Prop},setL x l t k→∃ t',k t'∧∀ m,getL m t'=if m=l then x else getL m t
 | [],t,k,h=>by
   cases t with
   | nil =>
     refine ⟨_,h,fun m=>?_⟩
     cases m with
     | nil=>rfl
     | cons y m=>rw [getL_cons,getL_cons];cases y <;> simp [ch,getL_nil]
   | node v a b c d =>
     refine ⟨_,h,fun m=>?_⟩
     cases m with
     | nil=>rfl
     | cons y m=>rw [getL_cons,getL_cons];cases y <;> simp [ch]
 | q :: l,t,k,h=>by
   have h':sX q t (setL x l) k:=h
   have key:∃ u:T α→T α,setL x l (ch q t) (fun y=>k (u y))∧(∀ y,ch q (u y)=y)∧(∀ r y,r ≠ q→ch r (u y)=ch r t)∧∀ y,getL [] (u y)=getL [] t:=by
    cases t with
    | nil =>
      cases q
      ·exact ⟨fun y=>.node none y .nil .nil .nil,h',fun _=>rfl,fun r y hr=>by cases r <;> first|rfl|exact absurd rfl hr,fun _=>rfl⟩
      ·exact ⟨fun y=>.node none .nil y .nil .nil,h',fun _=>rfl,fun r y hr=>by cases r <;> first|rfl|exact absurd rfl hr,fun _=>rfl⟩
      ·exact ⟨fun y=>.node none .nil .nil y .nil,h',fun _=>rfl,fun r y hr=>by cases r <;> first|rfl|exact absurd rfl hr,fun _=>rfl⟩
      ·exact ⟨fun y=>.node none .nil .nil .nil y,h',fun _=>rfl,fun r y hr=>by cases r <;> first|rfl|exact absurd rfl hr,fun _=>rfl⟩
    | node v a b c d =>
      cases q
      ·exact ⟨fun y=>.node v y b c d,h',fun _=>rfl,fun r y hr=>by cases r <;> first|rfl|exact absurd rfl hr,fun _=>rfl⟩
      ·exact ⟨fun y=>.node v a y c d,h',fun _=>rfl,fun r y hr=>by cases r <;> first|rfl|exact absurd rfl hr,fun _=>rfl⟩
      ·exact ⟨fun y=>.node v a b y d,h',fun _=>rfl,fun r y hr=>by cases r <;> first|rfl|exact absurd rfl hr,fun _=>rfl⟩
      ·exact ⟨fun y=>.node v a b c y,h',fun _=>rfl,fun r y hr=>by cases r <;> first|rfl|exact absurd rfl hr,fun _=>rfl⟩
   obtain ⟨u,h1,h2,h3,h4⟩:=key
   obtain ⟨y,h5,h6⟩:=setL_spec h1
   refine ⟨u y,h5,fun m=>?_⟩
   cases m with
   | nil=>rw [h4];rfl
   | cons r m =>
     rw [getL_cons,getL_cons]
     by_cases hr:r=q
     ·subst hr
      rw [h2,h6]
      by_cases e:m=l
      ·rw [if_pos e,if_pos (by rw [e])]
      ·rw [if_neg e,if_neg (fun h=>e (List.cons.inj h).2)]
     ·rw [h3 r y hr,if_neg (fun h=>hr (List.cons.inj h).1)]
theorem set_spec {x:Option α} {d m:Nat} {t:T α} {k:T α→Prop} (h:set x d m t k False):∃ t',k t'∧∀ n,get d n t'=if n=m then x else get d n t:=by
 unfold set at h
 cases hd:digs d m with
 | none=>rw [hd] at h;exact h.elim
 | some l =>
   rw [hd] at h
   obtain ⟨t',h1,h2⟩:=setL_spec (show setL x l t k from h)
   refine ⟨t',h1,fun n=>?_⟩
   unfold get
   by_cases e:n=m
   ·subst e
    rw [hd,if_pos rfl]
    show getL l t'=x
    rw [h2,if_pos rfl]
   ·rw [if_neg e]
    cases hn:digs d n with
    | none=>rfl
    | some l2 =>
      show getL l2 t'=getL l2 t
      rw [h2,if_neg (fun he=>e ?_)]
      rw [← (digs_num hd).1,← (digs_num hn).1,he]
end T
end Go.Am
/- Abstract objects, the abstract heap, and when a world holds it; making an object, reading and writing a cell. -/
namespace Go.Am

/-- A row of cells: read only · written, and all its cells are known · written, there may be more cells behind those known. -/
inductive Fl where
 | ro|ex|rw
inductive O where
 | cells (cs:List V) (elem:TypeId) (fl:Fl)
 | map (es:List (V × V × Nat)) (clock:Nat)
 | strIter (s:List UInt8) (pos:Nat)
 | mapIter (m:Option Nat) (since:Nat) (seen:List Nat) (stepped:Nat)
 | loop (st:LoopState) (pending:Option Code) (tmps:Env) (params:List Tmp) (assign body:Code) (defers:Nat)
 | deferred

structure St where
 hp:T O
 next:Nat

abbrev deep:Nat:=12
/-- A heap as a function. -/
structure Hs where
 get:Nat→Option O
 next:Nat
noncomputable def St.hs (S:St):Hs:=⟨fun id=>T.get deep id S.hp,S.next⟩
def Hs.put (H:Hs) (id:Nat) (o:Option O):Hs:=⟨fun i=>if i=id then o else H.get i,H.next⟩
def Hs.new (H:Hs) (o:O):Hs:=⟨fun i=>if i=H.next then some o else H.get i,H.next+1⟩

/-- Map entries. -/
def EsR (ρ:Rho):List (V × V × Nat)→List MapEntry→Prop
 | [],[]=>True
 | (k,v,b) :: es,e :: es'=>VR ρ k e.key∧VR ρ v e.val∧b=e.born∧EsR ρ es es'
 | _,_=>False
theorem EsR.mono {ρ ρ':Rho} (h:ρ.le ρ'):∀ {es:List (V × V × Nat)} {es':List MapEntry},EsR ρ es es'→EsR ρ' es es'
 | [],[],_=>trivial
 | (_,_,_) :: _,_ :: _,⟨a,b,c,d⟩=>⟨a.mono h,b.mono h,c,d.mono h⟩
 | [],_ :: _,h=>h.elim
 | _ :: _,[],h=>by cases h

/-- What object a world holds for an abstract one, at a place. -/
def OR (ρ:Rho) (l:Loc):O→Obj→Prop
 | .cells cs elem fl,co=>∃ c f,co=.cells c elem f∧l.csz=c.size∧l.base+cs.length ≤ c.size ∧
   (∀ i v,cs[i]?=some v→∃ v',c[l.base+i]?=some v'∧VR ρ v v')∧(fl ≠ .ro→l.rw=true∧∀ off,off < c.size→¬ (f.1 ≤ off∧off < f.2))∧(fl=.ex→l.base=0∧cs.length=c.size)
 | .map es clock,co=>l.rw=true∧∃ es',co=.map es' clock∧EsR ρ es es'.toList
 | .strIter s pos,co=>(l.rw=true∧l.base=0)∧co=.stringIter ⟨⟨s⟩⟩ pos
 | .mapIter m since seen stepped,co=>(l.rw=true∧l.base=0)∧∃ m',co=.mapIter m' since ⟨seen⟩ stepped∧match m with
   | none=>m'=none
   | some id=>∃ l',ρ id=some l'∧m'=some l'.blk
 | .loop st pending tmps params assign body defers,co=>(l.rw=true∧l.base=0)∧∃ fn tmps' ld,co=.loop { state:=st,pending,fn,tmps:=tmps',params:=⟨params⟩,assign,body,defers:=ld.blk } ∧
   ER ρ tmps tmps'∧ρ defers=some ld
 | .deferred,co=>l.rw=true∧co=.deferred (some [])
theorem OR.mono {ρ ρ':Rho} (h:ρ.le ρ') {l:Loc} {o:O} {co:Obj} (ho:OR ρ l o co):OR ρ' l o co:=by
 cases o with
 | cells cs elem fl =>
   obtain ⟨c,f,a,b,c2,d,e⟩:=ho
   exact ⟨c,f,a,b,c2,fun i v hv=>let ⟨v',x,y⟩:=d i v hv;⟨v',x,y.mono h⟩,e⟩
 | map es clock=>obtain ⟨r,es',a,b⟩:=ho;exact ⟨r,es',a,b.mono h⟩
 | strIter s pos=>exact ho
 | mapIter m since seen stepped =>
   obtain ⟨r,m',a,b⟩:=ho
   refine ⟨r,m',a,?_⟩
   cases m with
   | none=>exact b
   | some id=>obtain ⟨l',x,y⟩:=b;exact ⟨l',h _ _ x,y⟩
 | loop st pending tmps params assign body defers =>
   obtain ⟨r,fn,tmps',ld,a,b,c⟩:=ho
   exact ⟨r,fn,tmps',ld,a,b.mono h,h _ _ c⟩
 | deferred=>exact ho

structure Sim (ρ:Rho) (S:Hs) (w:World):Prop where
 obj:∀ id o,S.get id=some o→∃ l co,ρ id=some l∧w.heap[l.blk]?=some co∧OR ρ l o co
 sep:∀ id id' l l',(S.get id).isSome→(S.get id').isSome→ρ id=some l→ρ id'=some l'→l.rw=true→id ≠ id'→l.blk ≠ l'.blk
 fresh:∀ id,S.next ≤ id→ρ id=none

def Own (ρ:Rho) (S:Hs) (b:Nat):Prop:=∃ id l,(S.get id).isSome∧ρ id=some l∧l.rw=true∧l.blk=b

/-- A block that some object of the heap lies in. -/
def Has (ρ:Rho) (S:Hs) (b:Nat):Prop:=∃ id l,(S.get id).isSome∧ρ id=some l∧l.blk=b

structure Ext (ρ:Rho) (S:Hs) (w:World) (ρ':Rho) (S':Hs) (w':World):Prop where
 rho:∀ id,id < S.next→ρ' id=ρ id
 next:S.next ≤ S'.next
 size:w.heap.size ≤ w'.heap.size
 keep:∀ b,b < w.heap.size→¬ Own ρ S b→w'.heap[b]?=w.heap[b]?
 own:∀ b,Own ρ' S' b→w.heap.size ≤ b ∨ Own ρ S b
 has:∀ b,Has ρ' S' b→w.heap.size ≤ b ∨ Has ρ S b
 tape:w'.tape=w.tape
 os:w'.os=w.os
 output:w'.output=w.output
 drawn:w.drawn ≤ w'.drawn

theorem Sim.lt {ρ:Rho} {S:Hs} {w:World} (h:Sim ρ S w) {id:Nat} {l:Loc} (hl:ρ id=some l):id < S.next:=by
 rcases Nat.lt_or_ge id S.next with h'|h'
 ·exact h'
 ·rw [h.fresh id h'] at hl;cases hl
theorem Ext.le {ρ ρ':Rho} {S S':Hs} {w w':World} (hs:Sim ρ S w) (h:Ext ρ S w ρ' S' w'):ρ.le ρ' :=
 fun id l hl=>by rw [h.rho id (hs.lt hl)];exact hl
theorem Ext.refl (ρ:Rho) (S:Hs) (w:World):Ext ρ S w ρ S w:=⟨fun _ _=>rfl,Nat.le_refl _,Nat.le_refl _,fun _ _ _=>rfl,fun _ h=>.inr h,fun _ h=>.inr h,rfl,rfl,rfl,Nat.le_refl _⟩
theorem Ext.trans {ρ ρ1 ρ2:Rho} {S S1 S2:Hs} {w w1 w2:World} (h:Ext ρ S w ρ1 S1 w1) (k:Ext ρ1 S1 w1 ρ2 S2 w2):Ext ρ S w ρ2 S2 w2 where
 rho id hid:=by rw [k.rho id (Nat.lt_of_lt_of_le hid h.next),h.rho id hid]
 next:=Nat.le_trans h.next k.next
 size:=Nat.le_trans h.size k.size
 keep b hb hn:=by
  rw [k.keep b (Nat.lt_of_lt_of_le hb h.size) (fun ho=>by
   rcases h.own b ho with h'|h'
   ·omega
   ·exact hn h'),h.keep b hb hn]
 own b hb:=by
  rcases k.own b hb with h'|h'
  ·exact .inl (Nat.le_trans h.size h')
  ·exact h.own b h'
 has b hb:=by
  rcases k.has b hb with h'|h'
  ·exact .inl (Nat.le_trans h.size h')
  ·exact h.has b h'
 tape:=k.tape.trans h.tape
 os:=k.os.trans h.os
 output:=k.output.trans h.output
 drawn:=Nat.le_trans h.drawn k.drawn

theorem Sim.drew {ρ:Rho} {S:Hs} {w:World} (h:Sim ρ S w):Sim ρ S w.drew:=⟨h.obj,h.sep,h.fresh⟩
theorem Ext.drew (ρ:Rho) (S:Hs) (w:World):Ext ρ S w ρ S w.drew:=⟨fun _ _=>rfl,Nat.le_refl _,Nat.le_refl _,fun _ _ _=>rfl,fun _ h=>.inr h,fun _ h=>.inr h,rfl,rfl,rfl,Nat.le_succ _⟩

/-! Making an object. -/
def Rho.put (ρ:Rho) (id:Nat) (l:Loc):Rho:=fun i=>if i=id then some l else ρ i
theorem Rho.put_self (ρ:Rho) (id:Nat) (l:Loc):(ρ.put id l) id=some l:=by simp [Rho.put]
theorem Rho.put_ne (ρ:Rho) {id i:Nat} (l:Loc) (h:i ≠ id):(ρ.put id l) i=ρ i:=by simp [Rho.put,h]
theorem Rho.le_put {ρ:Rho} {id:Nat} (h:ρ id=none) (l:Loc):ρ.le (ρ.put id l):=fun i l' hi=>by
 by_cases e:i=id
 ·subst e;rw [h] at hi;cases hi
 ·rw [Rho.put_ne _ _ e];exact hi

noncomputable def newK (o:O) (S:St) (k:Nat→St→Prop):Prop :=
 St.rec (motive:=fun _=>Prop) (fun hp nx=>T.set (some o) deep nx hp (fun h=>k nx ⟨h,Nat.succ nx⟩) False) S

theorem new_spec {o:O} {S:St} {k:Nat→St→Prop} (h:newK o S k):∃ S',k S.next S'∧S'.hs=S.hs.new o:=by
 cases S
 obtain ⟨t,hk,hg⟩:=T.set_spec h
 exact ⟨⟨t,_+1⟩,hk,by simp only [St.hs,Hs.new];congr 1;funext id;exact hg id⟩
noncomputable def putK (id:Nat) (o:Option O) (S:St) (k:St→Prop):Prop :=
 St.rec (motive:=fun _=>Prop) (fun hp nx=>T.set o deep id hp (fun h=>k ⟨h,nx⟩) False) S
theorem put_spec {id:Nat} {o:Option O} {S:St} {k:St→Prop} (h:putK id o S k):∃ S',k S'∧S'.hs=S.hs.put id o:=by
 cases S
 obtain ⟨t,hk,hg⟩:=T.set_spec h
 exact ⟨⟨t,_⟩,hk,by simp only [St.hs,Hs.put];congr 1;funext i;exact hg i⟩

theorem Sim.alloc_at {ρ:Rho} {S S':Hs} {w:World} (hs:Sim ρ S w) {o:O} {co:Obj} {csz:Nat} {id0:Nat} (hn:S.next ≤ S'.next) (hid0:id0 < S'.next) (h0:ρ id0=none)
  (hg:∀ id,S'.get id=if id=id0 then some o else S.get id) (hi:id0 < S.next ∨ S'.next=S.next+1∧id0=S.next)
  (ho:OR (ρ.put id0 ⟨w.heap.size,0,csz,true⟩) ⟨w.heap.size,0,csz,true⟩ o co) :
  Sim (ρ.put id0 ⟨w.heap.size,0,csz,true⟩) S' (w.alloc co) where
 obj id o' h:=by
  rw [hg] at h
  by_cases e:id=id0
  ·subst e
   simp at h;subst h
   exact ⟨_,co,Rho.put_self _ _ _,heap_alloc_new w co,ho⟩
  ·simp [e] at h
   obtain ⟨l,co',a,b,c⟩:=hs.obj id o' h
   refine ⟨l,co',by rw [Rho.put_ne _ _ e];exact a,?_,c.mono (Rho.le_put h0 _)⟩
   rw [heap_alloc_old w co l.blk]
   ·exact b
   ·rcases Nat.lt_or_ge l.blk w.heap.size with h'|h'
    ·exact h'
    ·simp [Array.getElem?_eq_none h'] at b
 sep id id' l l' h h' hl hl' hr hne:=by
  have lt:∀ i li,(S.get i).isSome→ρ i=some li→li.blk < w.heap.size:=fun i li hi hli=>by
   obtain ⟨oi,hoi⟩:=Option.isSome_iff_exists.1 hi
   obtain ⟨l2,co2,a,b,_⟩:=hs.obj i oi hoi
   rw [hli] at a;cases a
   rcases Nat.lt_or_ge li.blk w.heap.size with h'|h'
   ·exact h'
   ·simp [Array.getElem?_eq_none h'] at b
  rw [hg] at h h'
  by_cases e:id=id0
  ·subst e
   rw [Rho.put_self] at hl;cases hl
   have e':id' ≠ id:=Ne.symm hne
   simp [e'] at h'
   rw [Rho.put_ne _ _ e'] at hl'
   have:=lt id' l' h' hl'
   show w.heap.size ≠ l'.blk
   omega
  ·simp [e] at h
   rw [Rho.put_ne _ _ e] at hl
   by_cases e':id'=id0
   ·subst e'
    rw [Rho.put_self] at hl';cases hl'
    have:=lt id l h hl
    show l.blk ≠ w.heap.size
    omega
   ·simp [e'] at h'
    rw [Rho.put_ne _ _ e'] at hl'
    exact hs.sep id id' l l' h h' hl hl' hr hne
 fresh id h:=by
  rw [Rho.put_ne _ _ (by omega)]
  exact hs.fresh id (by omega)

theorem Sim.alloc {ρ:Rho} {S:Hs} {w:World} (hs:Sim ρ S w) {o:O} {co:Obj} {csz:Nat}
  (ho:OR (ρ.put S.next ⟨w.heap.size,0,csz,true⟩) ⟨w.heap.size,0,csz,true⟩ o co) :
  Sim (ρ.put S.next ⟨w.heap.size,0,csz,true⟩) (S.new o) (w.alloc co)∧Ext ρ S w (ρ.put S.next ⟨w.heap.size,0,csz,true⟩) (S.new o) (w.alloc co):=by
 have hg:∀ id,(S.new o).get id=if id=S.next then some o else S.get id:=fun _=>rfl
 have hn:(S.new o).next=S.next+1:=rfl
 have h0:ρ S.next=none:=hs.fresh _ (Nat.le_refl _)
 refine ⟨hs.alloc_at (by omega) (by omega) h0 hg (.inr ⟨hn,rfl⟩) ho,?_⟩
 exact {
  rho:=fun id hid=>Rho.put_ne _ _ (by omega)
  next:=by omega
  size:=by simp
  keep:=fun b hb _=>heap_alloc_old w co b hb
  own:=fun b ⟨id,l,h,hl,hr,hb⟩=>by
   rw [hg] at h
   by_cases e:id=S.next
   ·subst e
    rw [Rho.put_self] at hl;cases hl
    exact .inl (Nat.le_of_eq hb)
   ·simp [e] at h
    rw [Rho.put_ne _ _ e] at hl
    exact .inr ⟨id,l,h,hl,hr,hb⟩
  has:=fun b ⟨id,l,h,hl,hb⟩=>by
   rw [hg] at h
   by_cases e:id=S.next
   ·subst e
    rw [Rho.put_self] at hl;cases hl
    exact .inl (Nat.le_of_eq hb)
   ·simp [e] at h
    rw [Rho.put_ne _ _ e] at hl
    exact .inr ⟨id,l,h,hl,hb⟩
  tape:=rfl,os:=rfl,output:=rfl,drawn:=Nat.le_refl _ }

/-! Reading cells. -/
theorem Sim.cell {ρ:Rho} {S:Hs} {w:World} (hs:Sim ρ S w) {id:Nat} {cs:List V} {e:TypeId} {fl:Fl} (h:S.get id=some (.cells cs e fl))
  {l:Loc} (hl:ρ id=some l) {i:Nat} {v:V} (hv:cs[i]?=some v):∃ v',w.cell? ⟨l.blk,l.base+i,none⟩=some v'∧VR ρ v v':=by
 obtain ⟨l',co,a,b,c,f,rfl,_,_,hc,_,_⟩:=hs.obj id _ h
 rw [hl] at a;cases a
 obtain ⟨v',hv',hr⟩:=hc i v hv
 exact ⟨v',by simp [World.cell?,b,hv'],hr⟩

theorem Sim.loadCells {P:Program} {ρ:Rho} {S:Hs} {w:World} (hs:Sim ρ S w) {id:Nat} {cs:List V} {e:TypeId} {fl:Fl} (h:S.get id=some (.cells cs e fl))
  {l:Loc} (hl:ρ id=some l) {off n:Nat} (hle:off+n ≤ cs.length) :
  ∃ c':List Value,(loadCells ⟨l.blk,l.base+off,none⟩ n).run P w=.ok ⟨c'⟩ w∧VRs ρ ((cs.drop off).take n) c':=by
 have hex:∀ j,j < n→∃ v',w.cell? ((⟨l.blk,l.base+off,none⟩:Addr).add j)=some v'∧∃ v,cs[off+j]?=some v∧VR ρ v v':=fun j hj=>by
  have hlt:off+j < cs.length:=by omega
  obtain ⟨v',a,b⟩:=hs.cell h hl (i:=off+j) (v:=cs[off+j]) (by simp [hlt])
  refine ⟨v',?_,_,by simp [hlt],b⟩
  rw [← a]
  unfold Addr.add
  by_cases h0:j=0
  ·subst h0;simp
  ·simp [h0,Nat.add_assoc]
 classical
 let f:Nat→Value:=fun j=>if hj:j < n then Classical.choose (hex j hj) else undef
 have hf:∀ j,j < n→w.cell? ((⟨l.blk,l.base+off,none⟩:Addr).add j)=some (f j):=fun j hj=>by
  have:=(Classical.choose_spec (hex j hj)).1
  simp only [f,hj,dif_pos];exact this
 have hr:=run_loadCells (P:=P) (w:=w) ⟨l.blk,l.base+off,none⟩ n f hf
 refine ⟨(List.range n).map f,?_,VRs.of_get (by simp;omega) fun i v v' hv hv'=>?_⟩
 ·exact hr
 ·have hi:i < n:=by
   rcases Nat.lt_or_ge i n with h'|h'
   ·exact h'
   ·simp [List.getElem?_eq_none (l:=(List.range n).map f) (by simpa using h')] at hv'
  have h1:v'=f i:=by
   simp [hi] at hv';exact hv'.symm
  have h2:=(Classical.choose_spec (hex i hi)).2
  have h3:f i=Classical.choose (hex i hi):=by simp only [f,hi,dif_pos]
  rw [h1,h3]
  obtain ⟨u,hu,hru⟩:=h2
  have:v=u:=by
   rw [List.getElem?_take,if_pos hi,List.getElem?_drop,hu] at hv
   exact (Option.some.inj hv).symm
  rw [this];exact hru

/-! Writing cells. -/
theorem Sim.put_cells {ρ:Rho} {S:Hs} {w w':World} (hs:Sim ρ S w) {id:Nat} {cs cs':List V} {e:TypeId} {fl fl':Fl} (h:S.get id=some (.cells cs e fl))
  {l:Loc} (hl:ρ id=some l) (hrw:l.rw=true) {co':Obj} (hb:w'.heap[l.blk]?=some co') (hoth:∀ b,b ≠ l.blk→w'.heap[b]?=w.heap[b]?)
  (hsz:w'.heap.size=w.heap.size) (ht:w'.tape=w.tape) (hos:w'.os=w.os) (hout:w'.output=w.output) (ho:OR ρ l (.cells cs' e fl') co') (hdr:w.drawn ≤ w'.drawn:=by exact Nat.le_refl _) :
  Sim ρ (S.put id (some (.cells cs' e fl'))) w'∧Ext ρ S w ρ (S.put id (some (.cells cs' e fl'))) w':=by
 have hsome:(S.get id).isSome:=by rw [h];rfl
 have hget:∀ i,((S.put id (some (.cells cs' e fl'))).get i).isSome→(S.get i).isSome:=fun i hi=>by
  by_cases e:i=id
  ·subst e;exact hsome
  ·simpa [Hs.put,e] using hi
 refine ⟨⟨fun i o hi=>?_,fun i j li lj hi hj=>hs.sep i j li lj (hget i hi) (hget j hj),hs.fresh⟩,?_⟩
 ·by_cases e:i=id
  ·subst e
   simp [Hs.put] at hi;subst hi
   exact ⟨l,co',hl,hb,ho⟩
  ·simp [Hs.put,e] at hi
   obtain ⟨li,co,a,b,c⟩:=hs.obj i o hi
   refine ⟨li,co,a,?_,c⟩
   rw [hoth _ (fun hbe=>hs.sep id i l li hsome (by rw [hi];rfl) hl a hrw (Ne.symm e) hbe.symm)]
   exact b
 ·exact {
   rho:=fun _ _=>rfl
   next:=Nat.le_refl _
   size:=Nat.le_of_eq hsz.symm
   keep:=fun b _ hn=>hoth b fun hbe=>hn ⟨id,l,hsome,hl,hrw,hbe.symm⟩
   own:=fun b ⟨i,li,hi,hli,hr,hb⟩=>.inr ⟨i,li,hget i hi,hli,hr,hb⟩
   has:=fun b ⟨i,li,hi,hli,hb⟩=>.inr ⟨i,li,hget i hi,hli,hb⟩
   tape:=ht,os:=hos,output:=hout,drawn:=hdr }

theorem Sim.store1 {P:Program} {ρ:Rho} {S:Hs} {w:World} (hs:Sim ρ S w) {id:Nat} {cs:List V} {e:TypeId} {fl:Fl} (hfl:fl ≠ .ro) (h:S.get id=some (.cells cs e fl))
  {l:Loc} (hl:ρ id=some l) {i:Nat} (hi:i < cs.length) {v:V} {v':Value} (hv:VR ρ v v') (h1:v.one=true) :
  ∃ w',(store ⟨l.blk,l.base+i,none⟩ v').run P w=.ok () w'∧Sim ρ (S.put id (some (.cells (cs.set i v) e fl))) w'∧Ext ρ S w ρ (S.put id (some (.cells (cs.set i v) e fl))) w':=by
 obtain ⟨l',co,a,b,c,f,rfl,hsz,hle,hc,hf,hx⟩:=hs.obj id _ h
 rw [hl] at a;cases a
 obtain ⟨u',hu',_⟩:=hc i cs[i] (by simp [hi])
 have hlt:l.base+i < c.size:=by omega
 have hcell:w.cell? ⟨l.blk,l.base+i,none⟩=some u':=by simp [World.cell?,b,hu']
 have hfr:w.frozen? ⟨l.blk,l.base+i,none⟩=false:=by
  have:=(hf hfl).2 (l.base+i) hlt
  simp [World.frozen?,b]
  omega
 refine ⟨w.setCell ⟨l.blk,l.base+i,none⟩ v',?_,?_⟩
 ·rw [run_store _ _ _ _ _ (by rw [hv.one];exact h1),hcell,hfr];rfl
 ·refine hs.put_cells h hl (hf hfl).1 (co':=.cells (c.setIfInBounds (l.base+i) v') e f) ?_ ?_ (by simp) rfl rfl rfl ?_
  ·simp only [World.setCell,Array.getElem?_modify,if_true,b,Option.map_some];rfl
  ·intro b' hb';exact heap_setCell_other _ _ _ _ hb'
  ·refine ⟨_,f,rfl,by simpa using hsz,by simpa using hle,fun j u hu=>?_,fun _=>⟨(hf hfl).1,fun off ho=>(hf hfl).2 off (by simpa using ho)⟩,fun h=>by simpa using hx h⟩
   by_cases hji:j=i
   ·subst hji
    rw [List.getElem?_set_self hi] at hu
    cases hu
    exact ⟨v',by simp [hlt],hv⟩
   ·rw [List.getElem?_set_ne (Ne.symm hji)] at hu
    obtain ⟨u2,hu2,hr2⟩:=hc j u hu
    exact ⟨u2,by rw [Array.getElem?_setIfInBounds_ne (by omega)];exact hu2,hr2⟩

/-- A list of values laid over a row from a place on. -/
def over {α:Type} (vs:List α) (off:Nat) (cs:List α):List α:=match vs with
 | []=>cs
 | v :: vs=>over vs (off+1) (cs.set off v)
theorem over_length {α:Type}:∀ (vs:List α) (off:Nat) (cs:List α),(over vs off cs).length=cs.length
 | [],_,_=>rfl
 | v :: vs,off,cs=>by simp [over,over_length vs]
noncomputable def repK (vs:List V):List V→(List V→Prop)→Prop :=
 List.rec (motive:=fun _=>List V→(List V→Prop)→Prop) (fun cs k=>k cs)
  (fun v _ ih cs k=>List.rec (motive:=fun _=>Prop) False (fun _ cs _=>ih cs fun r=>k (v :: r)) cs) vs
noncomputable def overK (vs:List V) (off:Nat):List V→(List V→Prop)→Prop :=
 Nat.rec (motive:=fun _=>List V→(List V→Prop)→Prop) (fun cs k=>repK vs cs k)
  (fun _ ih cs k=>List.rec (motive:=fun _=>Prop) False (fun c cs _=>ih cs fun r=>k (c :: r)) cs) off
theorem over_succ {c:V}:∀ {vs:List V} {off:Nat} {cs:List V},over vs (off+1) (c :: cs)=c :: over vs off cs
 | [],_,_=>rfl
 | v :: vs,off,cs=>by
   show over vs (off+1+1) ((c :: cs).set (off+1) v)=c :: over vs (off+1) (cs.set off v)
   rw [List.set_cons_succ,over_succ]
theorem rep_spec:∀ {vs cs:List V} {k:List V→Prop},repK vs cs k→vs.length ≤ cs.length∧k (over vs 0 cs)
 | [],cs,k,h=>⟨Nat.zero_le _,h⟩
 | v :: vs,[],k,h=>h.elim
 | v :: vs,c :: cs,k,h=>by
   obtain ⟨h1,h2⟩:=rep_spec (show repK vs cs fun r=>k (v :: r) from h)
   refine ⟨by simp;exact h1,?_⟩
   show k (over vs (0+1) ((c :: cs).set 0 v))
   rw [List.set_cons_zero,over_succ]
   exact h2
theorem over_spec:∀ {vs:List V} {off:Nat} {cs:List V} {k:List V→Prop},overK vs off cs k→off+vs.length ≤ cs.length+(if vs=[] then off else 0)∧k (over vs off cs)
 | vs,0,cs,k,h=>by
   obtain ⟨h1,h2⟩:=rep_spec (show repK vs cs k from h)
   exact ⟨by omega,h2⟩
 | vs,off+1,[],k,h=>h.elim
 | vs,off+1,c :: cs,k,h=>by
   obtain ⟨h1,h2⟩:=over_spec (show overK vs off cs fun r=>k (c :: r) from h)
   rw [over_succ]
   refine ⟨?_,h2⟩
   simp only [List.length_cons]
   split at h1
   ·rename_i hv
    rw [if_pos hv];omega
   ·rename_i hv
    rw [if_neg hv];omega
theorem Hs.put_put (H:Hs) (id:Nat) (o o':Option O):(H.put id o).put id o'=H.put id o':=by
 simp only [Hs.put];congr 1;funext i;split <;> rfl
theorem Hs.put_self (H:Hs) {id:Nat} {o:Option O} (h:H.get id=o):H.put id o=H:=by
 cases H;simp only [Hs.put];congr 1;funext i;split
 ·rename_i e;rw [e];exact h.symm
 ·rfl
theorem Hs.get_put (H:Hs) (id:Nat) (o:Option O):(H.put id o).get id=o:=by simp [Hs.put]

theorem Sim.storeCells {P:Program} {ρ:Rho} {e:TypeId} {fl:Fl} (hfl:fl ≠ .ro) {id:Nat} {l:Loc} (hl:ρ id=some l) {off:Nat} :
  ∀ {vs:List V} {vs':List Value},VRs ρ vs vs'→(∀ v ∈ vs,v.one=true)→∀ {S:Hs} {w:World} {cs:List V} {i:Nat},Sim ρ S w→S.get id=some (.cells cs e fl)→off+i+vs.length ≤ cs.length →
  ∃ w',(storeCells ⟨l.blk,l.base+off,none⟩ vs' i).run P w=.ok () w'∧Sim ρ (S.put id (some (.cells (over vs (off+i) cs) e fl))) w'∧Ext ρ S w ρ (S.put id (some (.cells (over vs (off+i) cs) e fl))) w'
 | [],_,.nil,_,S,w,cs,i,hs,h,_=>⟨w,by simp [Go.storeCells],by rw [over,Hs.put_self _ h];exact hs,by rw [over,Hs.put_self _ h];exact .refl _ _ _⟩
 | v :: vs,v' :: vs',.cons hv hvs,hone,S,w,cs,i,hs,h,hle=>by
   obtain ⟨w1,hr,hs1,he1⟩:=hs.store1 (P:=P) hfl h hl (i:=off+i) (by simp at hle;omega) hv (hone v (by simp))
   have hle2:off+(i+1)+vs.length ≤ (cs.set (off+i) v).length:=by
    have:=hle;simp at this ⊢;omega
   obtain ⟨w2,hr2,hs2,he2⟩:=Sim.storeCells (P:=P) hfl hl hvs (fun u hu=>hone u (by simp [hu])) (i:=i+1) (cs:=cs.set (off+i) v) hs1 (Hs.get_put _ _ _) hle2
   rw [Hs.put_put] at hs2 he2
   refine ⟨w2,?_,hs2,he1.trans he2⟩
   simp only [Go.storeCells,Sem.run_bind]
   have ha:(⟨l.blk,l.base+off,none⟩:Addr).add i=⟨l.blk,l.base+(off+i),none⟩:=by
    unfold Addr.add;by_cases h0:i=0
    ·subst h0;simp
    ·simp [h0,Nat.add_assoc]
   rw [ha,hr]
   exact hr2
end Go.Am
/- The evaluator, first part: numbers, the tables of types, operands, the operations that read no memory. Definitions alone. -/
namespace Go.Am

/-! Forcing numbers, tests on numbers. -/
noncomputable def fN (n:Nat) (k:Nat→Prop):Prop:=Nat.casesOn n (k 0) fun m=>k (Nat.succ m)
noncomputable def fI (n:Int) (k:Int→Prop):Prop:=Int.casesOn n (fun n=>fN n fun n=>k (Int.ofNat n)) (fun n=>fN n fun n=>k (Int.negSucc n))
noncomputable def fB (b:Bool) (k:Bool→Prop):Prop:=Bool.rec (k false) (k true) b
/-- 'if the test says yes'. -/
noncomputable def ifK (b:Bool) (k:Prop):Prop:=Bool.rec False k b
noncomputable def ltI (x y:Int):Bool:=Int.casesOn x (fun a=>Int.casesOn y (fun b=>Nat.blt a b) (fun _=>false)) (fun a=>Int.casesOn y (fun _=>true) (fun b=>Nat.blt b a))
noncomputable def eqI (x y:Int):Bool:=Int.casesOn x (fun a=>Int.casesOn y (fun b=>Nat.beq a b) (fun _=>false)) (fun a=>Int.casesOn y (fun _=>false) (fun b=>Nat.beq a b))
def topN:IntKind→Nat
 | .i8=>127|.i16=>32767|.i32=>2147483647|.i64=>9223372036854775807
 | .u8=>255|.u16=>65535|.u32=>4294967295|.u64=>18446744073709551615
/-- -(n+1) with n up to this is in range. -/
def lowN:IntKind→Option Nat
 | .i8=>some 127|.i16=>some 32767|.i32=>some 2147483647|.i64=>some 9223372036854775807
 | _=>none
noncomputable def wrapK (k:IntKind) (n:Int) (c:Int→Prop):Prop :=
 Int.casesOn n (fun m=>Bool.rec (fI (k.wrap n) c) (fN m fun m=>c (Int.ofNat m)) (Nat.ble m (topN k)))
  (fun m=>Option.casesOn (lowN k) (fI (k.wrap n) c) fun t=>Bool.rec (fI (k.wrap n) c) (fN m fun m=>c (Int.negSucc m)) (Nat.ble m t))
def kEq (a b:IntKind):Bool:=decide (a=b)
noncomputable def eqS (a:List UInt8):List UInt8→Bool :=
 List.rec (motive:=fun _=>List UInt8→Bool) (fun b=>List.casesOn b true fun _ _=>false)
  (fun x _ ih b=>List.casesOn b false fun y b=>Bool.rec false (ih b) (Nat.beq x.toNat y.toNat)) a
noncomputable def ltS (a:List UInt8):List UInt8→Bool :=
 List.rec (motive:=fun _=>List UInt8→Bool) (fun b=>List.casesOn b false fun _ _=>true)
  (fun x _ ih b=>List.casesOn b false fun y b=>Bool.rec (Nat.blt x.toNat y.toNat) (ih b) (Nat.beq x.toNat y.toNat)) a
noncomputable def len' {α:Type} (l:List α):Nat:=List.rec (motive:=fun _=>Nat→Nat) (fun n=>n) (fun _ _ ih n=>ih (Nat.succ n)) l 0
noncomputable def takeK {α:Type} (n:Nat):List α→(List α→Prop)→Prop :=
 Nat.rec (motive:=fun _=>List α→(List α→Prop)→Prop) (fun _ k=>k []) (fun _ ih l k=>List.casesOn l False fun x l=>ih l fun r=>k (x :: r)) n
noncomputable def dropK {α:Type} (n:Nat):List α→(List α→Prop)→Prop :=
 Nat.rec (motive:=fun _=>List α→(List α→Prop)→Prop) (fun l k=>k l) (fun _ ih l k=>List.casesOn l False fun _ l=>ih l k) n
noncomputable def appK {α:Type} (a b:List α):(List α→Prop)→Prop :=
 List.rec (motive:=fun _=>(List α→Prop)→Prop) (fun k=>k b) (fun x _ ih k=>ih fun r=>k (x :: r)) a

/-! Values of the model's tables as abstract ones. -/
def ofV1:Value→V
 | .bool b=>.bool b|.int k n=>.int k n|.float k b=>.float k b|.string s=>.str s.data.toList
 | .pointer none=>.nilPtr|.slice none 0 0=>.nilSlice|.map none=>.nilMap|.nilFunc=>.nilFunc|.nilIface=>.nilIface
 | _=>.tup [.tup []]
def okV1:Value→Bool
 | .bool _|.int ..|.float ..|.string _|.pointer none|.slice none 0 0|.map none|.nilFunc|.nilIface=>true
 | _=>false
def ofV:Value→V
 | .agg cs=>.agg (cs.toList.map ofV1)
 | v=>ofV1 v
def okV:Value→Bool
 | .agg cs=>cs.toList.all okV1
 | v=>okV1 v
noncomputable def ofVK (v:Value) (k:V→Prop):Prop:=ifK (okV v) (k (ofV v))

noncomputable def szK (P:Program) (t:TypeId) (k:Nat→Prop):Prop:=Option.casesOn (P.info? t) False fun i=>k i.size
def aggP (P:Program) (t:TypeId):Option Bool:=match P.underlying t with|none=>none|some (.struct _)=>some true|some (.array ..)=>some true|some _=>some false
def fieldP (P:Program) (t:TypeId) (i:Nat):Option Field:=match P.underlying t with|some (.struct fs)=>fs[i]?|_=>none
def elemP (P:Program) (t:TypeId):Option TypeId:=match P.underlying t with|some (.slice e)=>some e|_=>none
def arrP (P:Program) (t:TypeId):Option (Nat × TypeId):=match P.underlying t with|some (.array n e)=>some (n,e)|_=>none
/-- A type's zero value, as one value. -/
def zeroV (P:Program) (t:TypeId):Option V:=match P.info? t with
 | some i=>match i.zero with|some z=>if okV z then some (ofV z) else none|none=>none
 | none=>none
def zeroP (P:Program) (t:TypeId):Option (List V):=match zeroV P t with|some z=>some z.cells|none=>none

/-! Operands. -/
abbrev ngl:Nat:=1000
/-- An operand, looked up once: a slot, a value, or what is not known. -/
inductive Oc where
 | slot (p:P4)
 | val (v:V)
 | bad
noncomputable def opc (x:Operand):Oc:=match x with
 | .tmp t=>.slot (path t)
 | .const v=>match okV v with|true=>.val (ofV v)|false=>.bad
 | .global g=>match Nat.blt g ngl with|true=>.val (.ptr g 0)|false=>.bad
 | .func f=>.val (.func (.func f) [] [])
noncomputable def ocSlot (p:P4) (E:Env) (k:V→Prop):Prop:=Option.rec (motive:=fun _=>Prop) False k (getP E p)
noncomputable def ocVal (v:V) (_:Env) (k:V→Prop):Prop:=k v
noncomputable def ocBad (_:Env) (_:V→Prop):Prop:=False
noncomputable def opK (E:Env) (x:Operand) (k:V→Prop):Prop:=Oc.rec (motive:=fun _=>Env→(V→Prop)→Prop) ocSlot ocVal ocBad (opc x) E k
noncomputable def opsK (E:Env) (l:List Operand):(List V→Prop)→Prop :=
 List.rec (motive:=fun _=>(List V→Prop)→Prop) (fun k=>k []) (fun x _ ih k=>opK E x fun v=>ih fun vs=>k (v :: vs)) l

/-! Eliminators. -/
noncomputable def vBool (v:V) (k:Bool→Prop):Prop:=V.rec (motive_1:=fun _=>Prop) (motive_2:=fun _=>Prop) (fun b=>k b) (fun _ _=>False) (fun _ _=>False) (fun _=>False) (fun _ _=>False) False (fun _ _ _ _ _ _=>False) False (fun _=>False) False (fun _ _ _ _ _=>False) (fun _=>False) False (fun _ _ _=>False) False (fun _ _=>False) (fun _ _=>False) False True (fun _ _ _ _=>True) v
noncomputable def vInt (v:V) (k:IntKind→Int→Prop):Prop:=V.rec (motive_1:=fun _=>Prop) (motive_2:=fun _=>Prop) (fun _=>False) (fun a n=>k a n) (fun _ _=>False) (fun _=>False) (fun _ _=>False) False (fun _ _ _ _ _ _=>False) False (fun _=>False) False (fun _ _ _ _ _=>False) (fun _=>False) False (fun _ _ _=>False) False (fun _ _=>False) (fun _ _=>False) False True (fun _ _ _ _=>True) v
noncomputable def vStr (v:V) (k:List UInt8→Prop):Prop:=V.rec (motive_1:=fun _=>Prop) (motive_2:=fun _=>Prop) (fun _=>False) (fun _ _=>False) (fun _ _=>False) (fun s=>k s) (fun _ _=>False) False (fun _ _ _ _ _ _=>False) False (fun _=>False) False (fun _ _ _ _ _=>False) (fun _=>False) False (fun _ _ _=>False) False (fun _ _=>False) (fun _ _=>False) False True (fun _ _ _ _=>True) v
noncomputable def vPtr (v:V) (k:Nat→Nat→Prop):Prop:=V.rec (motive_1:=fun _=>Prop) (motive_2:=fun _=>Prop) (fun _=>False) (fun _ _=>False) (fun _ _=>False) (fun _=>False) (fun i o=>k i o) False (fun _ _ _ _ _ _=>False) False (fun _=>False) False (fun _ _ _ _ _=>False) (fun _=>False) False (fun _ _ _=>False) False (fun _ _=>False) (fun _ _=>False) False True (fun _ _ _ _=>True) v
noncomputable def vAgg (v:V) (k:List V→Prop):Prop:=V.rec (motive_1:=fun _=>Prop) (motive_2:=fun _=>Prop) (fun _=>False) (fun _ _=>False) (fun _ _=>False) (fun _=>False) (fun _ _=>False) False (fun _ _ _ _ _ _=>False) False (fun _=>False) False (fun _ _ _ _ _=>False) (fun _=>False) False (fun _ _ _=>False) False (fun l _=>k l) (fun _ _=>False) False True (fun _ _ _ _=>True) v
noncomputable def vTup (v:V) (k:List V→Prop):Prop:=V.rec (motive_1:=fun _=>Prop) (motive_2:=fun _=>Prop) (fun _=>False) (fun _ _=>False) (fun _ _=>False) (fun _=>False) (fun _ _=>False) False (fun _ _ _ _ _ _=>False) False (fun _=>False) False (fun _ _ _ _ _=>False) (fun _=>False) False (fun _ _ _=>False) False (fun _ _=>False) (fun l _=>k l) False True (fun _ _ _ _=>True) v
noncomputable def vNat (v:V) (k:Nat→Prop):Prop:=V.rec (motive_1:=fun _=>Prop) (motive_2:=fun _=>Prop) (fun _=>False) (fun _ n=>Int.rec (motive:=fun _=>Prop) (fun n=>k n) (fun _=>False) n) (fun _ _=>False) (fun _=>False) (fun _ _=>False) False (fun _ _ _ _ _ _=>False) False (fun _=>False) False (fun _ _ _ _ _=>False) (fun _=>False) False (fun _ _ _=>False) False (fun _ _=>False) (fun _ _=>False) False True (fun _ _ _ _=>True) v
/-- A slice with its parts, or the nil one. -/
noncomputable def vSlice (v:V) (k:Nat→Nat→Nat→Nat→Nat→Bool→Prop) (no:Prop):Prop:=V.rec (motive_1:=fun _=>Prop) (motive_2:=fun _=>Prop) (fun _=>False) (fun _ _=>False) (fun _ _=>False) (fun _=>False) (fun _ _=>False) False (fun i o n c es ex=>k i o n c es ex) (no) (fun _=>False) False (fun _ _ _ _ _=>False) (fun _=>False) False (fun _ _ _=>False) False (fun _ _=>False) (fun _ _=>False) False True (fun _ _ _ _=>True) v

/-! The operations that read no memory: 'k' takes the value. -/
abbrev PureT:=Env→(V→Prop)→Prop
noncomputable def aMove (x:Operand):PureT:=fun E k=>opK E x k
noncomputable def aPick (c a b:Operand):PureT:=fun E k=>opK E c fun v=>vBool v fun t=>Bool.rec (opK E b k) (opK E a k) t
noncomputable def aNilCheck (x:Operand):PureT:=fun E k=>opK E x fun v=>match v with|.ptr i o=>k (.ptr i o)|.func (.func f) a b=>k (.func (.func f) a b)|.yield i=>k (.yield i)|_=>False

noncomputable def bitsOp (op:BinOp) (a:IntKind) (x y:Int) (k:V→Prop):Prop:=match op with
 | .and=>fI (a.wrap (BitVec.ofInt a.bits x &&& BitVec.ofInt a.bits y).toNat) fun n=>k (.int a n)
 | .or=>fI (a.wrap (BitVec.ofInt a.bits x ||| BitVec.ofInt a.bits y).toNat) fun n=>k (.int a n)
 | .xor=>fI (a.wrap (BitVec.ofInt a.bits x ^^^ BitVec.ofInt a.bits y).toNat) fun n=>k (.int a n)
 | .andNot=>fI (a.wrap (BitVec.ofInt a.bits x &&& ~~~ BitVec.ofInt a.bits y).toNat) fun n=>k (.int a n)
 | _=>False
noncomputable def intOp (op:BinOp) (a:IntKind) (x y:Int) (k:V→Prop):Prop:=match op with
 | .add=>wrapK a (Int.add x y) fun n=>k (.int a n)
 | .sub=>wrapK a (Int.sub x y) fun n=>k (.int a n)
 | .mul=>wrapK a (Int.mul x y) fun n=>k (.int a n)
 | .quo=>Bool.rec (wrapK a (Int.tdiv x y) fun n=>k (.int a n)) False (eqI y 0)
 | .rem=>Bool.rec (fI (Int.tmod x y) fun n=>k (.int a n)) False (eqI y 0)
 | .eql=>fB (eqI x y) fun b=>k (.bool b)
 | .neq=>fB (eqI x y) fun b=>k (.bool (!b))
 | .lss=>fB (ltI x y) fun b=>k (.bool b)
 | .leq=>fB (ltI y x) fun b=>k (.bool (!b))
 | .gtr=>fB (ltI y x) fun b=>k (.bool b)
 | .geq=>fB (ltI x y) fun b=>k (.bool (!b))
 | .and=>bitsOp .and a x y k
 | .or=>bitsOp .or a x y k
 | .xor=>bitsOp .xor a x y k
 | .andNot=>bitsOp .andNot a x y k
 | _=>False
noncomputable def shiftOp (op:BinOp) (a:IntKind) (x y:Int) (k:V→Prop):Prop :=
 Int.casesOn y (fun y=>match op with
  | .shl=>fI (a.wrap (x * 2 ^ (min y a.bits))) fun n=>k (.int a n)
  | .shr=>fI (x.fdiv (2 ^ (min y a.bits))) fun n=>k (.int a n)
  | _=>False) (fun _=>False)
noncomputable def strOp (op:BinOp) (x y:List UInt8) (k:V→Prop):Prop:=match op with
 | .add=>ifK (Nat.ble (Nat.add (len' x) (len' y)) 9223372036854775807) (appK x y fun s=>k (.str s))
 | .eql=>fB (eqS x y) fun b=>k (.bool b)
 | .neq=>fB (eqS x y) fun b=>k (.bool (!b))
 | .lss=>fB (ltS x y) fun b=>k (.bool b)
 | .geq=>fB (ltS x y) fun b=>k (.bool (!b))
 | .leq=>fB (ltS x y) fun a=>fB (eqS x y) fun b=>k (.bool (a || b))
 | .gtr=>fB (ltS x y) fun a=>fB (eqS x y) fun b=>k (.bool (!(a || b)))
 | _=>False
noncomputable def floatOp (op:BinOp) (a:FloatKind) (x y:Nat) (k:V→Prop):Prop:=match op with
 | .add=>Option.casesOn (a.format.add x y) False fun r=>fN r fun r=>k (.float a r)
 | .sub=>Option.casesOn (a.format.sub x y) False fun r=>fN r fun r=>k (.float a r)
 | .mul=>Option.casesOn (a.format.mul x y) False fun r=>fN r fun r=>k (.float a r)
 | .quo=>Option.casesOn (a.format.div x y) False fun r=>fN r fun r=>k (.float a r)
 | .eql=>fB (a.format.order x y == some .eq) fun b=>k (.bool b)
 | .neq=>fB (a.format.order x y == some .eq) fun b=>k (.bool (!b))
 | .lss=>fB (a.format.order x y == some .lt) fun b=>k (.bool b)
 | .gtr=>fB (a.format.order x y == some .gt) fun b=>k (.bool b)
 | _=>False
/-- Cells that are numbers (0), strings (1) or Bools (2), one by one. -/
noncomputable def eqCells (ks:List Nat):List V→List V→Option Bool :=
 List.rec (motive:=fun _=>List V→List V→Option Bool) (fun _ _=>some true)
  (fun c _ ih a b=>match a,b with
   | x :: a,y :: b=>match c,x,y with
     | 0,.int j m,.int k n=>Bool.rec none (Bool.rec (some false) (ih a b) (eqI m n)) (kEq j k)
     | 1,.str s,.str t=>Bool.rec (some false) (ih a b) (eqS s t)
     | 2,.bool s,.bool t=>Bool.rec (some false) (ih a b) (s == t)
     | _,_,_=>none
   | _,_=>none) ks
/-- A struct of fields that are numbers, strings or Bools, a cell each, none of them blank: their kinds. -/
def plainFs (P:Program):List Field→Nat→Option (List Nat)
 | [],_=>some []
 | f :: fs,i=>if f.offset == i && f.name != "_" && aggP P f.type == some false then
     match P.underlying f.type,plainFs P fs (i+1) with
     | some (.int _),some r=>some (0 :: r)
     | some .string,some r=>some (1 :: r)
     | some .bool,some r=>some (2 :: r)
     | _,_=>none
  else none
def plainP (P:Program) (t:TypeId):Option (List Nat):=match P.underlying t with
 | some (.struct fs)=>if !P.stoodInHeld t && !P.eqGuardType P.depth t then plainFs P fs.toList 0 else none
 | _=>none
/-- Equality where it hangs on no memory, by the type's make. 'c': one operand is a constant. -/
def eqD (P:Program) (c:Bool) (t:TypeId) (d:TypeDesc) (x y:V):Option Bool:=match d,x,y with
 | .bool,.bool a,.bool b=>some (a == b)
 | .pointer _,.nilPtr,.nilPtr=>some true
 | .pointer _,.nilPtr,.ptr _ _=>some false
 | .pointer _,.ptr _ _,.nilPtr=>some false
 | .pointer e,.ptr i o,.ptr j p=>match P.info? e with
   | some f=>if f.size=0 then none else if i=j then some (o == p) else none
   | none=>none
 | .slice _,.nilSlice,.nilSlice=>some true
 | .slice _,.nilSlice,.slice ..=>some false
 | .slice _,.slice ..,.nilSlice=>some false
 | .map _ _,.nilMap,.nilMap=>some true
 | .map _ _,.nilMap,.map _=>some false
 | .map _ _,.map _,.nilMap=>some false
 | .func _ _ _,.nilFunc,.nilFunc=>some true
 | .func _ _ _,.nilFunc,.func ..=>some false
 | .func _ _ _,.func ..,.nilFunc=>some false
 | .interface _,.nilIface,.iface ..=>some false
 | .interface _,.iface ..,.nilIface=>some false
 | .interface _,.nilIface,.nilIface=>if c then some true else none
 | _,_,_=>none
def isC:Operand→Bool|.const _=>true|_=>false
noncomputable def eqK (P:Program) (c:Bool) (t:TypeId) (x y:V) (k:Bool→Prop):Prop:=match x,y with
 | .agg a,.agg b=>Option.casesOn (plainP P t) False fun ks=>Option.casesOn (eqCells ks a b) False fun b=>fB b k
 | x,y=>Option.casesOn (P.underlying t) False fun d=>Option.casesOn (eqD P c t d x y) False fun b=>fB b k
def V.notAny:V→Bool|.any=>false|_=>true
noncomputable def binK (P:Program) (c:Bool) (t:TypeId) (op:BinOp) (x y:V) (k:V→Prop):Prop:=match x,y with
 | .int a n,.int b m=>match op with
   | .shl=>shiftOp .shl a n m k
   | .shr=>shiftOp .shr a n m k
   | op=>ifK (kEq a b) (intOp op a n m k)
 | .str s,.str t=>strOp op s t k
 | .float a n,.float b m=>match a,b with|.f64,.f64=>floatOp op .f64 n m k|.f32,.f32=>floatOp op .f32 n m k|_,_=>False
 | x,y=>ifK (x.notAny && y.notAny) (match op with
   | .eql=>eqK P c t x y fun b=>k (.bool b)
   | .neq=>eqK P c t x y fun b=>k (.bool (!b))
   | _=>False)
/-- An operation on two integers, looked up once. -/
structure Ic where
 run:IntKind→Int→Int→(V→Prop)→Prop
noncomputable def intC (op:BinOp):Ic:=match op with
 | .add=>⟨fun a x y k=>wrapK a (Int.add x y) fun n=>k (.int a n)⟩
 | .sub=>⟨fun a x y k=>wrapK a (Int.sub x y) fun n=>k (.int a n)⟩
 | .mul=>⟨fun a x y k=>wrapK a (Int.mul x y) fun n=>k (.int a n)⟩
 | .quo=>⟨fun a x y k=>Bool.rec (wrapK a (Int.tdiv x y) fun n=>k (.int a n)) False (eqI y 0)⟩
 | .rem=>⟨fun a x y k=>Bool.rec (fI (Int.tmod x y) fun n=>k (.int a n)) False (eqI y 0)⟩
 | .eql=>⟨fun _ x y k=>fB (eqI x y) fun b=>k (.bool b)⟩
 | .neq=>⟨fun _ x y k=>fB (eqI x y) fun b=>k (.bool (!b))⟩
 | .lss=>⟨fun _ x y k=>fB (ltI x y) fun b=>k (.bool b)⟩
 | .leq=>⟨fun _ x y k=>fB (ltI y x) fun b=>k (.bool (!b))⟩
 | .gtr=>⟨fun _ x y k=>fB (ltI y x) fun b=>k (.bool b)⟩
 | .geq=>⟨fun _ x y k=>fB (ltI x y) fun b=>k (.bool (!b))⟩
 | op=>⟨intOp op⟩
/-- An operation on two values, looked up once. -/
structure Fb where
 run:V→V→(V→Prop)→Prop
noncomputable def fastR (g:IntKind→Int→Int→(V→Prop)→Prop) (h:List UInt8→List UInt8→(V→Prop)→Prop) (x y:V) (k:V→Prop) (r:Prop):Prop:=V.rec (motive_1:=fun _=>Prop) (motive_2:=fun _=>Prop) (fun _=>r) (fun a n=>vInt y fun b m=>ifK (kEq a b) (g a n m k)) (fun _ _=>r) (fun s=>vStr y fun t=>h s t k) (fun _ _=>r) r (fun _ _ _ _ _ _=>r) r (fun _=>r) r (fun _ _ _ _ _=>r) (fun _=>r) r (fun _ _ _=>r) r (fun _ _=>r) (fun _ _=>r) r True (fun _ _ _ _=>True) x
noncomputable def fastK (g:IntKind→Int→Int→(V→Prop)→Prop) (h:List UInt8→List UInt8→(V→Prop)→Prop) (rest:V→V→(V→Prop)→Prop) (x y:V) (k:V→Prop):Prop:=fastR g h x y k (rest x y k)
noncomputable def fbC (P:Program) (c:Bool) (t:TypeId) (op:BinOp):Fb:=match op with
 | .shl=>⟨binK P c t .shl⟩
 | .shr=>⟨binK P c t .shr⟩
 | op=>Ic.rec (fun g=>⟨fastK g (strOp op) (binK P c t op)⟩) (intC op)
noncomputable def aBin (P:Program) (op:BinOp) (t:TypeId) (x y:Operand):PureT:=fun E k=>opK E x fun v=>opK E y fun u=>Fb.rec (motive:=fun _=>Prop) (fun f=>f v u k) (fbC P (isC x || isC y) t op)
noncomputable def aUn (op:UnOp) (x:Operand):PureT:=fun E k=>opK E x fun v=>match op,v with
 | .not,.bool b=>fB b fun b=>k (.bool (!b))
 | .neg,.int a n=>wrapK a (Int.sub 0 n) fun n=>k (.int a n)
 | .xor,.int a n=>bitsOp .xor a (if a.signed then -1 else a.max) n k
 | _,_=>False
/-- Conversions that read no memory. -/
noncomputable def aConv (P:Program) (s d:TypeId) (x:Operand):PureT:=fun E k=>opK E x fun v=>Option.casesOn (P.underlying s) False fun s'=>Option.casesOn (P.underlying d) False fun d'=>match d',v with
 | .int a,.int _ n=>wrapK a n fun n=>k (.int a n)
 | .float a,.int _ n=>fN (a.nearest n) fun r=>k (.float a r)
 | .string,.str s=>k (.str s)
 | _,_=>False
noncomputable def aIface (P:Program) (t:TypeId) (x:Operand):PureT:=fun E k=>opK E x fun v=>Option.casesOn (P.underlying t) False fun d=>match d with|.interface _=>False|_=>k (.iface t v)
noncomputable def aFunc (fn:Fn) (a b:Array Operand):PureT:=fun E k=>opsK E a.toList fun a=>opsK E b.toList fun b=>k (.func fn a b)
noncomputable def optNat (E:Env) (x:Option Operand) (d:Nat) (k:Nat→Prop):Prop:=Option.casesOn x (k d) fun x=>opK E x fun v=>vNat v k
noncomputable def cutArr (n:Nat) (es id off:Nat) (E:Env) (lo hi:Option Operand) (k:V→Prop):Prop :=
 optNat E hi n fun h=>optNat E lo 0 fun l=>ifK (Nat.ble h n) (ifK (Nat.ble l h) (fN (Nat.add off (Nat.mul l es)) fun o=>fN (Nat.sub h l) fun m=>fN (Nat.sub n l) fun c=>k (.slice id o m c es true)))
noncomputable def aSlice (P:Program) (t:TypeId) (x:Operand) (lo hi mx:Option Operand):PureT:=fun E k=>opK E x fun v=>Option.casesOn (P.underlying t) False fun d=>match d,v with
 | .string,.str s=>Option.casesOn mx (optNat E hi (len' s) fun h=>optNat E lo 0 fun l=>ifK (Nat.ble h (len' s)) (ifK (Nat.ble l h) (dropK l s fun s=>takeK (Nat.sub h l) s fun s=>k (.str s)))) fun _=>False
 | .slice e,.slice id off n c es ex=>szK P e fun sz=>ifK (Nat.beq sz es) (optNat E hi n fun h=>optNat E lo 0 fun l=>ifK (Nat.ble l h)
   (Option.casesOn mx (ifK (Nat.ble h c) (fN (Nat.add off (Nat.mul l es)) fun o=>fN (Nat.sub h l) fun n=>fN (Nat.sub c l) fun c=>k (.slice id o n c es ex)))
    (fun m=>opK E m fun m=>vNat m fun m=>ifK (hi.isSome) (ifK (Nat.ble h m) (ifK (Nat.ble m c) (fN (Nat.add off (Nat.mul l es)) fun o=>fN (Nat.sub h l) fun n=>fN (Nat.sub m l) fun c=>k (.slice id o n c es true)))))))
 | .slice e,.nilSlice=>szK P e fun _=>Option.casesOn mx (optNat E hi 0 fun h=>optNat E lo 0 fun l=>ifK (Nat.beq h 0) (ifK (Nat.beq l 0) (k .nilSlice))) fun _=>False
 | _,_=>False
noncomputable def aFieldAddr (P:Program) (t:TypeId) (x:Operand) (i:Nat):PureT:=fun E k=>opK E x fun v=>vPtr v fun id off =>
 Option.casesOn (fieldP P t i) False fun f=>szK P f.type fun n=>Nat.casesOn n False fun _=>fN (Nat.add off f.offset) fun o=>k (.ptr id o)
noncomputable def yZ (P:Program) (t:TypeId) (off:Nat) (cs:List V) (k:V→Prop):Prop :=
 Option.casesOn (aggP P t) False fun g=>Bool.rec (Option.casesOn (nth cs off) False k) (szK P t fun n=>dropK off cs fun r=>takeK n r fun r=>k (.agg r)) g
noncomputable def aField (P:Program) (t:TypeId) (x:Operand) (i:Nat):PureT:=fun E k=>opK E x fun v=>vAgg v fun cs =>
 Option.casesOn (fieldP P t i) False fun f=>yZ P f.type f.offset cs k
/-- How a type is indexed, looked up once. -/
structure Ix where
 run:V→Nat→(V→Prop)→Prop
noncomputable def ixA (P:Program) (t:TypeId):Ix:=match P.underlying t with
 | some (.slice e)=>match P.info? e with|some i=>⟨fun v n k=>vSlice v (fun id off len _ es _=>ifK (Nat.beq i.size es) (ifK (Nat.blt n len) (fN (Nat.add off (Nat.mul n es)) fun o=>k (.ptr id o)))) False⟩|none=>⟨fun _ _ _=>False⟩
 | some (.array m e)=>match P.info? e with|some i=>⟨fun v n k=>vPtr v fun id off=>ifK (Nat.blt n m) (fN (Nat.add off (Nat.mul n i.size)) fun o=>k (.ptr id o))⟩|none=>⟨fun _ _ _=>False⟩
 | _=>⟨fun _ _ _=>False⟩
noncomputable def aIndexAddr (P:Program) (t:TypeId) (x ix:Operand):PureT:=fun E k=>opK E x fun v=>opK E ix fun i=>vNat i fun i=>Ix.rec (motive:=fun _=>Prop) (fun f=>f v i k) (ixA P t)
noncomputable def ixV (P:Program) (t:TypeId):Ix:=match P.underlying t with
 | some .string=>⟨fun v i k=>vStr v fun s=>Option.rec (motive:=fun _=>Prop) False (fun b=>fN b.toNat fun n=>k (.int .u8 (Int.ofNat n))) (nth s i)⟩
 | some (.array m e)=>match P.info? e with|some f=>⟨fun v i k=>vAgg v fun cs=>ifK (Nat.blt i m) (yZ P e (Nat.mul i f.size) cs k)⟩|none=>⟨fun _ _ _=>False⟩
 | _=>⟨fun _ _ _=>False⟩
noncomputable def aIndex (P:Program) (t:TypeId) (x ix:Operand):PureT:=fun E k=>opK E x fun v=>opK E ix fun i=>vNat i fun i=>Ix.rec (motive:=fun _=>Prop) (fun f=>f v i k) (ixV P t)
noncomputable def aExtract (x:Operand) (i:Nat):PureT:=fun E k=>opK E x fun v=>vTup v fun l=>Option.casesOn (nth l i) False k
/-- Places of parts: of a struct's fields, or of an array's elements: where, how many cells. -/
def placesL (P:Program):List Field→Option (List (Nat × Nat))
 | []=>some []
 | f :: fs=>match P.info? f.type with
   | none=>none
   | some i=>match placesL P fs with
     | none=>none
     | some r=>some ((f.offset,i.size) :: r)
def placeP (P:Program) (t:TypeId):Option (Nat→Option (Nat × Nat)):=match P.underlying t with
 | some (.struct fs)=>match placesL P fs.toList with|some l=>some fun i=>l[i]?|none=>none
 | some (.array _ e)=>match P.info? e with|some i=>some fun n=>some (n * i.size,i.size)|none=>none
 | _=>none
noncomputable def fillK (E:Env) (place:Nat→Option (Nat × Nat)) (l:List (Nat × Operand)):List V→(List V→Prop)→Prop :=
 List.rec (motive:=fun _=>List V→(List V→Prop)→Prop) (fun cs k=>k cs)
  (fun p _ ih cs k=>Option.casesOn (place p.1) False fun q=>opK E p.2 fun v=>ifK (Nat.beq (len' v.cells) q.2) (ifK (Nat.blt 0 q.2) (overK v.cells q.1 cs fun cs=>ih cs k))) l
noncomputable def aBuild (P:Program) (t:TypeId) (ps:Array (Nat × Operand)):PureT:=fun E k =>
 Option.casesOn (zeroP P t) False fun z=>Option.casesOn (placeP P t) False fun pl=>fillK E pl ps.toList z fun cs=>k (.agg cs)
end Go.Am
/- What the first part of the evaluator does: numbers, strings, operands. -/
namespace Go.Am

theorem fN_spec {n:Nat} {k:Nat→Prop} (h:fN n k):k n:=by cases n <;> exact h
theorem fI_spec {n:Int} {k:Int→Prop} (h:fI n k):k n:=by
 cases n with
 | ofNat n=>exact fN_spec (k:=fun n=>k (Int.ofNat n)) h
 | negSucc n=>exact fN_spec (k:=fun n=>k (Int.negSucc n)) h
theorem fB_spec {b:Bool} {k:Bool→Prop} (h:fB b k):k b:=by cases b <;> exact h
theorem vY {b:Bool} {k:Prop} (h:ifK b k):b=true∧k:=by
 cases b with
 | false=>exact h.elim
 | true=>exact ⟨rfl,h⟩
theorem ltI_eq (x y:Int):ltI x y=decide (x < y):=by
 cases x <;> cases y <;> simp only [ltI,Nat.blt_eq]
 ·rename_i a b
  show Nat.blt a b=_
  rw [Bool.eq_iff_iff];simp
 ·simp;omega
 ·simp;omega
 ·rename_i a b
  show Nat.blt b a=_
  rw [Bool.eq_iff_iff];simp;omega
theorem eqI_eq (x y:Int):eqI x y=(x == y):=by
 cases x <;> cases y <;> simp only [eqI]
 ·rename_i a b
  show Nat.beq a b=_
  rw [Bool.eq_iff_iff];simp;omega
 ·rw [Bool.eq_iff_iff];simp
 ·rw [Bool.eq_iff_iff];simp
 ·rename_i a b
  show Nat.beq a b=_
  rw [Bool.eq_iff_iff];simp
theorem wrap_in (k:IntKind) (n:Int) (h1:k.min ≤ n) (h2:n ≤ k.max):k.wrap n=n:=by
 cases k <;> simp [IntKind.wrap,IntKind.min,IntKind.max,IntKind.signed,IntKind.bits] at * <;> first|(split <;> omega)|omega
theorem wrapK_spec {a:IntKind} {n:Int} {k:Int→Prop} (h:wrapK a n k):k (a.wrap n):=by
 cases n with
 | ofNat m =>
   have h':Bool.rec (motive:=fun _=>Prop) (fI (a.wrap (Int.ofNat m)) k) (fN m fun m=>k (Int.ofNat m)) (Nat.ble m (topN a)):=h
   cases hb:Nat.ble m (topN a) with
   | false=>rw [hb] at h';exact fI_spec h'
   | true =>
     rw [hb] at h'
     have hm:=Nat.le_of_ble_eq_true hb
     rw [wrap_in a (Int.ofNat m) (by cases a <;> simp [IntKind.min,IntKind.signed,IntKind.bits] <;> omega) (by
      cases a <;> simp [IntKind.max,IntKind.signed,IntKind.bits,topN] at * <;> omega)]
     exact fN_spec (k:=fun m=>k (Int.ofNat m)) h'
 | negSucc m =>
   have h':Option.rec (motive:=fun _=>Prop) (fI (a.wrap (Int.negSucc m)) k) (fun t=>Bool.rec (motive:=fun _=>Prop) (fI (a.wrap (Int.negSucc m)) k) (fN m fun m=>k (Int.negSucc m)) (Nat.ble m t)) (lowN a):=h
   cases hl:lowN a with
   | none=>rw [hl] at h';exact fI_spec h'
   | some t =>
     rw [hl] at h'
     cases hb:Nat.ble m t with
     | false=>simp only [hb] at h';exact fI_spec h'
     | true =>
       simp only [hb] at h'
       have hm:=Nat.le_of_ble_eq_true hb
       rw [wrap_in a (Int.negSucc m) (by
        cases a <;> simp [lowN] at hl <;> subst hl <;> simp [IntKind.min,IntKind.signed,IntKind.bits] <;> omega) (by
        cases a <;> simp [IntKind.max,IntKind.signed,IntKind.bits] <;> omega)]
       exact fN_spec (k:=fun m=>k (Int.negSucc m)) h'
theorem kEq_eq {a b:IntKind} (h:kEq a b=true):a=b:=of_decide_eq_true h
theorem u8_toNat_inj {a b:UInt8} (h:a.toNat=b.toNat):a=b:=UInt8.toNat_inj.1 h
theorem eqS_eq:∀ (a b:List UInt8),eqS a b=(a == b)
 | [],[]=>rfl
 | [],_ :: _=>rfl
 | _ :: _,[]=>rfl
 | x :: a,y :: b=>by
   show Bool.rec (motive:=fun _=>Bool) false (eqS a b) (Nat.beq x.toNat y.toNat)=_
   rw [eqS_eq a b,List.cons_beq_cons]
   cases h:Nat.beq x.toNat y.toNat with
   | true=>rw [u8_toNat_inj (Nat.eq_of_beq_eq_true h)];simp
   | false =>
     have:(x == y)=false:=by
      rw [beq_eq_false_iff_ne];intro e;rw [e] at h;simp at h
     rw [this];rfl
theorem ltS_eq:∀ (a b:List UInt8),ltS a b=Op.bytesLess a b
 | [],[]=>rfl
 | [],_ :: _=>rfl
 | _ :: _,[]=>rfl
 | x :: a,y :: b=>by
   show Bool.rec (motive:=fun _=>Bool) (Nat.blt x.toNat y.toNat) (ltS a b) (Nat.beq x.toNat y.toNat)=_
   rw [ltS_eq a b]
   simp only [Op.bytesLess]
   cases h:Nat.beq x.toNat y.toNat with
   | true =>
     rw [u8_toNat_inj (Nat.eq_of_beq_eq_true h)]
     simp [UInt8.lt_irrefl]
   | false =>
     have hne:(x == y)=false:=by
      rw [beq_eq_false_iff_ne];intro e;rw [e] at h;simp at h
     rw [hne]
     show Nat.blt x.toNat y.toNat=_
     rw [Bool.eq_iff_iff]
     simp [UInt8.lt_iff_toNat_lt]
theorem len'_eq {α:Type} (l:List α):len' l=l.length:=by
 have:∀ (l:List α) (n:Nat),(List.rec (motive:=fun _=>Nat→Nat) (fun n=>n) (fun _ _ ih n=>ih (Nat.succ n)) l n:Nat)=n+l.length:=by
  intro l
  induction l with
  | nil=>intro n;rfl
  | cons x l ih=>intro n;show (List.rec (motive:=fun _=>Nat→Nat) (fun n=>n) (fun _ _ ih n=>ih (Nat.succ n)) l (Nat.succ n):Nat)=_;rw [ih];simp;omega
 have h:=this l 0
 rw [Nat.zero_add] at h
 exact h
theorem takeK_spec {α:Type}:∀ {n:Nat} {l:List α} {k:List α→Prop},takeK n l k→n ≤ l.length∧k (l.take n)
 | 0,_,_,h=>⟨Nat.zero_le _,by rw [List.take_zero];exact h⟩
 | n+1,[],_,h=>h.elim
 | n+1,x :: l,k,h=>by
   obtain ⟨a,b⟩:=takeK_spec (show takeK n l fun r=>k (x :: r) from h)
   exact ⟨by simpa using a,by simpa using b⟩
theorem dropK_spec {α:Type}:∀ {n:Nat} {l:List α} {k:List α→Prop},dropK n l k→n ≤ l.length∧k (l.drop n)
 | 0,_,_,h=>⟨Nat.zero_le _,by rw [List.drop_zero];exact h⟩
 | n+1,[],_,h=>h.elim
 | n+1,x :: l,k,h=>by
   obtain ⟨a,b⟩:=dropK_spec (show dropK n l k from h)
   exact ⟨by simpa using a,by simpa using b⟩
theorem appK_spec {α:Type} {a b:List α} {k:List α→Prop} (h:appK a b k):k (a ++ b):=by
 induction a generalizing k with
 | nil=>exact h
 | cons x a ih=>exact ih (k:=fun r=>k (x :: r)) h
theorem wj {α:Type} {o:Option α} {k:α→Prop} (h:Option.rec (motive:=fun _=>Prop) False k o):∃ a,o=some a∧k a:=by
 cases o with
 | none=>exact h.elim
 | some a=>exact ⟨a,rfl,h⟩

/-! Values of the tables. -/
theorem VR.ofV1 {ρ:Rho} {v:Value} (h:okV1 v=true):VR ρ (ofV1 v) v:=by
 cases v with
 | bool b=>exact .bool b
 | int k n=>exact .int k n
 | float k n=>exact .float k n
 | string s=>exact .str s.data.toList
 | pointer a=>cases a with
   | none=>exact .nilPtr
   | some a=>simp [okV1] at h
 | slice a len cap=>cases a with
   | none =>
     cases len <;> cases cap <;> simp [okV1] at h
     exact .nilSlice
   | some a=>simp [okV1] at h
 | map r=>cases r with
   | none=>exact .nilMap
   | some a=>simp [okV1] at h
 | nilFunc=>exact .nilFunc
 | nilIface=>exact .nilIface
 | _=>simp [okV1] at h
theorem VRs.ofV1 {ρ:Rho}:∀ {l:List Value},l.all okV1=true→VRs ρ (l.map Am.ofV1) l
 | [],_=>.nil
 | v :: l,h=>by
   simp at h
   exact .cons (VR.ofV1 h.1) (VRs.ofV1 (by simpa using h.2))
theorem VR.ofV {ρ:Rho} {v:Value} (h:okV v=true):VR ρ (ofV v) v:=by
 cases v with
 | agg cs=>exact .agg (VRs.ofV1 (by simpa [okV] using h))
 | bool _|int _ _|float _ _|complex _ _ _|string _|pointer _|slice _ _ _|map _|chan _|func _ _ _|nilFunc|iface _ _|nilIface|tuple _=>exact VR.ofV1 (by simpa [okV] using h)
theorem ofVK_spec {v:Value} {k:V→Prop} (h:ofVK v k):okV v=true∧k (ofV v):=vY h

theorem szK_spec {P:Program} {t:TypeId} {k:Nat→Prop} (h:szK P t k):∃ i,P.info? t=some i∧k i.size:=wj h
theorem run_typeInfo' {P:Program} {t:TypeId} {i:TypeInfo} (h:P.info? t=some i) (w:World):(typeInfo t).run P w=.ok i w:=by simp [typeInfo,h]
theorem run_sizeOf' {P:Program} {t:TypeId} {i:TypeInfo} (h:P.info? t=some i) (w:World):(sizeOf t).run P w=.ok i.size w:=by simp [sizeOf,run_typeInfo' h]
theorem run_isAgg' {P:Program} {t:TypeId} {g:Bool} (h:aggP P t=some g) (w:World):(isAgg t).run P w=.ok g w:=by
 unfold aggP at h
 cases hu:P.underlying t with
 | none=>rw [hu] at h;simp at h
 | some d =>
   rw [hu] at h
   cases d <;> simp at h <;> subst h <;> simp [isAgg,run_underlying hu]
theorem zeroV_spec {P:Program} {t:TypeId} {z:V} (h:zeroV P t=some z):∃ i v,P.info? t=some i∧i.zero=some v∧okV v=true∧z=ofV v:=by
 unfold zeroV at h
 cases hi:P.info? t with
 | none=>rw [hi] at h;simp at h
 | some i =>
   rw [hi] at h
   cases hz:i.zero with
   | none=>simp [hz] at h
   | some v =>
     simp only [hz] at h
     split at h
     ·rename_i ho;simp at h;exact ⟨i,v,rfl,hz,ho,h.symm⟩
     ·simp at h
theorem run_zeroValue' {P:Program} {t:TypeId} {i:TypeInfo} {v:Value} (h:P.info? t=some i) (hz:i.zero=some v) (w:World):(zeroValue t).run P w=.ok v w:=by
 simp [zeroValue,run_typeInfo' h,hz]
theorem zeroP_spec {P:Program} {t:TypeId} {z:List V} (h:zeroP P t=some z):∃ i v,P.info? t=some i∧i.zero=some v∧okV v=true∧z=(ofV v).cells:=by
 unfold zeroP at h
 cases hv:zeroV P t with
 | none=>rw [hv] at h;simp at h
 | some u =>
   rw [hv] at h;simp at h
   obtain ⟨i,v,a,b,c,rfl⟩:=zeroV_spec hv
   exact ⟨i,v,a,b,c,h.symm⟩

/-! Operands. -/
def OpV (E:Env) (x:Operand) (v:V):Prop:=match x with
 | .tmp t=>tget E t=some v
 | .const c=>okV c=true∧v=ofV c
 | .global g=>g < ngl∧v=.ptr g 0
 | .func f=>v=.func (.func f) [] []
theorem opK_spec {E:Env} {x:Operand} {k:V→Prop} (h:opK E x k):∃ v,OpV E x v∧k v:=by
 cases x with
 | tmp t=>obtain ⟨v,a,b⟩:=wj (show Option.rec (motive:=fun _=>Prop) False k (tget E t) from h);exact ⟨v,a,b⟩
 | const c =>
   have h':Oc.rec (motive:=fun _=>Env→(V→Prop)→Prop) ocSlot ocVal ocBad (match okV c with|true=>Oc.val (ofV c)|false=>.bad) E k:=h
   cases hc:okV c with
   | true=>rw [hc] at h';exact ⟨_,⟨hc,rfl⟩,h'⟩
   | false=>rw [hc] at h';exact h'.elim
 | global g =>
   have h':Oc.rec (motive:=fun _=>Env→(V→Prop)→Prop) ocSlot ocVal ocBad (match Nat.blt g ngl with|true=>Oc.val (.ptr g 0)|false=>.bad) E k:=h
   cases hc:Nat.blt g ngl with
   | true=>rw [hc] at h';exact ⟨_,⟨by simpa using hc,rfl⟩,h'⟩
   | false=>rw [hc] at h';exact h'.elim
 | func f=>exact ⟨_,rfl,h⟩
def OpVs (E:Env):List Operand→List V→Prop
 | [],[]=>True
 | x :: l,v :: vs=>OpV E x v∧OpVs E l vs
 | _,_=>False
theorem opsK_spec {E:Env}:∀ {l:List Operand} {k:List V→Prop},opsK E l k→∃ vs,OpVs E l vs∧k vs
 | [],k,h=>⟨[],trivial,h⟩
 | x :: l,k,h=>by
   obtain ⟨v,a,b⟩:=opK_spec (show opK E x fun v=>opsK E l fun vs=>k (v :: vs) from h)
   obtain ⟨vs,c,d⟩:=opsK_spec b
   exact ⟨v :: vs,⟨a,c⟩,d⟩
/-- The operands' abstract values stand for the frame's. -/
def EvR (ρ:Rho) (E:Env) (ev:Operand→Value) (l:List Operand):Prop:=∀ x ∈ l,∀ v,OpV E x v→VR ρ v (ev x)
theorem EvR.one {ρ:Rho} {E:Env} {ev:Operand→Value} {l:List Operand} (h:EvR ρ E ev l) {x:Operand} (hx:x ∈ l) {v:V} (hv:OpV E x v):VR ρ v (ev x):=h x hx v hv
theorem EvR.list {ρ:Rho} {E:Env} {ev:Operand→Value} {l:List Operand} (h:EvR ρ E ev l):∀ {xs:List Operand} {vs:List V},(∀ x ∈ xs,x ∈ l)→OpVs E xs vs→VRs ρ vs (xs.map ev)
 | [],[],_,_=>.nil
 | x :: xs,v :: vs,hl,⟨a,b⟩=>.cons (h x (hl x (by simp)) v a) (h.list (fun y hy=>hl y (by simp [hy])) b)
 | [],_ :: _,_,h=>h.elim
 | _ :: _,[],_,h=>h.elim

/-- What a frame's slots evaluate to. -/
def evT (tmps:Array Value):Operand→Value
 | .tmp t=>tmps.getD t undef
 | .const v=>v
 | .global g=>.pointer (some ⟨g,0,none⟩)
 | .func f=>.func (.func f) #[] #[]
def Globs (ρ:Rho):Prop:=∀ g,g < ngl→∃ l,ρ g=some l∧l.blk=g∧l.base=0
theorem EvR.of_ER {ρ:Rho} {E:Env} {tmps:Array Value} (he:ER ρ E tmps) (hg:Globs ρ) (l:List Operand):EvR ρ E (evT tmps) l:=fun x _ v hv=>by
 cases x with
 | tmp t =>
   obtain ⟨v',a,b⟩:=he t v hv
   have:evT tmps (.tmp t)=v':=by simp [evT,Array.getD_eq_getD_getElem?,a]
   rw [this];exact b
 | const c=>obtain ⟨a,rfl⟩:=hv;exact VR.ofV a
 | global g =>
   obtain ⟨a,rfl⟩:=hv
   obtain ⟨l,h1,h2,h3⟩:=hg g a
   have:=VR.ptr (ρ:=ρ) 0 h1
   rw [h2,h3] at this
   exact this
 | func f=>cases hv;exact .func _ .nil .nil

/-! Eliminators. -/
theorem vBool_spec {v:V} {k:Bool→Prop} (h:vBool v k):∃ b,v=.bool b∧k b:=by cases v <;> first|exact h.elim|exact ⟨_,rfl,h⟩
theorem vInt_spec {v:V} {k:IntKind→Int→Prop} (h:vInt v k):∃ a n,v=.int a n∧k a n:=by cases v <;> first|exact h.elim|exact ⟨_,_,rfl,h⟩
theorem vStr_spec {v:V} {k:List UInt8→Prop} (h:vStr v k):∃ b,v=.str b∧k b:=by cases v <;> first|exact h.elim|exact ⟨_,rfl,h⟩
theorem vPtr_spec {v:V} {k:Nat→Nat→Prop} (h:vPtr v k):∃ i o,v=.ptr i o∧k i o:=by cases v <;> first|exact h.elim|exact ⟨_,_,rfl,h⟩
theorem vAgg_spec {v:V} {k:List V→Prop} (h:vAgg v k):∃ b,v=.agg b∧k b:=by cases v <;> first|exact h.elim|exact ⟨_,rfl,h⟩
theorem vTup_spec {v:V} {k:List V→Prop} (h:vTup v k):∃ b,v=.tup b∧k b:=by cases v <;> first|exact h.elim|exact ⟨_,rfl,h⟩
theorem vNat_spec {v:V} {k:Nat→Prop} (h:vNat v k):∃ a n,v=.int a (Int.ofNat n)∧k n:=by
 cases v with
 | int a n=>cases n with
   | ofNat n=>exact ⟨a,n,rfl,h⟩
   | negSucc n=>exact h.elim
 | _=>exact h.elim
end Go.Am
/- The operations that read no memory: what the model's do. -/
namespace Go.Am
variable {P:Program} {E:Env}

def PureS (P:Program) (o:Op) (E:Env) (v:V):Prop :=
 ∀ (ρ:Rho) (ev:Operand→Value) (x:Oper) (w:World),x.op=o→EvR ρ E ev o.operands.toList→∃ v',(execOp ev x).run P w=.ok (.value v') w∧VR ρ v v'

theorem aMove_spec {x:Operand} {k:V→Prop} (h:aMove x E k):∃ v,k v∧PureS P (.move x) E v:=by
 obtain ⟨v,a,b⟩:=opK_spec (show opK E x k from h)
 exact ⟨v,b,fun ρ ev o w ho hev=>⟨ev x,by simp [execOp,ho],hev.one (by simp [Op.operands]) a⟩⟩
theorem aAssign_spec {x:Operand} {k:V→Prop} (h:aMove x E k):∃ v,k v∧PureS P (.assign x) E v:=by
 obtain ⟨v,a,b⟩:=opK_spec (show opK E x k from h)
 exact ⟨v,b,fun ρ ev o w ho hev=>⟨ev x,by simp [execOp,ho],hev.one (by simp [Op.operands]) a⟩⟩
theorem aPick_spec {c a b:Operand} {k:V→Prop} (h:aPick c a b E k):∃ v,k v∧PureS P (.pick c a b) E v:=by
 obtain ⟨u,h1,h2⟩:=opK_spec (show opK E c _ from h)
 obtain ⟨t,rfl,h3⟩:=vBool_spec h2
 cases t with
 | false =>
   obtain ⟨v,h4,h5⟩:=opK_spec (show opK E b k from h3)
   refine ⟨v,h5,fun ρ ev o w ho hev=>⟨ev b,?_,hev.one (by simp [Op.operands]) h4⟩⟩
   have hc:=hev.one (x:=c) (by simp [Op.operands]) h1
   generalize hce:ev c=cv at hc
   cases hc
   simp [execOp,ho,hce,asBool]
 | true =>
   obtain ⟨v,h4,h5⟩:=opK_spec (show opK E a k from h3)
   refine ⟨v,h5,fun ρ ev o w ho hev=>⟨ev a,?_,hev.one (by simp [Op.operands]) h4⟩⟩
   have hc:=hev.one (x:=c) (by simp [Op.operands]) h1
   generalize hce:ev c=cv at hc
   cases hc
   simp [execOp,ho,hce,asBool]
theorem aNilCheck_spec {x:Operand} {k:V→Prop} (h:aNilCheck x E k):∃ v,k v∧PureS P (.nilCheck x) E v:=by
 obtain ⟨v,a,b⟩:=opK_spec (show opK E x _ from h)
 cases v with
 | ptr i o =>
   refine ⟨_,b,fun ρ ev oo w ho hev=>⟨ev x,?_,hev.one (by simp [Op.operands]) a⟩⟩
   have hc:=hev.one (x:=x) (by simp [Op.operands]) a
   generalize hce:ev x=cv at hc
   cases hc
   simp [execOp,ho,hce]
 | func fn c d =>
   cases fn with
   | func f =>
     refine ⟨_,b,fun ρ ev oo w ho hev=>⟨ev x,?_,hev.one (by simp [Op.operands]) a⟩⟩
     have hc:=hev.one (x:=x) (by simp [Op.operands]) a
     generalize hce:ev x=cv at hc
     cases hc
     simp [execOp,ho,hce]
   | _=>exact b.elim
 | yield i =>
   refine ⟨_,b,fun ρ ev oo w ho hev=>⟨ev x,?_,hev.one (by simp [Op.operands]) a⟩⟩
   have hc:=hev.one (x:=x) (by simp [Op.operands]) a
   generalize hce:ev x=cv at hc
   cases hc
   simp [execOp,ho,hce]
 | _=>exact b.elim

/-! Numbers. -/
theorem bitsOp_spec {op:BinOp} {a:IntKind} {x y:Int} {k:V→Prop} (h:bitsOp op a x y k):∃ n,k (.int a n)∧∀ w,(Op.intBits op a x y).run P w=.ok (.int a n) w:=by
 cases op <;> first|exact h.elim|exact ⟨_,fI_spec (k:=fun n=>k (.int a n)) h,fun w=>by simp [Op.intBits]⟩
theorem intOp_spec {op:BinOp} {a:IntKind} {x y:Int} {k:V→Prop} (hs:op ≠ .shl) (hr:op ≠ .shr) (h:intOp op a x y k) :
  ∃ v v',k v∧(∀ ρ,VR ρ v v')∧∀ t w,(binOp op t (.int a x) (.int a y)).run P w=.ok v' w:=by
 cases op with
 | add=>exact ⟨_,_,wrapK_spec (k:=fun n=>k (.int a n)) h,fun ρ=>.int _ _,fun t w=>by simp only [binOp,Op.intArith,ne_eq,not_true_eq_false,if_false];rfl⟩
 | sub=>exact ⟨_,_,wrapK_spec (k:=fun n=>k (.int a n)) h,fun ρ=>.int _ _,fun t w=>by simp only [binOp,Op.intArith,ne_eq,not_true_eq_false,if_false];rfl⟩
 | mul=>exact ⟨_,_,wrapK_spec (k:=fun n=>k (.int a n)) h,fun ρ=>.int _ _,fun t w=>by simp only [binOp,Op.intArith,ne_eq,not_true_eq_false,if_false];rfl⟩
 | quo =>
   have h':Bool.rec (motive:=fun _=>Prop) (wrapK a (Int.tdiv x y) fun n=>k (.int a n)) False (eqI y 0):=h
   rw [eqI_eq] at h'
   by_cases hy:y=0
   ·subst hy;exact h'.elim
   ·have:(y == 0)=false:=by simpa using hy
    rw [this] at h'
    exact ⟨_,_,wrapK_spec (k:=fun n=>k (.int a n)) h',fun ρ=>.int _ _,fun t w=>by simp [binOp,Op.intDiv,hy]⟩
 | rem =>
   have h':Bool.rec (motive:=fun _=>Prop) (fI (Int.tmod x y) fun n=>k (.int a n)) False (eqI y 0):=h
   rw [eqI_eq] at h'
   by_cases hy:y=0
   ·subst hy;exact h'.elim
   ·have:(y == 0)=false:=by simpa using hy
    rw [this] at h'
    exact ⟨_,_,fI_spec (k:=fun n=>k (.int a n)) h',fun ρ=>.int _ _,fun t w=>by simp [binOp,Op.intDiv,hy]⟩
 | and=>obtain ⟨n,a1,b⟩:=bitsOp_spec (P:=P) (op:=.and) h;exact ⟨_,_,a1,fun ρ=>.int _ _,fun t w=>by simpa [binOp] using b w⟩
 | or=>obtain ⟨n,a1,b⟩:=bitsOp_spec (P:=P) (op:=.or) h;exact ⟨_,_,a1,fun ρ=>.int _ _,fun t w=>by simpa [binOp] using b w⟩
 | xor=>obtain ⟨n,a1,b⟩:=bitsOp_spec (P:=P) (op:=.xor) h;exact ⟨_,_,a1,fun ρ=>.int _ _,fun t w=>by simpa [binOp] using b w⟩
 | andNot=>obtain ⟨n,a1,b⟩:=bitsOp_spec (P:=P) (op:=.andNot) h;exact ⟨_,_,a1,fun ρ=>.int _ _,fun t w=>by simpa [binOp] using b w⟩
 | eql=>exact ⟨_,_,fB_spec (k:=fun b=>k (.bool b)) h,fun ρ=>.bool _,fun t w=>by simp [binOp,Op.intCmp,eqI_eq]⟩
 | neq=>exact ⟨_,_,fB_spec (k:=fun b=>k (.bool (!b))) h,fun ρ=>.bool _,fun t w=>by simp [binOp,Op.intCmp,eqI_eq,bne]⟩
 | lss=>exact ⟨_,_,fB_spec (k:=fun b=>k (.bool b)) h,fun ρ=>.bool _,fun t w=>by simp [binOp,Op.intCmp,ltI_eq]⟩
 | leq=>exact ⟨_,_,fB_spec (k:=fun b=>k (.bool (!b))) h,fun ρ=>.bool _,fun t w=>by simp [binOp,Op.intCmp,ltI_eq,← Int.not_lt]⟩
 | gtr=>exact ⟨_,_,fB_spec (k:=fun b=>k (.bool b)) h,fun ρ=>.bool _,fun t w=>by simp [binOp,Op.intCmp,ltI_eq]⟩
 | geq=>exact ⟨_,_,fB_spec (k:=fun b=>k (.bool (!b))) h,fun ρ=>.bool _,fun t w=>by simp [binOp,Op.intCmp,ltI_eq,← Int.not_lt]⟩
 | shl=>exact absurd rfl hs
 | shr=>exact absurd rfl hr
theorem shiftOp_spec {op:BinOp} {a b:IntKind} {x y:Int} {k:V→Prop} (h:shiftOp op a x y k) :
  ∃ v v',k v∧(∀ ρ,VR ρ v v')∧∀ t w,(binOp op t (.int a x) (.int b y)).run P w=.ok v' w:=by
 cases y with
 | negSucc y=>exact h.elim
 | ofNat y =>
   have hn:¬ ((Int.ofNat y) < 0):=by simp
   have ht:(Int.ofNat y).toNat=y:=rfl
   cases op <;> first
    | exact h.elim
    | (refine ⟨_,_,fI_spec (k:=fun n=>k (.int a n)) h,fun ρ=>.int _ _,fun t w=>?_⟩
       simp only [binOp,Op.shift,hn,if_false,ht,Sem.run_pure])
theorem strOp_spec {op:BinOp} {x y:List UInt8} {k:V→Prop} (h:strOp op x y k) :
  ∃ v v',k v∧(∀ ρ,VR ρ v v')∧∀ t w,(binOp op t (.string ⟨⟨x⟩⟩) (.string ⟨⟨y⟩⟩)).run P w=.ok v' w:=by
 have hl:∀ l:List UInt8,(⟨⟨l⟩⟩:ByteArray).toList=l:=fun l=>ByteArray.toList_eq _
 cases op with
 | add =>
   obtain ⟨h1,h2⟩:=vY h
   rw [len'_eq,len'_eq] at h1
   have h1':x.length+y.length ≤ 9223372036854775807:=Nat.le_of_ble_eq_true h1
   refine ⟨_,_,appK_spec h2,fun ρ=>.str _,fun t w=>?_⟩
   have hs:¬ (((⟨⟨x⟩⟩:ByteArray).size+(⟨⟨y⟩⟩:ByteArray).size:Nat):Int) > IntKind.i64.max:=by
    have e1:(⟨⟨x⟩⟩:ByteArray).size=x.length:=rfl
    have e2:(⟨⟨y⟩⟩:ByteArray).size=y.length:=rfl
    rw [e1,e2]
    simp [IntKind.max,IntKind.signed,IntKind.bits];omega
   have ha:(⟨⟨x⟩⟩:ByteArray) ++ (⟨⟨y⟩⟩:ByteArray)=⟨⟨x ++ y⟩⟩:=by
    apply ByteArray.ext
    simp [ByteArray.data_append]
   simp only [binOp,Op.stringOp,if_neg hs,ha,Sem.run_pure]
 | eql=>exact ⟨_,_,fB_spec (k:=fun b=>k (.bool b)) h,fun ρ=>.bool _,fun t w=>by simp [binOp,Op.stringOp,eqS_eq,hl]⟩
 | neq=>exact ⟨_,_,fB_spec (k:=fun b=>k (.bool (!b))) h,fun ρ=>.bool _,fun t w=>by simp [binOp,Op.stringOp,eqS_eq,hl]⟩
 | lss=>exact ⟨_,_,fB_spec (k:=fun b=>k (.bool b)) h,fun ρ=>.bool _,fun t w=>by simp [binOp,Op.stringOp,ltS_eq,hl]⟩
 | geq=>exact ⟨_,_,fB_spec (k:=fun b=>k (.bool (!b))) h,fun ρ=>.bool _,fun t w=>by simp [binOp,Op.stringOp,ltS_eq,hl]⟩
 | leq=>exact ⟨_,_,fB_spec (k:=fun b=>k (.bool (_ || b))) (fB_spec (k:=fun a=>fB (eqS x y) fun b=>k (.bool (a || b))) h),fun ρ=>.bool _,fun t w=>by simp [binOp,Op.stringOp,ltS_eq,eqS_eq,hl]⟩
 | gtr=>exact ⟨_,_,fB_spec (k:=fun b=>k (.bool (!(_ || b)))) (fB_spec (k:=fun a=>fB (eqS x y) fun b=>k (.bool (!(a || b)))) h),fun ρ=>.bool _,fun t w=>by simp [binOp,Op.stringOp,ltS_eq,eqS_eq,hl]⟩
 | _=>exact h.elim
theorem floatOp_spec {op:BinOp} {a:FloatKind} {x y:Nat} {k:V→Prop} (h:floatOp op a x y k) :
  ∃ v v',k v∧(∀ ρ,VR ρ v v')∧∀ t w,(binOp op t (.float a x) (.float a y)).run P w=.ok v' w:=by
 cases op with
 | add=>obtain ⟨r,h1,h2⟩:=wj h;exact ⟨_,_,fN_spec (k:=fun r=>k (.float a r)) h2,fun ρ=>.float _ _,fun t w=>by simp [binOp,Op.floatArith,h1]⟩
 | sub=>obtain ⟨r,h1,h2⟩:=wj h;exact ⟨_,_,fN_spec (k:=fun r=>k (.float a r)) h2,fun ρ=>.float _ _,fun t w=>by simp [binOp,Op.floatArith,h1]⟩
 | mul=>obtain ⟨r,h1,h2⟩:=wj h;exact ⟨_,_,fN_spec (k:=fun r=>k (.float a r)) h2,fun ρ=>.float _ _,fun t w=>by simp [binOp,Op.floatArith,h1]⟩
 | quo=>obtain ⟨r,h1,h2⟩:=wj h;exact ⟨_,_,fN_spec (k:=fun r=>k (.float a r)) h2,fun ρ=>.float _ _,fun t w=>by simp [binOp,Op.floatArith,h1]⟩
 | eql=>exact ⟨_,_,fB_spec (k:=fun b=>k (.bool b)) h,fun ρ=>.bool _,fun t w=>by simp [binOp,Op.floatCmp]⟩
 | neq=>exact ⟨_,_,fB_spec (k:=fun b=>k (.bool (!b))) h,fun ρ=>.bool _,fun t w=>by simp [binOp,Op.floatCmp,bne]⟩
 | lss=>exact ⟨_,_,fB_spec (k:=fun b=>k (.bool b)) h,fun ρ=>.bool _,fun t w=>by simp [binOp,Op.floatCmp]⟩
 | gtr=>exact ⟨_,_,fB_spec (k:=fun b=>k (.bool b)) h,fun ρ=>.bool _,fun t w=>by simp [binOp,Op.floatCmp]⟩
 | _=>exact h.elim
end Go.Am
/- Comparisons: what the model's do. -/
namespace Go.Am
variable {P:Program} {E:Env}

theorem run_part_one {t:TypeId} {cs:Array Value} {off:Nat} {v:Value} (h:aggP P t=some false) (hv:cs[off]?=some v) (w:World):(part t cs off).run P w=.ok v w:=by
 simp [part,run_isAgg' h,hv]
theorem eqFields_spec:∀ {fs:List Field} {ks:List Nat} {i:Nat} {a b:List V} {r:Bool} {ρ:Rho} {xs ys:List Value},
  plainFs P fs i=some ks→eqCells ks a b=some r→VRs ρ a (xs.drop i)→VRs ρ b (ys.drop i)→∀ d w,(Op.eqFields (d+1) ⟨xs⟩ ⟨ys⟩ fs).run P w=.ok r w
 | [],ks,i,a,b,r,ρ,xs,ys,hp,he,_,_,d,w=>by
   simp [plainFs] at hp;subst hp
   have:some true=some r:=he
   cases this
   simp [Op.eqFields]
 | f :: fs,ks,i,a,b,r,ρ,xs,ys,hp,he,ha,hb,d,w=>by
   simp only [plainFs] at hp
   split at hp
   case isFalse=>cases hp
   case isTrue hc =>
   simp only [Bool.and_eq_true,beq_iff_eq,bne_iff_ne,ne_eq] at hc
   obtain ⟨⟨ho,hn⟩,hg⟩:=hc
   have step:∀ (kd:Nat) (r':List Nat),ks=kd :: r'→plainFs P fs (i+1)=some r' →
     (∀ (x y:V) (x' y':Value),∀ a b,eqCells (kd :: r') (x :: a) (y :: b)=some r→VR ρ x x'→VR ρ y y'→∃ e,(∀ w,(Op.equalIn (d+1) f.type x' y').run P w=.ok e w)∧(e=false→r=false)∧(e=true→eqCells r' a b=some r)) →
     (Op.eqFields (d+1) ⟨xs⟩ ⟨ys⟩ (f :: fs)).run P w=.ok r w:=by
    intro kd r' hk hr' hx
    subst hk
    cases a with
    | nil=>exact absurd he (by simp [eqCells])
    | cons x a =>
      cases b with
      | nil=>exact absurd he (by simp [eqCells])
      | cons y b =>
        generalize hxs:xs.drop i=xd at ha
        generalize hys:ys.drop i=yd at hb
        cases ha with
        | cons hax has =>
          cases hb with
          | cons hby hbs =>
            rename_i x' xd y' yd
            obtain ⟨e,h1,h2,h3⟩:=hx x y x' y' a b he hax hby
            have gx:(⟨xs⟩:Array Value)[f.offset]?=some x':=by
             have:xs[i]?=some x':=by
              have:=congrArg (fun l=>l[0]?) hxs
              simpa [List.getElem?_drop] using this
             rw [ho];simpa using this
            have gy:(⟨ys⟩:Array Value)[f.offset]?=some y':=by
             have:ys[i]?=some y':=by
              have:=congrArg (fun l=>l[0]?) hys
              simpa [List.getElem?_drop] using this
             rw [ho];simpa using this
            have dx:xs.drop (i+1)=xd:=by
             have:=congrArg (List.drop 1) hxs
             simpa [List.drop_drop,Nat.add_comm] using this
            have dy:ys.drop (i+1)=yd:=by
             have:=congrArg (List.drop 1) hys
             simpa [List.drop_drop,Nat.add_comm] using this
            have hne:f.name ≠ "_" := hn
            simp only [Op.eqFields,if_pos hne,Sem.run_bind,run_part_one hg gx,run_part_one hg gy,h1,Result.andThen_ok]
            cases e with
            | false=>rw [h2 rfl];simp
            | true =>
              have:=eqFields_spec hr' (h3 rfl) (by rw [dx];exact has) (by rw [dy];exact hbs) d w
              simpa using this
   split at hp
   ·rename_i _ r' hu hr'
    cases hp
    refine step 0 _ rfl hr' fun x y x' y' a b hq hx hy=>?_
    cases x <;> cases y <;> first|(cases hq;done)|skip
    rename_i j m k n
    have hq':Bool.rec (motive:=fun _=>Option Bool) none (Bool.rec (some false) (eqCells r' a b) (eqI m n)) (kEq j k)=some r:=hq
    cases hk:kEq j k with
    | false=>rw [hk] at hq';cases hq'
    | true =>
      rw [hk] at hq'
      have:=kEq_eq hk;subst this
      cases hx;cases hy
      refine ⟨m == n,fun w=>run_equalIn_int w d _ _ _ _ _ hu,fun h=>?_,fun h=>?_⟩
      ·simp only [eqI_eq,h] at hq';cases hq';rfl
      ·simp only [eqI_eq,h] at hq';exact hq'
   ·rename_i r' hu hr'
    cases hp
    refine step 1 _ rfl hr' fun x y x' y' a b hq hx hy=>?_
    cases x <;> cases y <;> first|(cases hq;done)|skip
    rename_i s t
    have hq':Bool.rec (motive:=fun _=>Option Bool) (some false) (eqCells r' a b) (eqS s t)=some r:=hq
    cases hx;cases hy
    refine ⟨s == t,fun w=>by rw [run_equalIn_string w d _ _ _ hu,ByteArray.toList_eq,ByteArray.toList_eq],fun h=>?_,fun h=>?_⟩
    ·simp only [eqS_eq,h] at hq';cases hq';rfl
    ·simp only [eqS_eq,h] at hq';exact hq'
   ·rename_i r' hu hr'
    cases hp
    refine step 2 _ rfl hr' fun x y x' y' a b hq hx hy=>?_
    cases x <;> cases y <;> first|(cases hq;done)|skip
    rename_i s t
    have hq':Bool.rec (motive:=fun _=>Option Bool) (some false) (eqCells r' a b) (s == t)=some r:=hq
    cases hx;cases hy
    refine ⟨s == t,fun w=>run_equalIn_bool' w d _ _ _ hu,fun h=>?_,fun h=>?_⟩
    ·simp only [h] at hq';cases hq';rfl
    ·simp only [h] at hq';exact hq'
   ·cases hp

theorem eqD_spec {c:Bool} {t:TypeId} {d:TypeDesc} {x y:V} {r:Bool} (hd:P.underlying t=some d) (h:eqD P c t d x y=some r) {ρ:Rho} {x' y':Value} (hx:VR ρ x x') (hy:VR ρ y y') :
  (∀ w,(Op.equal t x' y').run P w=.ok r w)∧∀ (op:BinOp) (ox oy:Operand) (w:World),c=(isC ox || isC oy)→(eqGuard op t ox oy x' y').run P w=.ok () w:=by
 have hg:∀ (x' y':Value),(∀ l l',¬ (x'=.agg l∧y'=.agg l'))→¬ (x'=.nilIface∧y'=.nilIface)→∀ (op:BinOp) (ox oy:Operand) (w:World),(eqGuard op t ox oy x' y').run P w=.ok () w:=by
  intro x' y' h1 h2 op ox oy w
  cases op <;> first
   | rfl
   | (unfold eqGuard
      simp only [Bool.not_true,Bool.false_eq_true,if_false]
      split
      ·exact absurd ⟨rfl,rfl⟩ h2
      ·exact absurd ⟨rfl,rfl⟩ (h1 _ _)
      ·rfl)
 have h9:∀ (x' y':Value) (r:Bool),(∀ d w,(Op.equalIn (d+1) t x' y').run P w=.ok r w)→∀ w,(Op.equal t x' y').run P w=.ok r w:=fun _ _ _ h w=>h 9999 w
 unfold eqD at h
 split at h <;> first
  | (cases h;done)
  | (cases h;cases hx;cases hy;exact ⟨h9 _ _ _ fun d w=>by simp [Op.equalIn,run_underlying hd],fun op ox oy w _=>hg _ _ (by simp) (by simp) op ox oy w⟩)
  | skip
 ·rename_i e i o j p
  split at h
  ·rename_i f hf
   split at h
   ·cases h
   ·rename_i hs
    split at h
    ·rename_i hij
     subst hij
     cases h
     cases hx with
     | ptr off hl =>
       cases hy with
       | ptr off' hl' =>
         rw [hl] at hl';cases hl'
         refine ⟨h9 _ _ _ fun d w=>?_,fun op ox oy w _=>hg _ _ (by simp) (by simp) op ox oy w⟩
         simp only [Op.equalIn,run_underlying hd,Sem.run_bind,Result.andThen_ok,run_sizeOf' hf,ne_eq,hs,not_false_eq_true,if_true,sameAddr,beq_self_eq_true,Sem.run_pure]
         congr 1
         rw [Bool.eq_iff_iff];simp
    ·cases h
  ·cases h
 ·split at h
  ·rename_i hc
   cases h
   cases hx;cases hy
   refine ⟨h9 _ _ _ fun d w=>by simp [Op.equalIn,run_underlying hd],fun op ox oy w hcc=>?_⟩
   rw [hc] at hcc
   cases op <;> first
    | rfl
    | (unfold eqGuard
       cases ox <;> cases oy <;> first|(simp [isC] at hcc;done)|simp)
  ·cases h
theorem eqK_spec {c:Bool} {t:TypeId} {x y:V} {k:Bool→Prop} (h:eqK P c t x y k) :
  ∃ r,k r∧∀ ρ x' y',VR ρ x x'→VR ρ y y'→(∀ w,(Op.equal t x' y').run P w=.ok r w)∧∀ (op:BinOp) (ox oy:Operand) (w:World),c=(isC ox || isC oy)→(eqGuard op t ox oy x' y').run P w=.ok () w:=by
 unfold eqK at h
 split at h
 ·rename_i a b
  obtain ⟨ks,h1,h2⟩:=wj h
  obtain ⟨r,h3,h4⟩:=wj h2
  refine ⟨r,fB_spec h4,fun ρ x' y' hx hy=>?_⟩
  unfold plainP at h1
  split at h1
  ·rename_i fs hu
   split at h1
   ·rename_i hc
    simp only [Bool.and_eq_true,Bool.not_eq_true'] at hc
    have hf:P.fieldsOf t=fs:=by simp [Program.fieldsOf,hu]
    cases hx with
    | agg ha =>
      cases hy with
      | agg hb =>
        rename_i a' b'
        refine ⟨fun w=>?_,fun op ox oy w _=>run_eqGuard_agg w op t ox oy _ _ hc.2⟩
        have e1:(Op.equal t (.agg ⟨a'⟩) (.agg ⟨b'⟩)).run P w=(Op.eqFields 9999 ⟨a'⟩ ⟨b'⟩ (P.fieldsOf t).toList).run P w:=run_equalIn_agg w 9999 t _ _ (by rw [hf];exact hu) hc.1
        rw [e1,hf]
        exact eqFields_spec h1 h3 (by simpa using ha) (by simpa using hb) 9998 w
   ·cases h1
  ·cases h1
 ·obtain ⟨d,h1,h2⟩:=wj h
  obtain ⟨r,h3,h4⟩:=wj h2
  exact ⟨r,fB_spec h4,fun ρ x' y' hx hy=>eqD_spec h1 h3 hx hy⟩
end Go.Am
/- Binary and unary operations, conversions, interfaces, functions, slices, fields, elements, aggregates. -/
namespace Go.Am
variable {P:Program} {E:Env}

theorem isC_guard (x y:Operand) {op:BinOp} (h1:op ≠ .eql) (h2:op ≠ .neq) (t:TypeId) (a b:Value) (w:World):(eqGuard op t x y a b).run P w=.ok () w:=by
 cases op <;> first|exact absurd rfl h1|exact absurd rfl h2|rfl
theorem guard_plain {op:BinOp} (t:TypeId) (x y:Operand) (a b:Value) (ha:∀ l,a ≠ .agg l) (hb:a ≠ .nilIface) (w:World):(eqGuard op t x y a b).run P w=.ok () w:=by
 cases op <;> first
  | rfl
  | (unfold eqGuard
     simp only [Bool.not_true,Bool.false_eq_true,if_false]
     split
     ·exact absurd rfl hb
     ·exact absurd rfl (ha _)
     ·rfl)
theorem binK_spec {c:Bool} {t:TypeId} {op:BinOp} {x y:V} {k:V→Prop} (h:binK P c t op x y k) :
  ∃ v,k v∧∀ ρ x' y',VR ρ x x'→VR ρ y y'→∃ v',VR ρ v v'∧(∀ w,(binOp op t x' y').run P w=.ok v' w)∧∀ (ox oy:Operand) (w:World),c=(isC ox || isC oy)→(eqGuard op t ox oy x' y').run P w=.ok () w:=by
 unfold binK at h
 split at h
 ·rename_i a n b m
  split at h
  ·obtain ⟨v,v',h1,h2,h3⟩:=shiftOp_spec (P:=P) (b:=b) h
   refine ⟨v,h1,fun ρ x' y' hx hy=>?_⟩
   cases hx;cases hy
   exact ⟨v',h2 ρ,fun w=>h3 t w,fun ox oy w _=>guard_plain t ox oy _ _ (by simp) (by simp) w⟩
  ·obtain ⟨v,v',h1,h2,h3⟩:=shiftOp_spec (P:=P) (b:=b) h
   refine ⟨v,h1,fun ρ x' y' hx hy=>?_⟩
   cases hx;cases hy
   exact ⟨v',h2 ρ,fun w=>h3 t w,fun ox oy w _=>guard_plain t ox oy _ _ (by simp) (by simp) w⟩
  ·rename_i hs hr
   obtain ⟨hk,h'⟩:=vY h
   have:=kEq_eq hk;subst this
   obtain ⟨v,v',h1,h2,h3⟩:=intOp_spec (P:=P) (fun e=>hs e) (fun e=>hr e) h'
   refine ⟨v,h1,fun ρ x' y' hx hy=>?_⟩
   cases hx;cases hy
   exact ⟨v',h2 ρ,fun w=>h3 t w,fun ox oy w _=>guard_plain t ox oy _ _ (by simp) (by simp) w⟩
 ·obtain ⟨v,v',h1,h2,h3⟩:=strOp_spec (P:=P) h
  refine ⟨v,h1,fun ρ x' y' hx hy=>?_⟩
  cases hx;cases hy
  exact ⟨v',h2 ρ,fun w=>h3 t w,fun ox oy w _=>guard_plain t ox oy _ _ (by simp) (by simp) w⟩
 ·split at h
  ·obtain ⟨v,v',h1,h2,h3⟩:=floatOp_spec (P:=P) h
   refine ⟨v,h1,fun ρ x' y' hx hy=>?_⟩
   cases hx;cases hy
   exact ⟨v',h2 ρ,fun w=>h3 t w,fun ox oy w _=>guard_plain t ox oy _ _ (by simp) (by simp) w⟩
  ·obtain ⟨v,v',h1,h2,h3⟩:=floatOp_spec (P:=P) h
   refine ⟨v,h1,fun ρ x' y' hx hy=>?_⟩
   cases hx;cases hy
   exact ⟨v',h2 ρ,fun w=>h3 t w,fun ox oy w _=>guard_plain t ox oy _ _ (by simp) (by simp) w⟩
  ·exact h.elim
 ·rename_i n1 n2 n3
  obtain ⟨hna,h⟩:=vY h
  have key:∀ x' y' ρ,VR ρ x x'→VR ρ y y'→∀ r,(∀ w,(Op.equal t x' y').run P w=.ok r w)→(∀ w,(binOp .eql t x' y').run P w=.ok (.bool r) w)∧(∀ w,(binOp .neq t x' y').run P w=.ok (.bool (!r)) w):=by
   intro x' y' ρ hx hy r hr
   have base:∀ (x' y':Value),(∀ a n b m,¬ (x'=.int a n∧y'=.int b m))→(∀ s u,¬ (x'=.string s∧y'=.string u))→(∀ a n b m,¬ (x'=.float a n∧y'=.float b m)) →
     (∀ a n q b m p,¬ (x'=.complex a n q∧y'=.complex b m p))→(∀ w,(Op.equal t x' y').run P w=.ok r w) →
     (∀ w,(binOp .eql t x' y').run P w=.ok (.bool r) w)∧(∀ w,(binOp .neq t x' y').run P w=.ok (.bool (!r)) w):=by
    intro x' y' e1 e2 e3 e4 hr
    constructor
    ·intro w
     unfold binOp
     split <;> first
      | exact absurd ⟨rfl,rfl⟩ (e1 _ _ _ _)
      | exact absurd ⟨rfl,rfl⟩ (e2 _ _)
      | exact absurd ⟨rfl,rfl⟩ (e3 _ _ _ _)
      | exact absurd ⟨rfl,rfl⟩ (e4 _ _ _ _ _ _)
      | simp_all
    ·intro w
     unfold binOp
     split <;> first
      | exact absurd ⟨rfl,rfl⟩ (e1 _ _ _ _)
      | exact absurd ⟨rfl,rfl⟩ (e2 _ _)
      | exact absurd ⟨rfl,rfl⟩ (e3 _ _ _ _)
      | exact absurd ⟨rfl,rfl⟩ (e4 _ _ _ _ _ _)
      | simp_all
   refine base x' y' ?_ ?_ ?_ ?_ hr
   ·rintro a n b m ⟨rfl,rfl⟩;cases hx <;> cases hy <;> first|exact n1 _ _ _ _ rfl rfl|simp [V.notAny] at hna
   ·rintro s u ⟨rfl,rfl⟩;cases hx <;> cases hy <;> first|exact n2 _ _ rfl rfl|simp [V.notAny] at hna
   ·rintro a n b m ⟨rfl,rfl⟩;cases hx <;> cases hy <;> first|exact n3 _ _ _ _ rfl rfl|simp [V.notAny] at hna
   ·rintro a n q b m p ⟨rfl,rfl⟩;cases hx;simp [V.notAny] at hna
  split at h
  ·obtain ⟨r,h1,h2⟩:=eqK_spec h
   refine ⟨_,h1,fun ρ x' y' hx hy=>?_⟩
   obtain ⟨h3,h4⟩:=h2 ρ x' y' hx hy
   exact ⟨.bool r,.bool r,(key x' y' ρ hx hy r h3).1,fun ox oy w hc=>h4 _ ox oy w hc⟩
  ·obtain ⟨r,h1,h2⟩:=eqK_spec h
   refine ⟨_,h1,fun ρ x' y' hx hy=>?_⟩
   obtain ⟨h3,h4⟩:=h2 ρ x' y' hx hy
   exact ⟨.bool (!r),.bool (!r),(key x' y' ρ hx hy r h3).2,fun ox oy w hc=>h4 _ ox oy w hc⟩
  ·exact h.elim
theorem intC_run (op:BinOp):(intC op).run=intOp op:=by cases op <;> rfl
theorem fastK_spec {c:Bool} {t:TypeId} {op:BinOp} (h1:op ≠ .shl) (h2:op ≠ .shr) {x y:V} {k:V→Prop} (h:fastK (intOp op) (strOp op) (binK P c t op) x y k):binK P c t op x y k:=by
 cases x with
 | int a n =>
   obtain ⟨b,m,rfl,h3⟩:=vInt_spec (show vInt y _ from h)
   cases op <;> first|exact absurd rfl h1|exact absurd rfl h2|exact h3
 | str s =>
   obtain ⟨t,rfl,h3⟩:=vStr_spec (show vStr y _ from h)
   exact h3
 | _=>exact h
theorem fbC_spec {c:Bool} {t:TypeId} {op:BinOp} {x y:V} {k:V→Prop} (h:Fb.rec (motive:=fun _=>Prop) (fun f=>f x y k) (fbC P c t op)):binK P c t op x y k:=by
 by_cases h1:op=.shl
 ·subst h1;exact h
 by_cases h2:op=.shr
 ·subst h2;exact h
 refine fastK_spec h1 h2 ?_
 rw [← intC_run]
 cases op <;> first|exact absurd rfl h1|exact absurd rfl h2|exact h
theorem aBin_spec {op:BinOp} {t u:TypeId} {x y:Operand} {k:V→Prop} (h:aBin P op t x y E k):∃ v,k v∧PureS P (.binOp op t x y u) E v:=by
 obtain ⟨a,h1,h2⟩:=opK_spec (show opK E x _ from h)
 obtain ⟨b,h3,h4⟩:=opK_spec h2
 obtain ⟨v,h5,h6⟩:=binK_spec (fbC_spec h4)
 refine ⟨v,h5,fun ρ ev o w ho hev=>?_⟩
 obtain ⟨v',h7,h8,h9⟩:=h6 ρ (ev x) (ev y) (hev.one (by simp [Op.operands]) h1) (hev.one (by simp [Op.operands]) h3)
 exact ⟨v',by simp [execOp,ho,h9 x y w rfl,h8],h7⟩
theorem aUn_spec {op:UnOp} {t:TypeId} {x:Operand} {k:V→Prop} (h:aUn op x E k):∃ v,k v∧PureS P (.unOp op t x) E v:=by
 obtain ⟨a,h1,h2⟩:=opK_spec (show opK E x _ from h)
 split at h2
 ·refine ⟨_,fB_spec (k:=fun b=>k (.bool (!b))) h2,fun ρ ev o w ho hev=>?_⟩
  have hc:=hev.one (x:=x) (by simp [Op.operands]) h1
  generalize hce:ev x=cv at hc
  cases hc
  exact ⟨_,by simp [execOp,ho,hce,Op.unary],.bool _⟩
 ·refine ⟨_,wrapK_spec (k:=fun n=>k (.int _ n)) h2,fun ρ ev o w ho hev=>?_⟩
  have hc:=hev.one (x:=x) (by simp [Op.operands]) h1
  generalize hce:ev x=cv at hc
  cases hc
  exact ⟨_,by simp only [execOp,ho,hce,Op.unary,Op.intArith,Sem.run_bind,Sem.run_pure,Result.andThen_ok];rfl,.int _ _⟩
 ·obtain ⟨n,h3,h4⟩:=bitsOp_spec (P:=P) h2
  refine ⟨_,h3,fun ρ ev o w ho hev=>?_⟩
  have hc:=hev.one (x:=x) (by simp [Op.operands]) h1
  generalize hce:ev x=cv at hc
  cases hc
  exact ⟨_,by simp [execOp,ho,hce,Op.unary,h4],.int _ _⟩
 ·exact h2.elim
theorem aConv_spec {s d:TypeId} {x:Operand} {k:V→Prop} (h:aConv P s d x E k):∃ v,k v∧PureS P (.convert s d x) E v:=by
 obtain ⟨a,h1,h2⟩:=opK_spec (show opK E x _ from h)
 obtain ⟨s',hs,h3⟩:=wj h2
 obtain ⟨d',hd,h4⟩:=wj h3
 split at h4
 ·refine ⟨_,wrapK_spec (k:=fun n=>k (.int _ n)) h4,fun ρ ev o w ho hev=>?_⟩
  have hc:=hev.one (x:=x) (by simp [Op.operands]) h1
  generalize hce:ev x=cv at hc
  cases hc
  refine ⟨_,?_,.int _ _⟩
  simp [execOp,ho,hce,convert,run_underlying hs,run_underlying hd,Conv.intToInt]
 ·refine ⟨_,fN_spec (k:=fun n=>k (.float _ n)) h4,fun ρ ev o w ho hev=>?_⟩
  have hc:=hev.one (x:=x) (by simp [Op.operands]) h1
  generalize hce:ev x=cv at hc
  cases hc
  refine ⟨_,?_,.float _ _⟩
  simp [execOp,ho,hce,convert,run_underlying hs,run_underlying hd,Conv.intToFloat]
 ·refine ⟨_,h4,fun ρ ev o w ho hev=>?_⟩
  have hc:=hev.one (x:=x) (by simp [Op.operands]) h1
  generalize hce:ev x=cv at hc
  cases hc
  refine ⟨_,?_,.str _⟩
  simp [execOp,ho,hce,convert,run_underlying hs,run_underlying hd]
 ·exact h4.elim
theorem aIface_spec {t:TypeId} {x:Operand} {k:V→Prop} (h:aIface P t x E k):∃ v,k v∧PureS P (.makeInterface t x) E v:=by
 obtain ⟨a,h1,h2⟩:=opK_spec (show opK E x _ from h)
 obtain ⟨d,hd,h3⟩:=wj h2
 have h4:k (.iface t a)∧∀ ms,d ≠ .interface ms:=by
  split at h3
  ·exact h3.elim
  ·rename_i hn;exact ⟨h3,hn⟩
 refine ⟨_,h4.1,fun ρ ev o w ho hev=>⟨.iface t (ev x),?_,.iface t (hev.one (by simp [Op.operands]) h1)⟩⟩
 simp only [execOp,ho,Instr.makeInterface,Sem.run_bind,run_underlying hd,Result.andThen_ok]
 cases d <;> first|exact absurd rfl (h4.2 _)|rfl
theorem aFunc_spec {fn:Fn} {a b:Array Operand} {k:V→Prop} (h:aFunc fn a b E k):∃ v,k v∧PureS P (.makeFunc fn a b) E v:=by
 obtain ⟨va,h1,h2⟩:=opsK_spec (show opsK E a.toList _ from h)
 obtain ⟨vb,h3,h4⟩:=opsK_spec h2
 refine ⟨_,h4,fun ρ ev o w ho hev=>⟨.func fn ⟨a.toList.map ev⟩ ⟨b.toList.map ev⟩,?_,.func fn (hev.list (by simp [Op.operands];exact fun x hx=>.inl hx) h1) (hev.list (by simp [Op.operands];exact fun x hx=>.inr hx) h3)⟩⟩
 have e:∀ c:Array Operand,c.map ev=⟨c.toList.map ev⟩:=fun c=>by cases c;simp
 simp [execOp,ho,Instr.makeFunc,e]
theorem aExtract_spec {x:Operand} {i:Nat} {k:V→Prop} (h:aExtract x i E k):∃ v,k v∧PureS P (.extract x i) E v:=by
 obtain ⟨a,h1,h2⟩:=opK_spec (show opK E x _ from h)
 obtain ⟨l,rfl,h3⟩:=vTup_spec h2
 obtain ⟨v,h4,h5⟩:=wj h3
 rw [nth_eq] at h4
 refine ⟨v,h5,fun ρ ev o w ho hev=>?_⟩
 have hc:=hev.one (x:=x) (by simp [Op.operands]) h1
 generalize hce:ev x=cv at hc
 cases hc with
 | tup ha =>
   obtain ⟨v',h6,h7⟩:=ha.get h4
   exact ⟨v',by simp [execOp,ho,hce,Instr.extract,h6],h7⟩
end Go.Am
/- Slices of slices, fields, elements, aggregates. -/
namespace Go.Am
variable {P:Program} {E:Env}

theorem Addr.add_mk (b o n:Nat):(⟨b,o,none⟩:Addr).add n=⟨b,o+n,none⟩:=by
 unfold Addr.add;by_cases h:n=0
 ·subst h;simp
 ·simp [h]
theorem optNat_spec {x:Option Operand} {d:Nat} {k:Nat→Prop} (h:optNat E x d k) :
  ∃ n,k n∧(x=none→n=d)∧∀ ρ (ev:Operand→Value),(∀ y,x=some y→∀ v,OpV E y v→VR ρ v (ev y))→∀ y,x=some y→∃ a,ev y=.int a (Int.ofNat n):=by
 cases x with
 | none=>exact ⟨d,h,fun _=>rfl,fun _ _ _ _ h=>by cases h⟩
 | some y =>
   obtain ⟨v,h1,h2⟩:=opK_spec (show opK E y _ from h)
   obtain ⟨a,n,rfl,h3⟩:=vNat_spec h2
   refine ⟨n,h3,⟨fun h=>(by cases h),fun ρ ev he z hz=>?_⟩⟩
   cases hz
   have hc:=he y rfl _ h1
   generalize hce:ev y=cv at hc
   cases hc
   exact ⟨a,rfl⟩
theorem run_sliceBound_in {a:IntKind} {n y:Nat} {code:BoundsCode} (h:n ≤ y) (w:World):(Instr.sliceBound (.int a (Int.ofNat n)) y code).run P w=.ok n w:=by
 have:0 ≤ (Int.ofNat n)∧(Int.ofNat n) ≤ (y:Int):=⟨by simp,by simp;omega⟩
 simp only [Instr.sliceBound,asIntOf,pure_bind]
 rw [if_pos this]
 rfl
theorem run_sliceBound_in' {a:IntKind} {n y:Nat} {code:BoundsCode} (h:n ≤ y) (w:World):(Instr.sliceBound (.int a (n:Int)) y code).run P w=.ok n w:=run_sliceBound_in h w
/-- The bounds of a slice expression without a third one. -/
theorem run_sliceBounds2 {isS:Bool} {len cap l h:Nat} {lo hi:Option Value} (hlo:lo=none∧l=0 ∨ ∃ a,lo=some (.int a (Int.ofNat l))) (hhi:hi=none∧h=len ∨ ∃ a,hi=some (.int a (Int.ofNat h)))
  (h1:l ≤ h) (h2:h ≤ cap) (w:World):(Instr.sliceBounds isS len cap lo hi none).run P w=.ok (l,h,cap) w:=by
 rcases hhi with ⟨rfl,rfl⟩|⟨a,rfl⟩ <;> rcases hlo with ⟨rfl,rfl⟩|⟨b,rfl⟩ <;>
  simp [Instr.sliceBounds,run_sliceBound_in' h1,run_sliceBound_in' h2]
theorem run_sliceBounds3 {isS:Bool} {len cap l h m:Nat} {lo hi mx:Option Value} (hlo:lo=none∧l=0 ∨ ∃ a,lo=some (.int a (Int.ofNat l))) (hhi:∃ a,hi=some (.int a (Int.ofNat h))) (hmx:∃ a,mx=some (.int a (Int.ofNat m)))
  (h1:l ≤ h) (h2:h ≤ m) (h3:m ≤ cap) (w:World):(Instr.sliceBounds isS len cap lo hi mx).run P w=.ok (l,h,m) w:=by
 obtain ⟨a,rfl⟩:=hhi
 obtain ⟨c,rfl⟩:=hmx
 rcases hlo with ⟨rfl,rfl⟩|⟨b,rfl⟩ <;>
  simp [Instr.sliceBounds,run_sliceBound_in' h1,run_sliceBound_in' h2,run_sliceBound_in' h3]
theorem bnd {x:Option Operand} {n d:Nat} {ev:Operand→Value} (h1:x=none→n=d) (h2:∀ y,x=some y→∃ a,ev y=.int a (Int.ofNat n)) :
  (x.map ev=none∧n=d ∨ ∃ a,x.map ev=some (.int a (Int.ofNat n))):=by
 cases x with
 | none=>exact .inl ⟨rfl,h1 rfl⟩
 | some y=>obtain ⟨a,h⟩:=h2 y rfl;exact .inr ⟨a,by simp [h]⟩
theorem bytes_extract (s:List UInt8) (l h:Nat) (hl:l ≤ h) (hh:h ≤ s.length):(⟨⟨s⟩⟩:ByteArray).extract l h=⟨⟨(s.drop l).take (h - l)⟩⟩:=by
 apply ByteArray.ext
 rw [ByteArray.data_extract]
 apply Array.ext'
 simp [List.drop_take]
theorem cutArr_spec {n es id off:Nat} {lo hi:Option Operand} {k:V→Prop} (h:cutArr n es id off E lo hi k) :
  ∃ v,k v∧∀ (ρ:Rho) (ev:Operand→Value) (l:Loc),(∀ y,lo=some y→∀ v,OpV E y v→VR ρ v (ev y))→(∀ y,hi=some y→∀ v,OpV E y v→VR ρ v (ev y))→ρ id=some l→(l.rw=true→l.base+off+n * es ≤ l.csz) →
    ∃ lb hb:Nat,(∀ w,(Instr.sliceBounds false n n (lo.map ev) (hi.map ev) none).run P w=.ok (lb,hb,n) w) ∧
      VR ρ v (.slice (some (if n=lb then ⟨l.blk,l.base+off,none⟩ else (⟨l.blk,l.base+off,none⟩:Addr).add (lb * es))) (hb - lb) (n - lb)):=by
 obtain ⟨hb,h1,e1,f1⟩:=optNat_spec (show optNat E hi n _ from h)
 obtain ⟨lb,h2,e2,f2⟩:=optNat_spec h1
 obtain ⟨g1,h3⟩:=vY h2
 obtain ⟨g2,h4⟩:=vY h3
 have g1':=Nat.le_of_ble_eq_true g1
 have g2':=Nat.le_of_ble_eq_true g2
 refine ⟨_,fN_spec (k:=fun c=>k (.slice id _ _ c es true)) (fN_spec (k:=fun m=>fN (Nat.sub n lb) fun c=>k (.slice id _ m c es true)) (fN_spec (k:=fun o=>fN (Nat.sub hb lb) fun m=>fN (Nat.sub n lb) fun c=>k (.slice id o m c es true)) h4)),fun ρ ev l hlo hhi hl hr=>⟨lb,hb,fun w=>?_,?_⟩⟩
 ·exact run_sliceBounds2 (bnd e2 (f2 ρ ev hlo)) (bnd e1 (f1 ρ ev hhi)) g2' g1' w
 ·have ha:(if n=lb then (⟨l.blk,l.base+off,none⟩:Addr) else (⟨l.blk,l.base+off,none⟩:Addr).add (lb * es))=⟨l.blk,l.base+(if n=lb then off else off+lb * es),none⟩:=by
   split
   ·rfl
   ·rw [Addr.add_mk,Nat.add_assoc]
  rw [ha]
  refine .slice (off+lb * es) (hb - lb) (n - lb) es true _ (n - lb) hl (fun hc=>?_) (Nat.le_refl _) (fun _=>rfl) (by omega) (fun hrw=>?_)
  ·rw [if_neg (by omega)]
  ·have:=hr hrw
   split
   ·rename_i e;subst e;simp;omega
   ·have e2:n * es=lb * es+(n - lb) * es:=by rw [← Nat.add_mul];congr 1;omega
    omega
theorem aFieldAddr_spec {t:TypeId} {x:Operand} {i:Nat} {k:V→Prop} (h:aFieldAddr P t x i E k):∃ v,k v∧PureS P (.fieldAddr t x i) E v:=by
 obtain ⟨a,h1,h2⟩:=opK_spec (show opK E x _ from h)
 obtain ⟨id,off,rfl,h3⟩:=vPtr_spec h2
 obtain ⟨f,h4,h5⟩:=wj h3
 obtain ⟨fi,h6,h7⟩:=szK_spec h5
 have h8:fi.size ≠ 0∧fN (Nat.add off f.offset) fun o=>k (.ptr id o):=by
  cases hs:fi.size with
  | zero=>rw [hs] at h7;exact h7.elim
  | succ n=>rw [hs] at h7;exact ⟨by simp,h7⟩
 refine ⟨_,fN_spec h8.2,fun ρ ev o w ho hev=>?_⟩
 have hc:=hev.one (x:=x) (by simp [Op.operands]) h1
 generalize hce:ev x=cv at hc
 cases hc with
 | ptr _ hl =>
   rename_i l
   unfold fieldP at h4
   split at h4
   ·rename_i fs hu
    refine ⟨.pointer (some ⟨l.blk,l.base+(off+f.offset),none⟩),?_,.ptr _ hl⟩
    simp [execOp,ho,hce,Instr.fieldAt,run_underlying hu,h4,Instr.sureAddr,fieldPlace,run_sizeOf' h6,h8.1,Addr.add_mk,Nat.add_assoc]
   ·cases h4
theorem partK_spec {t:TypeId} {off:Nat} {cs:List V} {k:V→Prop} (h:yZ P t off cs k) :
  ∃ v,k v∧∀ (ρ:Rho) (cs':List Value),VRs ρ cs cs'→∃ v',VR ρ v v'∧∀ w,(part t ⟨cs'⟩ off).run P w=.ok v' w:=by
 obtain ⟨g,hg,h1⟩:=wj (show Option.rec (motive:=fun _=>Prop) False _ (aggP P t) from h)
 cases g with
 | false =>
   obtain ⟨v,h2,h3⟩:=wj (show Option.rec (motive:=fun _=>Prop) False k (nth cs off) from h1)
   rw [nth_eq] at h2
   refine ⟨v,h3,fun ρ cs' hc=>?_⟩
   obtain ⟨v',h4,h5⟩:=hc.get h2
   exact ⟨v',h5,fun w=>run_part_one hg (by simpa using h4) w⟩
 | true =>
   obtain ⟨i,hi,h2⟩:=szK_spec (show szK P t _ from h1)
   obtain ⟨h3,h4⟩:=dropK_spec h2
   obtain ⟨h5,h6⟩:=takeK_spec h4
   refine ⟨_,h6,fun ρ cs' hc=>⟨.agg ⟨(cs'.drop off).take i.size⟩,.agg ((hc.drop off).take i.size),fun w=>?_⟩⟩
   simp only [part,Sem.run_bind,run_isAgg' hg,run_sizeOf' hi,Result.andThen_ok,if_true,Sem.run_pure]
   congr 2
   apply Array.ext'
   simp [List.drop_take]
theorem aField_spec {t:TypeId} {x:Operand} {i:Nat} {k:V→Prop} (h:aField P t x i E k):∃ v,k v∧PureS P (.field t x i) E v:=by
 obtain ⟨a,h1,h2⟩:=opK_spec (show opK E x _ from h)
 obtain ⟨cs,rfl,h3⟩:=vAgg_spec h2
 obtain ⟨f,h4,h5⟩:=wj h3
 obtain ⟨v,h6,h7⟩:=partK_spec h5
 refine ⟨v,h6,fun ρ ev o w ho hev=>?_⟩
 have hc:=hev.one (x:=x) (by simp [Op.operands]) h1
 generalize hce:ev x=cv at hc
 cases hc with
 | agg ha =>
   obtain ⟨v',h8,h9⟩:=h7 ρ _ ha
   unfold fieldP at h4
   split at h4
   ·rename_i fs hu
    exact ⟨v',by simp [execOp,ho,hce,Instr.field,run_underlying hu,h4,asAgg,h9],h8⟩
   ·cases h4
theorem szK_some {t:TypeId} {i:TypeInfo} (h:P.info? t=some i) {k:Nat→Prop} (hk:k i.size):szK P t k:=by
 unfold szK;rw [h];exact hk
theorem ixA_old {t:TypeId} {v:V} {i:Nat} {k:V→Prop} (h:Ix.rec (motive:=fun _=>Prop) (fun f=>f v i k) (ixA P t)):Option.rec (motive:=fun _=>Prop) False (fun d=>match d,v with
  | .slice e,.slice id off n _ es _=>szK P e fun sz=>ifK (Nat.beq sz es) (ifK (Nat.blt i n) (fN (Nat.add off (Nat.mul i es)) fun o=>k (.ptr id o)))
  | .array n e,.ptr id off=>szK P e fun es=>ifK (Nat.blt i n) (fN (Nat.add off (Nat.mul i es)) fun o=>k (.ptr id o))
  | _,_=>False) (P.underlying t):=by
 unfold ixA at h
 split at h
 ·rename_i e hu
  rw [hu]
  split at h
  ·rename_i f hf
   cases v <;> first|exact False.elim h|exact szK_some hf h
  ·exact False.elim h
 ·rename_i m e hu
  rw [hu]
  split at h
  ·rename_i f hf
   obtain ⟨id,off,rfl,h1⟩:=vPtr_spec h
   exact szK_some hf h1
  ·exact False.elim h
 ·exact False.elim h
theorem ixV_old {t:TypeId} {v:V} {i:Nat} {k:V→Prop} (h:Ix.rec (motive:=fun _=>Prop) (fun f=>f v i k) (ixV P t)):Option.rec (motive:=fun _=>Prop) False (fun d=>match d,v with
  | .string,.str s=>Option.rec (motive:=fun _=>Prop) False (fun b=>fN b.toNat fun n=>k (.int .u8 (Int.ofNat n))) (nth s i)
  | .array n e,.agg cs=>szK P e fun es=>ifK (Nat.blt i n) (yZ P e (Nat.mul i es) cs k)
  | _,_=>False) (P.underlying t):=by
 unfold ixV at h
 split at h
 ·rename_i hu
  rw [hu]
  obtain ⟨s,rfl,h1⟩:=vStr_spec h
  exact h1
 ·rename_i m e hu
  rw [hu]
  split at h
  ·rename_i f hf
   obtain ⟨cs,rfl,h1⟩:=vAgg_spec h
   exact szK_some hf h1
  ·exact False.elim h
 ·exact False.elim h
theorem aIndexAddr_spec {t:TypeId} {x ix:Operand} {k:V→Prop} (h:aIndexAddr P t x ix E k):∃ v,k v∧PureS P (.indexAddr t x ix) E v:=by
 obtain ⟨a,h1,h2⟩:=opK_spec (show opK E x _ from h)
 obtain ⟨b,h3,h4⟩:=opK_spec h2
 obtain ⟨kd,i,rfl,h5⟩:=vNat_spec h4
 replace h5:=ixA_old h5
 obtain ⟨d,hd,h6⟩:=wj h5
 split at h6
 ·rename_i e id off n cap es ex _
  obtain ⟨ei,hei,h7⟩:=szK_spec h6
  obtain ⟨g1,h8⟩:=vY h7
  obtain ⟨g2,h9⟩:=vY h8
  have g1':=Nat.eq_of_beq_eq_true g1
  have g2':i < n:=by simpa using g2
  refine ⟨_,fN_spec (k:=fun o=>k (.ptr id o)) h9,fun ρ ev o w ho hev=>?_⟩
  have hc:=hev.one (x:=x) (by simp [Op.operands]) h1
  have hi:=hev.one (x:=ix) (by simp [Op.operands]) h3
  generalize hce:ev x=cv at hc
  generalize hie:ev ix=iv at hi
  cases hi
  cases hc with
  | slice _ _ _ _ _ off' cap' hl hoff hcap hx hlen hr =>
    rename_i l
    have:off'=off:=hoff (by omega)
    subst this
    refine ⟨.pointer (some ⟨l.blk,l.base+(off'+i * es),none⟩),?_,.ptr _ hl⟩
    have hlt:(0:Int) ≤ Int.ofNat i∧(Int.ofNat i) < (n:Int):=⟨by simp,by simp;omega⟩
    simp only [execOp,ho,hce,hie,Instr.indexAt,asIntOf,Sem.run_bind,Sem.run_pure,Result.andThen_ok,run_underlying hd]
    rw [if_pos hlt]
    simp [run_sizeOf' hei,Addr.add_mk,g1',Nat.add_assoc]
 ·rename_i n e id off _
  obtain ⟨ei,hei,h7⟩:=szK_spec h6
  obtain ⟨g2,h9⟩:=vY h7
  have g2':i < n:=by simpa using g2
  refine ⟨_,fN_spec (k:=fun o=>k (.ptr id o)) h9,fun ρ ev o w ho hev=>?_⟩
  have hc:=hev.one (x:=x) (by simp [Op.operands]) h1
  have hi:=hev.one (x:=ix) (by simp [Op.operands]) h3
  generalize hce:ev x=cv at hc
  generalize hie:ev ix=iv at hi
  cases hi
  cases hc with
  | ptr _ hl =>
    rename_i l
    refine ⟨.pointer (some ⟨l.blk,l.base+(off+i * ei.size),none⟩),?_,.ptr _ hl⟩
    have hlt:(0:Int) ≤ Int.ofNat i∧(Int.ofNat i) < (n:Int):=⟨by simp,by simp;omega⟩
    simp only [execOp,ho,hce,hie,Instr.indexAt,asIntOf,Sem.run_bind,Sem.run_pure,Result.andThen_ok,run_underlying hd,Instr.sureAddr]
    rw [if_pos hlt]
    simp [run_sizeOf' hei,Addr.add_mk,Nat.add_assoc]
 ·exact h6.elim
theorem aIndex_spec {t:TypeId} {x ix:Operand} {k:V→Prop} (h:aIndex P t x ix E k):∃ v,k v∧PureS P (.index t x ix) E v:=by
 obtain ⟨a,h1,h2⟩:=opK_spec (show opK E x _ from h)
 obtain ⟨b,h3,h4⟩:=opK_spec h2
 obtain ⟨kd,i,rfl,h5⟩:=vNat_spec h4
 replace h5:=ixV_old h5
 obtain ⟨d,hd,h6⟩:=wj h5
 split at h6
 ·rename_i s _
  obtain ⟨c,h7,h8⟩:=wj h6
  rw [nth_eq] at h7
  refine ⟨_,fN_spec (k:=fun n=>k (.int .u8 (Int.ofNat n))) h8,fun ρ ev o w ho hev=>?_⟩
  have hc:=hev.one (x:=x) (by simp [Op.operands]) h1
  have hi:=hev.one (x:=ix) (by simp [Op.operands]) h3
  generalize hce:ev x=cv at hc
  generalize hie:ev ix=iv at hi
  cases hi
  cases hc
  have hg:(⟨⟨s⟩⟩:ByteArray)[i]?=some c:=by
   have hlt:i < s.length:=by
    rcases Nat.lt_or_ge i s.length with h'|h'
    ·exact h'
    ·simp [List.getElem?_eq_none h'] at h7
   have hlt':i < (⟨⟨s⟩⟩:ByteArray).size:=hlt
   rw [getElem?_pos (⟨⟨s⟩⟩:ByteArray) i hlt']
   rw [List.getElem?_eq_getElem hlt] at h7
   exact h7
  have hp:(0:Int) ≤ Int.ofNat i:=by simp
  refine ⟨_,?_,.int .u8 _⟩
  simp only [execOp,ho,hce,hie,Instr.index,asIntOf,Sem.run_bind,Sem.run_pure,Result.andThen_ok,run_underlying hd,if_pos hp]
  have ht:(Int.ofNat i).toNat=i:=rfl
  rw [ht,hg]
  rfl
 ·rename_i n e cs _
  obtain ⟨ei,hei,h7⟩:=szK_spec h6
  obtain ⟨g2,h9⟩:=vY h7
  have g2':i < n:=by simpa using g2
  obtain ⟨v,h10,h11⟩:=partK_spec h9
  refine ⟨v,h10,fun ρ ev o w ho hev=>?_⟩
  have hc:=hev.one (x:=x) (by simp [Op.operands]) h1
  have hi:=hev.one (x:=ix) (by simp [Op.operands]) h3
  generalize hce:ev x=cv at hc
  generalize hie:ev ix=iv at hi
  cases hi
  cases hc with
  | agg ha =>
    obtain ⟨v',h12,h13⟩:=h11 ρ _ ha
    refine ⟨v',?_,h12⟩
    have hlt:(0:Int) ≤ Int.ofNat i∧(Int.ofNat i) < (n:Int):=⟨by simp,by simp;omega⟩
    simp only [execOp,ho,hce,hie,Instr.index,asIntOf,Sem.run_bind,Sem.run_pure,Result.andThen_ok,run_underlying hd]
    rw [if_pos hlt]
    have ht:(Int.ofNat i).toNat=i:=rfl
    rw [ht]
    have hm:Nat.mul i ei.size=i * ei.size:=rfl
    rw [hm] at h13
    simp [run_sizeOf' hei,h13]
 ·exact h6.elim
end Go.Am
