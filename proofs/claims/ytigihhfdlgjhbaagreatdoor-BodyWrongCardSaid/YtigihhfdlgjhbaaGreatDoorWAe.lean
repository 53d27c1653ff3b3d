/- Part 5 of the proof that BodyWrong returns true, and leaves its arguments as they were, for every input, over a start where the listed variables hold what the program lays: the statement Rows.BodyWrongCardSaid. -/
import Derived.Test.YtigihhfdlgjhbaaGreatDoorWAd
import Derived.Shelf.GgSortFunc.RowK
import Derived.Test.YtigihhfdlgjhbaaGreatDoorWAc
import Derived.Shelf.Strconv.Itoa0
import Derived.Shelf.Strconv.Itoa1
import Derived.Shelf.LaysM
import Derived.Shelf.Strconv.Itoa2
import Derived.Shelf.Strconv.Itoa3
import Derived.Shelf.Bits.Mul64
import Derived.Test.YtigihhfdlgjhbaaGreatDoorChecked
import Ieee.Arith
import GoSem.PinnedTables
import Derived.KernelRfl
set_option linter.unusedVariables false
set_option linter.unusedSimpArgs false
set_option maxRecDepth 100000
set_option maxHeartbeats 400000000
namespace Go.Am
open Go.Proofs
attribute [local irreducible] fN fI fB cR eQ evCode evOps rD kOp aAj wF wH wG kGc aLE aLD kDr kMg drOps fU kK sl
section
attribute [local irreducible] aO bK cM bD
def fY (c:Nat):List UInt8:=[95,95,UInt8.ofNat (97+c)]
theorem aOg {c:Nat}(h:c < 26):fY c ∈ (List.range 26).map fY:=List.mem_map.2 ⟨c,List.mem_range.2 h,rfl⟩
theorem aIv {s:List UInt8}(hm:s ∈ (List.range 26).map fY){S:St}{k:V->St->Prop}(hk:k (.bool true) S):RC Tryz.prog 69 [.str s] S k:=by
 refine RC.closed 90 (fun K=>?_) hk;simp only [show (List.range 26).map fY=[fY 0,fY 1,fY 2,fY 3,fY 4,fY 5,fY 6,fY 7,fY 8,fY 9,fY 10,fY 11,fY 12,fY 13,fY 14,fY 15,fY 16,fY 17,fY 18,fY 19,fY 20,fY 21,fY 22,fY 23,fY 24,fY 25] from rfl,av,List.not_mem_nil,or_false] at hm
 rcases hm with rfl|rfl|rfl|rfl|rfl|rfl|rfl|rfl|rfl|rfl|rfl|rfl|rfl|rfl|rfl|rfl|rfl|rfl|rfl|rfl|rfl|rfl|rfl|rfl|rfl|rfl <;> kernel_rfl
theorem aLx {c:Nat}(h:c < 26){S:St}{k:V->St->Prop}(hk:k (.bool true) S):RC Tryz.prog 69 [.str (fY c)] S k:=aIv (aOg h) hk
theorem aOh {c:Nat}{S:St}{k:V->St->Prop}(hk:k (.bool true) S):RC Tryz.prog 47 [.str (fY c),.str [95,95]] S k:=by
 refine RC.closed 60 (fun K=>?_) hk;unfold fY;generalize UInt8.ofNat (97+c)=x
 kernel_rfl
theorem aIw {c:Nat}(h:c < 26){S:St}{i:Nat}{ex:Bool}{cc:Nat}(hcc:1 <= cc){e0:TypeId}{fl:Fl}(hS:S.hs.get i=some (.cells [.str (fY c),.str [49]] e0 fl)){k:V->St->Prop}(hk:k (.bool true) S):RC Tryz.prog 48 [.slice i 0 1 cc 2 ex] S k:=by
 have hR:aHx [(fY c,[49])]:=⟨sm,fun q hq S k hk=>by
  rw [ay] at hq;subst hq
  exact wP (a:=true) (b:=true) (fun S k hk=>aLx h hk) (fun S k hk=>aPD (show [49] ∈ iB by decide) hk) rfl hk,sm,fun j hj=>by simp at hj⟩
 refine RC.run mixed aS (aG aVw ?_);refine enter ?_;refine go ?_;refine aDe i cc ex [(fY c,[49])] [] hR fl e0 (by rw [bf];exact hS) hcc ?_;refine go ?_;exact hk
theorem aVr:bB Tryz.prog 50 6 [.tmp 2] (aL Tryz.f50):=fq Tryz.f50
theorem aRo {c:Nat}{x:List UInt8}{S:St}{k:V->St->Prop}(hk:k (.bool true) S):RC Tryz.prog 50 [.agg [.str (fY c),.str x]] S k:=by
 refine RC.pure mixed aVr hk ?_;refine enter ?_;refine go ?_;refine aD dc fun S1 hS1=>?_;refine go ?_;refine aA (aJ hS1) ?_;refine aH kr _ rfl rfl ?_;refine go ?_;refine aOh ?_;refine go ?_;rfl
theorem aNT:bB Tryz.prog 77 19 [.tmp 4] (aL Tryz.f77):=fq Tryz.f77
theorem aUQ:bB Tryz.prog 49 9 [.tmp 4] (aL Tryz.f49):=fq Tryz.f49
theorem aNy {c:Nat}{S:St}{i:Nat}{ex:Bool}{cc:Nat}{e0:TypeId}{fl:Fl}(hS:S.hs.get i=some (.cells [.str (fY c),.str [49]] e0 fl)){k:V->St->Prop}(hk:k (.bool true) S):RC Tryz.prog 49 [.slice i 0 1 cc 2 ex,.func (.func 50) [] []] S k:=by
 refine RC.run mixed aS (aG aUQ ?_);refine enter ?_;refine go ?_;refine RC.run mixed aS (aG aNT ?_);refine enter ?_;refine go ?_;refine LP.one mixed ?_;refine go ?_;refine aA hS ?_;refine aX (n:=2) kr kr (af 2) rfl ?_;refine go ?_;refine aRo ?_;refine go ?_;exact hk
end
section
attribute [local irreducible] aO bK cM bD
theorem aXy {S:St}{k:V->St->Prop}(hk:k (.bool true) S):RC Tryz.prog 69 [.str [122]] S k:=RC.closed 60 (fun K=>by kernel_rfl) hk
theorem aXw {S:St}{k:V->St->Prop}(hk:k (.bool false) S):RC Tryz.prog 69 [.str [65,45]] S k:=RC.closed 60 (fun K=>by kernel_rfl) hk
theorem aXx {S:St}{k:V->St->Prop}(hk:k (.bool true) S):RC Tryz.prog 69 [.str [95]] S k:=RC.closed 60 (fun K=>by kernel_rfl) hk
theorem aXB {S:St}{k:V->St->Prop}(hk:k (.bool false) S):RC Tryz.prog 70 [.str [255]] S k:=RC.closed 60 (fun K=>by kernel_rfl) hk
def aLd (w:Nat):aY:=[(([122]:List UInt8),([]:List UInt8)),([65,45],[49]),([95],[255])].getD (w % 3) ([],[])
theorem aQc (w:Nat):aLd w=([122],[]) ∨ aLd w=([65,45],[49]) ∨ aLd w=([95],[255]):=by
 have:w % 3=0 ∨ w % 3=1 ∨ w % 3=2:=om;unfold aLd
 rcases this with h|h|h <;> rw [h]
 ·exact .inl rfl
 ·exact .inr (.inl rfl)
 ·exact .inr (.inr rfl)
theorem aLe {l:List aY}(ok:kF l){x:aY}(hx:x=([122],[]) ∨ x=([65,45],[49]) ∨ x=([95],[255])){S:St}{i c:Nat}{ex:Bool}{rest:List V}{e0:TypeId}{fl:Fl}(hS:S.hs.get i=some (.cells (cellsOf (l ++ [x]) ++ rest) e0 fl))(hc:l.length+1 <= c){k:V->St->Prop}(hk:k (.bool false) S) :
  RC Tryz.prog 48 [.slice i 0 (l.length+1) c 2 ex] S k:=by
 have hR:=ok.right;have hfew:=ok.few
 have hll:(l ++ [x]).length=l.length+1:=by simp
 have hat:∀ j (h:j < l.length),(l ++ [x])[j]'(by omega)=l[j]:=fun j h=>List.getElem_append_left h
 have hend:(l ++ [x])[l.length]'(by omega)=x:=by simp
 have key:∀ {e1:Int},((e1=40 ∨ e1=41)∧(∀ (S:St) (k:V->St->Prop),k (.int .i64 e1) S->RC Tryz.prog 37 [gE x] S k) ∨ e1=42∧(∀ (S:St) (k:V->St->Prop),k (.int .i64 0) S->RC Tryz.prog 37 [gE x] S k)∧x.2=[])->∀ k:V->St->Prop,k (.tup [.int .i64 (.ofNat l.length),.int .i64 e1]) S->RC Tryz.prog 76 [.slice i 0 (l.length+1) c 2 ex] S k:=fun hb k h=>by
  have:=aLi (k:=k) i c ex (l ++ [x]) rest om l.length om (fun j h=>by rw [hat j h];exact hR.one _ (az h)) (fun j h=>by rw [hat j h];exact hR.full _ (az h)) (fun j h=>by rw [hat j om,hat (j+1) h];exact hR.asc j h) (by rw [hend];exact hb) fl e0 hS om h;rwa [hll] at this
 rcases hx with rfl|rfl|rfl
 ·exact uS (e:=42) (.inr (.inr rfl)) (fun k h=>key (.inr ⟨rfl,fun S k hk=>wP (a:=true) (b:=true) (fun S k hk=>aXy hk) (fun S k hk=>aPD (show [] ∈ iB by decide) hk) rfl hk,rfl⟩) k h) hk
 ·exact uS (e:=40) (.inl rfl) (fun k h=>key (.inl ⟨.inl rfl,fun S k hk=>wP (a:=false) (b:=true) (fun S k hk=>aXw hk) (fun S k hk=>aPD (show [49] ∈ iB by decide) hk) rfl hk⟩) k h) hk
 ·exact uS (e:=41) (.inr (.inl rfl)) (fun k h=>key (.inl ⟨.inr rfl,fun S k hk=>wP (a:=true) (b:=false) (fun S k hk=>aXx hk) (fun S k hk=>aXB hk) rfl hk⟩) k h) hk
end
section
attribute [local irreducible] aO bK cM bD
theorem aKm {l:List aY}(ok:kF l){x:aY}(hx:x=([122],[]) ∨ x=([65,45],[49]) ∨ x=([95],[255])){S:St}{i c:Nat}{ex:Bool}{e0:TypeId}{fl:Fl}(hS:S.hs.get i=some (.cells (cellsOf (l ++ [x])) e0 fl))(hc:l.length+1 <= c){w:V}{k:V->St->Prop}(hk:k (.tup [.nilPtr,.int .i64 240]) S):RC Tryz.prog 22 [.slice i 0 (l.length+1) c 2 ex,w] S k :=
 aMn (fun k hk=>aLe ok hx (rest:=[]) (by rw [bf];exact hS) hc hk) hk
theorem aRq {c:Nat}(h:c < 26){S:St}{i:Nat}{ex:Bool}{e0:TypeId}{fl:Fl}(hS:S.hs.get i=some (.cells [.str (fY c),.str [49]] e0 fl)){w:V}{k:V->St->Prop}(hk:k (.tup [.nilPtr,.int .i64 240]) S):RC Tryz.prog 22 [.slice i 0 1 1 2 ex,w] S k :=
 aMl (fun k hk=>aIw h (af _) hS hk) (fun k hk=>aNy hS hk) hk
theorem aGK {tg:List aY}(okT:kF tg)(hT:∀ q ∈ tg,eP q.1=false){v:V}{S:St}(hv:LV S v tg){a:Nat}(ha:a < 200){r m:Nat}{e e2:TypeId}{fl fl2:Fl}(hr:r < S.next)(hS:S.hs.get r=some (.cells (aJd m ++ aJe a) e fl))(hm:aI <= m)(hmS:m < S.next)(hS2:S.hs.get m=some (.cells [.str [97]] e2 fl2))(hn:S.next+20 < room){k:V->St->Prop}(hk:∀ S',Abv S.next S.next S S' 20->k (.tup [.nilPtr,.int .i64 120]) S'):RC Tryz.prog 22 [v,.slice r 0 2 2 7 true] S k :=
 aMm (fun k hk=>cL hv okT hk) (fun k hk=>sU hv okT hT hk) (A:=fun S'=>Abv S.next S.next S S' 20) (fun k hk=>aLV ha hr hS hm hmS hS2 hn hk) hk
theorem aKn {tg:List aY}(okT:kF tg)(hT:∀ q ∈ tg,eP q.1=false){v:V}{S:St}(hv:LW S v tg)(hn:S.next+20 < room){k:V->St->Prop}(hk:∀ S' r,Abv S.next S.next S S' 20->k (.tup [.ptr r 0,.int .i64 0]) S'):RC Tryz.prog 22 [v,.nilSlice] S k:=by
 refine aMo hv okT hT ?_;refine aD om fun S1 hS1=>?_;have n1:=aF hS1;refine aD om fun S2 hS2=>?_;have n2:=aF hS2;exact hk S2 _ ⟨fun id g _=>by rw [aC hS2 om,aC hS1 om],om,om⟩
theorem aQX {v:V}{lim:Int}(hl:lim < 1 ∨ 1000 < lim){S:St}(hR:∀ k:V->St->Prop,(∀ S' r,Abv S.next S.next S S' 20->k (.tup [.ptr r 0,.int .i64 0]) S')->RC Tryz.prog 22 [v,.nilSlice] S k){k:V->St->Prop}(hk:∀ S',Abv S.next S.next S S' 20->k (.int .i64 2) S'):RC Tryz.prog 10 [v,.nilSlice,.int .i64 lim] S k :=
 aHU (p:=.nilPtr) hl (A:=fun S'=>Abv S.next S.next S S' 20) (fun k hk=>hR k fun S' r h=>hk S' _ h) hk
end
end Go.Am
namespace Go.Am
open Go.Sort
section
variable {P:Program}
theorem lA:∀ {a b:List aY},a.Pairwise (fun p q=>jJ p.1 q.1=true)->b.Pairwise (fun p q=>jJ p.1 q.1=true)->(∀ x,x ∈ a ↔ x ∈ b)->a=b
 | [],[],_,_,_=>rfl
 | [],y :: b,_,_,h=>absurd ((h y).2 sm) sm
 | x :: a,[],_,_,h=>absurd ((h x).1 sm) sm
 | x :: a,y :: b,ha,hb,h=>by
   have ha':=List.pairwise_cons.1 ha;have hb':=List.pairwise_cons.1 hb
   have hxy:x=y:=by
    rcases av.1 ((h x).1 sm) with e|e
    ·exact e
    ·rcases av.1 ((h y).2 sm) with e2|e2
     ·exact e2.symm
     ·have h1:=hb'.1 x e;have h2:=ha'.1 y e2;have h3:=lN h1 h2;rw [lM] at h3;cases h3
   subst hxy
   have hnot:∀ (c:List aY),(∀ z ∈ c,jJ x.1 z.1=true)->x ∉ c:=fun c hc hx=>by
    have:=hc x hx;rw [lM] at this;cases this
   rw [lA ha'.2 hb'.2 fun z=>⟨fun hz=>by
    rcases av.1 ((h z).1 (be _ hz)) with e|e
    ·subst e;exact absurd hz (hnot a ha'.1)
    ·exact e,fun hz=>by
    rcases av.1 ((h z).2 (be _ hz)) with e|e
    ·subst e;exact absurd hz (hnot b hb'.1)
    ·exact e⟩]
theorem cP.grow {ρ:Rho}{S:Hs}{w:World}(h:cP ρ S w)(os:Array Obj):cP ρ S (Go.Sort.grow w os) :=
 ⟨fun id o ho=>by
  obtain ⟨l,co,a,b,c⟩:=h.obj id o ho;refine ⟨l,co,a,?_,c⟩
  have hlt:l.blk < w.heap.size:=by
   rcases Nat.lt_or_ge l.blk w.heap.size with h'|h'
   ·exact h'
   ·simp [Array.getElem?_eq_none h'] at b
  show (w.heap ++ os)[l.blk]?=some co
  rw [Array.getElem?_append_left hlt];exact b,h.sep,h.fresh⟩
theorem Ext.grow (ρ:Rho)(S:Hs)(w:World)(os:Array Obj):Ext ρ S w ρ S (Go.Sort.grow w os) :=
 ⟨fun _ _=>rfl,af _,by simp [Go.Sort.grow],fun b hb _=>by show (w.heap ++ os)[b]?=_;rw [Array.getElem?_append_left hb],fun _ h=>.inr h,fun _ h=>.inr h,rfl,rfl,rfl,af _⟩
theorem cP.ahead {ρ:Rho}{S:Hs}{w:World}(h:cP ρ S w)(n:Nat):cP ρ S (Go.Sort.ahead w n):=⟨h.obj,h.sep,h.fresh⟩
theorem Ext.ahead (ρ:Rho)(S:Hs)(w:World)(n:Nat):Ext ρ S w ρ S (Go.Sort.ahead w n):=⟨fun _ _=>rfl,af _,af _,fun _ _ _=>rfl,fun _ h=>.inr h,fun _ h=>.inr h,rfl,rfl,rfl,Nat.le_add_right _ _⟩
end
end Go.Am
namespace Go.Proofs
open Go.Shelf
def Tryz.lays129_ren:Go.Shelf.Ren:=⟨fun|129=>111|n=>n,fun|53=>47|3=>3|4=>4|46=>145|5=>5|9=>9|n=>n,fun|n=>n⟩
theorem Tryz.lays129:Go.Proofs.Lays.n129 Tryz.prog Tryz.lays129_ren:={
 mixed:=by kernel_rfl
 f129:=Tryz.func111.trans (congrArg some (by kernel_rfl))
 t3:=Tryz.underlying3
 a3:=Tryz.isAgg3
 z3:=Tryz.sizeOf3
 v3:=Tryz.zeroValue3
 t4:=Tryz.underlying4
 a4:=Tryz.isAgg4
 z4:=Tryz.sizeOf4
 v4:=Tryz.zeroValue4
 t5:=Tryz.underlying5
 a5:=Tryz.isAgg5
 z5:=Tryz.sizeOf5
 v5:=Tryz.zeroValue5
 t9:=Tryz.underlying9
 a9:=Tryz.isAgg9
 z9:=Tryz.sizeOf9
 v9:=Tryz.zeroValue9
 t46:=Tryz.underlying145
 a46:=Tryz.isAgg145
 z46:=Tryz.sizeOf145
 v46:=Tryz.zeroValue145
 t53:=Tryz.underlying47
 a53:=Tryz.isAgg47
 z53:=Tryz.sizeOf47
 v53:=Tryz.zeroValue47 }
theorem Tryz.bits_Len64 (x:Int)(w:World)(h0:0 <= x)(h1:x <= 18446744073709551615) :
  Calls Tryz.prog 111 #[.int .u64 x] w fun e w'=>e=.returned (.int .i64 (Lib.bitLen x.toNat))∧w'=w:=Any.bits_Len64 Tryz.lays129 x w h0 h1
def Tryz.lays283_ren:Go.Shelf.Ren:=⟨fun|283=>182|n=>n,fun|3=>3|9=>9|4=>4|n=>n,fun|n=>n⟩
theorem Tryz.lays283:Go.Proofs.Lays.n283 Tryz.prog Tryz.lays283_ren:={
 mixed:=by kernel_rfl
 f283:=Tryz.func182.trans (congrArg some (by kernel_rfl))
 t3:=Tryz.underlying3
 a3:=Tryz.isAgg3
 z3:=Tryz.sizeOf3
 v3:=Tryz.zeroValue3
 t4:=Tryz.underlying4
 a4:=Tryz.isAgg4
 z4:=Tryz.sizeOf4
 v4:=Tryz.zeroValue4
 t9:=Tryz.underlying9
 a9:=Tryz.isAgg9
 z9:=Tryz.sizeOf9
 v9:=Tryz.zeroValue9 }
open Go.Lib in
theorem Tryz.internal_strconv_small (i:Nat)(h:i < 100)(w:World) :
  Calls Tryz.prog 182 #[.int .i64 i] w fun e w'=>e=.returned (.string ⟨(Lib.decDigits i).toArray⟩)∧w'=w:=Any.internal_strconv_small Tryz.lays283 i h w
def Tryz.laysM284_ren:Go.Shelf.Ren:=⟨fun|284=>183|129=>111|317=>222|318=>223|n=>n,fun|53=>47|3=>3|212=>326|0=>0|4=>4|46=>145|5=>5|9=>9|n=>n,fun|17=>4|n=>n⟩
theorem Tryz.laysM284:Go.Proofs.LaysM.n284 Tryz.prog Tryz.laysM284_ren:={
 mixed:=by kernel_rfl
 f129:=Tryz.func111.trans (congrArg some (by kernel_rfl))
 f284:=Tryz.func183.trans (congrArg some (by kernel_rfl))
 f317:=Tryz.func222.trans (congrArg some (by kernel_rfl))
 f318:=Tryz.func223.trans (congrArg some (by kernel_rfl))
 t0:=Tryz.underlying0
 a0:=Tryz.isAgg0
 z0:=Tryz.sizeOf0
 v0:=Tryz.zeroValue0
 t3:=Tryz.underlying3
 a3:=Tryz.isAgg3
 z3:=Tryz.sizeOf3
 v3:=Tryz.zeroValue3
 t4:=Tryz.underlying4
 a4:=Tryz.isAgg4
 z4:=Tryz.sizeOf4
 v4:=Tryz.zeroValue4
 t5:=Tryz.underlying5
 a5:=Tryz.isAgg5
 z5:=Tryz.sizeOf5
 v5:=Tryz.zeroValue5
 t9:=Tryz.underlying9
 a9:=Tryz.isAgg9
 z9:=Tryz.sizeOf9
 v9:=Tryz.zeroValue9
 t46:=Tryz.underlying145
 a46:=Tryz.isAgg145
 z46:=Tryz.sizeOf145
 v46:=Tryz.zeroValue145
 t53:=Tryz.underlying47
 a53:=Tryz.isAgg47
 z53:=Tryz.sizeOf47
 v53:=Tryz.zeroValue47
 t212:=Tryz.underlying326
 a212:=Tryz.isAgg326
 z212:=Tryz.sizeOf326
 v212:=Tryz.zeroValue326
 g17:=by kernel_rfl
 i0:=by kernel_rfl
 i3:=by kernel_rfl
 i4:=by kernel_rfl
 i5:=by kernel_rfl
 i9:=by kernel_rfl
 i46:=by kernel_rfl
 i53:=by kernel_rfl
 i212:=by kernel_rfl
 m17:=by kernel_rfl }
open Go.Lib in
theorem Tryz.internal_strconv_numDigits (u:Nat)(h1:1 <= u)(h2:u < 18446744073709551616)(w:World)(htab:Lib.TabIs Tryz.prog w "internal/strconv.uint64pow10" .u64 Lib.pow10Tab) :
  Calls Tryz.prog 183 #[.int .u64 u] w fun e w'=>e=.returned (.int .i64 (Lib.nDigits u))∧w'=w:=Any.internal_strconv_numDigits Tryz.laysM284 u h1 h2 w htab
def Tryz.lays285_ren:Go.Shelf.Ren:=⟨fun|285=>184|n=>n,fun|37=>36|53=>47|3=>3|4=>4|51=>194|9=>9|5=>5|0=>0|n=>n,fun|n=>n⟩
theorem Tryz.lays285:Go.Proofs.Lays.n285 Tryz.prog Tryz.lays285_ren:={
 mixed:=by kernel_rfl
 f285:=Tryz.func184.trans (congrArg some (by kernel_rfl))
 t0:=Tryz.underlying0
 a0:=Tryz.isAgg0
 z0:=Tryz.sizeOf0
 v0:=Tryz.zeroValue0
 t3:=Tryz.underlying3
 a3:=Tryz.isAgg3
 z3:=Tryz.sizeOf3
 v3:=Tryz.zeroValue3
 t4:=Tryz.underlying4
 a4:=Tryz.isAgg4
 z4:=Tryz.sizeOf4
 v4:=Tryz.zeroValue4
 t5:=Tryz.underlying5
 a5:=Tryz.isAgg5
 z5:=Tryz.sizeOf5
 v5:=Tryz.zeroValue5
 t9:=Tryz.underlying9
 a9:=Tryz.isAgg9
 z9:=Tryz.sizeOf9
 v9:=Tryz.zeroValue9
 t37:=Tryz.underlying36
 a37:=Tryz.isAgg36
 z37:=Tryz.sizeOf36
 v37:=Tryz.zeroValue36
 t51:=Tryz.underlying194
 a51:=Tryz.isAgg194
 z51:=Tryz.sizeOf194
 v51:=Tryz.zeroValue194
 t53:=Tryz.underlying47
 a53:=Tryz.isAgg47
 z53:=Tryz.sizeOf47
 v53:=Tryz.zeroValue47 }
open Go.RowKit Go.Sort Go.Lib in
theorem Tryz.internal_strconv_formatBase10 (blk off cap:Nat)(u:Nat)(d:Array UInt8)(w:World)(hH:Holds (fun (b:UInt8)=>Value.int .u8 (b.toNat:Int)) w blk off d)(hu:u < 10 ^ d.size)(hu64:u < 18446744073709551616)(hsz:d.size < 4611686018427387904) :
  Calls Tryz.prog 184 #[.slice (some ⟨blk,off,none⟩) d.size cap,.int .u64 u] w fun e w' =>
   e=.returned (.tuple #[])∧∃ (n v':Nat) (dk:Array UInt8),w'=(putRow (fun (b:UInt8)=>Value.int .u8 (b.toNat:Int)) w blk off dk).drewN n∧FmtInv d.size u 0 v' dk:=Any.internal_strconv_formatBase10 Tryz.lays285 blk off cap u d w hH hu hu64 hsz
def Tryz.laysM171_ren:Go.Shelf.Ren:=⟨fun|171=>67|243=>99|246=>142|283=>182|284=>183|285=>184|286=>185|129=>111|317=>222|318=>223|319=>224|320=>225|337=>251|338=>252|n=>n,fun|3=>3|9=>9|2=>2|4=>4|171=>277|0=>0|53=>47|37=>36|5=>5|173=>279|212=>326|51=>194|20=>20|213=>327|46=>145|232=>385|233=>386|n=>n,fun|17=>4|18=>8|19=>9|n=>n⟩
theorem Tryz.laysM171:Go.Proofs.LaysM.n171 Tryz.prog Tryz.laysM171_ren:={
 mixed:=by kernel_rfl
 f129:=Tryz.func111.trans (congrArg some (by kernel_rfl))
 f171:=Tryz.func67.trans (congrArg some (by kernel_rfl))
 f243:=Tryz.func99.trans (congrArg some (by kernel_rfl))
 f246:=Tryz.func142.trans (congrArg some (by kernel_rfl))
 f283:=Tryz.func182.trans (congrArg some (by kernel_rfl))
 f284:=Tryz.func183.trans (congrArg some (by kernel_rfl))
 f285:=Tryz.func184.trans (congrArg some (by kernel_rfl))
 f286:=Tryz.func185.trans (congrArg some (by kernel_rfl))
 f317:=Tryz.func222.trans (congrArg some (by kernel_rfl))
 f318:=Tryz.func223.trans (congrArg some (by kernel_rfl))
 f319:=Tryz.func224.trans (congrArg some (by kernel_rfl))
 f320:=Tryz.func225.trans (congrArg some (by kernel_rfl))
 f337:=Tryz.func251.trans (congrArg some (by kernel_rfl))
 f338:=Tryz.func252.trans (congrArg some (by kernel_rfl))
 t0:=Tryz.underlying0
 a0:=Tryz.isAgg0
 z0:=Tryz.sizeOf0
 v0:=Tryz.zeroValue0
 t2:=Tryz.underlying2
 a2:=Tryz.isAgg2
 z2:=Tryz.sizeOf2
 v2:=Tryz.zeroValue2
 t3:=Tryz.underlying3
 a3:=Tryz.isAgg3
 z3:=Tryz.sizeOf3
 v3:=Tryz.zeroValue3
 t4:=Tryz.underlying4
 a4:=Tryz.isAgg4
 z4:=Tryz.sizeOf4
 v4:=Tryz.zeroValue4
 t5:=Tryz.underlying5
 a5:=Tryz.isAgg5
 z5:=Tryz.sizeOf5
 v5:=Tryz.zeroValue5
 t9:=Tryz.underlying9
 a9:=Tryz.isAgg9
 z9:=Tryz.sizeOf9
 v9:=Tryz.zeroValue9
 t20:=Tryz.underlying20
 a20:=Tryz.isAgg20
 z20:=Tryz.sizeOf20
 v20:=Tryz.zeroValue20
 t37:=Tryz.underlying36
 a37:=Tryz.isAgg36
 z37:=Tryz.sizeOf36
 v37:=Tryz.zeroValue36
 t46:=Tryz.underlying145
 a46:=Tryz.isAgg145
 z46:=Tryz.sizeOf145
 v46:=Tryz.zeroValue145
 t51:=Tryz.underlying194
 a51:=Tryz.isAgg194
 z51:=Tryz.sizeOf194
 v51:=Tryz.zeroValue194
 t53:=Tryz.underlying47
 a53:=Tryz.isAgg47
 z53:=Tryz.sizeOf47
 v53:=Tryz.zeroValue47
 t171:=Tryz.underlying277
 a171:=Tryz.isAgg277
 z171:=Tryz.sizeOf277
 v171:=Tryz.zeroValue277
 t173:=Tryz.underlying279
 a173:=Tryz.isAgg279
 z173:=Tryz.sizeOf279
 v173:=Tryz.zeroValue279
 t212:=Tryz.underlying326
 a212:=Tryz.isAgg326
 z212:=Tryz.sizeOf326
 v212:=Tryz.zeroValue326
 t213:=Tryz.underlying327
 a213:=Tryz.isAgg327
 z213:=Tryz.sizeOf327
 t232:=Tryz.underlying385
 a232:=Tryz.isAgg385
 z232:=Tryz.sizeOf385
 v232:=Tryz.zeroValue385
 t233:=Tryz.underlying386
 a233:=Tryz.isAgg386
 z233:=Tryz.sizeOf386
 v233:=Tryz.zeroValue386
 g17:=by kernel_rfl
 g18:=by kernel_rfl
 g19:=by kernel_rfl
 i0:=by kernel_rfl
 i2:=by kernel_rfl
 i3:=by kernel_rfl
 i4:=by kernel_rfl
 i5:=by kernel_rfl
 i9:=by kernel_rfl
 i20:=by kernel_rfl
 i37:=by kernel_rfl
 i46:=by kernel_rfl
 i51:=by kernel_rfl
 i53:=by kernel_rfl
 i171:=by kernel_rfl
 i173:=by kernel_rfl
 i212:=by kernel_rfl
 i232:=by kernel_rfl
 i233:=by kernel_rfl
 m17:=by kernel_rfl
 m18:=by kernel_rfl
 m19:=by kernel_rfl }
open Go.RowKit Go.Sort Go.Lib in
theorem Tryz.strconv_Itoa (n:Int)(h0:-9223372036854775808 <= n)(h1:n <= 9223372036854775807)(w:World)(htab:Lib.TabIs Tryz.prog w "internal/strconv.uint64pow10" .u64 Lib.pow10Tab) :
  Calls Tryz.prog 67 #[.int .i64 n] w fun e w'=>e=.returned (.string ⟨(Lib.itoa n).toArray⟩)∧∃ k os,w'=grow (w.drewN k) os:=Any.strconv_Itoa Tryz.laysM171 n h0 h1 w htab
def Tryz.lays264_ren:Go.Shelf.Ren:=⟨fun|264=>336|n=>n,fun|53=>47|46=>145|n=>n,fun|n=>n⟩
theorem Tryz.lays264:Go.Proofs.Lays.n264 Tryz.prog Tryz.lays264_ren:={
 mixed:=by kernel_rfl
 f264:=Tryz.func336.trans (congrArg some (by kernel_rfl))
 t46:=Tryz.underlying145
 a46:=Tryz.isAgg145
 z46:=Tryz.sizeOf145
 v46:=Tryz.zeroValue145
 t53:=Tryz.underlying47
 a53:=Tryz.isAgg47
 z53:=Tryz.sizeOf47
 v53:=Tryz.zeroValue47 }
open Go.RowKit Go.Lib in
theorem Tryz.bits_Mul64 (x y:Nat)(hx:x < 18446744073709551616)(hy:y < 18446744073709551616)(w:World) :
  Calls Tryz.prog 336 #[.int .u64 x,.int .u64 y] w fun e w'=>e=.returned (.tuple #[.int .u64 ((x * y / 18446744073709551616:Nat):Int),.int .u64 ((x * y % 18446744073709551616:Nat):Int)])∧w'=w:=Any.bits_Mul64 Tryz.lays264 x y hx hy w
end Go.Proofs
namespace Go.Am
open Go.Proofs
attribute [local irreducible] fN fI fB cR eQ evCode evOps rD kOp aAj wF wH wG kGc aLE aLD kDr kMg drOps fU kK sl
open Go.Sort in
theorem RC.ofCalls {P:Program}{g:FuncId}{n:Nat}{rs:List ResultVar}{c:Code}(hf:bB P g n rs c){l:List V}{v:V}{S S':St}{k:V->St->Prop}
  (h:∀ (ρ:Rho) (w:World) (l':List Value),dZ ρ->cP ρ S.hs w->VRs ρ l l'->Calls P g ⟨l'⟩ w fun e w'=>Rt ρ S.hs w v S'.hs e w') (hk:k v S'):RC P g l S k:=by
 obtain ⟨fn,h1,h2,_,_,h3⟩:=hf.at';refine .mk v S' (fun ρ w l' hgl hs hl=>?_) hk
 have hcall:(callFunc g ⟨l'⟩).run P w=.ok (.enter g ⟨l'⟩) w:=by
  have h0:¬ fn.name = "runtime.NumGoroutine" := fun e=>by rw [e] at h3;simp at h3
  simp [callFunc,h1,h0,h2]
 rw [hcall];exact gF.2 (h ρ w l' hgl hs hl)
theorem aQw:bB Tryz.prog 111 25 [.tmp 2] (aL Tryz.f111):=fq Tryz.f111
theorem aDw {x:Nat}(hx:x < 18446744073709551616){S:St}{k:V->St->Prop}(hk:k (.int .i64 (.ofNat (Lib.bitLen x))) S):RC Tryz.prog 111 [.int .u64 (.ofNat x)] S k :=
 RC.ofCalls aQw (fun ρ w l' _ hs hl=>by
  cases hl with
  | cons h1 hl =>
    cases h1;cases hl
    exact (Tryz.bits_Len64 (x:Int) w om om).mono fun e w' ⟨he,hw⟩=>by
     subst hw
     exact ⟨_,ρ,he,.int _ _,hs,Ext.refl _ _ _⟩) hk
theorem aQy:bB Tryz.prog 336 51 [.tmp 4,.tmp 5] (aL Tryz.f336):=fq Tryz.f336
theorem aLO {x y:Nat}(hx:x < 18446744073709551616)(hy:y < 18446744073709551616){S:St}{k:V->St->Prop}(hk:k (.tup [.int .u64 (.ofNat (x * y / 18446744073709551616)),.int .u64 (.ofNat (x * y % 18446744073709551616))]) S):RC Tryz.prog 336 [.int .u64 (.ofNat x),.int .u64 (.ofNat y)] S k :=
 RC.ofCalls aQy (fun ρ w l' _ hs hl=>by
  cases hl with
  | cons h1 hl =>
    cases h1
    cases hl with
    | cons h2 hl =>
      cases h2;cases hl
      exact (Tryz.bits_Mul64 x y hx hy w).mono fun e w' ⟨he,hw⟩=>by
       subst hw
       exact ⟨_,ρ,he,.tup (.cons (.int _ _) (.cons (.int _ _) .nil)),hs,Ext.refl _ _ _⟩) hk
theorem aQD:bB Tryz.prog 182 15 [.tmp 2] (aL Tryz.f182):=fq Tryz.f182
theorem aDQ {i:Nat}(hi:i < 100){S:St}{k:V->St->Prop}(hk:k (.str (Lib.decDigits i)) S):RC Tryz.prog 182 [.int .i64 (.ofNat i)] S k :=
 RC.ofCalls aQD (fun ρ w l' _ hs hl=>by
  cases hl with
  | cons h1 hl =>
    cases h1;cases hl
    exact (Tryz.internal_strconv_small i hi w).mono fun e w' ⟨he,hw⟩=>by
     subst hw
     exact ⟨_,ρ,he,.str _,hs,Ext.refl _ _ _⟩) hk
def bC (l:List UInt8):List V:=l.map fun b=>.int .u8 (.ofNat b.toNat)
theorem cV (l:List UInt8):(bC l).length=l.length:=by simp [bC]
theorem aQu:bB Tryz.prog 184 167 [] (aL Tryz.f184):=fq Tryz.f184
open Go.Sort in
theorem aLs {u:Nat}(hu:u < 18446744073709551616){pre post:List V}{mid:List UInt8}(hm:mid.length=Lib.nDigits u)(h100:mid.length <= 100){S:St}{id c:Nat}{ex:Bool}{e:TypeId}{fl:Fl}(hfl:fl ≠ .ro)(hc:mid.length <= c)
  (hg:S.hs.get id=some (.cells (pre ++ bC mid ++ post) e fl)) {k:V->St->Prop} (hir:id < room) (hk:∀ S',S'.hs=S.hs.put id (some (.cells (pre ++ bC (Lib.decDigits u) ++ post) e fl))->k (.tup []) S') :
  RC Tryz.prog 184 [.slice id pre.length mid.length c 1 ex,.int .u64 (.ofNat u)] S k:=by
 have hn1:=Lib.nDigits_pos u;have hdl:=Lib.decDigits_length u
 obtain ⟨S',hS',hk'⟩:∃ S',S'.hs=S.hs.put id (some (.cells (pre ++ bC (Lib.decDigits u) ++ post) e fl))∧k (.tup []) S':=by
  have hq:bD id (some (.cells (pre ++ bC (Lib.decDigits u) ++ post) e fl)) S fun S'=>S'.hs=S.hs.put id (some (.cells (pre ++ bC (Lib.decDigits u) ++ post) e fl))∧k (.tup []) S':=aE hir fun S' h=>⟨h,hk S' h⟩
  obtain ⟨S',h,_⟩:=bS hq;exact ⟨S',h⟩
 refine RC.ofCalls (S':=S') aQu (fun ρ w l' _ hs hl=>?_) hk'
 cases hl with
 | cons h1 hl =>
 cases hl with
 | cons h2 hl =>
 cases h2;cases hl
 cases h1 with
 | sliceS _ _ _ _ _ off' cap' sp hloc ho hcc hx hll hr hsp =>
 rename_i l0
 obtain rfl:=hsp om;have hoff:off'=pre.length:=ho om;subst hoff;obtain ⟨lx,co,a,b,cc,f,rfl,hsz,hle,hcells,hrw,hex⟩:=hs.obj id _ hg;rw [hloc] at a;cases a
 have hlen:(pre ++ bC mid ++ post).length=pre.length+mid.length+post.length:=by simp [bC];omega
 have hH:Holds (fun (b:UInt8)=>Value.int .u8 (b.toNat:Int)) w l0.blk (l0.base+pre.length) ⟨mid⟩:=fun j hj=>by
  have hj':j < mid.length:=hj
  obtain ⟨v',hv',hvr⟩:=hcells (pre.length+j) (.int .u8 (.ofNat mid[j].toNat)) (by
   rw [List.append_assoc,List.getElem?_append_right om,Nat.add_sub_cancel_left,List.getElem?_append_left (by rw [cV];exact hj')]
   simp [bC,hj'])
  cases hvr;refine ⟨?_,?_⟩
  ·rw [show l0.base+pre.length+j=l0.base+(pre.length+j) by omega];simp [World.cell?,b,hv',hj']
  ·have h3:=(hrw hfl).2 (l0.base+pre.length+j) om;simp [World.frozen?,b];omega
 refine (Tryz.internal_strconv_formatBase10 l0.blk (l0.base+pre.length) cap' u ⟨mid⟩ w hH (by show u < 10 ^ mid.length;rw [hm];exact Lib.lt_pow_nDigits u) hu (by show mid.length < _;omega)).mono fun e' w' ⟨he,n,v',dk,hw,hfm⟩=>?_
 have hfm':Lib.FmtInv (Lib.nDigits u) u 0 v' dk:=by rw [<- hm];exact hfm
 have hdk:dk.toList=Lib.decDigits u:=by
  apply List.ext_getElem
  ·have:=hfm'.size;rw [Array.length_toList,this,hdl]
  ·intro j h1 h2;rw [Lib.row_is_numeral hfm' j h2,getElem!_pos dk j (by simpa using h1)];simp
 refine ⟨.tuple #[],ρ,he,.tup .nil,?_⟩;rw [hS',hw];have hput:=hs.put_cells (w':=putRow (fun (b:UInt8)=>Value.int .u8 (b.toNat:Int)) w l0.blk (l0.base+pre.length) dk) (cs':=pre ++ bC (Lib.decDigits u) ++ post) (fl':=fl) hg hloc (hrw hfl).1 (co':=.cells (putCells (fun (b:UInt8)=>Value.int .u8 (b.toNat:Int)) (l0.base+pre.length) dk cc) e f) ?_ ?_ ?_ rfl rfl rfl ?_ (af _)
 ·exact ⟨hput.1.ahead n,hput.2.trans (Ext.ahead _ _ _ n)⟩
 ·show (w.heap.modify l0.blk (onCells _))[l0.blk]?=_;rw [Array.getElem?_modify,if_pos rfl,b];rfl
 ·intro b' hb';show (w.heap.modify l0.blk (onCells _))[b']?=_;rw [Array.getElem?_modify,if_neg (Ne.symm hb')]
 ·show (w.heap.modify l0.blk _).size=_;simp
 ·have hdks:dk.size=mid.length:=by rw [hfm'.size,hm]
  have hlen':(pre ++ bC (Lib.decDigits u) ++ post).length=(pre ++ bC mid ++ post).length:=by simp [bC,hdl,hm]
  refine ⟨_,f,rfl,by simpa [putCells] using hsz,by rw [hlen'];simpa [putCells] using hle,fun i v hv=>?_,fun h=>⟨(hrw h).1,fun o ho=>(hrw h).2 o (by simpa [putCells] using ho)⟩,fun h=>by rw [hlen'];simpa [putCells] using hex h⟩
  have hi:i < (pre ++ bC mid ++ post).length:=by rw [<- hlen'];exact (ao.1 hv).1
  have hlt2:l0.base+i < cc.size:=om
  have hput:(putCells (fun (b:UInt8)=>Value.int .u8 (b.toNat:Int)) (l0.base+pre.length) dk cc)[l0.base+i]?=some (if l0.base+pre.length <= l0.base+i∧l0.base+i < l0.base+pre.length+dk.size then .int .u8 ((dk[l0.base+i - (l0.base+pre.length)]!).toNat:Int) else cc[l0.base+i]):=by
   simp only [putCells,Array.getElem?_mapIdx,Array.getElem?_eq_getElem hlt2,Option.map_some]
  rw [hput];refine ⟨_,rfl,?_⟩;by_cases hin:pre.length <= i∧i < pre.length+mid.length
  ·rw [if_pos om];have e1:l0.base+i - (l0.base+pre.length)=i - pre.length:=om;rw [e1];rw [List.append_assoc,List.getElem?_append_right hin.1,List.getElem?_append_left (by rw [cV,hdl];omega)] at hv
   have hj:i - pre.length < (Lib.decDigits u).length:=by rw [hdl];omega
   have:v=.int .u8 (.ofNat ((Lib.decDigits u)[i - pre.length]).toNat):=by simpa [bC,hj] using hv.symm
   rw [this,Lib.row_is_numeral hfm' _ hj];exact .int _ _
  ·rw [if_neg om]
   have hv2:(pre ++ bC mid ++ post)[i]?=some v:=by
    rw [<- hv]
    rcases Nat.lt_or_ge i pre.length with h|h
    ·rw [List.append_assoc,List.append_assoc,List.getElem?_append_left h,List.getElem?_append_left h]
    ·have h':pre.length+mid.length <= i:=by
      rcases Nat.lt_or_ge i (pre.length+mid.length) with h2|h2
      ·exact absurd ⟨h,h2⟩ hin
      ·exact h2
     rw [List.getElem?_append_right (by simp [bC];omega),List.getElem?_append_right (by simp [bC,hdl];omega)];simp [bC,hdl,hm]
   obtain ⟨v2,h2,h3⟩:=hcells i v hv2;rw [Array.getElem?_eq_getElem hlt2] at h2;rw [Option.some.inj h2];exact h3
def aBL:List V:=(List.range 20).map fun i=>.int .u64 (.ofNat (10 ^ i))
theorem aOX {i:Nat}(h:i < 20):aBL[i]?=some (.int .u64 (.ofNat (10 ^ i))):=by simp [aBL,h]
theorem aDE:V.flat.V.flatL aBL=true:=kr
theorem aEg:pY Tryz.prog 47=some false:=kr
def jB (S:St):Prop:=∃ e,S.hs.get 4=some (.cells aBL e .ro)
theorem aVg:bB Tryz.prog 222 6 [.tmp 2] (aL Tryz.f222):=fq Tryz.f222
theorem aQT {x:Nat}(hx:x <= 64){S:St}{k:V->St->Prop}(hk:k (.int .i64 (.ofNat (Lib.l10 x))) S):RC Tryz.prog 222 [.int .i64 (.ofNat x)] S k:=by
 refine RC.run mixed aS (aG aVg ?_);refine enter ?_;refine go ?_;refine bI (x * 78913) ?_;refine go ?_;refine dM (x * 78913 / 2 ^ 18) (pL (x * 78913) (2 ^ 18)) ?_;refine go ?_;exact hk
theorem aUN:bB Tryz.prog 223 4 [.tmp 2] (aL Tryz.f223):=fq Tryz.f223
theorem aAo {b:Bool}{S:St}{k:V->St->Prop}(hk:k (.int .i64 (.ofNat b.toNat)) S):RC Tryz.prog 223 [.bool b] S k:=by
 refine RC.run mixed aS (aG aUN ?_);refine enter ?_;refine go ?_
 cases b with
 | true =>
   refine go ?_;exact hk
 | false =>
   refine go ?_;exact hk
theorem aWW:bB Tryz.prog 183 15 [.tmp 2] (aL Tryz.f183):=fq Tryz.f183
theorem oZ {u:Nat}(h1:1 <= u)(hu:u < 18446744073709551616){S:St}(h10:jB S){k:V->St->Prop}(hk:k (.int .i64 (.ofNat (Lib.nDigits u))) S):RC Tryz.prog 183 [.int .u64 (.ofNat u)] S k:=by
 obtain ⟨e,h10⟩:=h10;obtain ⟨n1,n2⟩:=Lib.numDigits_eq u h1 hu;have hb:Lib.bitLen u <= 64:=Lib.bitLen_le u 64 (af _) hu;refine RC.run mixed aS (aG aWW ?_);refine enter ?_;refine go ?_;refine aDw hu ?_;refine go ?_;refine aQT hb ?_;refine go ?_;refine ifK_intro (ag (show _+1 <= 20 by omega)) ?_;refine go ?_;refine aA h10 ?_;refine aH aEg (Lib.l10 (Lib.bitLen u)) (by show 0+_ * 1=_;omega) (aOX om) ?_;refine go ?_;refine bE (fun h=>?_) (fun h=>?_)
 ·refine go ?_;refine aAo ?_;refine go ?_;rw [if_neg om] at n1;refine bI (Lib.nDigits u) ?_ (by show Int.add (Int.ofNat _) 0=_;rw [<- n1];rfl) om;refine go ?_;exact hk
 ·refine go ?_;refine aAo ?_;refine go ?_;rw [if_pos h] at n1;refine bI (Lib.nDigits u) ?_ (by show Int.add (Int.ofNat _) 1=_;rw [<- n1];rfl) om;refine go ?_;exact hk
theorem lO {u:Nat}(h1:1 <= u)(hu:u < 18446744073709551616):Lib.nDigits u <= 20:=by
 obtain ⟨n1,n2⟩:=Lib.numDigits_eq u h1 hu
 split at n1 <;> omega
theorem aKB {α:Type}{n:Nat}{l m:List α}{k:List α->Prop}(hl:n <= l.length)(h:l.take n=m)(hk:k m):fX n l k:=bJ hl (by rw [h];exact hk)
theorem fG:∀ {l:List UInt8} {k:List UInt8->Prop},k l->xR (bC l) k
 | [],k,h=>h
 | b :: l,k,h=>by
   show dD (Nat.blt b.toNat 256) (xR (bC l) fun r=>k (UInt8.ofNat b.toNat :: r));refine ifK_intro (ag (UInt8.toNat_lt b)) (fG ?_);rw [show UInt8.ofNat b.toNat=b from UInt8.ofNat_toNat];exact h
theorem aBm {u:Nat}{pre post:List V}{mid:List UInt8}{off n es:Nat}(ho:off=pre.length)(hn:n=mid.length)(hes:es=1)(hm:mid.length=Lib.nDigits u)(h100:mid.length <= 100){S:St}{id c:Nat}{ex:Bool}{e:TypeId}{fl:Fl}(hfl:fl ≠ .ro)(hc:mid.length <= c)(hu:u < 18446744073709551616)
  (hg:S.hs.get id=some (.cells (pre ++ bC mid ++ post) e fl)) {k:V->St->Prop} (hir:id < room) (hk:∀ S',S'.hs=S.hs.put id (some (.cells (pre ++ bC (Lib.decDigits u) ++ post) e fl))->k (.tup []) S') :
  RC Tryz.prog 184 [.slice id off n c es ex,.int .u64 (.ofNat u)] S k:=by subst ho;subst hn;subst hes;exact aLs hu hm h100 hfl hc hg hir hk
theorem aVb:bB Tryz.prog 134 32 [.tmp 4] (aL Tryz.f134):=fq Tryz.f134
theorem aTt:bB Tryz.prog 94 8 [.tmp 4] (aL Tryz.f94):=fq Tryz.f94
theorem pM {S:St}(h:jB S):∃ e,Gb [(4,.cells aBL e .ro)] S:=by
 obtain ⟨e,h⟩:=h;exact ⟨e,.cons (show 4 < 1000 by decide) rfl h (fun _ _ _=>aED aDE) (.nil _)⟩
theorem aQK {u:Nat}(hu:u < 18446744073709551616){S:St}(h10:jB S){k:V->St->Prop}(hk:k (.str (Lib.decDigits u)) S):RC Tryz.prog 134 [.int .u64 (.ofNat u),.int .i64 10] S k:=by
 obtain ⟨e,hgb⟩:=pM h10;refine RC.pureG mixed aVb _ hgb hk ?_;refine build ?_;refine enter ?_;refine go ?_;refine bE (fun (h:_ < 100)=>?_) (fun (h:100 <= _)=>?_)
 ·refine go ?_;refine bI u ?_;refine go ?_;refine aDQ h ?_;refine go ?_;rfl
 ·refine go ?_;refine oZ om hu ⟨e,rfl⟩ ?_;have hn:=lO om hu;refine go ?_;refine ifK_intro (ag (show _ <= 24 by omega)) ?_;refine go ?_
  have hz:List.replicate 24 (V.int .u8 (.ofNat 0))=[] ++ bC (List.replicate (Lib.nDigits u) 0) ++ List.replicate (24 - Lib.nDigits u) (V.int .u8 (.ofNat 0)):=by
   have e1:bC (List.replicate (Lib.nDigits u) 0)=List.replicate (Lib.nDigits u) (V.int .u8 (.ofNat 0)):=by simp [bC]
   rw [e1,List.nil_append,List.replicate_append_replicate]
   congr 1;omega
  refine aBm (pre:=[]) (post:=List.replicate (24 - Lib.nDigits u) (V.int .u8 (.ofNat 0))) (mid:=List.replicate (Lib.nDigits u) 0) (e:=277) (fl:=.ex) rfl sm rfl sm (by simp;omega) sm (by simp;omega) hu (show _=some (O.cells _ _ _) by rw [<- hz];rfl) dc fun S1 hS1=>?_;refine go ?_;refine aA (aR hS1) ?_
  have hl24:([] ++ bC (Lib.decDigits u) ++ List.replicate (24 - Lib.nDigits u) (V.int .u8 (.ofNat 0))).length=24:=by simp [cV,Lib.decDigits_length];omega
  refine go ?_;refine ifK_intro (by rw [aM,hl24];rfl) ?_;refine go ?_;refine ifK_intro (ag (show Lib.nDigits u <= 24 by omega)) ?_;refine go ?_;refine aA (aR hS1) ?_;refine go ?_
  have e2:List.take (Lib.nDigits u) ([] ++ bC (Lib.decDigits u) ++ List.replicate (24 - Lib.nDigits u) (V.int .u8 (.ofNat 0)))=bC (Lib.decDigits u):=by
   rw [List.nil_append,List.take_left' (by rw [cV,Lib.decDigits_length])]
  refine aKB (by rw [hl24];show Lib.nDigits u <= 24;omega) e2 ?_;refine fG ?_;refine go ?_;rfl
theorem aGe {u:Nat}(hu:u < 18446744073709551616){S:St}(h10:jB S){k:V->St->Prop}(hk:k (.str (Lib.decDigits u)) S):RC Tryz.prog 94 [.int .u64 (.ofNat u),.int .i64 10] S k:=by
 refine RC.run mixed aS (aG aTt ?_);refine enter ?_;refine go ?_;refine aQK hu h10 ?_;refine go ?_;exact hk
end Go.Am
namespace Fp
def us (h mid l2 S:Nat):Nat :=
 if h / S * S ≠ h then (h / S) ||| 1
 else ((if mid < l2 then h - 1 else h) / S) ||| (if (mid+2 ^ 64 - l2) % 2 ^ 64 > 1 then 1 else 0)
theorem or1_even (n:Nat):(4 * n) ||| 1=4 * n+1:=by
 have h:4 * n+1=2 ^ 1 * (2 * n)+1:=by omega
 have k:=Nat.two_pow_add_eq_or_of_lt (i:=1) (b:=1) (by decide) (2 * n);rw [h,k];congr 1;omega
theorem or1_odd (n:Nat)(b:Nat)(hb:b <= 1)(h:0 < n):(4 * n - 1) ||| b=4 * n - 1:=by
 have hn:4 * n - 1=2 ^ 1 * (2 * n - 1)+1:=by omega
 have k:=Nat.two_pow_add_eq_or_of_lt (i:=1) (b:=1) (by decide) (2 * n - 1)
 have hb':b=0 ∨ b=1:=by omega
 rcases hb' with rfl|rfl
 ·simp
 ·rw [hn,k,Nat.or_assoc,Nat.or_self]
theorem le_of_mul {q n W:Nat}(h:q * W < (n+1) * W):q <= n:=by
 have:=Nat.lt_of_mul_lt_mul_right h;omega
theorem us_near {h mid L S W M T B:Nat}(hB:B=2 ^ 128)(hL:L < B)
  (hm:mid * 2 ^ 64 < B) (hs:4 <= S) (hW:S * B=W) (hM:0 < M)
  (hT:T+L=h * B+mid * 2 ^ 64)
  (h1:4 * ((4 * M) * W) < 4 * T+W)
  (h2:4 * T < 4 * ((4 * M) * W)+W) :
  us h mid (L / 2 ^ 64) S=4 * M - 1 ∨ us h mid (L / 2 ^ 64) S=4 * M ∨
   us h mid (L / 2 ^ 64) S=4 * M+1:=by
 have hB0:0 < B:=by rw [hB];decide
 clear hB;unfold us;have hq:=Nat.div_add_mod h S;have hr:h % S < S:=Nat.mod_lt _ (by omega);generalize hq0:h / S=q at hq ⊢;generalize hr0:h % S=r at hq hr
 have hTq:T+L=q * W+r * B+mid * 2 ^ 64:=by
  rw [hT,<- hq,<- hW,Nat.add_mul,Nat.mul_comm S q,Nat.mul_assoc]
 have hSr:r * B+B <= W:=by
  rw [<- hW];have:(r+1) * B <= S * B:=Nat.mul_le_mul_right _ (by omega);rw [Nat.add_mul] at this;omega
 have hW4:4 * B <= W:=by
  rw [<- hW];exact Nat.mul_le_mul_right _ hs
 generalize mid * 2 ^ 64=mm at hm hT hTq;by_cases hr1:r=0
 ·subst hr1
  have hqs:q * S=h:=by rw [Nat.mul_comm];omega
  rw [if_neg (by simp [hqs])]
  have hqM:q=4 * M:=by
   have a:q * W < (4 * M+1) * W:=by rw [Nat.add_mul];omega
   have b:(4 * M) * W < (q+1) * W:=by rw [Nat.add_mul];omega
   have:=le_of_mul a;have:=le_of_mul b;omega
  by_cases hmid:mid < L / 2 ^ 64
  ·rw [if_pos hmid]
   have hd:(h - 1) / S=4 * M - 1:=by
    rw [<- hqs,hqM];apply Nat.div_eq_of_lt_le
    ·rw [Nat.sub_mul];omega
    ·have:4 * M - 1+1=4 * M:=by omega
     rw [this];have:0 < 4 * M * S:=Nat.mul_pos (by omega) (by omega);omega
   rw [hd,or1_odd M _ (by split <;> omega) hM];exact Or.inl rfl
  ·rw [if_neg hmid,hq0,hqM]
   split
   ·rw [or1_even];exact Or.inr (Or.inr rfl)
   ·simp
 ·have hne:q * S ≠ h:=by
   rw [Nat.mul_comm];omega
  rw [if_pos hne]
  have hrB:B <= r * B:=by
   have:1 * B <= r * B:=Nat.mul_le_mul_right _ (by omega);omega
  have a:q * W < (4 * M+1) * W:=by rw [Nat.add_mul];omega
  have b:(4 * M) * W < (q+1+1) * W:=by
   rw [Nat.add_mul,Nat.add_mul];omega
  have a':=le_of_mul a;have b':=le_of_mul b
  have:q=4 * M ∨ q=4 * M - 1:=by omega
  rcases this with hh|hh
  ·rw [hh,or1_even];exact Or.inr (Or.inr rfl)
  ·rw [hh,or1_odd M 1 (by omega) hM];exact Or.inl rfl
def rnd (u:Nat):Nat:=(u+1+u / 4 % 2) / 4
theorem rnd_near {u M:Nat}(hM:0 < M)(h:u=4 * M - 1 ∨ u=4 * M ∨ u=4 * M+1):rnd u=M:=by
 unfold rnd
 rcases h with h|h|h <;> omega
def half (u:Nat):Nat:=u / 2 ||| u % 2
theorem half_near {u M:Nat}(hM:0 < M)(h:u=4 * (2 * M) - 1 ∨ u=4 * (2 * M) ∨ u=4 * (2 * M)+1) :
  half u=4 * M - 1 ∨ half u=4 * M ∨ half u=4 * M+1:=by
 unfold half
 rcases h with h|h|h
 ·left
  have a:u / 2=4 * M - 1:=by omega
  have b:u % 2=1:=by omega
  rw [a,b,or1_odd M 1 (by omega) hM]
 ·right;left
  have a:u / 2=4 * M:=by omega
  have b:u % 2=0:=by omega
  rw [a,b];simp
 ·right;right
  have a:u / 2=4 * M:=by omega
  have b:u % 2=1:=by omega
  rw [a,b,or1_even]
end Fp
namespace Fp
theorem scale {d K X pm N H D G E F W M T t : Nat}(hX : X = d * K)(hT : T = X * pm)
    (tab1 : pm * (D * G) <= N * H + D * G) (tab2 : N * H <= pm * (D * G) + D * G)
    (id4 : 4 * (W * (G * E)) = K * H * F)
    (v1 : d * (N * E) <= M * (D * F) + t) (v2 : M * (D * F) <= d * (N * E) + t)
    (ht : 55 * t <= D * F) (hXW : 8 * X <= W) (hW : 0 < W) (hD : 0 < D) (hG : 0 < G) (hE : 0 < E) :
    4 * ((4 * M) * W) < 4 * T + W ∧ 4 * T < 4 * ((4 * M) * W) + W := by
  have hZ : 0 < D * G * E := Nat.mul_pos (Nat.mul_pos hD hG) hE
  -- the sides, times D * G * E
  have a1 : T * (D * G * E) = X * E * (pm * (D * G)) := by rw [hT]; ac_rfl
  have a2 : X * E * (pm * (D * G)) <= X * E * (N * H) + X * E * (D * G) := by
    rw [<- Nat.mul_add]; exact Nat.mul_le_mul_left _ tab1
  have a3 : X * E * (N * H) <= X * E * (pm * (D * G)) + X * E * (D * G) := by
    rw [<- Nat.mul_add]; exact Nat.mul_le_mul_left _ tab2
  have a4 : X * E * (N * H) = K * H * (d * (N * E)) := by rw [hX]; ac_rfl
  have a5 : K * H * (d * (N * E)) <= K * H * (M * (D * F)) + K * H * t := by
    rw [<- Nat.mul_add]; exact Nat.mul_le_mul_left _ v1
  have a6 : K * H * (M * (D * F)) <= K * H * (d * (N * E)) + K * H * t := by
    rw [<- Nat.mul_add]; exact Nat.mul_le_mul_left _ v2
  have a7 : K * H * (M * (D * F)) = 4 * (M * W * (D * G * E)) := by
    calc K * H * (M * (D * F)) = (K * H * F) * (M * D) := by ac_rfl
      _ = 4 * (W * (G * E)) * (M * D) := by rw [id4]
      _ = 4 * (M * W * (D * G * E)) := by ac_rfl
  have a8 : 55 * (K * H * t) <= 4 * (W * (D * G * E)) := by
    calc 55 * (K * H * t) = K * H * (55 * t) := by ac_rfl
      _ <= K * H * (D * F) := Nat.mul_le_mul_left _ ht
      _ = (K * H * F) * D := by ac_rfl
      _ = 4 * (W * (G * E)) * D := by rw [id4]
      _ = 4 * (W * (D * G * E)) := by ac_rfl
  have a9 : X * E * (D * G) = X * (D * G * E) := by ac_rfl
  have a10 : 8 * (X * (D * G * E)) <= W * (D * G * E) := by
    rw [<- Nat.mul_assoc]; exact Nat.mul_le_mul_right _ hXW
  have hw : 0 < W * (D * G * E) := Nat.mul_pos hW hZ
  have b1 : 4 * ((4 * M) * W) * (D * G * E) = 16 * (M * W * (D * G * E)) := by
    calc 4 * ((4 * M) * W) * (D * G * E) = (4 * 4) * (M * W * (D * G * E)) := by ac_rfl
      _ = 16 * (M * W * (D * G * E)) := rfl
  constructor
  · apply Nat.lt_of_mul_lt_mul_right (a := D * G * E)
    rw [b1, Nat.add_mul, Nat.mul_assoc 4 T, a1];omega
  · apply Nat.lt_of_mul_lt_mul_right (a := D * G * E)
    rw [Nat.add_mul, b1, Nat.mul_assoc 4 T, a1];omega
end Fp
namespace Fp
def A74:Nat:=2 ^ 1074
def A12:Nat:=2 ^ 1200
def A13:Nat:=2 ^ 1327
def Tn:Nat:=10 ^ 18
theorem gen1 (n k m:Nat)(h:n+1=k+m):2 * 2 ^ n=2 ^ k * 2 ^ m:=by
 rw [<- Nat.pow_add,<- h,Nat.pow_succ,Nat.mul_comm]
theorem gen2 (n k m:Nat)(h:n=k+m):2 ^ n=2 ^ k * 2 ^ m:=by
 rw [<- Nat.pow_add,<- h]
theorem a12:2 * A12=2 ^ 127 * A74:=by
 unfold A12 A74;exact gen1 1200 127 1074 (by decide)
theorem a13:A13=2 ^ 127 * A12:=by
 unfold A13 A12;exact gen2 1327 127 1200 (by decide)
theorem a74pos:0 < A74:=by unfold A74;exact Nat.two_pow_pos 1074
theorem a12pos:0 < A12:=by unfold A12;exact Nat.two_pow_pos 1200
theorem tn:Tn=10 ^ 18:=rfl
attribute [irreducible] A74 A12 A13 Tn
def pack (m j:Nat):Nat:=if m < 2 ^ 52 then m else m - 2 ^ 52+(j+1) * 2 ^ 52
def u64 (d b g hi lo:Nat):Nat :=
 us (d * 2 ^ (64 - b) * hi / 2 ^ 64) (d * 2 ^ (64 - b) * hi % 2 ^ 64)
  (d * 2 ^ (64 - b) * lo / 2 ^ 64) (2 ^ (187+(b+g - 179) - (b+g)))
def parse64 (d b g hi lo:Nat):Nat :=
 if 2 ^ 55 - 2 <= u64 d b g hi lo then pack (rnd (half (u64 d b g hi lo))) (b+g - 179+1)
 else pack (rnd (u64 d b g hi lo)) (b+g - 179)
structure Row (N D g hi lo:Nat):Prop where
 d0:0 < D
 hi64:hi < 2 ^ 64
 lo64:lo < 2 ^ 64
 le:lo <= hi * 2 ^ 64
 t1:(hi * 2 ^ 64 - lo) * (D * 2 ^ g) <= N * A13+D * 2 ^ g
 t2:N * A13 <= (hi * 2 ^ 64 - lo) * (D * 2 ^ g)+D * 2 ^ g
 t3:D * 2 ^ g <= N * A12
 t4:(N * A12) * (Tn+1) <= (D * 2 ^ g * 2) * Tn
structure Rep (f r:Nat):Prop where
 f0:0 < f
 f53:f < 2 ^ 53
 norm:2 ^ 52 <= f ∨ r=0
structure Near (d b N D f r t:Nat):Prop where
 b64:b <= 64
 b1:2 ^ b <= 2 * d
 b2:d < 2 ^ b
 v1:d * (N * A74) <= f * 2 ^ r * D+t
 v2:f * 2 ^ r * D <= d * (N * A74)+t
 ht:t * Tn <= d * (N * A74)
section
variable {d b N D g hi lo f r t:Nat}
theorem pw (a c:Nat):2 ^ (a+c)=2 ^ a * 2 ^ c:=Nat.pow_add 2 a c
theorem low (R : Row N D g hi lo)(Q : Near d b N D f r t)(x : Nat)(hx : x + 127 = b + g) :
    2 ^ x * D <= d * (N * A74) := by
  apply Nat.le_of_mul_le_mul_right (c := 2 * A12) ?_ (Nat.mul_pos (by decide) a12pos)
  calc 2 ^ x * D * (2 * A12) = (2 ^ x * 2 ^ 127) * A74 * D := by
        rw [a12]; generalize (2 : Nat) ^ x = y; generalize (2 : Nat) ^ 127 = z; ac_rfl
    _ = (2 ^ b * 2 ^ g) * A74 * D := by rw [<- pw x 127, hx, pw b g]
    _ = 2 ^ b * (D * 2 ^ g) * A74 := by ac_rfl
    _ <= (2 * d) * (N * A12) * A74 :=
        Nat.mul_le_mul_right _ (Nat.mul_le_mul Q.b1 R.t3)
    _ = d * (N * A74) * (2 * A12) := by ac_rfl
theorem high (R : Row N D g hi lo)(Q : Near d b N D f r t)(x : Nat)(hx : b + g <= x + 125) :
    f * 2 ^ r * D < 2 ^ x * D := by
  have e1 : Tn * (f * 2 ^ r * D) <= (Tn + 1) * (d * (N * A74)) := by
    have h1 := Nat.mul_le_mul_left Tn Q.v2;have h2 := Q.ht;rw [Nat.mul_comm t] at h2;rw [Nat.mul_add] at h1;rw [Nat.add_mul];omega
  have e2 : (Tn + 1) * (d * (N * A74)) * (2 * A12) < Tn * (2 ^ x * D) * (2 * A12) := by
    have hd : d * (2 * A74 * (N * A12 * (Tn + 1))) < 2 ^ b * (2 * A74 * (D * 2 ^ g * 2 * Tn)) := by
      apply Nat.mul_lt_mul_of_lt_of_le Q.b2 (Nat.mul_le_mul_left _ R.t4);apply Nat.mul_pos (Nat.mul_pos (by decide) a74pos);refine Nat.mul_pos (Nat.mul_pos (Nat.mul_pos R.d0 (Nat.pow_pos (by decide))) (by decide)) ?_;rw [tn]; decide
    calc (Tn + 1) * (d * (N * A74)) * (2 * A12) = d * (2 * A74 * (N * A12 * (Tn + 1))) := by ac_rfl
      _ < 2 ^ b * (2 * A74 * (D * 2 ^ g * 2 * Tn)) := hd
      _ = (2 ^ b * 2 ^ g) * (4 * (A74 * (D * Tn))) := by
          have : (2 * A74 * (D * 2 ^ g * 2 * Tn)) = 2 ^ g * ((2 * 2) * (A74 * (D * Tn))) := by ac_rfl
          rw [this, <- Nat.mul_assoc]
      _ <= (2 ^ x * 2 ^ 125) * (4 * (A74 * (D * Tn))) := by
          rw [<- pw b g, <- pw x 125];exact Nat.mul_le_mul_right _ (Nat.pow_le_pow_right (by decide) hx)
      _ = 2 ^ x * (2 ^ 125 * 4) * (A74 * (D * Tn)) := by
          generalize (2 : Nat) ^ 125 = z; ac_rfl
      _ = 2 ^ x * 2 ^ 127 * (A74 * (D * Tn)) := by rfl
      _ = Tn * (2 ^ x * D) * (2 ^ 127 * A74) := by
          generalize (2 : Nat) ^ 127 = z; ac_rfl
      _ = Tn * (2 ^ x * D) * (2 * A12) := by rw [a12]
  have e3 := Nat.lt_of_mul_lt_mul_right e2;exact Nat.lt_of_mul_lt_mul_left (a := Tn) (by omega)
end
end Fp
namespace Fp
theorem ac4 (a b c d:Nat):a * (b * c) * d=a * b * (c * d):=by ac_rfl
theorem ac5 (a b c:Nat):a * b * c=b * (a * c):=by ac_rfl
theorem ac6 (a b c:Nat):a * (b * c)=a * (c * b):=by ac_rfl
theorem ac7 (k z a j:Nat):2 * (k * (z * a) * j)=k * z * j * (2 * a):=by ac_rfl
theorem ac8 (k z j a:Nat):k * z * j * (z * a)=k * z * z * j * a:=by ac_rfl
theorem ac9 (s y g a:Nat):2 * (4 * (s * y * (g * a)))=2 * (4 * (s * y * g)) * a:=by ac_rfl
theorem pwe {a b:Nat}(h:a=b):2 ^ a=2 ^ b:=by rw [h]
theorem mre {a b:Nat}(c:Nat)(h:a=b):a * c=b * c:=by rw [h]
section
variable {d b N D g hi lo f r t:Nat}
theorem big (R:Row N D g hi lo)(P:Rep f r)(Q:Near d b N D f r t):126 <= b+g:=by
 apply Nat.le_of_not_lt;intro h;have:=high R Q 0 (by omega);have h1:0 < f * 2 ^ r:=Nat.mul_pos P.f0 (Nat.two_pow_pos r);have h2:1 * D <= f * 2 ^ r * D:=Nat.mul_le_mul_right _ h1;omega
theorem yv (Q:Near d b N D f r t):d * (N * A74) <= f * 2 ^ r * D+t∧t * 10 ^ 18 <= d * (N * A74):=by
 have:=Q.v1;have h:=Q.ht;rw [tn] at h;exact ⟨this,h⟩
theorem jr (R:Row N D g hi lo)(P:Rep f r)(Q:Near d b N D f r t):b+g - 179 <= r:=by
 apply Nat.le_of_not_lt;intro h;have h1:=low R Q (b+g - 179+52) (by omega);obtain ⟨h2,h3⟩:=yv Q;obtain ⟨j,hj⟩:∃ j,b+g - 179=j+1:=⟨b+g - 179 - 1,by omega⟩
 rw [hj] at h1 h
 have e1:2 ^ (j+1+52) * D=2 ^ 53 * (2 ^ j * D):=by
  rw [show j+1+52=53+j by omega,Nat.pow_add,Nat.mul_assoc]
 have hr:2 ^ r <= 2 ^ j:=Nat.pow_le_pow_right (by decide) (by omega)
 have e2:f * 2 ^ r * D <= (2 ^ 53 - 1) * (2 ^ j * D):=by
  rw [Nat.mul_assoc];exact Nat.mul_le_mul (by have:=P.f53;omega) (Nat.mul_le_mul_right _ hr)
 have hz:0 < 2 ^ j * D:=Nat.mul_pos (Nat.two_pow_pos j) R.d0;rw [e1] at h1;generalize 2 ^ j * D=z at *;generalize d * (N * A74)=y at *;generalize f * 2 ^ r * D=v at *;omega
theorem vM (R:Row N D g hi lo)(P:Rep f r)(Q:Near d b N D f r t) :
  f * 2 ^ r * D=(f * 2 ^ (r - (b+g - 179))) * (2 ^ (b+g - 179) * D):=by
 have h:=jr R P Q
 have:2 ^ r=2 ^ (r - (b+g - 179)) * 2 ^ (b+g - 179):=by
  rw [<- Nat.pow_add];exact pwe (by omega)
 rw [this];exact ac4 _ _ _ _
theorem Mhi (R:Row N D g hi lo)(P:Rep f r)(Q:Near d b N D f r t) :
  f * 2 ^ (r - (b+g - 179)) < 2 ^ 54:=by
 have h:=high R Q (b+g - 179+54) (by omega);rw [vM R P Q,Nat.pow_add,ac5 (2 ^ (b+g - 179))] at h;exact Nat.lt_of_mul_lt_mul_right h
theorem tz (R:Row N D g hi lo)(_P:Rep f r)(Q:Near d b N D f r t) :
  55 * t <= 2 ^ (b+g - 179) * D:=by
 have h:=high R Q (b+g - 179+54) (by omega);obtain ⟨h2,h3⟩:=yv Q;rw [Nat.pow_add,ac5 (2 ^ (b+g - 179))] at h;generalize 2 ^ (b+g - 179) * D=z at *;generalize d * (N * A74)=y at *;generalize f * 2 ^ r * D=v at *;omega
theorem Mlo (R:Row N D g hi lo)(P:Rep f r)(Q:Near d b N D f r t)(hj:0 < b+g - 179) :
  2 ^ 52 <= f * 2 ^ (r - (b+g - 179)):=by
 have h1:=low R Q (b+g - 179+52) (by omega);obtain ⟨h2,h3⟩:=yv Q;have h4:=tz R P Q;have hz:0 < 2 ^ (b+g - 179) * D:=Nat.mul_pos (Nat.two_pow_pos _) R.d0;rw [Nat.pow_add,ac5 (2 ^ (b+g - 179))] at h1;rw [vM R P Q] at h2;generalize f * 2 ^ (r - (b+g - 179))=M at *;generalize 2 ^ (b+g - 179) * D=z at *
 have:2 ^ 52 * z < (M+1) * z:=by rw [Nat.add_mul];omega
 have:=Nat.lt_of_mul_lt_mul_right this;omega
theorem Xlt (Q:Near d b N D f r t):d * 2 ^ (64 - b) < 2 ^ 64:=by
 have:d * 2 ^ (64 - b) < 2 ^ b * 2 ^ (64 - b):=Nat.mul_lt_mul_of_pos_right Q.b2 (Nat.two_pow_pos _);rw [<- Nat.pow_add,show b+(64 - b)=64 by have:=Q.b64;omega] at this;exact this
theorem u_near (R : Row N D g hi lo)(P : Rep f r)(Q : Near d b N D f r t) :
    u64 d b g hi lo = 4 * (f * 2 ^ (r - (b + g - 179))) - 1 ∨
    u64 d b g hi lo = 4 * (f * 2 ^ (r - (b + g - 179))) ∨
    u64 d b g hi lo = 4 * (f * 2 ^ (r - (b + g - 179))) + 1 := by
  have hX := Xlt Q;have hbg := big R P Q;have hM : 0 < f * 2 ^ (r - (b + g - 179)) := Nat.mul_pos P.f0 (Nat.two_pow_pos _)
  have hL : d * 2 ^ (64 - b) * lo < 2 ^ 128 := by
    calc d * 2 ^ (64 - b) * lo < 2 ^ 64 * 2 ^ 64 := Nat.mul_lt_mul'' hX R.lo64
      _ = 2 ^ 128 := by decide
  have hmid : d * 2 ^ (64 - b) * hi % 2 ^ 64 * 2 ^ 64 < 2 ^ 128 := by
    have : d * 2 ^ (64 - b) * hi % 2 ^ 64 < 2 ^ 64 := Nat.mod_lt _ (Nat.two_pow_pos 64);have := Nat.mul_lt_mul_of_pos_right this (Nat.two_pow_pos 64);rw [<- Nat.pow_add] at this;exact this
  have hS : 4 <= 2 ^ (187 + (b + g - 179) - (b + g)) := by
    calc 4 = 2 ^ 2 := rfl
      _ <= _ := Nat.pow_le_pow_right (by decide) (by omega)
  have hXhi := Nat.div_add_mod (d * 2 ^ (64 - b) * hi) (2 ^ 64)
  have hsc := scale (d := d) (K := 2 ^ (64 - b)) (X := d * 2 ^ (64 - b)) (pm := hi * 2 ^ 64 - lo) (N := N)
    (H := A13) (D := D) (G := 2 ^ g) (E := A74) (F := 2 ^ (b + g - 179))
    (W := 2 ^ (187 + (b + g - 179) - (b + g)) * 2 ^ 128) (M := f * 2 ^ (r - (b + g - 179)))
    (T := d * 2 ^ (64 - b) * (hi * 2 ^ 64 - lo)) (t := t) rfl rfl R.t1 R.t2
    (by
      refine Nat.eq_of_mul_eq_mul_left (show 0 < 2 by decide) ?_;rw [a13, ac7, a12, ac8, ac9, show (4 : Nat) = 2 ^ 2 from rfl];refine mre _ ?_;rw [show ∀ x : Nat, 2 * x = 2 ^ 1 * x from fun x => by rw [Nat.pow_one]];simp only [<- Nat.pow_add];have := Q.b64
      exact pwe (by omega))
    (by
      have := Q.v1
      rw [show (f * 2 ^ (r - (b + g - 179))) * (D * 2 ^ (b + g - 179)) = f * 2 ^ r * D by
        rw [vM R P Q, ac6]]
      exact this)
    (by
      have := Q.v2
      rw [show (f * 2 ^ (r - (b + g - 179))) * (D * 2 ^ (b + g - 179)) = f * 2 ^ r * D by
        rw [vM R P Q, ac6]]
      exact this)
    (by have := tz R P Q; rw [Nat.mul_comm D]; exact this)
    (by
      have : 1 * 2 ^ 128 <= 2 ^ (187 + (b + g - 179) - (b + g)) * 2 ^ 128 :=
        Nat.mul_le_mul_right _ (by omega)
      have h8 : 8 * (d * 2 ^ (64 - b)) <= 8 * 2 ^ 64 := Nat.mul_le_mul_left _ (Nat.le_of_lt hX);refine Nat.le_trans h8 (Nat.le_trans ?_ this)
      decide)
    (Nat.mul_pos (Nat.two_pow_pos _) (Nat.two_pow_pos _)) R.d0 (Nat.two_pow_pos g) a74pos
  exact us_near (B := 2 ^ 128) rfl hL hmid hS rfl hM
    (by
      have e : d * 2 ^ (64 - b) * (hi * 2 ^ 64 - lo) + d * 2 ^ (64 - b) * lo =
          (d * 2 ^ (64 - b) * hi) * 2 ^ 64 := by
        rw [<- Nat.mul_add, Nat.sub_add_cancel R.le, <- Nat.mul_assoc]
      rw [e]
      have e2 : (2 ^ 64 * (d * 2 ^ (64 - b) * hi / 2 ^ 64) + d * 2 ^ (64 - b) * hi % 2 ^ 64) * 2 ^ 64 =
          (d * 2 ^ (64 - b) * hi / 2 ^ 64) * (2 ^ 64 * 2 ^ 64) + d * 2 ^ (64 - b) * hi % 2 ^ 64 * 2 ^ 64 := by
        rw [Nat.add_mul, Nat.mul_comm (2 ^ 64) (d * 2 ^ (64 - b) * hi / 2 ^ 64), Nat.mul_assoc]
      rw [hXhi] at e2
      rw [e2, <- Nat.pow_add])
    hsc.1 hsc.2
end
end Fp
namespace Fp
section
variable {d b N D g hi lo f r t:Nat}
theorem pack_eq (P:Rep f r):pack f r=f+r * 2 ^ 52:=by
 unfold pack
 rcases P.norm with h|h
 ·rw [if_neg (by omega),Nat.add_mul];omega
 ·subst h
  split <;> omega
theorem parse64_eq (R:Row N D g hi lo)(P:Rep f r)(Q:Near d b N D f r t) :
  parse64 d b g hi lo=f+r * 2 ^ 52:=by
 have hn:=u_near R P Q;have hj:=jr R P Q;have hhi:=Mhi R P Q;have hlo:=Mlo R P Q;rw [<- pack_eq P];unfold parse64;generalize hjj:b+g - 179=j at *;generalize u64 d b g hi lo=u at *;obtain ⟨k,hk⟩:∃ k,r=j+k:=⟨r - j,by omega⟩
 have hrj:r - j=k:=by omega
 rw [hrj] at hn hhi hlo;have f0:=P.f0;have f53:=P.f53
 match k,hk with
 | 0,hk =>
   rw [Nat.pow_zero,Nat.mul_one] at hn
   have hr:r=j:=by omega
   rw [if_neg (by omega),rnd_near f0 hn,hr]
 | 1,hk =>
   rw [Nat.pow_one,Nat.mul_comm f 2] at hn
   have h52:2 ^ 52 <= f:=by
    rcases P.norm with h|h
    ·exact h
    ·omega
   have hr:r=j+1:=by omega
   rw [if_pos (by omega),rnd_near f0 (half_near f0 hn),hr]
 | k+2,hk =>
   exfalso
   have h52:2 ^ 52 <= f:=by
    rcases P.norm with h|h
    ·exact h
    ·omega
   have h4:4 <= 2 ^ (k+2):=by
    have:2 ^ 2 <= 2 ^ (k+2):=Nat.pow_le_pow_right (by decide) (by omega);omega
   have:=Nat.mul_le_mul h52 h4;omega
theorem shift_lt (R:Row N D g hi lo)(P:Rep f r)(Q:Near d b N D f r t) :
  8 <= 187+(b+g - 179) - (b+g)∧187+(b+g - 179) - (b+g) < 64:=by
 have:=big R P Q;omega
end
end Fp
namespace Fp
open Ieee
theorem log2_rep {f r:Nat}(P:Rep f r):(f.log2=52∧2 ^ 52 <= f) ∨ (f.log2 < 52∧r=0):=by
 have f0:=P.f0;have h53:f.log2 < 53:=(Nat.log2_lt (by omega)).2 P.f53;by_cases h:2 ^ 52 <= f
 ·have:52 <= f.log2:=(Nat.le_log2 (by omega)).2 h;exact Or.inl ⟨by omega,h⟩
 ·refine Or.inr ⟨(Nat.log2_lt (by omega)).2 (by omega),?_⟩
  rcases P.norm with h'|h'
  ·exact absurd h' h
  ·exact h'
theorem log2_shift {m k:Nat}(hm:0 < m):(m * 2 ^ k).log2=m.log2+k:=by
 have hp:0 < m * 2 ^ k:=Nat.mul_pos hm (Nat.two_pow_pos k);rw [Nat.log2_eq_iff (by omega)];have h1:2 ^ m.log2 <= m:=Nat.log2_self_le (by omega);have h2:m < 2 ^ (m.log2+1):=Nat.lt_log2_self
 constructor
 ·rw [Nat.pow_add];exact Nat.mul_le_mul_right _ h1
 ·rw [show m.log2+k+1=m.log2+1+k by omega,Nat.pow_add (m:=m.log2+1)];exact Nat.mul_lt_mul_of_pos_right h2 (Nat.two_pow_pos k)
theorem cut0 (neg:Bool)(n:Nat):Toward.even.cut neg n 0=n:=by
 simp [Toward.cut,Nat.mod_one]
theorem cutk (neg:Bool){n k:Nat}(hn:0 < n):Toward.even.cut neg (n * 2 ^ k) k=n:=by
 have hl:min k ((n * 2 ^ k).log2+2)=k:=by rw [log2_shift hn];omega
 have hp:=Nat.two_pow_pos k;simp only [Toward.cut,hl,Nat.one_shiftLeft,Nat.mul_div_cancel _ hp,Nat.mul_mod_left]
 have h1:¬ (2 ^ k=0):=by omega
 simp
theorem nearest_rep (neg:Bool){mag:Nat}{place:Int}{f r:Nat}(P:Rep f r)(hr:r <= 2045)
  (h:∃ k:Nat,(place=(r:Int) - 1074+k∧mag * 2 ^ k=f) ∨
   (place+k=(r:Int) - 1074∧mag=f * 2 ^ k)) :
  double.nearest neg mag place=double.word neg (f+r * 2 ^ 52):=by
 have f0:=P.f0
 have hm:0 < mag:=by
  obtain ⟨k,⟨_,h⟩|⟨_,h⟩⟩:=h
  ·apply Nat.pos_of_ne_zero;intro e;subst e;simp at h;omega
  ·rw [h];exact Nat.mul_pos f0 (Nat.two_pow_pos k)
 have hL:place+mag.log2=(r:Int) - 1074+f.log2:=by
  obtain ⟨k,⟨h1,h⟩|⟨h1,h⟩⟩:=h
  ·rw [<- h,log2_shift hm];omega
  ·rw [h,log2_shift f0];omega
 have hlast:max (place+mag.log2 - (double.fractionBits:Int)) double.leastPlace=(r:Int) - 1074:=by
  have e1:double.leastPlace=-1074:=by decide
  have e2:(double.fractionBits:Int)=52:=rfl;rw [e1,e2,hL]
  rcases log2_rep P with ⟨h,_⟩|⟨h,h'⟩ <;> omega
 have e1:double.leastPlace=-1074:=by decide
 have eb:double.binade=2 ^ 52:=rfl;have ei:double.infRung=2047 * 2 ^ 52:=rfl;unfold Format.nearest;rw [if_neg (by omega)];simp only [hlast]
 have hkept:Toward.even.cut neg (mag <<< (place - ((r:Int) - 1074)).toNat)
   (((r:Int) - 1074) - place).toNat=f:=by
  obtain ⟨k,⟨h1,h⟩|⟨h1,h⟩⟩:=h
  ·have a:(place - ((r:Int) - 1074)).toNat=k:=by omega
   have b:(((r:Int) - 1074) - place).toNat=0:=by omega
   rw [a,b,cut0,Nat.shiftLeft_eq,h]
  ·have a:(place - ((r:Int) - 1074)).toNat=0:=by omega
   have b:(((r:Int) - 1074) - place).toNat=k:=by omega
   rw [a,b,Nat.shiftLeft_zero,h,cutk neg f0]
 rw [hkept,e1,eb,ei]
 have ht:((r:Int) - 1074 - -1074).toNat=r:=by omega
 rw [ht];have hf:f < 2 * 2 ^ 52:=P.f53;have hB:=Nat.mul_le_mul_right (2 ^ 52) hr;generalize 2 ^ 52=B at hf hB ⊢;rw [Nat.add_comm,Nat.min_eq_left (by omega)]
end Fp
namespace Fp
open Ieee
theorem read_word (neg:Bool){f r:Nat}(P:Rep f r)(hr:r <= 2045) :
  double.read (double.word neg (f+r * 2 ^ 52))=.number neg f ((r:Int) - 1074):=by
 have f0:=P.f0;have hf:f < 2 * 2 ^ 52:=P.f53;have hB:=Nat.mul_le_mul_right (2 ^ 52) hr;have hn:=P.norm
 have hlt:f+r * 2 ^ 52 < 2 ^ 63:=by
  have:(2:Nat) ^ 63=2048 * 2 ^ 52:=rfl;rw [this];generalize 2 ^ 52=B at *;omega
 have es:double.signWeight=2 ^ 63:=rfl;have eb:double.binade=2 ^ 52:=rfl;have ei:double.infRung=2047 * 2 ^ 52:=rfl
 have el:double.leastPlace=-1074:=by decide
 have hneg:(double.word neg (f+r * 2 ^ 52) / double.signWeight % 2 == 1)=neg:=by
  rw [Format.word,es];generalize f+r * 2 ^ 52=x at hlt;cases neg
  ·simp [Nat.div_eq_of_lt hlt]
  ·rw [if_pos rfl,Nat.add_div_left _ (Nat.two_pow_pos 63),Nat.div_eq_of_lt hlt];rfl
 have hmod:double.word neg (f+r * 2 ^ 52) % double.signWeight=f+r * 2 ^ 52:=by
  rw [Format.word,es];generalize f+r * 2 ^ 52=x at hlt;cases neg
  ·simp [Nat.mod_eq_of_lt hlt]
  ·rw [if_pos rfl,Nat.add_mod_left,Nat.mod_eq_of_lt hlt]
 unfold Format.read;simp only [hneg,hmod];rw [eb,ei,el]
 rcases hn with h|h
 ·have hB0:0 < 2 ^ 52:=Nat.two_pow_pos 52
  have hge:¬ (f+r * 2 ^ 52 < 2 ^ 52):=by
   generalize 2 ^ 52=B at *;omega
  have hin:f+r * 2 ^ 52 < 2047 * 2 ^ 52:=by
   generalize 2 ^ 52=B at *;omega
  rw [if_neg hge,if_pos hin]
  have e1:f+r * 2 ^ 52=(f - 2 ^ 52)+(r+1) * 2 ^ 52:=by
   rw [Nat.add_mul];generalize 2 ^ 52=B at *;omega
  have hs:f - 2 ^ 52 < 2 ^ 52:=by
   generalize 2 ^ 52=B at *;omega
  have e2:(f+r * 2 ^ 52) % 2 ^ 52=f - 2 ^ 52:=by
   rw [e1,Nat.add_mul_mod_self_right,Nat.mod_eq_of_lt hs]
  have e3:(f+r * 2 ^ 52) / 2 ^ 52=r+1:=by
   rw [e1,Nat.add_mul_div_right _ _ hB0,Nat.div_eq_of_lt hs,Nat.zero_add]
  rw [e2,e3]
  have e4:2 ^ 52+(f - 2 ^ 52)=f:=by generalize 2 ^ 52=B at *;omega
  rw [e4]
  congr 1
 ·subst h;by_cases hlt2:f+0 * 2 ^ 52 < 2 ^ 52
  ·rw [if_pos hlt2];simp
  ·have e:f+0 * 2 ^ 52 < 2047 * 2 ^ 52:=by
    generalize 2 ^ 52=B at *;omega
   rw [if_neg hlt2,if_pos e];have hB0:0 < 2 ^ 52:=Nat.two_pow_pos 52
   have e0:f+0 * 2 ^ 52=f:=by simp
   rw [e0] at hlt2 ⊢
   have e1:f=(f - 2 ^ 52)+1 * 2 ^ 52:=by generalize 2 ^ 52=B at *;omega
   have hs:f - 2 ^ 52 < 2 ^ 52:=by generalize 2 ^ 52=B at *;omega
   have e2:f % 2 ^ 52=f - 2 ^ 52:=by
    conv=>lhs;rw [e1]
    rw [Nat.add_mul_mod_self_right,Nat.mod_eq_of_lt hs]
   have e3:f / 2 ^ 52=1:=by
    conv=>lhs;rw [e1]
    rw [Nat.add_mul_div_right _ _ hB0,Nat.div_eq_of_lt hs]
   rw [e2,e3]
   have e4:2 ^ 52+(f - 2 ^ 52)=f:=by generalize 2 ^ 52=B at *;omega
   rw [e4];rfl
theorem div_rep {sx sy : Bool}{m a n c f r : Nat}(X : Rep m a)(ha : a <= 2045)(Y : Rep n c)(hc : c <= 2045)
    (P : Rep f r) (hr : r <= 2045) (h : m * 2 ^ (a + 1074) = f * n * 2 ^ (r + c)) :
    double.div (double.word sx (m + a * 2 ^ 52)) (double.word sy (n + c * 2 ^ 52)) =
      some (double.word (sx ^^ sy) (f + r * 2 ^ 52)) := by
  have m0 := X.f0;have n0 := Y.f0;have f0 := P.f0;unfold Format.div;rw [read_word sx X ha, read_word sy Y hc];simp only [Datum.quotient];rw [if_neg (by omega)];simp only [Option.map_some, Format.write];have ed : double.fractionBits + 2 = 54 := rfl;rw [ed];generalize hmore : 54 + n.log2 - m.log2 = more
  have hmm : 54 + n.log2 <= m.log2 + more := by omega
  have hu : ∃ u, u + a + 1074 = r + c + more ∧ m * 2 ^ more = f * 2 ^ u * n := by
    by_cases hle : a + 1074 <= r + c + more
    · refine ⟨r + c + more - (a + 1074), by omega, ?_⟩
      apply Nat.eq_of_mul_eq_mul_right (Nat.two_pow_pos (a + 1074))
      calc m * 2 ^ more * 2 ^ (a + 1074) = m * 2 ^ (a + 1074) * 2 ^ more := by
            rw [Nat.mul_assoc, Nat.mul_comm (2 ^ more), <- Nat.mul_assoc]
        _ = f * n * 2 ^ (r + c) * 2 ^ more := by rw [h]
        _ = f * n * 2 ^ (r + c + more) := by rw [Nat.mul_assoc, <- Nat.pow_add]
        _ = f * n * (2 ^ (r + c + more - (a + 1074)) * 2 ^ (a + 1074)) := by
            rw [<- Nat.pow_add, Nat.sub_add_cancel hle]
        _ = f * 2 ^ (r + c + more - (a + 1074)) * n * 2 ^ (a + 1074) := by
            generalize 2 ^ (r + c + more - (a + 1074)) = p;generalize 2 ^ (a + 1074) = q
            ac_rfl
    · exfalso
      have hw : a + 1074 = more + (a + 1074 - (r + c + more)) + (r + c) := by omega
      have e : m * 2 ^ more * 2 ^ (a + 1074 - (r + c + more)) = f * n := by
        apply Nat.eq_of_mul_eq_mul_right (Nat.two_pow_pos (r + c));rw [<- h]
        have e2 : 2 ^ (a + 1074) = 2 ^ more * 2 ^ (a + 1074 - (r + c + more)) * 2 ^ (r + c) := by
          rw [<- Nat.pow_add, <- Nat.pow_add, <- hw]
        rw [e2];generalize 2 ^ more = x1;generalize 2 ^ (a + 1074 - (r + c + more)) = x2;generalize 2 ^ (r + c) = x3
        ac_rfl
      have h1 : 2 ^ (54 + n.log2) <= m * 2 ^ more := by
        have : 2 ^ m.log2 <= m := Nat.log2_self_le (by omega);have h2 := Nat.mul_le_mul_right (2 ^ more) this;rw [<- Nat.pow_add] at h2;exact Nat.le_trans (Nat.pow_le_pow_right (by decide) hmm) h2
      have h2 : f * n < 2 ^ 53 * 2 ^ (n.log2 + 1) := Nat.mul_lt_mul'' P.f53 Nat.lt_log2_self;rw [<- Nat.pow_add, show 53 + (n.log2 + 1) = 54 + n.log2 by omega, <- e] at h2
      have h3 : m * 2 ^ more * 1 <= m * 2 ^ more * 2 ^ (a + 1074 - (r + c + more)) :=
        Nat.mul_le_mul_left _ (Nat.two_pow_pos _)
      omega
  obtain ⟨u, hu1, hu2⟩ := hu;rw [Nat.shiftLeft_eq, hu2, Nat.mul_div_cancel _ n0, Nat.mul_mod_left]
  have e0 : 2 * (f * 2 ^ u) + ((0 : Nat) != 0).toNat = f * 2 ^ (u + 1) := by
    have : ((0 : Nat) != 0).toNat = 0 := rfl;rw [this, Nat.add_zero, Nat.pow_succ]; generalize 2 ^ u = x; ac_rfl
  rw [e0, nearest_rep _ P hr ⟨u + 1, Or.inr ⟨by omega, rfl⟩⟩]
end Fp
namespace Fp
open Go
def tenN (i:Nat):Nat:=10 ^ (i - 348)
def tenD (i:Nat):Nat:=10 ^ (348 - i)
def rowG (i:Nat):Nat:=(i * 108853+1440756) / 32768
def rowB (i hi lo:Nat):Bool :=
 Nat.blt hi (2 ^ 64) && (Nat.blt lo (2 ^ 64) && (Nat.ble lo (hi * 2 ^ 64) &&
 (Nat.ble ((hi * 2 ^ 64 - lo) * (tenD i * 2 ^ rowG i)) (tenN i * 2 ^ 1327+tenD i * 2 ^ rowG i) &&
 (Nat.ble (tenN i * 2 ^ 1327) ((hi * 2 ^ 64 - lo) * (tenD i * 2 ^ rowG i)+tenD i * 2 ^ rowG i) &&
 (Nat.ble (tenD i * 2 ^ rowG i) (tenN i * 2 ^ 1200) &&
 Nat.ble ((tenN i * 2 ^ 1200) * (10 ^ 18+1)) ((tenD i * 2 ^ rowG i * 2) * 10 ^ 18))))))
def rowsB:Nat->List (Nat × Nat)->Bool
 | _,[]=>true
 | i,x :: l=>rowB i x.1 x.2 && rowsB (i+1) l
theorem rowB_row {i hi lo:Nat}(h:rowB i hi lo=true):Row (tenN i) (tenD i) (rowG i) hi lo:=by
 unfold rowB at h;simp only [Bool.and_eq_true,Nat.ble_eq,Nat.blt_eq] at h;obtain ⟨h1,h2,h3,h4,h5,h6,h7⟩:=h
 constructor
 ·exact Nat.pow_pos (by decide)
 ·exact h1
 ·exact h2
 ·exact h3
 ·unfold A13;exact h4
 ·unfold A13;exact h5
 ·unfold A12;exact h6
 ·unfold A12 Tn;exact h7
theorem rowsB_get:∀ {l:List (Nat × Nat)} {i k:Nat} {x:Nat × Nat},rowsB i l=true->l[k]?=some x->rowB (i+k) x.1 x.2=true
 | [],_,_,_,_,h=>by simp at h
 | y :: l,i,0,x,hb,h=>by
   simp only [List.getElem?_cons_zero,Option.some.injEq] at h;subst h;simp only [rowsB,Bool.and_eq_true] at hb;exact hb.1
 | y :: l,i,k+1,x,hb,h=>by
   simp only [List.getElem?_cons_succ] at h;simp only [rowsB,Bool.and_eq_true] at hb;have:=rowsB_get hb.2 h;rw [show i+(k+1)=i+1+k by omega];exact this
theorem rows_ok:rowsB 0 Pinned.pow10Rows=true:=by kernel_rfl
theorem row_ok {i hi lo:Nat}(h:Pinned.pow10Rows[i]?=some (hi,lo)):Row (tenN i) (tenD i) (rowG i) hi lo:=by
 have:=rowsB_get rows_ok h;rw [Nat.zero_add] at this;exact rowB_row this
end Fp
namespace Go.Am
structure RS where
 saw:Bool
 nd:Nat
 nm:Nat
 mant:Nat
 dp:Int
 tr:Bool
def RS.dig (st:RS)(d:Nat):RS :=
 if d=0∧st.nd=0 then { st with dp:=Int.sub st.dp 1 }
 else if st.nm < 19 then { st with nd:=st.nd+1,mant:=st.mant * 10+d,nm:=st.nm+1 }
 else { st with nd:=st.nd+1,tr:=st.tr || !(decide (d=0)) }
def RS.step (st:RS)(c:UInt8):RS:=if c=46 then { st with saw:=true,dp:=.ofNat st.nd } else st.dig (c.toNat - 48)
def rs0:RS:=⟨false,0,0,0,0,false⟩
def cF (l:List UInt8):RS:=l.foldl RS.step rs0
theorem aDL {l:List UInt8}{j:Nat}(h:j < l.length):cF (l.take (j+1))=(cF (l.take j)).step l[j]:=by
 unfold cF;rw [an h,List.foldl_append];rfl
structure RS.In (st:RS)(j:Nat):Prop where
 nd:st.nd <= j
 nm:st.nm <= 19
 nmd:st.nm <= st.nd
 mant:st.mant < 10 ^ st.nm
 lo:-(j:Int) <= st.dp
 hi:st.dp <= (j:Int)
theorem RS.In.step {st:RS}{j:Nat}(h:st.In j){c:UInt8}(hc:oH c=true ∨ c=46):(st.step c).In (j+1):=by
 obtain ⟨h1,h2,h3,h4,h5,h6⟩:=h;unfold RS.step;by_cases e:c=46
 ·rw [if_pos e];exact ⟨by show st.nd <= j+1;omega,h2,h3,h4,by show -((j+1:Nat):Int) <= (st.nd:Int);omega,by show (st.nd:Int) <= ((j+1:Nat):Int);omega⟩
 ·rw [if_neg e]
  have hd:c.toNat - 48 < 10:=by
   rcases hc with hc|hc
   ·have:=dP.1 hc;omega
   ·exact absurd hc e
  generalize c.toNat - 48=d at *;unfold RS.dig;by_cases h0:d=0∧st.nd=0
  ·rw [if_pos h0];exact ⟨by show st.nd <= j+1;omega,h2,h3,h4,by show -((j+1:Nat):Int) <= st.dp - 1;omega,by show st.dp - 1 <= ((j+1:Nat):Int);omega⟩
  ·rw [if_neg h0];by_cases h9:st.nm < 19
   ·rw [if_pos h9];exact ⟨by show st.nd+1 <= j+1;omega,by show st.nm+1 <= 19;omega,by show st.nm+1 <= st.nd+1;omega,by show st.mant * 10+d < 10 ^ (st.nm+1);rw [Nat.pow_succ];omega,by show -((j+1:Nat):Int) <= st.dp;omega,by show st.dp <= ((j+1:Nat):Int);omega⟩
   ·rw [if_neg h9];exact ⟨by show st.nd+1 <= j+1;omega,h2,by show st.nm <= st.nd+1;omega,h4,by show -((j+1:Nat):Int) <= st.dp;omega,by show st.dp <= ((j+1:Nat):Int);omega⟩
theorem RS.In.zero:rs0.In 0:=⟨af _,dc,af _,dc,dc,dc⟩
theorem aEX {l:List UInt8}(h:∀ c ∈ l,oH c=true ∨ c=46):∀ {j:Nat},j <= l.length->(cF (l.take j)).In j
 | 0,_=>by simpa [cF] using RS.In.zero
 | j+1,hj=>by
   rw [aDL hj];exact (aEX h om).step (h _ (az _))
theorem RS.In.mant64 {st:RS}{j:Nat}(h:st.In j):st.mant < 10000000000000000000:=Nat.lt_of_lt_of_le h.mant (bg (Nat.pow_le_pow_right dc h.nm) dc)
theorem aGS:∀ (l:List UInt8) (st:RS),(l.foldl RS.step st).saw=(st.saw || l.any (fun c=>decide (c=46)))
 | [],st=>by simp
 | c :: l,st=>by
   rw [List.foldl_cons,aGS l,List.any_cons];unfold RS.step RS.dig;by_cases e:c=46
   ·simp [e]
   ·simp only [e,if_false,decide_false,Bool.false_or]
    split <;> (try split) <;> rfl
def oG (l:List UInt8):Nat:=l.foldl (fun e c=>e * 10+(c.toNat - 48)) 0
theorem aDX {l:List UInt8}{j:Nat}(h:j < l.length):oG (l.take (j+1))=oG (l.take j) * 10+(l[j].toNat - 48):=by
 unfold oG;rw [an h,List.foldl_append];rfl
theorem aKH {l:List UInt8}(h:l.all oH=true):∀ {j:Nat},j <= l.length->oG (l.take j) < 10 ^ j
 | 0,_=>by simp [oG]
 | j+1,hj=>by
   have ih:=aKH h (j:=j) om;have:=dP.1 (List.all_eq_true.1 h _ (az hj));rw [aDX hj,Nat.pow_succ];omega
end Go.Am
namespace Go.Am
open Go.Proofs
attribute [local irreducible] fN fI fB cR eQ evCode evOps rD kOp aAj wF wH wG kGc aLE aLD kDr kMg drOps fU kK sl
theorem vF {s:List UInt8}{n:Nat}{c:UInt8}(h:s[n]?=some c):nth s n=some c:=by rw [nth_eq];exact h
theorem aPI {K:IntKind}{x:Int}{k:Int->Prop}(h:k x)(h1:K.min <= x)(h2:x <= K.max):eQ K x k:=tO (by rw [qU K x h1 h2];exact h)
theorem aKL {x:Int}{k:Int->Prop}(h:k x)(h1:-9223372036854775808 <= x)(h2:x <= 9223372036854775807):eQ .i64 x k:=aPI h h1 h2
theorem gR {x:Int}{k:Int->Prop}(y:Int)(hx:x=y)(h:k y)(h1:-9223372036854775808 <= y)(h2:y <= 9223372036854775807):eQ .i64 x k:=by subst hx;exact aKL h h1 h2
theorem or8:∀ c:Nat,c < 256->IntKind.u8.wrap ((BitVec.ofInt IntKind.u8.bits (Int.ofNat c) ||| BitVec.ofInt IntKind.u8.bits (Int.ofNat 32)).toNat:Int)=Int.ofNat (c ||| 32):=by decide
theorem aOS:∀ c:Nat,c < 256->c ≠ 120->c ≠ 88->c ||| 32 ≠ 120:=by decide
theorem aQx:bB Tryz.prog 302 5 [.tmp 2] (aL Tryz.f302):=fq Tryz.f302
theorem tD {c:Nat}(hc:c < 256){S:St}{k:V->St->Prop}(hk:k (.int .u8 (.ofNat (c ||| 32))) S):RC Tryz.prog 302 [.int .u8 (.ofNat c)] S k:=by
 refine RC.run mixed aS (aG aQx ?_);refine enter ?_;refine go ?_;refine dM (c ||| 32) (or8 c hc) ?_;refine go ?_;exact hk
def oD (B E:List UInt8):Int:=Int.sub (if (cF B).saw then (cF B).dp else .ofNat (cF B).nd) (.ofNat (oG E))
def kP (B E:List UInt8):Int:=if (cF B).mant=0 then 0 else Int.sub (oD B E) (.ofNat (cF B).nm)
def rfV (s sg B E:List UInt8):V:=.tup [.int .u64 (.ofNat (cF B).mant),.int .i64 (kP B E),.bool (decide (sg=[45])),.bool (cF B).tr,.bool false,.int .i64 (.ofNat s.length),.bool true]
theorem aXf:bB Tryz.prog 290 253 [.tmp 2,.tmp 3,.tmp 4,.tmp 5,.tmp 6,.tmp 7,.tmp 8] (aL Tryz.f290):=fq Tryz.f290
theorem aCL {s sg D tl F ex E:List UInt8}(hs:s=sg ++ (D ++ tl) ++ ex)(hD:Dec (sg ++ (D ++ tl)) sg D tl F)(hex:(ex=[]∧E=[]) ∨ (ex=101 :: 45 :: E∧E ≠ []))(hE:E.all oH=true)(hE4:E.length <= 4)(hlen:s.length <= 2000){S:St}{k:V->St->Prop}(hk:k (rfV s sg (D ++ tl) E) S):RC Tryz.prog 290 [.str s] S k:=by
 refine RC.run mixed aS (aG aXf ?_);have hD0:0 < D.length:=List.length_pos_iff.2 hD.d0
 have hl1:s.length=sg.length+(D ++ tl).length+ex.length:=by rw [hs];simp;omega
 have hB:∀ c ∈ D ++ tl,oH c=true ∨ c=46:=fun c hc=>by
  rcases List.mem_append.1 hc with h|h
  ·exact .inl (List.all_eq_true.1 hD.d c h)
  ·rcases hD.tl' with ⟨rfl,_⟩|rfl
   ·simp at h
   ·rcases av.1 h with rfl|h
    ·exact .inr rfl
    ·exact .inl (List.all_eq_true.1 hD.f c h)
 have hsaw:∀ j,j <= (D ++ tl).length->(cF ((D ++ tl).take j)).saw=decide (D.length < j):=fun j hj=>by
  unfold cF;rw [aGS];show (false || _)=_;rw [Bool.false_or]
  have hDn:D.any (fun c=>decide (c=46))=false:=by
   rw [List.any_eq_false];intro c hc h;have:=List.all_eq_true.1 hD.d c hc;rw [of_decide_eq_true h] at this;exact absurd this dc
  rw [List.take_append,List.any_append]
  have h1:(D.take j).any (fun c=>decide (c=46))=false:=by
   rw [List.any_eq_false] at hDn ⊢;exact fun c hc=>hDn c (List.mem_of_mem_take hc)
  rw [h1,Bool.false_or]
  rcases hD.tl' with ⟨rfl,_⟩|rfl
  ·simp at hj ⊢;omega
  ·by_cases h:D.length < j
   ·obtain ⟨m,hm⟩:∃ m,j - D.length=m+1:=⟨j - D.length - 1,om⟩
    rw [hm,List.take_succ_cons,List.any_cons];simp [h]
   ·have:j - D.length=0:=om;rw [this];simp [h]
 have hBlen:(D ++ tl).length=D.length+tl.length:=by simp
 have hat:∀ j (h:j < (D ++ tl).length),s[sg.length+j]?=some (D ++ tl)[j]:=fun j h=>by
  rw [hs,List.append_assoc,List.getElem?_append_right om,Nat.add_sub_cancel_left,List.getElem?_append_left h,ak h]
 have hdig:∀ j (h:j < (D ++ tl).length),j ≠ D.length->oH (D ++ tl)[j]=true:=fun j h hn=>by
  by_cases hj:j < D.length
  ·rw [List.getElem_append_left hj];exact List.all_eq_true.1 hD.d _ (az hj)
  ·rw [List.getElem_append_right om]
   rcases hD.tl' with ⟨e,_⟩|e
   ·rw [hBlen,e] at h;simp at h;omega
   ·have hlt:j - D.length - 1 < F.length:=by rw [hBlen,e] at h;simp at h;omega
    have:tl[j - D.length]'(by rw [hBlen] at h;omega)=F[j - D.length - 1]:=by
     simp only [e];rw [List.getElem_cons,dif_neg om]
    rw [this];exact List.all_eq_true.1 hD.f _ (az hlt)
 have hpt:∀ (h:D.length < (D ++ tl).length),(D ++ tl)[D.length]=46:=fun h=>by
  rw [List.getElem_append_right (af _)]
  rcases hD.tl' with ⟨e,_⟩|e
  ·rw [hBlen,e] at h;simp at h
  ·simp only [e,Nat.sub_self,List.getElem_cons_zero]
 have hin:∀ j,j <= (D ++ tl).length->(cF ((D ++ tl).take j)).In j:=fun j hj=>aEX hB hj;generalize hBB:D ++ tl=B at *;have hB0:0 < B.length:=om
 have hc1:∀ c,s[sg.length+1]?=some c->c.toNat ≠ 120∧c.toNat ≠ 88:=fun c h=>by
  by_cases h1:1 < B.length
  ·rw [hat 1 h1] at h;have:=hB _ (az h1);rw [Option.some.inj h] at this
   rcases this with h|h
   ·have:=dP.1 h;omega
   ·subst h;decide
  ·rw [hs,List.getElem?_append_right (by simp;omega)] at h
   have e:sg.length+1 - (sg ++ B).length=0:=by simp;omega
   rw [e] at h
   rcases hex with ⟨e,_⟩|⟨e,_⟩
   ·rw [e] at h;simp at h
   ·rw [e] at h;simp at h;subst h;decide
 have hx0:∀ h:B.length < (B ++ ex).length,s[sg.length+B.length]?=some 101:=fun h=>by
  rw [hs,List.append_assoc,List.getElem?_append_right om,Nat.add_sub_cancel_left,List.getElem?_append_right om,Nat.sub_self]
  rcases hex with ⟨e,_⟩|⟨e,_⟩
  ·rw [e] at h;simp at h
  ·rw [e];rfl
 refine enter ?_;refine go ?_;refine bE (fun _=>?_) (fun h=>absurd h (by rw [aM];show ¬ _ <= 0;omega));refine go ?_;apply LP.join 253 [(0,.str s),(2,.int .u64 (.ofNat 0)),(3,.int .i64 0),(4,.bool (decide (sg=[45]))),(5,.bool false),(6,.bool false),(7,.int .i64 (.ofNat sg.length)),(9,.bool false),(10,.int .u64 10),(11,.int .i64 19),(12,.int .u8 101),(13,.bool false),(14,.bool false),(15,.int .i64 (.ofNat 0)),(16,.int .i64 (.ofNat 0)),(17,.int .i64 (.ofNat 0))];intro key;obtain hsg|hsg:=hD.sg'
 have h0:s[0]?=some B[0]:=by have:=hat 0 hB0;rw [hsg] at this;simpa using this
 have hB0':=h0;have hd0:=dP.1 (hdig 0 hB0 om);refine bU _ (vF h0) ?_;refine go ?_;refine bO (fun (h:_=43)=>by omega) (fun _=>?_);refine go ?_;refine bO (fun (h:_=45)=>by omega) (fun _=>?_);refine go ?_;refine bI 2 ?_;refine go ?_;refine bE (fun h2=>?_) (fun h2=>?_);rw [aM] at h2;refine go ?_;refine bU _ (vF hB0') ?_;refine go ?_;refine bO (fun h48=>?_) (fun h48=>?_);refine go ?_;refine bI 1 ?_;refine go ?_;have hlt1:1 < s.length:=Nat.lt_of_succ_lt h2;refine bU _ (qL hlt1) ?_;have hne:=hc1 s[1] (by rw [<- ak hlt1,hsg];rfl);refine go ?_;refine tD (UInt8.toNat_lt _) ?_;refine go ?_;refine bO (fun h=>absurd h (aOS _ (UInt8.toNat_lt _) hne.1 hne.2)) (fun _=>?_);refine go ?_;exact key _ ⟨rfl,rfl,rfl,rfl,by rw [hsg];rfl,rfl,rfl,by rw [hsg];rfl,rfl,rfl,rfl,rfl,rfl,rfl,rfl,rfl,rfl,trivial⟩;refine go ?_;exact key _ ⟨rfl,rfl,rfl,rfl,by rw [hsg];rfl,rfl,rfl,by rw [hsg];rfl,rfl,rfl,rfl,rfl,rfl,rfl,rfl,rfl,rfl,trivial⟩;refine go ?_;exact key _ ⟨rfl,rfl,rfl,rfl,by rw [hsg];rfl,rfl,rfl,by rw [hsg];rfl,rfl,rfl,rfl,rfl,rfl,rfl,rfl,rfl,rfl,trivial⟩
 have h0:s[0]?=some 45:=by rw [hs,hsg];rfl
 refine bU _ (vF h0) ?_;refine go ?_;refine bI 1 ?_;refine go ?_
 have hB0':s[1]?=some B[0]:=by have:=hat 0 hB0;rw [hsg] at this;simpa using this
 refine bI 3 ?_;refine go ?_;refine bE (fun h2=>?_) (fun h2=>?_);rw [aM] at h2;refine go ?_;refine bU _ (vF hB0') ?_;refine go ?_;refine bO (fun h48=>?_) (fun h48=>?_);refine go ?_;refine bI 2 ?_;refine go ?_;have hlt1:2 < s.length:=Nat.lt_of_succ_lt h2;refine bU _ (qL hlt1) ?_;have hne:=hc1 s[2] (by rw [<- ak hlt1,hsg];rfl);refine go ?_;refine tD (UInt8.toNat_lt _) ?_;refine go ?_;refine bO (fun h=>absurd h (aOS _ (UInt8.toNat_lt _) hne.1 hne.2)) (fun _=>?_);refine go ?_;exact key _ ⟨rfl,rfl,rfl,rfl,by rw [hsg];rfl,rfl,rfl,by rw [hsg];rfl,rfl,rfl,rfl,rfl,rfl,rfl,rfl,rfl,rfl,trivial⟩;refine go ?_;exact key _ ⟨rfl,rfl,rfl,rfl,by rw [hsg];rfl,rfl,rfl,by rw [hsg];rfl,rfl,rfl,rfl,rfl,rfl,rfl,rfl,rfl,rfl,trivial⟩;refine go ?_;exact key _ ⟨rfl,rfl,rfl,rfl,by rw [hsg];rfl,rfl,rfl,by rw [hsg];rfl,rfl,rfl,rfl,rfl,rfl,rfl,rfl,rfl,rfl,trivial⟩;intro Ex hEx;refine LP.induct0 B.length (fun j E'=>j <= B.length∧Kn E' 253 [(0,.str s),(2,.int .u64 (.ofNat (cF (B.take j)).mant)),(3,.int .i64 0),(4,.bool (decide (sg=[45]))),(5,.bool (cF (B.take j)).tr),(6,.bool false),(7,.int .i64 (.ofNat (sg.length+j))),(9,.bool false),(10,.int .u64 10),(11,.int .i64 19),(12,.int .u8 101),(13,.bool (cF (B.take j)).saw),(14,.bool (decide (0 < j))),(15,.int .i64 (.ofNat (cF (B.take j)).nd)),(16,.int .i64 (.ofNat (cF (B.take j)).nm)),(17,.int .i64 (cF (B.take j)).dp)]) ⟨ai _,hEx⟩ ?_;intro j E' ⟨hj,hf⟩ ih;have hst:=hin j hj;have hsw:=hsaw j hj;refine LP.kn mixed hf ?_;refine go ?_;refine bE (fun hlt=>?_) (fun hge=>?_)
 ·rw [aM] at hlt
  rcases Nat.lt_or_ge j B.length with hjB|hjB
  ·have hsu:=aDL hjB;refine go ?_;refine bU _ (vF (hat j hjB)) ?_;by_cases hp:j=D.length
   ·have h46:B[j]=46:=by simp only [hp];exact hpt om
    rw [h46] at hsu ⊢
    have hs0:(cF (B.take j)).saw=false:=by rw [hsw];exact decide_eq_false om
    rw [hs0];refine go ?_;refine bI (sg.length+(j+1)) ?_ rfl om;refine go ?_;refine ih _ hjB ⟨hjB,?_⟩;rw [hsu];exact ⟨rfl,rfl,rfl,rfl,rfl,rfl,rfl,rfl,rfl,rfl,rfl,rfl,rfl,by rw [decide_eq_true (show 0 < j+1 by omega),decide_eq_true (show 0 < j by omega)];rfl,rfl,rfl,rfl,trivial⟩
   ·have hd:=dP.1 (hdig j hjB hp)
    have h46:B[j] ≠ 46:=fun h=>by rw [h] at hd;exact absurd hd.1 dc
    have hsu':(cF (B.take j)).step B[j]=(cF (B.take j)).dig (B[j].toNat - 48):=by unfold RS.step;rw [if_neg h46]
    rw [hsu'] at hsu;generalize hcc:B[j]=c at *;generalize hrr:cF (B.take j)=r at *;obtain ⟨saw,nd,nm,mant,dp,tr⟩:=r;obtain ⟨b1,b2,b3,b4,b5,b6⟩:=hst;have b7:mant < 10000000000000000000:=RS.In.mant64 ⟨b1,b2,b3,b4,b5,b6⟩;simp only at b1 b2 b3 b4 b5 b6;refine go ?_;refine bO (fun (h:_=95)=>by omega) (fun _=>?_);refine go ?_;refine bO (fun (h:_=46)=>absurd (UInt8.toNat_inj.1 h) h46) (fun _=>?_);refine go ?_;refine bE (fun (h:_ < 48)=>by omega) (fun _=>?_);refine go ?_;refine bE (fun (h:57 < _)=>by omega) (fun _=>?_);refine go ?_;refine bO (fun (h48:_=48)=>?_) (fun (h48:_ ≠ 48)=>?_)
    ·refine go ?_;refine bO (fun (hn0:nd=0)=>?_) (fun (hn0:nd ≠ 0)=>?_)
     ·refine go ?_;refine aKL ?_ (by show _ <= dp - 1;omega) (by show dp - 1 <= _;omega);refine go ?_;refine bI (sg.length+(j+1)) ?_ rfl om;refine go ?_;refine ih _ hjB ⟨hjB,?_⟩;rw [hsu];unfold RS.dig;rw [if_pos ⟨om,hn0⟩];exact ⟨rfl,rfl,rfl,rfl,rfl,rfl,rfl,rfl,rfl,rfl,rfl,rfl,rfl,by rw [decide_eq_true (show 0 < j+1 by omega)];rfl,rfl,rfl,rfl,trivial⟩
     ·have hnz:¬ (c.toNat - 48=0∧nd=0):=fun h=>hn0 h.2;refine go ?_;refine bI (nd+1) ?_;refine go ?_;refine bE (fun (h19:nm < 19)=>?_) (fun (h19:19 <= nm)=>?_)
      ·have b8:10 ^ nm <= 1000000000000000000:=bg (Nat.pow_le_pow_right dc (show nm <= 18 by omega)) dc;refine go ?_;refine bA (mant * 10) rfl (by show mant * 10 <= 18446744073709551615;omega) ?_;refine go ?_;refine mI (c.toNat - 48) ?_ (by show c.toNat=c.toNat - 48+48;omega) (by show c.toNat - 48 <= 255;omega);refine go ?_;refine bA (c.toNat - 48) rfl (by show c.toNat - 48 <= 18446744073709551615;omega) ?_;refine go ?_;refine bA (mant * 10+(c.toNat - 48)) rfl (by show mant * 10+(c.toNat - 48) <= 18446744073709551615;omega) ?_;refine go ?_;refine bI (nm+1) ?_;refine go ?_;refine bI (sg.length+(j+1)) ?_ rfl om;refine go ?_;refine ih _ hjB ⟨hjB,?_⟩;rw [hsu];unfold RS.dig;rw [if_neg hnz,if_pos h19];exact ⟨rfl,rfl,rfl,rfl,rfl,rfl,rfl,rfl,rfl,rfl,rfl,rfl,rfl,by rw [decide_eq_true (show 0 < j+1 by omega)];rfl,rfl,rfl,rfl,trivial⟩
      ·refine go ?_;refine bO (fun _=>?_) (fun h=>absurd h48 h);refine go ?_;refine bI (sg.length+(j+1)) ?_ rfl om;refine go ?_;refine ih _ hjB ⟨hjB,?_⟩;rw [hsu];unfold RS.dig;rw [if_neg hnz,if_neg (by show ¬ nm < 19;omega)];exact ⟨rfl,rfl,rfl,rfl,rfl,(by rw [show (tr || !(decide (c.toNat - 48=0)))=tr by rw [decide_eq_true (show c.toNat - 48=0 by omega)];simp];rfl),rfl,rfl,rfl,rfl,rfl,rfl,rfl,by rw [decide_eq_true (show 0 < j+1 by omega)];rfl,rfl,rfl,rfl,trivial⟩
    ·have hnz:¬ (c.toNat - 48=0∧nd=0):=fun h=>by omega
     refine go ?_;refine bI (nd+1) ?_;refine go ?_;refine bE (fun (h19:nm < 19)=>?_) (fun (h19:19 <= nm)=>?_)
     ·have b8:10 ^ nm <= 1000000000000000000:=bg (Nat.pow_le_pow_right dc (show nm <= 18 by omega)) dc;refine go ?_;refine bA (mant * 10) rfl (by show mant * 10 <= 18446744073709551615;omega) ?_;refine go ?_;refine mI (c.toNat - 48) ?_ (by show c.toNat=c.toNat - 48+48;omega) (by show c.toNat - 48 <= 255;omega);refine go ?_;refine bA (c.toNat - 48) rfl (by show c.toNat - 48 <= 18446744073709551615;omega) ?_;refine go ?_;refine bA (mant * 10+(c.toNat - 48)) rfl (by show mant * 10+(c.toNat - 48) <= 18446744073709551615;omega) ?_;refine go ?_;refine bI (nm+1) ?_;refine go ?_;refine bI (sg.length+(j+1)) ?_ rfl om;refine go ?_;refine ih _ hjB ⟨hjB,?_⟩;rw [hsu];unfold RS.dig;rw [if_neg hnz,if_pos h19];exact ⟨rfl,rfl,rfl,rfl,rfl,rfl,rfl,rfl,rfl,rfl,rfl,rfl,rfl,by rw [decide_eq_true (show 0 < j+1 by omega)];rfl,rfl,rfl,rfl,trivial⟩
     ·refine go ?_;refine bO (fun h=>absurd h h48) (fun _=>?_);refine go ?_;refine bI (sg.length+(j+1)) ?_ rfl om;refine go ?_;refine ih _ hjB ⟨hjB,?_⟩;rw [hsu];unfold RS.dig;rw [if_neg hnz,if_neg (by show ¬ nm < 19;omega)];exact ⟨rfl,rfl,rfl,rfl,rfl,(by rw [show (tr || !(decide (c.toNat - 48=0)))=true by rw [decide_eq_false (show ¬ c.toNat - 48=0 by omega)];simp];rfl),rfl,rfl,rfl,rfl,rfl,rfl,rfl,by rw [decide_eq_true (show 0 < j+1 by omega)];rfl,rfl,rfl,rfl,trivial⟩
  ·have e:j=B.length:=om;subst e;rw [List.take_length] at *
   obtain ⟨hx1,hx2⟩:ex=101 :: 45 :: E∧E ≠ []:=by
    rcases hex with ⟨h,_⟩|h
    ·rw [h] at hl1;simp at hl1;omega
    ·exact h
   have hexl:ex.length=E.length+2:=by rw [hx1];rfl
   have hE0:0 < E.length:=List.length_pos_iff.2 hx2
   have hxat:∀ n,s[sg.length+B.length+n]?=ex[n]?:=fun n=>by
    rw [hs,List.getElem?_append_right sm,aq,Nat.add_sub_cancel_left]
   have hx101:s[sg.length+B.length]?=some 101:=by have:=hxat 0;rw [hx1] at this;exact this
   have hx45:s[sg.length+B.length+1]?=some 45:=by have:=hxat 1;rw [hx1] at this;exact this
   have hxE:∀ m (h:m < E.length),s[sg.length+B.length+2+m]?=some E[m]:=fun m h=>by
    have:=hxat (2+m);rw [hx1,show 2+m=m+1+1 by omega] at this;rw [Nat.add_assoc,show 2+m=m+1+1 by omega,this,List.getElem?_cons_succ,List.getElem?_cons_succ,ak h]
   rw [decide_eq_true hB0];refine go ?_;refine bU _ (vF hx101) ?_;refine go ?_;have hdE0:=dP.1 (List.all_eq_true.1 hE _ (az hE0))
   have hst2:-2000 <= (if (cF B).saw then (cF B).dp else .ofNat (cF B).nd)∧(if (cF B).saw then (cF B).dp else .ofNat (cF B).nd) <= 2000:=by
    have:=hst.lo;have:=hst.hi;have:=hst.nd
    split
    ·omega
    ·simp only [Int.ofNat_eq_natCast];omega
   apply LP.join 253 [(0,.str s),(2,.int .u64 (.ofNat (cF B).mant)),(3,.int .i64 0),(4,.bool (decide (sg=[45]))),(5,.bool (cF B).tr),(6,.bool false),(7,.int .i64 (.ofNat (sg.length+B.length+2))),(9,.bool false),(10,.int .u64 10),(16,.int .i64 (.ofNat (cF B).nm)),(17,.int .i64 (if (cF B).saw then (cF B).dp else .ofNat (cF B).nd)),(19,.int .i64 (.negSucc 0)),(20,.int .i64 (.ofNat 0))]
   ·intro key2
    cases hsv:(cF B).saw with
    | false =>
      refine go ?_;refine bE (fun _=>?_) (fun h=>absurd h (by rw [aM];omega));refine go ?_;refine bU _ (vF hx101) ?_;refine go ?_;refine tD dc ?_;refine go ?_;refine bI (sg.length+B.length+1) ?_;refine go ?_;refine bE (fun _=>?_) (fun h=>absurd h (by rw [aM];omega));refine go ?_;refine bU _ (vF hx45) ?_;refine go ?_;refine bI (sg.length+B.length+2) ?_;refine go ?_;refine bE (fun _=>?_) (fun h=>absurd h (by rw [aM];omega));refine go ?_;refine bU _ (vF (hxE 0 hE0)) ?_;refine go ?_;refine bE (fun (h:_ < 48)=>by omega) (fun _=>?_);refine go ?_;refine bU _ (vF (hxE 0 hE0)) ?_;refine go ?_;refine bE (fun (h:57 < _)=>by omega) (fun _=>?_);refine go ?_;exact key2 _ ⟨rfl,rfl,rfl,rfl,rfl,rfl,rfl,rfl,rfl,rfl,rfl,by rw [hsv];rfl,rfl,rfl,trivial⟩
    | true =>
      refine go ?_;refine bE (fun _=>?_) (fun h=>absurd h (by rw [aM];omega));refine go ?_;refine bU _ (vF hx101) ?_;refine go ?_;refine tD dc ?_;refine go ?_;refine bI (sg.length+B.length+1) ?_;refine go ?_;refine bE (fun _=>?_) (fun h=>absurd h (by rw [aM];omega));refine go ?_;refine bU _ (vF hx45) ?_;refine go ?_;refine bI (sg.length+B.length+2) ?_;refine go ?_;refine bE (fun _=>?_) (fun h=>absurd h (by rw [aM];omega));refine go ?_;refine bU _ (vF (hxE 0 hE0)) ?_;refine go ?_;refine bE (fun (h:_ < 48)=>by omega) (fun _=>?_);refine go ?_;refine bU _ (vF (hxE 0 hE0)) ?_;refine go ?_;refine bE (fun (h:57 < _)=>by omega) (fun _=>?_);refine go ?_;exact key2 _ ⟨rfl,rfl,rfl,rfl,rfl,rfl,rfl,rfl,rfl,rfl,rfl,by rw [hsv];rfl,rfl,rfl,trivial⟩
   ·intro Ey hEy;generalize hdp0:(if (cF B).saw then (cF B).dp else .ofNat (cF B).nd)=dp0 at *;refine LP.induct0 E.length (fun j E'=>j <= E.length∧Kn E' 253 [(0,.str s),(2,.int .u64 (.ofNat (cF B).mant)),(3,.int .i64 0),(4,.bool (decide (sg=[45]))),(5,.bool (cF B).tr),(6,.bool false),(7,.int .i64 (.ofNat (sg.length+B.length+2+j))),(9,.bool false),(10,.int .u64 10),(16,.int .i64 (.ofNat (cF B).nm)),(17,.int .i64 dp0),(19,.int .i64 (.negSucc 0)),(20,.int .i64 (.ofNat (oG (E.take j))))]) ⟨ai _,hEy⟩ ?_;intro j E' ⟨hj,hf⟩ ih;have hv:=aKH hE hj;refine LP.kn mixed hf ?_;refine go ?_;refine bE (fun hlt=>?_) (fun hge=>?_)
    ·rw [aM] at hlt;have hjE:j < E.length:=om;have hd:=dP.1 (List.all_eq_true.1 hE _ (az hjE));have hsu:=aDX hjE;have hv4:oG (E.take j) < 1000:=Nat.lt_of_lt_of_le hv (bg (Nat.pow_le_pow_right dc (show j <= 3 by omega)) dc);generalize hcc:E[j]=c at *;have hc:=hxE j hjE;rw [hcc] at hc;generalize oG (E.take j)=e at *;refine go ?_;refine bU _ (vF hc) ?_;refine go ?_;refine bE (fun (h:_ < 48)=>by omega) (fun _=>?_);refine go ?_;refine bU _ (vF hc) ?_;refine go ?_;refine bE (fun (h:57 < _)=>by omega) (fun _=>?_);refine go ?_;refine bU _ (vF hc) ?_;refine go ?_;refine bO (fun (h:_=95)=>by omega) (fun _=>?_);refine go ?_;refine bE (fun _=>?_) (fun (h:10000 <= _)=>by omega);refine go ?_;refine bI (e * 10) ?_;refine go ?_;refine bU _ (vF hc) ?_;refine go ?_;refine bI c.toNat ?_;refine go ?_;refine bI (e * 10+c.toNat) ?_;refine go ?_;refine jK (e * 10+(c.toNat - 48)) ?_ (by show e * 10+c.toNat=e * 10+(c.toNat - 48)+48;omega);refine go ?_;refine bI (sg.length+B.length+2+(j+1)) ?_;refine go ?_;refine ih _ hjE ⟨hjE,rfl,rfl,rfl,rfl,rfl,rfl,rfl,rfl,rfl,rfl,rfl,rfl,rfl,by rw [hsu];rfl,trivial⟩
    ·rw [aM] at hge;have ej:j=E.length:=om;subst ej;rw [List.take_length] at *;have hv4:oG E < 10000:=Nat.lt_of_lt_of_le hv (bg (Nat.pow_le_pow_right dc hE4) dc)
     have hdpE:oD B E=Int.sub dp0 (.ofNat (oG E)):=by unfold oD;rw [hdp0]
     have hdlo:-12000 <= oD B E∧oD B E <= 2000:=by
      rw [hdpE];show -12000 <= dp0 - (oG E:Int)∧dp0 - (oG E:Int) <= 2000;omega
     have hn19:=hst.nm;have hlenS:s.length=sg.length+B.length+2+E.length:=om;refine go ?_;refine gR (-(oG E:Int)) (by show (oG E:Int) * (-1)=_;omega) ?_ om om;refine go ?_;refine gR (oD B E) (by rw [hdpE];show dp0+-(oG E:Int)=dp0 - (oG E:Int);omega) ?_ om om;refine go ?_;unfold rfV at hk;rw [hlenS] at hk;by_cases hm:(cF B).mant=0
     ·have hke:kP B E=0:=by unfold kP;rw [if_pos hm]
      rw [hke] at hk;refine bO (fun _=>?_) (fun h=>absurd hm h);refine go ?_;exact hk
     ·have hke:kP B E=Int.sub (oD B E) (.ofNat (cF B).nm):=by unfold kP;rw [if_neg hm]
      rw [hke] at hk;refine bO (fun h=>absurd h hm) (fun _=>?_);refine go ?_;refine gR (Int.sub (oD B E) (.ofNat (cF B).nm)) rfl ?_ (by show _ <= oD B E - ((cF B).nm:Int);omega) (by show oD B E - ((cF B).nm:Int) <= _;omega);refine go ?_;exact hk
 ·rw [aM] at hge;have e:j=B.length:=om;subst e;rw [List.take_length] at *
  have hx:ex=[]∧E=[]:=by
   rcases hex with h|⟨h,_⟩
   ·exact h
   ·rw [h] at hl1;simp at hl1;omega
  rw [decide_eq_true hB0]
  have hdpE:(if (cF B).saw then (cF B).dp else .ofNat (cF B).nd)=oD B E:=by
   unfold oD;rw [hx.2];exact (Int.sub_zero _).symm
  have hdlo:-2000 <= oD B E∧oD B E <= 2000:=by
   rw [<- hdpE];have:=hst.lo;have:=hst.hi;have:=hst.nd
   split
   ·omega
   ·simp only [Int.ofNat_eq_natCast];omega
  have hn19:=hst.nm;have hlenS:s.length=sg.length+B.length:=om;refine go ?_
  cases hsv:(cF B).saw with
  | false =>
    rw [hsv] at hdpE;simp only [Bool.false_eq_true,if_false] at hdpE;refine go ?_;refine bE (fun h=>absurd h (by rw [aM];omega)) (fun _=>?_);refine go ?_;unfold rfV at hk;rw [hlenS] at hk;by_cases hm:(cF B).mant=0
    ·have hke:kP B E=0:=by unfold kP;rw [if_pos hm]
     rw [hke] at hk;refine bO (fun _=>?_) (fun h=>absurd hm h);refine go ?_;exact hk
    ·have hke:kP B E=Int.sub (oD B E) (.ofNat (cF B).nm):=by unfold kP;rw [if_neg hm]
     rw [hke] at hk;refine bO (fun h=>absurd h hm) (fun _=>?_);refine go ?_;refine gR (Int.sub (oD B E) (.ofNat (cF B).nm)) (by rw [<- hdpE]) ?_ (by show _ <= oD B E - ((cF B).nm:Int);omega) (by show oD B E - ((cF B).nm:Int) <= _;omega);refine go ?_;exact hk
  | true =>
    rw [hsv] at hdpE;simp only [if_true] at hdpE;refine go ?_;refine bE (fun h=>absurd h (by rw [aM];omega)) (fun _=>?_);refine go ?_;unfold rfV at hk;rw [hlenS] at hk;by_cases hm:(cF B).mant=0
    ·have hke:kP B E=0:=by unfold kP;rw [if_pos hm]
     rw [hke] at hk;refine bO (fun _=>?_) (fun h=>absurd hm h);refine go ?_;exact hk
    ·have hke:kP B E=Int.sub (oD B E) (.ofNat (cF B).nm):=by unfold kP;rw [if_neg hm]
     rw [hke] at hk;refine bO (fun h=>absurd h hm) (fun _=>?_);refine go ?_;refine gR (Int.sub (oD B E) (.ofNat (cF B).nm)) (by rw [<- hdpE]) ?_ (by show _ <= oD B E - ((cF B).nm:Int);omega) (by show oD B E - ((cF B).nm:Int) <= _;omega);refine go ?_;exact hk
theorem aLz {ds:List Nat}{m:Nat}(h:m < ds.length)(r:Nat):fZ r (ds.take (m+1))=(10 * fZ r (ds.take m)+ds[m]) % 2:=by
 rw [an h,aGg];rfl
theorem aLy {ds:List Nat}{m:Nat}(h:m < ds.length)(r:Nat):lJ r (ds.take (m+1))=lJ r (ds.take m) ++ [(10 * fZ r (ds.take m)+ds[m]) / 2]:=by
 rw [an h,aGf];rfl
theorem aUZ:bB Tryz.prog 96 34 [] (aL Tryz.f96):=fq Tryz.f96
theorem aLw {ds:List Nat}(hd:nE ds)(hne:ds ≠ [])(hlen:ds.length <= 2000){S:St}{p b h:Nat}(hh:h <= 2000)(hN:Num S p b ds h)(hroom:S.next+1 < 4096){k:V->St->Prop}(hk:∀ S',Num S' p b (yA ds) (if 0 < fZ 0 ds then h+1 else h)->S'.next <= S.next+1->k (.tup []) S'):RC Tryz.prog 96 [.ptr p 0,.ptr b 0] S k:=by
 obtain ⟨⟨q,ex,fl,hfl,hpq,hbq,hq,hqn,gp,gq⟩,gb,hpb,hp,hb⟩:=hN;have hn0:0 < ds.length:=List.length_pos_iff.2 hne;have hrm:room=4096:=rfl
 refine RC.small2 mixed aUZ [] (l:=[.ptr (aI+1) 0,.ptr (aI+2) 0]) 0 [q,p,b] [.cells (dC ds) 5 fl,.cells [.slice q 0 ds.length ds.length 1 ex] 36 .ex,.cells [.int .i64 (.ofNat h)] 3 .ex] [.cells (dC ds) 5 .rw,.cells [.slice aI 0 ds.length ds.length 1 false] 36 .ex,.cells [.int .i64 (.ofNat h)] 3 .ex]
  [if 0 < fZ 0 ds then none else some (.cells (dC (lJ 0 ds)) 5 .rw),some (.cells [if 0 < fZ 0 ds then .slice S.next 0 (ds.length+1) (ds.length+1) 1 false else .slice q 0 ds.length ds.length 1 false] 36 .ex),some (.cells [.int .i64 (.ofNat (if 0 < fZ 0 ds then h+1 else h))] 3 .ex)]
  (if 0 < fZ 0 ds then [.cells (dC (yA ds)) 5 .rw] else []) (v2:=.tup []) sm ?_ ?_ sm rfl rfl rfl ?_ ?_ (.cons (.ptr _ (iC.at (a:=1) rfl sm)) (.cons (.ptr _ (iC.at (a:=2) rfl sm)) .nil)) ?_ ?_ ?_ ?_ ?_ ?_
 ·rintro (_|_|_|a) i _ h1 <;> simp at h1 <;> omega
 ·rintro (_|_|_|a) (_|_|_|c) i _ h1 h2 <;> simp at h1 h2 <;> first|rfl|omega
 ·rintro (_|_|_|a) i o h1 h2
  ·simp at h1 h2;subst h1;subst h2;exact gq
  ·simp at h1 h2;subst h1;subst h2;exact gp
  ·simp at h1 h2;subst h1;subst h2;exact gb
  ·simp at h1
 ·rintro (_|_|_|a) o1 o2 h1 h2
  ·simp at h1 h2;subst h1;subst h2;refine .cells (rH _) ?_
   cases fl with
   | ro=>exact absurd rfl hfl
   | ex=>exact .inr (.inl rfl)
   | rw=>exact .inl rfl
  ·simp at h1 h2;subst h1;subst h2;exact .cells (.cons (.slice _ _ _ _ _ _ _ (iC.at (a:=0) rfl sm) (.inl rfl) (af _) sm) .nil) (.inl rfl)
  ·simp at h1 h2;subst h1;subst h2;exact .cells (.cons (.int _ _) .nil) (.inl rfl)
  ·simp at h1
 ·rintro (_|_|_|a) o h
  ·simp at h;rw [<- h.2];rfl
  ·simp at h;subst h;rfl
  ·simp at h;subst h;rfl
  ·simp at h
 ·intro a o h
  split at h
  ·rcases a with _|a
   ·simp at h;subst h;rfl
   ·simp at h
  ·simp at h
 ·generalize hK:aJt _ _ _ _ _ _ _ _=K;refine build ?_;refine enter ?_;refine go ?_;refine LP.induct ds.length (fun j E S'=>j <= ds.length∧S'=rE [(aI,.cells (dC (lJ 0 (ds.take j) ++ ds.drop j)) 5 .rw),(aI+1,.cells [.slice aI 0 ds.length ds.length 1 false] 36 .ex),(aI+2,.cells [.int .i64 (.ofNat h)] 3 .ex)] (aI+3)∧Kn E 34 [(0,.ptr (aI+1) 0),(1,.ptr (aI+2) 0),(2,.int .u8 (.ofNat (fZ 0 (ds.take j)))),(6,.int .i64 (.ofNat ds.length)),(7,.int .i64 (.ofNat j))]) ⟨ai _,?_,rfl,rfl,rfl,rfl,rfl,rfl,trivial⟩ ?_
  ·show _=rE [(aI,.cells (dC ds) 5 .rw),(aI+1,.cells [.slice aI 0 ds.length ds.length 1 false] 36 .ex),(aI+2,.cells [.int .i64 (.ofNat h)] 3 .ex)] (aI+3)
   kernel_rfl
  rintro j E S' ⟨hj,hS,hf⟩ ih;subst hS;refine LP.kn mixed hf ?_;refine go ?_;refine bE (fun hlt=>?_) (fun hge=>?_)
  ·have hd10:ds[j] < 10:=hd _ (az hlt);have hr1:fZ 0 (ds.take j) <= 1:=aAq om
   have hlc:(dC (lJ 0 (ds.take j) ++ ds.drop j)).length=ds.length:=by
    rw [lF,aq,gH,bh,List.length_drop];omega
   have hlj:(lJ 0 (ds.take j)).length=j:=by rw [gH,bh];omega
   have hget:(dC (lJ 0 (ds.take j) ++ ds.drop j))[j]?=some (.int .u8 (.ofNat (48+ds[j]))):=by
    rw [aNC (by rw [aq,List.length_drop];omega)];rw [List.getElem_append_right om,List.getElem_drop];simp only [hlj,Nat.sub_self,Nat.add_zero]
   have t1:=aLz hlt 0;have t2:=aLy hlt 0;generalize hc:fZ 0 (ds.take j)=r at *;generalize hx:ds[j]=x at *;refine go ?_;refine bA (10 * r) rfl (by show 10 * r <= 255;omega) ?_;refine go ?_;refine ifK_intro (ag hlt) ?_;refine go ?_;refine aH aNa j (by show 0+j * 1=j;omega) hget ?_;refine go ?_;refine bA (10 * r+(48+x)) rfl (by show 10 * r+(48+x) <= 255;omega) ?_;refine go ?_;refine mI (10 * r+x) ?_ (by show 10 * r+(48+x)=10 * r+x+48;omega) (by show 10 * r+x <= 255;omega);refine go ?_;refine bA ((10 * r+x) / 2) rfl (by show (10 * r+x) / 2 <= 255;omega) ?_;refine go ?_;refine bA (48+(10 * r+x) / 2) rfl (by show 48+(10 * r+x) / 2 <= 255;omega) ?_;refine go ?_;refine dM ((10 * r+x) % 2) rfl ?_;refine go ?_;refine ifK_intro (ag hlt) ?_;refine go ?_;refine aOW (cs':=dC (lJ 0 (ds.take (j+1)) ++ ds.drop (j+1))) j (by show 0+j * 1=j;omega) (by rw [hlc];exact hlt) ?_ ?_
   ·rw [aND,t2,List.set_append_right _ _ om,hlj,Nat.sub_self,List.drop_eq_getElem_cons hlt,List.append_assoc];rfl
   refine go ?_;refine bI (j+1) ?_;refine go ?_;refine ih _ _ hlt ⟨hlt,?_,rfl,rfl,rfl,?_,rfl,rfl,trivial⟩
   ·kernel_rfl
   ·rw [t1];rfl
  ·have e:j=ds.length:=om;subst e;rw [List.take_length,List.drop_length,bf] at *;have hr1:fZ 0 ds <= 1:=aAq om;refine go ?_;refine bE (fun (hc:0 < _)=>?_) (fun (hc:_ <= 0)=>?_)
   ·simp only [if_pos hc] at hK ⊢;have hl2:=gH 0 ds
    have hdb:yA ds=lJ 0 ds ++ [5]:=by unfold yA;rw [if_pos hc]
    rw [hdb] at hK;generalize fZ 0 ds=c at *;generalize lJ 0 ds=l at *;refine go ?_;refine bX (fun hb=>?_) (fun _=>?_)
    ·have:=ae hb;have h3:ds.length+1 <= ds.length:=this;omega
    refine go ?_;refine ifK_intro (ag (show (ds.length+1) * 2 <= 70368744177664 by omega)) ?_;refine go ?_;refine aKA (by rw [lF,hl2];show ds.length * 1=_;omega) ?_;refine go ?_;refine bZ ?_;refine go ?_;refine bI (h+1) ?_;refine go ?_;rw [<- hK];refine ⟨[aI+4],eE _,fun g hg=>by rw [ay] at hg;subst hg;exact ae rfl,.tup .nil,⟨⟨_,rfl,.cells (.cons (.slice _ _ _ _ _ _ _ (mS.new (a:=0) rfl (ae rfl) sm) (.inl rfl) (af _) (fun h=>⟨h,rfl⟩)) .nil) (.inl rfl)⟩,⟨_,rfl,.cells (.cons (.int _ _) .nil) (.inl rfl)⟩,trivial⟩,⟨⟨_,rfl,?_⟩,trivial⟩⟩
    have e:dC (l ++ [5])=dC l ++ [.int .u8 (.ofNat 53)]:=by simp [dC]
    rw [e];exact .cells ((rH l).app (.cons (.int _ _) .nil)) (.inl rfl)
   ·simp only [if_neg (show ¬ 0 < fZ 0 ds by omega)] at hK ⊢;refine go ?_;rw [<- hK];refine ⟨[],bj,sm,.tup .nil,⟨⟨_,rfl,.cells (rH _) (.inl rfl)⟩,⟨_,rfl,.cells (.cons (.slice _ _ _ _ _ _ _ (mS.at (a:=0) rfl (ae rfl) rfl) (.inl rfl) (af _) (fun h=>⟨h,rfl⟩)) .nil) (.inl rfl)⟩,⟨_,rfl,.cells (.cons (.int _ _) .nil) (.inl rfl)⟩,trivial⟩,trivial⟩
 ·split <;> simp only [au,List.length_nil] <;> omega
 ·intro i hi;simp only [av,List.mem_nil_iff,or_false] at hi;omega
 ·intro S' hS'
  have hnext:S'.next=S.next+(if 0 < fZ 0 ds then 1 else 0):=by
   have:=congrArg Hs.next hS';rw [iS,fC] at this;rw [show S'.next=S'.hs.next from rfl,this]
   split <;> rfl
  have hget:∀ i,S'.hs.get i=(eC (if 0 < fZ 0 ds then [.cells (dC (yA ds)) 5 .rw] else []) (fO ([q,p,b].zip [if 0 < fZ 0 ds then none else some (.cells (dC (lJ 0 ds)) 5 .rw),some (.cells [if 0 < fZ 0 ds then .slice S.next 0 (ds.length+1) (ds.length+1) 1 false else .slice q 0 ds.length ds.length 1 false] 36 .ex),some (.cells [.int .i64 (.ofNat (if 0 < fZ 0 ds then h+1 else h))] 3 .ex)]) S.hs)).get i:=fun i=>by rw [hS'];rfl
  have hnx:S.hs.next=S.next:=rfl;refine hk S' ⟨?_,?_,hpb,⟨hp.1,om⟩,⟨hb.1,om⟩⟩ (by rw [hnext];split <;> omega)
  ·by_cases hc:0 < fZ 0 ds
   ·have hl:(yA ds).length=ds.length+1:=by unfold yA;rw [if_pos hc];simp [gH]
    refine ⟨S.next,false,.rw,sm,om,om,om,by rw [hnext,if_pos hc];omega,?_,?_⟩
    ·rw [hget,if_pos hc,if_pos hc,if_pos hc,hl];simp only [eC,Hs.new,fC,hnx,if_neg (show ¬ p=S.next by omega),fO,List.zip_cons_cons,Hs.put,if_neg hpq,if_pos]
    ·rw [hget,if_pos hc];simp only [eC,Hs.new,fC,hnx,if_pos]
   ·have hl:yA ds=lJ 0 ds:=by unfold yA;rw [if_neg hc]
    refine ⟨q,false,.rw,sm,hpq,hbq,hq,by rw [hnext];omega,?_,?_⟩
    ·rw [hget,if_neg hc,if_neg hc,if_neg hc,hl,gH];simp only [eC,fO,List.zip_cons_cons,Hs.put,if_neg hpq,if_pos]
    ·rw [hget,if_neg hc,if_neg hc,hl];simp only [eC,fO,List.zip_cons_cons,Hs.put,if_pos]
  ·rw [hget];by_cases hc:0 < fZ 0 ds
   ·simp only [if_pos hc];simp only [eC,Hs.new,fC,hnx,if_neg (show ¬ b=S.next by omega),fO,List.zip_cons_cons,Hs.put,if_neg hbq,if_neg (Ne.symm hpb),if_pos]
   ·simp only [if_neg hc];simp only [eC,fO,List.zip_cons_cons,Hs.put,if_neg hbq,if_neg (Ne.symm hpb),if_pos]
end Go.Am
namespace Go.Am
def dB (ds:List Nat):List UInt8:=ds.map fun d=>UInt8.ofNat (48+d)
theorem iR (ds:List Nat):(dB ds).length=ds.length:=by simp [dB]
theorem aJK:∀ {ds:List Nat},nE ds->dC ds=bC (dB ds)
 | [],_=>rfl
 | d :: ds,h=>by
   have hd:d < 10:=h d sm;have ih:=aJK (ds:=ds) fun x hx=>h x (by simp [hx]);show V.int .u8 (.ofNat (48+d)) :: dC ds=V.int .u8 (.ofNat (UInt8.ofNat (48+d)).toNat) :: bC (dB ds);rw [ih]
   congr 3
   rw [UInt8.toNat_ofNat'];omega
def dl (u:Nat):List Nat:=(Lib.decDigits u).map fun b=>b.toNat - 48
theorem aEu (u:Nat):∀ b ∈ Lib.decDigits u,48 <= b.toNat∧b.toNat <= 57:=by
 induction u using Nat.strongRecOn with
 | _ u ih =>
   intro b hb;rw [Lib.decDigits] at hb
   split at hb
   ·rename_i h
    rw [ay] at hb;subst hb;rw [UInt8.toNat_ofNat'];omega
   ·rename_i h
    rcases List.mem_append.1 hb with hb|hb
    ·exact ih (u / 10) om b hb
    ·rw [ay] at hb;subst hb;rw [UInt8.toNat_ofNat'];omega
theorem vP (u:Nat):nE (dl u):=fun d hd=>by
 obtain ⟨b,hb,rfl⟩:=List.mem_map.1 hd;have:=aEu u b hb;omega
theorem sP (u:Nat):(dl u).length=Lib.nDigits u:=by rw [dl,List.length_map,Lib.decDigits_length]
theorem aFS (u:Nat):bC (Lib.decDigits u)=dC (dl u):=by
 unfold bC dC dl;rw [List.map_map];refine List.map_congr_left fun b hb=>?_;have:=aEu u b hb;show V.int .u8 (.ofNat b.toNat)=V.int .u8 (.ofNat (48+(b.toNat - 48)))
 congr 2;omega
theorem tM (u:Nat):fJ (dl u)=u:=by
 induction u using Nat.strongRecOn with
 | _ u ih =>
   unfold dl;rw [Lib.decDigits]
   split
   ·rename_i h
    simp only [List.map_cons,List.map_nil,fJ,List.length_nil,Nat.pow_zero,Nat.mul_one,Nat.add_zero];rw [UInt8.toNat_ofNat'];omega
   ·rename_i h
    have:=ih (u / 10) om;rw [List.map_append,aHo];show fJ (dl (u / 10)) * _+_=u;rw [this];simp only [List.map_cons,List.map_nil,List.length_singleton,Nat.pow_one,fJ,List.length_nil,Nat.pow_zero,Nat.mul_one,Nat.add_zero];rw [UInt8.toNat_ofNat'];omega
def itD (ds:List Nat):Nat->List Nat
 | 0=>ds
 | n+1=>dbl (itD ds n)
def tY (ds:List Nat):Nat->List Nat × Nat
 | 0=>(ds,0)
 | n+1=>(yA (tY ds n).1,if 0 < fZ 0 (tY ds n).1 then (tY ds n).2+1 else (tY ds n).2)
theorem wD {ds:List Nat}(h:nE ds):∀ n,nE (itD ds n)
 | 0=>h
 | n+1=>aNF (wD h n)
theorem lL (ds:List Nat):∀ n,ds.length <= (itD ds n).length∧(itD ds n).length <= ds.length+n
 | 0=>⟨af _,af _⟩
 | n+1=>by
   obtain ⟨h1,h2⟩:=lL ds n;obtain ⟨h3,h4⟩:=aIb (itD ds n);show ds.length <= (dbl (itD ds n)).length∧(dbl (itD ds n)).length <= ds.length+(n+1);omega
theorem aEJ (ds:List Nat):∀ n,fJ (itD ds n)=fJ ds * 2 ^ n
 | 0=>by simp [itD]
 | n+1=>by
   show fJ (dbl (itD ds n))=_;rw [aQk,aEJ ds n,Nat.pow_succ,Nat.mul_comm 2,Nat.mul_assoc]
theorem aBv {ds:List Nat}(h:nE ds):∀ n,nE (tY ds n).1
 | 0=>h
 | n+1=>aOi (aBv h n)
theorem aIx (l:List Nat):(yA l).length=l.length+(if 0 < fZ 0 l then 1 else 0):=by
 unfold yA
 split <;> simp [gH]
theorem nU (ds:List Nat):∀ n,(tY ds n).1.length=ds.length+(tY ds n).2∧(tY ds n).2 <= n
 | 0=>⟨rfl,af _⟩
 | n+1=>by
   obtain ⟨h1,h2⟩:=nU ds n;have h3:=aIx (tY ds n).1;show (yA (tY ds n).1).length=ds.length+(if 0 < fZ 0 (tY ds n).1 then (tY ds n).2+1 else (tY ds n).2)∧(if 0 < fZ 0 (tY ds n).1 then (tY ds n).2+1 else (tY ds n).2) <= n+1;rw [h3]
   split <;> omega
theorem aEK (ds:List Nat):∀ n,fJ (tY ds n).1 * 2 ^ n=fJ ds * 10 ^ (tY ds n).2
 | 0=>by simp [tY]
 | n+1=>by
   have ih:=aEK ds n;have h:=aOj (tY ds n).1;show fJ (yA (tY ds n).1) * 2 ^ (n+1)=fJ ds * 10 ^ (if 0 < fZ 0 (tY ds n).1 then (tY ds n).2+1 else (tY ds n).2)
   have e:fJ (yA (tY ds n).1) * 2 ^ (n+1)=2 * fJ (yA (tY ds n).1) * 2 ^ n:=by rw [Nat.pow_succ,Nat.mul_comm (2 ^ n) 2,<- Nat.mul_assoc,Nat.mul_comm (fJ _) 2]
   rw [e,h,Nat.mul_assoc,ih]
   split
   ·rw [Nat.pow_succ,<- Nat.mul_assoc,Nat.mul_comm 10 (fJ ds),Nat.mul_assoc,Nat.mul_comm 10 (10 ^ _)]
   ·rw [Nat.one_mul]
def cX (v:Nat):Nat:=if dO v=0 then jW v else 2 ^ 52+jW v
def jI (v:Nat):Nat:=if dO v=0 then 1 else dO v
def cH (v:Nat):List Nat × Nat:=if 1075 < jI v then (itD (dl (cX v)) (jI v - 1075),0) else if 0 < cX v then tY (dl (cX v)) (1075 - jI v) else (dl (cX v),0)
def lz (l:List UInt8):List UInt8:=l.drop (mN (rG 48) l)
def rz (l:List UInt8):List UInt8:=(lz l.reverse).reverse
def cU (v:Nat):List UInt8:=if lz (dB ((cH v).1.take ((cH v).1.length - (cH v).2)))=[] then [48] else lz (dB ((cH v).1.take ((cH v).1.length - (cH v).2)))
def cD (v:Nat):List UInt8:=rz (dB ((cH v).1.drop ((cH v).1.length - (cH v).2)))
def iA (v:Nat):List UInt8:=if cD v=[] then [] else 46 :: cD v
def uC (v:Nat):List UInt8:=if 2 ^ 63 <= v then [45] else []
def bT (v:Nat):List UInt8:=uC v ++ (cU v ++ iA v)
theorem kY (v:Nat):nE (cH v).1∧(cH v).2 <= (cH v).1.length:=by
 unfold cH
 split
 ·exact ⟨wD (vP _) _,ai _⟩
 ·split
  ·exact ⟨aBv (vP _) _,by rw [(nU (dl (cX v)) (1075 - jI v)).1];exact Nat.le_add_left _ _⟩
  ·exact ⟨vP _,ai _⟩
theorem aSx {l:List UInt8}{c:UInt8}(h:(lz l).head?=some c):c ≠ 48:=by
 unfold lz mN at h
 induction l with
 | nil=>simp at h
 | cons x l ih =>
   by_cases hx:rG 48 x=true
   ·simp only [List.takeWhile,hx,au,List.drop_succ_cons] at h;exact ih h
   ·have hx':rG 48 x=false:=by cases hb:rG 48 x <;> simp_all
    simp only [List.takeWhile,hx',List.length_nil,List.drop_zero,List.head?_cons] at h;cases h;intro e;subst e;exact hx dc
theorem aIF {l:List UInt8}{c:UInt8}(h:c ∈ lz l):c ∈ l:=List.mem_of_mem_drop h
theorem yF (l:List UInt8):(lz l).length <= l.length:=by unfold lz;rw [List.length_drop];omega
theorem aDM (l:List UInt8):(rz l).length <= l.length:=by unfold rz;rw [List.length_reverse];have:=yF l.reverse;rw [List.length_reverse] at this;exact this
theorem aFa (p:UInt8->Bool):∀ s:List UInt8,(s.take (mN p s)).all p=true
 | []=>by simp [mN]
 | c :: s=>by
   unfold mN;by_cases h:p c=true
   ·simp only [List.takeWhile,h,au,List.take_succ_cons,List.all_cons,Bool.true_and];exact aFa p s
   ·have h':p c=false:=by cases hb:p c <;> simp_all
    simp [List.takeWhile,h']
theorem aFb (p:UInt8->Bool):∀ (s:List UInt8) (h:mN p s < s.length),p s[mN p s]=false
 | [],h=>by simp at h
 | c :: s,h=>by
   by_cases hc:p c=true
   ·have e:mN p (c :: s)=mN p s+1:=by simp [mN,List.takeWhile,hc]
    have h2:mN p s < s.length:=by rw [e] at h;simpa using h
    have:=aFb p s h2;simp only [e,List.getElem_cons_succ];exact this
   ·have h':p c=false:=by cases hb:p c <;> simp_all
    have e:mN p (c :: s)=0:=by simp [mN,List.takeWhile,h']
    simp only [e,List.getElem_cons_zero];exact h'
theorem aAw (s:List UInt8):∃ n,n <= s.length∧rz s=s.take n∧(s.drop n).all (rG 48)=true∧∀ (h:0 < n) (h':n - 1 < s.length),rG 48 s[n - 1]=false:=by
 have hle:=aJn (rG 48) s.reverse;rw [List.length_reverse] at hle;refine ⟨s.length - mN (rG 48) s.reverse,Nat.sub_le _ _,?_,?_,fun h h'=>?_⟩
 ·unfold rz lz;rw [List.reverse_drop,List.length_reverse,List.reverse_reverse]
 ·have:=aFa (rG 48) s.reverse;rw [List.all_eq_true] at this ⊢;intro c hc;refine this c ?_
  have e:s.drop (s.length - mN (rG 48) s.reverse)=(s.reverse.take (mN (rG 48) s.reverse)).reverse:=by
   rw [List.reverse_take,List.length_reverse,List.reverse_reverse]
  rw [e] at hc;exact List.mem_reverse.1 hc
 ·have hs:=aFb (rG 48) s.reverse (by rw [List.length_reverse];omega);rw [List.getElem_reverse] at hs;have e:s.length - 1 - mN (rG 48) s.reverse=s.length - mN (rG 48) s.reverse - 1:=om;simpa only [e] using hs
theorem aUD {v:Nat}(hv:v < 2 ^ 64):v &&& 2 ^ 63=if 2 ^ 63 <= v then 2 ^ 63 else 0:=by
 apply Nat.eq_of_testBit_eq;intro i;rw [Nat.testBit_and,Nat.testBit_two_pow];by_cases hi:63=i
 ·subst hi;by_cases h:2 ^ 63 <= v
  ·rw [if_pos h,Nat.testBit_two_pow]
   have:v.testBit 63=true:=by
    rw [Nat.testBit_eq_decide_div_mod_eq];have:v / 2 ^ 63=1:=om;rw [this];rfl
   rw [this];simp
  ·rw [if_neg h]
   have:v.testBit 63=false:=by
    rw [Nat.testBit_eq_decide_div_mod_eq];have:v / 2 ^ 63=0:=om;rw [this];rfl
   rw [this];simp
 ·rw [decide_eq_false hi,Bool.and_false];by_cases h:2 ^ 63 <= v
  ·rw [if_pos h,Nat.testBit_two_pow,decide_eq_false hi]
  ·rw [if_neg h,Nat.zero_testBit]
end Go.Am
namespace Go.Am
open Go.Proofs
attribute [local irreducible] fN fI fB cR eQ evCode evOps rD kOp aAj wF wH wG kGc aLE aLD kDr kMg drOps fU kK sl
theorem qM {sg m:Nat}(hs:sg=0 ∨ sg=2 ^ 63)(hm:m < 2 ^ 63):sg ||| m=sg+m:=by
 rcases hs with rfl|rfl
 ·simp
 ·have:=Nat.two_pow_add_eq_or_of_lt (i:=63) (b:=m) hm 1;rw [Nat.mul_one] at this;exact this.symm
theorem aOT {fr E:Nat}(hf:fr < 2 ^ 52):fr ||| E * 2 ^ 52=fr+E * 2 ^ 52:=by
 rw [Nat.or_comm,Nat.add_comm,Nat.mul_comm];exact (Nat.two_pow_add_eq_or_of_lt (i:=52) (b:=fr) hf E).symm
theorem aSb (x:Nat):x &&& 2 ^ 52=if x / 2 ^ 52 % 2=1 then 2 ^ 52 else 0:=by
 apply Nat.eq_of_testBit_eq;intro i;rw [Nat.testBit_and,Nat.testBit_two_pow];by_cases hi:52=i
 ·subst hi;rw [Nat.testBit_eq_decide_div_mod_eq];by_cases h:x / 2 ^ 52 % 2=1
  ·rw [if_pos h,decide_eq_true h,Nat.testBit_two_pow];rfl
  ·rw [if_neg h,decide_eq_false h];simp
 ·rw [decide_eq_false hi,Bool.and_false]
  split
  ·rw [Nat.testBit_two_pow,decide_eq_false hi]
  ·rw [Nat.zero_testBit]
theorem aNc {a b c:Nat}(hc:c < 18446744073709551616)(ha:a=c+b)(hd:c &&& b=0)(hab:c+b=c ||| b):IntKind.u64.wrap ((BitVec.ofInt IntKind.u64.bits (Int.ofNat a) &&& ~~~ BitVec.ofInt IntKind.u64.bits (Int.ofNat b)).toNat:Int)=Int.ofNat c:=by
 have e:∀ x:Nat,BitVec.ofInt 64 (Int.ofNat x)=BitVec.ofNat 64 x:=fun x=>BitVec.ofInt_ofNat ..;show IntKind.u64.wrap (((BitVec.ofInt 64 (Int.ofNat a) &&& ~~~ BitVec.ofInt 64 (Int.ofNat b)).toNat:Nat):Int)=_;rw [e,e,ha,hab]
 have:BitVec.ofNat 64 (c ||| b) &&& ~~~ BitVec.ofNat 64 b=BitVec.ofNat 64 c:=by
  apply BitVec.eq_of_getLsbD_eq;intro i hi;simp only [BitVec.getLsbD_and,BitVec.getLsbD_not,BitVec.getLsbD_ofNat,hi,decide_true,Bool.true_and,Nat.testBit_or];have hz:=congrArg (fun n=>n.testBit i) hd;simp only [Nat.testBit_and,Nat.zero_testBit] at hz;cases h1:c.testBit i <;> cases h2:b.testBit i <;> simp_all
 rw [this,BitVec.toNat_ofNat,Nat.mod_eq_of_lt hc];exact zB hc
theorem aVh:bB Tryz.prog 325 6 [.tmp 2] (aL Tryz.f325):=fq Tryz.f325
theorem aQU {i:Nat}(hi:i < 696){S:St}{k:V->St->Prop}(hk:k (.int .i64 ((Fp.rowG i:Int) - 1200)) S):RC Tryz.prog 325 [.int .i64 ((i:Int) - 348)] S k:=by
 refine RC.run mixed aS (aG aVh ?_);refine enter ?_;refine go ?_;refine gR (((i:Int) - 348) * 108853) rfl ?_ om om;refine go ?_
 have e:Int.fdiv (((i:Int) - 348) * 108853) (2 ^ 15)=(Fp.rowG i:Int) - 1200:=by
  rw [Int.fdiv_eq_ediv_of_nonneg _ dc];unfold Fp.rowG;omega
 have e2:fI (Int.fdiv (((i:Int) - 348) * 108853) (2 ^ 15))=fI ((Fp.rowG i:Int) - 1200):=by rw [e]
 show fI (Int.fdiv (((i:Int) - 348) * 108853) (2 ^ 15)) _;rw [e2];refine bR ?_;refine go ?_;exact hk
theorem aUO:bB Tryz.prog 298 4 [.tmp 2] (aL Tryz.f298):=fq Tryz.f298
theorem vG {b:Bool}{S:St}{k:V->St->Prop}(hk:k (.int .u64 (.ofNat b.toNat)) S):RC Tryz.prog 298 [.bool b] S k:=by
 refine RC.run mixed aS (aG aUO ?_);refine enter ?_;refine go ?_
 cases b with
 | true =>
   refine go ?_;exact hk
 | false =>
   refine go ?_;exact hk
theorem aVt:bB Tryz.prog 330 10 [.tmp 2] (aL Tryz.f330):=fq Tryz.f330
theorem aKp {u:Nat}(hu:u < 2 ^ 60){S:St}{k:V->St->Prop}(hk:k (.int .u64 (.ofNat (Fp.rnd u))) S):RC Tryz.prog 330 [.int .u64 (.ofNat u)] S k:=by
 refine RC.run mixed aS (aG aVt ?_);refine enter ?_;refine go ?_;refine bA (u+1) rfl (by show u+1 <= 18446744073709551615;omega) ?_;refine go ?_;refine dM (u / 4) (pL u 4) ?_;refine go ?_;refine dM (u / 4 % 2) ((qW (b:=1) om om).trans (congrArg Int.ofNat (Nat.and_two_pow_sub_one_eq_mod (u / 4) 1))) ?_;refine go ?_;refine bA (u+1+u / 4 % 2) rfl (by show u+1+u / 4 % 2 <= 18446744073709551615;omega) ?_;refine go ?_;refine dM (Fp.rnd u) (pL (u+1+u / 4 % 2) 4) ?_;refine go ?_;exact hk
theorem aWL:∃ fn,Tryz.prog.funcs[299]?=some fn∧fn.body=none:=⟨Tryz.f299,kr,kr⟩
theorem qF {b:Nat}{S:St}{k:V->St->Prop}(hk:k (.float .f64 b) S):RC Tryz.prog 299 [.int .u64 (.ofNat b)] S k:=by
 refine RC.run mixed aS (nN aWL ?_)
 conv=>whnf
 exact hk
theorem aTw:bB Tryz.prog 333 26 [.tmp 4,.tmp 5] (aL Tryz.f333):=fq Tryz.f333
theorem aGE {sg m j:Nat}(hs:sg=0 ∨ sg=2 ^ 63)(hm:m < 2 ^ 53)(hj:j <= 2045){S:St}{k:V->St->Prop}(hk:k (.tup [.float .f64 (sg+Fp.pack m j),.nilIface]) S):RC Tryz.prog 333 [.int .u64 (.ofNat (sg+m)),.int .i64 ((j:Int) - 1074)] S k:=by
 have hs64:sg+m < 18446744073709551616:=by rcases hs with rfl|rfl <;> omega
 refine RC.run mixed aS (aG aTw ?_);refine enter ?_;refine go ?_;refine dM ((sg+m) &&& 2 ^ 52) (qW (b:=4503599627370496) hs64 om) ?_;rw [aSb];unfold Fp.pack at hk;by_cases h52:m < 2 ^ 52
 ·have e:(sg+m) / 2 ^ 52 % 2 ≠ 1:=by rcases hs with rfl|rfl <;> omega
  rw [if_neg e];rw [if_pos h52] at hk;refine go ?_;refine qF ?_;refine go ?_;exact hk
 ·have e:(sg+m) / 2 ^ 52 % 2=1:=by rcases hs with rfl|rfl <;> omega
  rw [if_pos e];rw [if_neg h52] at hk;refine go ?_;refine kN (by rw [bF];simp;omega) ?_;refine go ?_;obtain ⟨fr,hfr⟩:∃ fr,fr=m - 2 ^ 52:=⟨_,rfl⟩
  rw [<- hfr] at hk;have hm2:m=fr+2 ^ 52:=om
  have hz:(sg+fr) &&& 2 ^ 52=0:=by
   rw [aSb,if_neg (by rcases hs with rfl|rfl <;> omega)]
  have ho:sg+fr+2 ^ 52=(sg+fr) ||| 2 ^ 52:=by
   rw [<- qM hs (by omega:fr < 2 ^ 63),Nat.or_assoc];have:=aOT (fr:=fr) (E:=1) om;rw [Nat.one_mul] at this;rw [this,qM hs om,qM hs om];omega
  refine dM (sg+fr) (aNc (b:=4503599627370496) om om hz ho) ?_;refine go ?_;obtain ⟨J,hJ⟩:∃ J,J=j+1:=⟨_,rfl⟩
  refine gR (J:Int) (by show (1075:Int)+((j:Int) - 1074)=_;omega) ?_ om om;refine go ?_;refine bA J rfl (by show J <= 18446744073709551615;omega) ?_
  have hsh:IntKind.u64.wrap (Int.ofNat J * 2 ^ min 52 IntKind.u64.bits)=Int.ofNat (J * 4503599627370496):=by
   have e1:Int.ofNat J * 2 ^ min 52 IntKind.u64.bits=((J * 4503599627370496:Nat):Int):=by
    have:(2:Int) ^ min 52 IntKind.u64.bits=4503599627370496:=by decide
    rw [this];show (J:Int) * 4503599627370496=_;omega
   rw [e1];exact zB om
  refine aII (fun Q hQ=>by (conv=>whnf);exact hQ) ?_;refine aOd rfl (fun A B h=>by (conv=>whnf);exact h) (fun Q hQ=>by (conv=>whnf);exact hQ) (fun Q hQ=>by (conv=>whnf);exact hQ) hsh ?_;refine go ?_
  have e52:(4503599627370496:Nat)=2 ^ 52:=by decide
  rw [e52];rw [<- hJ] at hk
  refine dM (sg+(fr+J * 2 ^ 52)) ((aCK om om).trans (congrArg Int.ofNat (by
   rw [<- qM hs (by omega:fr < 2 ^ 63),Nat.or_assoc,aOT om,qM hs om]))) ?_
  refine go ?_;refine qF ?_;refine go ?_;exact hk
open Fp in
theorem way {d b N D g hi lo f r t:Nat}(R:Row N D g hi lo)(P:Rep f r)(Q:Near d b N D f r t) :
  (u64 d b g hi lo < 2 ^ 55 - 2∧rnd (u64 d b g hi lo)=f∧r=b+g - 179) ∨ (2 ^ 55 - 2 <= u64 d b g hi lo∧rnd (half (u64 d b g hi lo))=f∧r=b+g - 179+1):=by
 have hn:=u_near R P Q;have hj:=jr R P Q;have hhi:=Mhi R P Q;generalize hjj:b+g - 179=j at *;generalize u64 d b g hi lo=u at *;obtain ⟨k,hk⟩:∃ k,r=j+k:=⟨r - j,om⟩
 have hrj:r - j=k:=om;rw [hrj] at hn hhi;have f0:=P.f0;have f53:=P.f53
 match k,hk with
 | 0,hk =>
   rw [Nat.pow_zero,Nat.mul_one] at hn;have hr:r=j:=om;exact .inl ⟨om,rnd_near f0 hn,hr⟩
 | 1,hk =>
   rw [Nat.pow_one,Nat.mul_comm f 2] at hn
   have h52:2 ^ 52 <= f:=by
    rcases P.norm with h|h
    ·exact h
    ·omega
   have hr:r=j+1:=om;exact .inr ⟨om,rnd_near f0 (half_near f0 hn),hr⟩
 | k+2,hk =>
   exfalso
   have h52:2 ^ 52 <= f:=by
    rcases P.norm with h|h
    ·exact h
    ·omega
   have h4:4 <= 2 ^ (k+2):=by
    have:2 ^ 2 <= 2 ^ (k+2):=Nat.pow_le_pow_right dc om;omega
   have:=Nat.mul_le_mul h52 h4;omega
open Fp in
theorem aTC {N D g hi lo : Nat}(R : Row N D g hi lo) : 2 ^ 63 <= hi := by
  have h1 : D * 2 ^ g * 2 ^ 127 <= N * A13 := by
    rw [a13]
    calc D * 2 ^ g * 2 ^ 127 <= N * A12 * 2 ^ 127 := Nat.mul_le_mul_right _ R.t3
      _ = N * (2 ^ 127 * A12) := by rw [Nat.mul_assoc, Nat.mul_comm A12]
  have h2 := R.t2;have hd : 0 < D * 2 ^ g := Nat.mul_pos R.d0 (Nat.two_pow_pos g)
  have h3 : (D * 2 ^ g) * 2 ^ 127 <= (D * 2 ^ g) * (hi * 2 ^ 64 - lo + 1) := by
    rw [Nat.mul_add, Nat.mul_one, Nat.mul_comm (D * 2 ^ g) (hi * 2 ^ 64 - lo)];exact Nat.le_trans h1 h2
  have h4 := Nat.le_of_mul_le_mul_left h3 hd;omega
open Fp in
theorem aVR {d b N D g hi lo f r t:Nat}(R:Row N D g hi lo)(Q:Near d b N D f r t):0 < d * 2 ^ (64 - b) * hi / 2 ^ 64:=by
 have h1:2 ^ 63 <= d * 2 ^ (64 - b):=by
  have h:=bi (2 ^ (64 - b)) Q.b1;rw [<- Nat.pow_add,show b+(64 - b)=64 by have:=Q.b64;omega,Nat.mul_assoc] at h;omega
 have h2:=Nat.mul_le_mul h1 (aTC R);exact Nat.div_pos om om
def aAl:List V:=Pinned.pow10Rows.flatMap fun p=>[.int .u64 (.ofNat p.1),.int .u64 (.ofNat p.2)]
theorem aSk {f g:Nat × Nat->V}:∀ {l:List (Nat × Nat)} {i:Nat} {x:Nat × Nat},l[i]?=some x->(l.flatMap fun p=>[f p,g p])[2 * i]?=some (f x)∧(l.flatMap fun p=>[f p,g p])[2 * i+1]?=some (g x)
 | [],i,x,h=>by simp at h
 | y :: l,0,x,h=>by
   simp only [List.getElem?_cons_zero,Option.some.injEq] at h;subst h;exact ⟨rfl,rfl⟩
 | y :: l,i+1,x,h=>by
   simp only [List.getElem?_cons_succ] at h;obtain ⟨h1,h2⟩:=aSk (f:=f) (g:=g) h;rw [List.flatMap_cons,show 2 * (i+1)=2 * i+1+1 by omega];exact ⟨h1,h2⟩
theorem aGH {i hi lo:Nat}(h:Pinned.pow10Rows[i]?=some (hi,lo)):aAl[2 * i]?=some (.int .u64 (.ofNat hi))∧aAl[2 * i+1]?=some (.int .u64 (.ofNat lo)):=aSk h
theorem yL:V.flat.V.flatL aAl=true:=kr
theorem aQE:bB Tryz.prog 328 6 [.tmp 2] (aL Tryz.f328):=fq Tryz.f328
theorem aMF {x:Nat}(h1:1 <= x)(hx:x < 2 ^ 60){S:St}{k:V->St->Prop}(hk:k (.int .u64 (.ofNat (4 * x - 2))) S):RC Tryz.prog 328 [.int .u64 (.ofNat x)] S k:=by
 refine RC.run mixed aS (aG aQE ?_);refine enter ?_;refine go ?_;obtain ⟨y,hy⟩:∃ y,4 * x - 2=y:=⟨_,rfl⟩
 rw [hy] at hk
 have hsh:IntKind.u64.wrap (Int.ofNat x * 2 ^ min 2 IntKind.u64.bits)=Int.ofNat (x * 4):=by
  have e1:Int.ofNat x * 2 ^ min 2 IntKind.u64.bits=((x * 4:Nat):Int):=by
   have:(2:Int) ^ min 2 IntKind.u64.bits=4:=by decide
   rw [this];show (x:Int) * 4=_;omega
  rw [e1];exact zB om
 refine dM (x * 4) hsh ?_;refine go ?_;refine mI y ?_ (by show x * 4=y+2;omega) (by show y <= 18446744073709551615;omega);refine go ?_;exact hk
theorem aKu {d m X:Nat}(h:X=d * 2 ^ m)(hm:m <= 64)(hX:X < 2 ^ 64):IntKind.u64.wrap (Int.ofNat d * 2 ^ min m IntKind.u64.bits)=Int.ofNat X:=by
 have e:min m IntKind.u64.bits=m:=Nat.min_eq_left (by show m <= 64;omega);rw [e,h]
 have e1:Int.ofNat d * 2 ^ m=((d * 2 ^ m:Nat):Int):=by
  rw [Int.natCast_mul,Int.natCast_pow];rfl
 rw [e1];exact zB (by rw [<- h];exact hX)
theorem aSU {s:Nat}(h:s < 64):IntKind.i64.wrap ((BitVec.ofInt IntKind.i64.bits (Int.ofNat s) &&& BitVec.ofInt IntKind.i64.bits 63).toNat:Int)=Int.ofNat s:=by
 have:∀ s:Fin 64,IntKind.i64.wrap ((BitVec.ofInt IntKind.i64.bits (Int.ofNat s.1) &&& BitVec.ofInt IntKind.i64.bits 63).toNat:Int)=Int.ofNat s.1:=by decide
 exact this ⟨s,h⟩
theorem aGy {x y:Nat}(H L:Nat)(hx:x < 18446744073709551616)(hy:y < 18446744073709551616)(h1:x * y / 18446744073709551616=H)(h2:x * y % 18446744073709551616=L){S:St}{k:V->St->Prop}(hk:k (.tup [.int .u64 (.ofNat H),.int .u64 (.ofNat L)]) S) :
  RC Tryz.prog 336 [.int .u64 (.ofNat x),.int .u64 (.ofNat y)] S k:=aLO hx hy (by rw [h1,h2];exact hk)
theorem qQ {H s q:Nat}(hs:s <= 64)(hq:H / 2 ^ s=q):Int.fdiv (Int.ofNat H) (2 ^ min s IntKind.u64.bits)=Int.ofNat q:=by
 have e:min s IntKind.u64.bits=s:=Nat.min_eq_left (by show s <= 64;omega);rw [e,<- hq]
 have:(2:Int) ^ s=((2 ^ s:Nat):Int):=by rw [Int.natCast_pow];rfl
 rw [this];exact pL H (2 ^ s)
theorem uY {a b d:Nat}{k:Int->Prop}(ha:a < 18446744073709551616)(hb:b < 18446744073709551616)(h:(a+18446744073709551616 - b) % 18446744073709551616=d)(hk:k (.ofNat d)):eQ .u64 (Int.sub (Int.ofNat a) (Int.ofNat b)) k:=by
 by_cases hab:b <= a
 ·exact mI d hk om (by show d <= 18446744073709551615;omega)
 ·have e:IntKind.u64.wrap (Int.sub (Int.ofNat a) (Int.ofNat b))=Int.ofNat d:=by
   show IntKind.u64.wrap ((a:Int) - b)=(d:Int)
   have:IntKind.u64.wrap ((a:Int) - b)=((a:Int) - b) % 18446744073709551616:=by
    simp [IntKind.wrap,IntKind.signed,IntKind.bits]
   rw [this];omega
  exact tO (by rw [e];exact hk)
theorem aSf {b:Bool}(c:Bool){k:Bool->Prop}(h:b=c)(hk:k c):fB b k:=by
 subst h
 cases b with
 | false=>exact lG rfl hk
 | true=>exact kN rfl hk
theorem aXk:bB Tryz.prog 327 59 [.tmp 4] (aL Tryz.f327):=fq Tryz.f327
theorem aJq {X hi lo s p:Nat}(hX:X < 2 ^ 64)(hhi:hi < 2 ^ 64)(hlo:lo < 2 ^ 64)(hs:s < 64)(hh:0 < X * hi / 2 ^ 64){S:St}{e:TypeId}{fl:Fl}(hS:S.hs.get p=some (.cells [.int .u64 (.ofNat hi),.int .u64 (.ofNat lo),.int .i64 (.ofNat s)] e fl))
  {k:V->St->Prop} (hk:∀ S',k (.int .u64 (.ofNat (Fp.us (X * hi / 2 ^ 64) (X * hi % 2 ^ 64) (X * lo / 2 ^ 64) (2 ^ s)))) S'):RC Tryz.prog 327 [.int .u64 (.ofNat X),.ptr p 0] S k:=by
 have hH64:X * hi / 2 ^ 64 < 2 ^ 64:=Nat.div_lt_of_lt_mul (Nat.mul_lt_mul'' hX hhi);have hl64:X * lo / 2 ^ 64 < 2 ^ 64:=Nat.div_lt_of_lt_mul (Nat.mul_lt_mul'' hX hlo);have hm64:X * hi % 2 ^ 64 < 2 ^ 64:=Nat.mod_lt _ om;obtain ⟨H,hH⟩:∃ H,X * hi / 18446744073709551616=H:=⟨_,rfl⟩
 obtain ⟨md,hmd⟩:∃ H,X * hi % 18446744073709551616=H:=⟨_,rfl⟩
 obtain ⟨l2,hl2⟩:∃ H,X * lo / 18446744073709551616=H:=⟨_,rfl⟩
 obtain ⟨l3,hl3⟩:∃ H,X * lo % 18446744073709551616=H:=⟨_,rfl⟩
 rw [show (2:Nat) ^ 64=18446744073709551616 by decide] at *;rw [hH] at hk hh hH64;rw [hmd] at hk hm64;rw [hl2] at hk hl64;obtain ⟨q,hq⟩:∃ q,H / 2 ^ s=q:=⟨_,rfl⟩
 obtain ⟨w,hw⟩:∃ w,w=q * 2 ^ s:=⟨_,rfl⟩
 have hwH:w <= H:=by rw [hw,<- hq];exact Nat.div_mul_le_self _ _
 have hqH:q <= H:=by rw [<- hq];exact Nat.div_le_self _ _
 unfold Fp.us at hk;rw [hq,<- hw] at hk;refine RC.run mixed aS (aG aXk ?_);refine enter ?_;refine go ?_;refine aA hS ?_;refine go ?_;refine aGy H md hX hhi hH hmd ?_;refine go ?_;refine aA hS ?_;refine go ?_;refine dM s (aSU hs) ?_;refine go ?_;refine dM q (qQ om hq) ?_;refine go ?_;refine dM w (aKu hw om (by show w < 18446744073709551616;omega)) ?_;refine go ?_;refine bO (fun h=>?_) (fun h=>?_)
 ·rw [if_neg om] at hk;refine go ?_;refine aA hS ?_;refine go ?_;refine aGy l2 l3 hX hlo hl2 hl3 ?_;refine go ?_
  obtain ⟨H2,hH2⟩:∃ H2,H2=if md < l2 then H - 1 else H:=⟨_,rfl⟩
  rw [<- hH2] at hk;obtain ⟨q2,hq2⟩:∃ q,H2 / 2 ^ s=q:=⟨_,rfl⟩
  have hH2':H2 <= H:=by rw [hH2];split <;> omega
  have hq2H:q2 <= H2:=by rw [<- hq2];exact Nat.div_le_self _ _
  rw [hq2] at hk;obtain ⟨dd,hdd⟩:∃ x,(md+18446744073709551616 - l2) % 18446744073709551616=x:=⟨_,rfl⟩
  have hdd64:dd < 18446744073709551616:=by rw [<- hdd];exact Nat.mod_lt _ om
  rw [hdd] at hk;obtain ⟨h0,n0⟩:=S;obtain ⟨b1,hb1⟩:∃ b,qG 1 (Int.ofNat dd)=b:=⟨_,rfl⟩
  have hb2:b1.toNat=if dd > 1 then 1 else 0:=by
   rw [<- hb1,bF];by_cases h:dd > 1
   ·rw [if_pos h,decide_eq_true (by show (1:Int) < (dd:Int);omega)];rfl
   ·rw [if_neg h,decide_eq_false (by show ¬ (1:Int) < (dd:Int);omega)];rfl
  rw [<- hb2] at hk;refine bE (fun (h1:md < l2)=>?_) (fun (h1:l2 <= md)=>?_)
  ·rw [if_pos h1] at hH2;refine go ?_;refine vG ?_;refine go ?_;refine mI H2 ?_ (by show H=H2+1;omega) (by show H2 <= 18446744073709551615;omega);refine go ?_;refine jO ?_;refine aV (v:=.int .u64 (.ofNat H2)) rfl (by intro Q hQ;(conv=>whnf);exact hQ) ?_;refine aV (v:=.int .i64 (.ofNat s)) rfl (by intro Q hQ;(conv=>whnf);exact hQ) ?_;refine aV (v:=.int .u64 (.ofNat q2)) rfl (by intro Q hQ;(conv=>whnf);refine dM q2 (qQ om hq2) ?_;exact hQ) ?_;refine aV (v:=.int .u64 (.ofNat md)) rfl (by intro Q hQ;(conv=>whnf);exact hQ) ?_;refine aV (v:=.int .u64 (.ofNat l2)) rfl (by intro Q hQ;(conv=>whnf);exact hQ) ?_;refine aV (v:=.int .u64 (.ofNat dd)) rfl (by intro Q hQ;(conv=>whnf);refine uY om om hdd ?_;exact hQ) ?_;refine aV (v:=.bool b1) rfl (by intro Q hQ;(conv=>whnf);refine aSf b1 hb1 ?_;exact hQ) ?_;refine d_callA rfl ?_;refine vG ?_;refine n_dopA ?_;refine aV (v:=.int .u64 (.ofNat (q2 ||| b1.toNat))) rfl (by intro Q hQ;(conv=>whnf);refine dM (q2 ||| b1.toNat) (aCK om (by have:=b1.toNat_lt;omega)) ?_;exact hQ) ?_;refine vX ?_;refine go ?_;exact hk _
  ·rw [if_neg om] at hH2;refine go ?_;refine vG ?_;refine go ?_;refine mI H2 ?_ (by show H=H2+0;omega) (by show H2 <= 18446744073709551615;omega);refine go ?_;refine jO ?_;refine aV (v:=.int .u64 (.ofNat H2)) rfl (by intro Q hQ;(conv=>whnf);exact hQ) ?_;refine aV (v:=.int .i64 (.ofNat s)) rfl (by intro Q hQ;(conv=>whnf);exact hQ) ?_;refine aV (v:=.int .u64 (.ofNat q2)) rfl (by intro Q hQ;(conv=>whnf);refine dM q2 (qQ om hq2) ?_;exact hQ) ?_;refine aV (v:=.int .u64 (.ofNat md)) rfl (by intro Q hQ;(conv=>whnf);exact hQ) ?_;refine aV (v:=.int .u64 (.ofNat l2)) rfl (by intro Q hQ;(conv=>whnf);exact hQ) ?_;refine aV (v:=.int .u64 (.ofNat dd)) rfl (by intro Q hQ;(conv=>whnf);refine uY om om hdd ?_;exact hQ) ?_;refine aV (v:=.bool b1) rfl (by intro Q hQ;(conv=>whnf);refine aSf b1 hb1 ?_;exact hQ) ?_;refine d_callA rfl ?_;refine vG ?_;refine n_dopA ?_;refine aV (v:=.int .u64 (.ofNat (q2 ||| b1.toNat))) rfl (by intro Q hQ;(conv=>whnf);refine dM (q2 ||| b1.toNat) (aCK om (by have:=b1.toNat_lt;omega)) ?_;exact hQ) ?_;refine vX ?_;refine go ?_;exact hk _
 ·rw [if_pos h] at hk;refine go ?_;refine dM q (qQ om hq) ?_;refine go ?_;refine dM (q ||| 1) (aCK (b:=1) om om) ?_;refine go ?_;exact hk _
theorem aRi (u:Nat):u ||| u % 2=u:=by
 rw [<- Nat.and_two_pow_sub_one_eq_mod u 1];apply Nat.eq_of_testBit_eq;intro i;rw [Nat.testBit_or,Nat.testBit_and];cases u.testBit i <;> rfl
theorem aQJ {u:Nat}(h:u < 2 ^ 60):Fp.half u < 2 ^ 60:=Nat.or_lt_two_pow om om
theorem aXb:bB Tryz.prog 326 32 [] (aL Tryz.f326):=fq Tryz.f326
theorem aXa:bB Tryz.prog 301 63 [.tmp 6,.tmp 7] (aL Tryz.f301):=fq Tryz.f301
open Fp in
theorem aBM {sg d i hi lo f r t:Nat}(hs:sg=0 ∨ sg=2 ^ 63)(hrow:Pinned.pow10Rows[i]?=some (hi,lo))(P:Rep f r)(hr:r <= 2045)(Q:Near d (Lib.bitLen d) (tenN i) (tenD i) f r t){S:St}{e:TypeId}(hgb:Gb [(18,.cells aAl e .ro)] S)
  {k:V->St->Prop} (hk:k (.tup [.float .f64 (sg+(f+r * 2 ^ 52)),.nilIface]) S):RC Tryz.prog 301 [.int .u64 (.ofNat d),.int .i64 ((i:Int) - 348),.int .u64 (.ofNat sg)] S k:=by
 have hlen:Pinned.pow10Rows.length=696:=by kernel_rfl
 have hi696:i < 696:=by
  rw [<- hlen];exact (List.getElem?_eq_some_iff.1 hrow).1
 have R:=row_ok hrow;have hd64:d < 18446744073709551616:=Nat.lt_of_lt_of_le Q.b2 (Nat.pow_le_pow_right (by decide) Q.b64);have hw:=way R P Q
 have hub:u64 d (Lib.bitLen d) (rowG i) hi lo < 2 ^ 60:=by
  have h1:=u_near R P Q;have h2:=Mhi R P Q;omega
 have hbig:=big R P Q;have hX:=Xlt Q;have hb64:=Q.b64;have hp:=pack_eq P;have hU:u64 d (Lib.bitLen d) (rowG i) hi lo=us (d * 2 ^ (64 - Lib.bitLen d) * hi / 2 ^ 64) (d * 2 ^ (64 - Lib.bitLen d) * hi % 2 ^ 64) (d * 2 ^ (64 - Lib.bitLen d) * lo / 2 ^ 64) (2 ^ (187+(Lib.bitLen d+rowG i - 179) - (Lib.bitLen d+rowG i))):=rfl
 have hg:rowG i <= 2400:=by unfold rowG;omega
 have hh:=aVR R Q;have hh64:=R.hi64;have hl64:=R.lo64;have hf:=P.f53;refine RC.pureG mixed aXa _ hgb hk ?_;refine build ?_;refine enter ?_;refine go ?_;refine aDw hd64 ?_;refine go ?_;refine aQU hi696 ?_;generalize rowG i=g at *;generalize hb:Lib.bitLen d=b at *;refine go ?_;refine gR ((53:Int) - b) rfl ?_ (by omega) (by omega);refine go ?_;refine gR ((1253:Int) - b - g) (by show (53:Int) - b - (g - 1200)=_;omega) ?_ (by omega) (by omega);refine aII (fun Q hQ=>by (conv=>whnf);exact hQ) ?_;obtain ⟨j,hj⟩:∃ j:Nat,j=b+g - 179:=⟨_,rfl⟩
 rw [<- hj] at hU hw
 refine aQH (A:=fun Q=>Q (.int .i64 ((1074:Int) - j)) _) (fun Q hQ=>by
  (conv=>whnf)
  refine rec_ltI ((1253:Int) - b - g) 1074 (fun h=>?_) (fun h=>?_)
  ·have e:(1253:Int) - b - g=1074 - j:=by omega
   rw [e];exact hQ
  ·have e:(1074:Int) - j=1074:=by omega
   rw [e] at hQ;exact hQ) ?_
 refine go ?_;refine gR ((64:Int) - b) rfl ?_ (by omega) (by omega);refine go ?_;refine gR ((1010:Int) - j+b) (by show (1074:Int) - j - (64 - b)=_;omega) ?_ (by omega) (by omega);refine go ?_;refine RC.run mixed aS (aG aXb ?_);refine enter ?_;refine go ?_;refine bI i ?_ (by show ((i:Int) - 348) - (-348)=(i:Int);omega) (by omega);refine go ?_;refine ifK_intro (Nat.ble_eq_true_of_le (show i+1 <= 696 by omega)) ?_;refine go ?_;refine aH aEg (2 * i) (by show 0+i * 2+0=2 * i;omega) (aGH hrow).1 ?_;refine go ?_;refine bI i ?_ (by show ((i:Int) - 348) - (-348)=(i:Int);omega) (by omega);refine go ?_;refine ifK_intro (Nat.ble_eq_true_of_le (show i+1 <= 696 by omega)) ?_;refine go ?_;refine aH aEg (2 * i+1) (by show 0+i * 2+1=2 * i+1;omega) (aGH hrow).2 ?_;refine go ?_;obtain ⟨y2,hy2⟩:∃ y:Int,y=(g:Int) - 190 - j+b:=⟨_,rfl⟩
 refine gR y2 (by show (1010:Int) - j+b+(g - 1200)=_;omega) ?_ (by omega) (by omega);refine go ?_;obtain ⟨y3,hy3⟩:∃ y:Int,y=(g:Int) - 187 - j+b:=⟨_,rfl⟩
 refine gR y3 (by show y2+3=_;omega) ?_ (by omega) (by omega);refine go ?_;obtain ⟨s,hs'⟩:∃ s,s=187+j - (b+g):=⟨_,rfl⟩
 refine bI s ?_ (by show (0:Int) - y3=(s:Int);omega) (by omega);refine go ?_;rw [<- hs'] at hU
 have hs64:s < 64:=by omega
 refine kN (by rw [bF];exact decide_eq_true (by show (s:Int) < 64;omega)) ?_;refine go ?_;obtain ⟨m,hm⟩:∃ m,m=64 - b:=⟨_,rfl⟩
 rw [<- hm] at hX hh hU;refine jK m ?_ (by show 64=m+b;omega) (by omega);obtain ⟨X,hXd⟩:∃ X,X=d * 2 ^ m:=⟨_,rfl⟩
 rw [<- hXd] at hX hh hU;refine aII (fun Q hQ=>by (conv=>whnf);exact hQ) ?_;refine aOd rfl (fun A B h=>by (conv=>whnf);exact h) (fun Q hQ=>by (conv=>whnf);exact hQ) (fun Q hQ=>by (conv=>whnf);exact hQ) (aKu hXd (by omega) hX) ?_;refine go ?_;refine aJq hX hh64 hl64 hs64 hh (by rfl) fun S1=>?_;rw [<- hU];obtain ⟨u,hu⟩:∃ u,u64 d b g hi lo=u:=⟨_,rfl⟩
 rw [hu] at hw hub ⊢;refine go ?_;refine aMF (x:=9007199254740992) (by decide) (by decide) ?_;refine go ?_;refine bE (fun (h:u < 36028797018963966)=>?_) (fun (h:36028797018963966 <= u)=>?_)
 ·obtain ⟨_,hrf,hrj⟩:=hw.resolve_right (by omega);refine go ?_;refine aAo ?_;refine go ?_;refine dM u (qQ (by decide) (Nat.div_one u)) ?_;refine go ?_;refine dM (u % 2) ((qW (b:=1) (by omega) (by omega)).trans (congrArg Int.ofNat (Nat.and_two_pow_sub_one_eq_mod u 1))) ?_;refine go ?_;refine dM u ((aCK (by omega) (by omega)).trans (congrArg Int.ofNat (aRi u))) ?_;refine go ?_;refine gR ((1074:Int) - j) (by show (1074:Int) - j - 0=_;omega) ?_ (by omega) (by omega);refine go ?_;refine aKp (by omega) ?_;rw [hrf];refine go ?_;refine dM (sg+f) ((aCK (by omega) (by omega)).trans (congrArg Int.ofNat (qM hs (by omega)))) ?_;refine go ?_;refine gR ((j:Int) - 1074) (by show (0:Int) - ((1074:Int) - j)=_;omega) ?_ (by omega) (by omega);refine go ?_;refine aGE hs hf (by omega) ?_;rw [<- hrj,hp];refine go ?_;rfl
 ·obtain ⟨_,hrf,hrj⟩:=hw.resolve_left (by omega);refine go ?_;refine aAo ?_;refine go ?_;refine dM (u / 2) (qQ (by decide) rfl) ?_;refine go ?_;refine dM (u % 2) ((qW (b:=1) (by omega) (by omega)).trans (congrArg Int.ofNat (Nat.and_two_pow_sub_one_eq_mod u 1))) ?_;refine go ?_;refine dM (half u) (aCK (by omega) (by omega)) ?_;refine go ?_;refine gR ((1073:Int) - j) (by show (1074:Int) - j - 1=_;omega) ?_ (by omega) (by omega);refine go ?_;refine aKp (aQJ hub) ?_;rw [hrf];refine go ?_;refine dM (sg+f) ((aCK (by omega) (by omega)).trans (congrArg Int.ofNat (qM hs (by omega)))) ?_;refine go ?_;obtain ⟨j1,hj1⟩:∃ j1,j1=j+1:=⟨_,rfl⟩
  refine gR ((j1:Int) - 1074) (by show (0:Int) - ((1073:Int) - j)=_;omega) ?_ (by omega) (by omega);refine go ?_;refine aGE hs hf (by omega) ?_;rw [hj1,<- hrj,hp];refine go ?_;rfl
theorem bH {P:Program}{t:TypeId}{xs:List V}{fl:Fl}{off:Nat}{cs:List V}{K:List V->Prop}{v:V}(hx:xs=[v])(hfl:fl ≠ .ro)(h1:(P.info? t).map (fun i=>i.size)=some 1)(hv:V.one v=true)(hoff:off < cs.length)(hk:K (cs.set off v)) :
  wrK fl (uW P t fun n=>dD (Nat.beq (dH xs) n) (dD (Nat.blt 0 n) (dD (cQ xs) (eJ xs off cs K)))):=by
 subst hx
 have hw:∀ {k:Prop},k->wrK fl k:=fun {k} hk=>by cases fl <;> first|exact absurd rfl hfl|exact hk
 refine hw ?_;unfold uW
 cases hi:P.info? t with
 | none=>rw [hi] at h1;cases h1
 | some i =>
   rw [hi] at h1;have hs:i.size=1:=Option.some.inj h1;show dD (Nat.beq (dH [v]) i.size) (dD (Nat.blt 0 i.size) (dD (cQ [v]) (eJ [v] off cs K)));rw [hs];refine ifK_intro rfl (ifK_intro rfl (ifK_intro ?_ (aIP hoff hk)));show Bool.rec (motive:=fun _=>Bool) false true v.one=true;rw [hv]
theorem aUY:bB Tryz.prog 142 54 [.tmp 4] (aL Tryz.f142):=fq Tryz.f142
theorem aRc {n:Nat}{k:Int->Prop}(h1:1 <= n)(hn:n <= 9223372036854775808){x:Int}(hx:x=-(n:Int))(hk:k (.ofNat (18446744073709551616 - n))):eQ .u64 x k:=by
 have e:IntKind.u64.wrap x=Int.ofNat (18446744073709551616 - n):=by
  subst hx
  have:IntKind.u64.wrap (-(n:Int))=(-(n:Int)) % 18446744073709551616:=by simp [IntKind.wrap,IntKind.signed,IntKind.bits]
  rw [this];show _=((18446744073709551616 - n:Nat):Int)
  omega
 exact tO (by rw [e];exact hk)
theorem aTp {u:Nat}(hu:u < 9223372036854775808){S:St}(h10:jB S){k:V->St->Prop}(hk:k (.str (Lib.decDigits u)) S):RC Tryz.prog 142 [.int .i64 (.ofNat u),.int .i64 10] S k:=by
 obtain ⟨e,hgb⟩:=pM h10;refine RC.pureG mixed aUY _ hgb hk ?_;refine build ?_;refine enter ?_;refine go ?_;refine bE (fun (h:_ < 100)=>?_) (fun (h:100 <= _)=>?_)
 ·refine go ?_;refine aDQ h ?_;refine go ?_;rfl
 ·refine go ?_;refine bA u rfl (by show u <= 18446744073709551615;omega) ?_;refine go ?_;refine oZ om om ⟨e,rfl⟩ ?_;have hn:=lO (u:=u) om om;obtain ⟨n,hnd⟩:∃ n,Lib.nDigits u=n:=⟨_,rfl⟩
  rw [hnd] at hn ⊢;refine go ?_;refine bI (n+1) ?_ (by show (1:Int)+(n:Int)=((n+1:Nat):Int);omega);refine go ?_;refine ifK_intro (ag (show n+1 <= 24 by omega)) ?_;refine go ?_;refine ifK_intro (ag (show 1 <= n+1 by omega)) ?_;refine go ?_
  have hz:List.replicate 24 (V.int .u8 (.ofNat 0))=[V.int .u8 (.ofNat 0)] ++ bC (List.replicate n 0) ++ List.replicate (23 - n) (V.int .u8 (.ofNat 0)):=by
   have e1:bC (List.replicate n 0)=List.replicate n (V.int .u8 (.ofNat 0)):=by simp [bC]
   have e0:[V.int .u8 (.ofNat 0)]=List.replicate 1 (V.int .u8 (.ofNat 0)):=rfl;rw [e1,e0,List.replicate_append_replicate,List.replicate_append_replicate]
   congr 1;omega
  refine aBm (pre:=[V.int .u8 (.ofNat 0)]) (post:=List.replicate (23 - n) (V.int .u8 (.ofNat 0))) (mid:=List.replicate n 0) (e:=277) (fl:=.ex) rfl sm rfl (by simp [hnd]) (by simp;omega) sm (by simp;omega) om (show _=some (O.cells _ _ _) by rw [<- hz];rfl) dc fun S1 hS1=>?_;refine go ?_;refine bI (n+1) ?_ (by show (1:Int)+(n:Int)=((n+1:Nat):Int);omega);refine go ?_
  have hl24:([V.int .u8 (.ofNat 0)] ++ bC (Lib.decDigits u) ++ List.replicate (23 - n) (V.int .u8 (.ofNat 0))).length=24:=by simp [cV,Lib.decDigits_length,hnd];omega
  refine aA (aR hS1) ?_;refine go ?_;refine ifK_intro (by rw [aM,hl24];rfl) ?_;refine go ?_;refine ifK_intro (ag (show n+1 <= 24 by omega)) ?_;refine go ?_;refine ifK_intro (ag (show 1 <= n+1 by omega)) ?_;refine go ?_;refine aA (aR hS1) ?_;refine go ?_;refine bY (n:=1) (by rw [hl24];decide) ?_
  have e2:List.take n (List.drop 1 ([V.int .u8 (.ofNat 0)] ++ bC (Lib.decDigits u) ++ List.replicate (23 - n) (V.int .u8 (.ofNat 0))))=bC (Lib.decDigits u):=by
   rw [List.singleton_append,List.cons_append,List.drop_succ_cons,List.drop_zero,List.take_left' (by rw [cV,Lib.decDigits_length,hnd])]
  refine aKB (n:=n) (by rw [List.length_drop,hl24];omega) e2 ?_;refine fG ?_;refine go ?_;rfl
theorem aTo {u:Nat}(h1:1 <= u)(hu:u <= 9223372036854775808){x:Int}(hx:x=-(u:Int)){S:St}(h10:jB S){k:V->St->Prop}(hk:k (.str (45 :: Lib.decDigits u)) S):RC Tryz.prog 142 [.int .i64 x,.int .i64 10] S k:=by
 obtain ⟨e,hgb⟩:=pM h10;refine RC.pureG mixed aUY _ hgb hk ?_;refine build ?_;refine enter ?_;refine go ?_;refine kN (by rw [bF];exact decide_eq_true om) ?_;refine go ?_;refine aRc h1 om hx ?_;obtain ⟨y,hy⟩:∃ y,18446744073709551616 - u=y:=⟨_,rfl⟩
 rw [hy];refine go ?_;refine kN (by rw [bF];exact decide_eq_true om) ?_;refine go ?_;refine uY (a:=0) (b:=y) (d:=u) om om om ?_;refine go ?_;refine oZ om om ⟨e,rfl⟩ ?_;have hn:=lO (u:=u) om om;obtain ⟨n,hnd⟩:∃ n,Lib.nDigits u=n:=⟨_,rfl⟩
 rw [hnd] at hn ⊢;refine go ?_;refine bI (n+1) ?_ (by show (1:Int)+(n:Int)=((n+1:Nat):Int);omega);refine go ?_;refine ifK_intro (ag (show n+1 <= 24 by omega)) ?_;refine go ?_;refine ifK_intro (ag (show 1 <= n+1 by omega)) ?_;refine go ?_
 have hz:List.replicate 24 (V.int .u8 (.ofNat 0))=[V.int .u8 (.ofNat 0)] ++ bC (List.replicate n 0) ++ List.replicate (23 - n) (V.int .u8 (.ofNat 0)):=by
  have e1:bC (List.replicate n 0)=List.replicate n (V.int .u8 (.ofNat 0)):=by simp [bC]
  have e0:[V.int .u8 (.ofNat 0)]=List.replicate 1 (V.int .u8 (.ofNat 0)):=rfl;rw [e1,e0,List.replicate_append_replicate,List.replicate_append_replicate]
  congr 1;omega
 refine aBm (pre:=[V.int .u8 (.ofNat 0)]) (post:=List.replicate (23 - n) (V.int .u8 (.ofNat 0))) (mid:=List.replicate n 0) (e:=277) (fl:=.ex) rfl sm rfl (by simp [hnd]) (by simp;omega) sm (by simp;omega) om (show _=some (O.cells _ _ _) by rw [<- hz];rfl) dc fun S1 hS1=>?_;refine go ?_;refine kN (by rw [bF];exact decide_eq_true om) ?_;refine go ?_
 have hl24:([V.int .u8 (.ofNat 0)] ++ bC (Lib.decDigits u) ++ List.replicate (23 - n) (V.int .u8 (.ofNat 0))).length=24:=by simp [cV,Lib.decDigits_length,hnd];omega
 refine aA (aR hS1) ?_;refine bH (v:=.int .u8 (.ofNat 45)) rfl (by intro h;cases h) kr rfl (show 0 < _ by rw [hl24];decide) ?_;refine aE dc fun S2 hS2=>?_;refine go ?_;refine bI (n+1) ?_ (by show (1:Int)+(n:Int)=((n+1:Nat):Int);omega);refine go ?_;refine aA (aR hS2) ?_;refine go ?_;refine ifK_intro (by rw [aM,List.length_set,hl24];rfl) ?_;refine go ?_;refine ifK_intro (ag (show n+1 <= 24 by omega)) ?_;refine go ?_;refine aA (aR hS2) ?_;refine go ?_
 have e2:List.take (n+1) (([V.int .u8 (.ofNat 0)] ++ bC (Lib.decDigits u) ++ List.replicate (23 - n) (V.int .u8 (.ofNat 0))).set 0 (.int .u8 (.ofNat 45)))=bC (45 :: Lib.decDigits u):=by
  rw [List.singleton_append,List.cons_append,List.set_cons_zero,List.take_succ_cons,List.take_left' (by rw [cV,Lib.decDigits_length,hnd])];rfl
 refine bY (n:=0) (ai _) ?_;rw [List.drop_zero];refine aKB (n:=n+1) (by rw [List.length_set,hl24];omega) e2 ?_;refine fG ?_;refine go ?_;rfl
theorem aSg:bB Tryz.prog 99 5 [.tmp 2] (aL Tryz.f99):=fq Tryz.f99
theorem aVe:bB Tryz.prog 67 5 [.tmp 2] (aL Tryz.f67):=fq Tryz.f67
theorem aOo {u:Nat}(hu:u < 9223372036854775808){S:St}(h10:jB S){k:V->St->Prop}(hk:k (.str (Lib.decDigits u)) S):RC Tryz.prog 67 [.int .i64 (.ofNat u)] S k:=by
 refine RC.run mixed aS (aG aVe ?_);refine enter ?_;refine go ?_;refine RC.run mixed aS (aG aSg ?_);refine enter ?_;refine go ?_;refine aTp hu h10 ?_;refine go ?_;exact hk
theorem aBw {u:Nat}(h1:1 <= u)(hu:u <= 9223372036854775808){x:Int}(hx:x=-(u:Int)){S:St}(h10:jB S){k:V->St->Prop}(hk:k (.str (45 :: Lib.decDigits u)) S):RC Tryz.prog 67 [.int .i64 x] S k:=by
 refine RC.run mixed aS (aG aVe ?_);refine enter ?_;refine go ?_;refine RC.run mixed aS (aG aSg ?_);refine enter ?_;refine go ?_;refine aTo h1 hu hx h10 ?_;refine go ?_;exact hk
section
attribute [local irreducible] aO bK cM bD
theorem aVs:bB Tryz.prog 11 84 [.cell 8 25,.cell 9 3,.cell 10 3,.cell 11 43] (aL Tryz.f11):=fq Tryz.f11
theorem aMi {s v w lim:V}{n:Nat}{S:St}(hn:S.next+n+4 < room)(hC:∀ S2:St,(∀ id,id < S.next->S2.hs.get id=S.hs.get id)->S.next <= S2.next->S2.next <= S.next+4->∀ k:V->St->Prop,(∀ S',Abv S2.next S2.next S2 S' n->k (.int .i64 2) S')->RC Tryz.prog 10 [v,w,lim] S2 k){k:V->St->Prop}
  (hk:∀ S',Abv S.next S.next S S' (n+4)->k (.tup [.nilSlice,.int .i64 0,.int .i64 0,.int .i64 2]) S'):RC Tryz.prog 11 [s,v,w,lim] S k:=by
 refine RC.run mixed aS (aG aVs ?_);refine enter ?_;refine go ?_;refine aD om fun S1 hS1=>?_;have n1:=aF hS1;refine go ?_;refine aD om fun S2 hS2=>?_;have n2:=aF hS2;refine go ?_;refine aD om fun S3 hS3=>?_;have n3:=aF hS3;refine go ?_;refine aD om fun S4 hS4=>?_;have n4:=aF hS4
 have k4:∀ id,id < S.next->S4.hs.get id=S.hs.get id:=fun id g=>by rw [aC hS4 om,aC hS3 om,aC hS2 om,aC hS1 om]
 have r0:S4.hs.get S.next=some (.cells [.nilSlice] 25 .ex):=by rw [aC hS4 om,aC hS3 om,aC hS2 om];exact aJ hS1
 have r1:S4.hs.get S1.next=some (.cells [.int .i64 0] 3 .ex):=by rw [aC hS4 om,aC hS3 om];exact aJ hS2
 have r2:S4.hs.get S2.next=some (.cells [.int .i64 0] 3 .ex):=by rw [aC hS4 om];exact aJ hS3
 have r3:S4.hs.get S3.next=some (.cells [.int .i64 0] 43 .ex):=aJ hS4;refine go ?_;refine hC S4 k4 om om _ fun S5 hA5=>?_;have a5:=hA5.lo;have b5:=hA5.hi;have q0:=(hA5.keep _ om om).trans r0;have q1:=(hA5.keep _ om om).trans r1;have q2:=(hA5.keep _ om om).trans r2;have q3:=(hA5.keep _ om om).trans r3;refine go ?_;refine aA q0 ?_;refine bH (v:=.nilSlice) rfl sm kr rfl Nat.zero_lt_one ?_;refine aE om fun S11 hS11=>?_;have qS11:=aK hS11;refine go ?_;refine aA ((aB hS11 om).trans q1) ?_;refine bH (v:=.int .i64 0) rfl sm kr rfl Nat.zero_lt_one ?_;refine aE om fun S12 hS12=>?_;have qS12:=aK hS12;refine go ?_;refine aA ((aB hS12 om).trans ((aB hS11 om).trans q2)) ?_;refine bH (v:=.int .i64 0) rfl sm kr rfl Nat.zero_lt_one ?_;refine aE om fun S13 hS13=>?_;have qS13:=aK hS13;refine go ?_;refine aA ((aB hS13 om).trans ((aB hS12 om).trans ((aB hS11 om).trans q3))) ?_;refine bH (v:=.int .i64 2) rfl sm kr rfl Nat.zero_lt_one ?_;refine aE om fun S14 hS14=>?_;have qS14:=aK hS14;refine go ?_;refine aA ((aB hS14 om).trans ((aB hS13 om).trans ((aB hS12 om).trans (aR hS11)))) ?_;refine aH kr _ rfl rfl ?_
 conv=>whnf
 refine aA ((aB hS14 om).trans ((aB hS13 om).trans (aR hS12))) ?_;refine aH kr _ rfl rfl ?_
 conv=>whnf
 refine aA ((aB hS14 om).trans (aR hS13)) ?_;refine aH kr _ rfl rfl ?_
 conv=>whnf
 refine aA (aR hS14) ?_;refine aH kr _ rfl rfl ?_
 conv=>whnf
 exact hk S14 ⟨fun id g _=>by rw [aB hS14 om,aB hS13 om,aB hS12 om,aB hS11 om,hA5.keep id om om];exact k4 id g,om,om⟩
end
theorem iO:∀ {s:List UInt8} {k:List V->Prop},k (bC s)->pT s k
 | [],k,h=>h
 | b :: s,k,h=>by
   show fN b.toNat fun n=>pT s fun r=>k (.int .u8 (Int.ofNat n) :: r);exact aP (iO (s:=s) h)
theorem aSc {α:Type}{n:Nat}{l m:List α}{k:List α->Prop}(hl:n <= l.length)(h:l.drop n=m)(hk:k m):kM n l k:=bY hl (by rw [h];exact hk)
theorem aPr (v:Nat):cX v < 2 ^ 53:=by
 have:=aBp v;unfold cX
 split <;> omega
theorem aXz {f:Nat}(h:f < 2 ^ 52):f ||| 2 ^ 52=2 ^ 52+f:=by
 rw [Nat.or_comm];have:=Nat.two_pow_add_eq_or_of_lt (i:=52) (b:=f) h 1;rw [Nat.mul_one] at this;exact this.symm
theorem aTl (v:Nat):1 <= jI v∧jI v <= 2047:=by
 have:dO v < 2048:=Nat.mod_lt _ dc;unfold jI
 split <;> omega
theorem aOt {v:Nat}(h:iW v ≠ 3∧iW v ≠ 4):dO v ≠ 2047:=fun e=>by
 unfold iW at h;rw [if_pos e] at h
 split at h <;> omega
theorem aUc (v:Nat):Lib.nDigits (cX v) <= 16:=by
 have h:=aPr v
 rcases Nat.eq_zero_or_pos (cX v) with h0|h0
 ·rw [h0,Lib.nDigits_small dc];decide
 ·rcases Nat.lt_or_ge (Lib.nDigits (cX v)) 17 with h1|h1
  ·omega
  ·exfalso
   have:∀ n u,1 <= u->u < 10 ^ n->Lib.nDigits u <= n:=by
    intro n
    induction n with
    | zero=>intro u h1 h2;simp at h2;omega
    | succ n ih =>
      intro u h1 h2;by_cases hu:u < 10
      ·rw [Lib.nDigits_small hu];omega
      ·rw [Lib.nDigits_big hu];have:=ih (u / 10) om (by rw [Nat.pow_succ] at h2;omega);omega
   have:=this 16 (cX v) h0 om;omega
theorem aQs:bB Tryz.prog 66 80 [.tmp 2] (aL Tryz.f66):=fq Tryz.f66
theorem aLo {v:Nat}(hv:v < 18446744073709551616)(hfin:iW v ≠ 3∧iW v ≠ 4){S:St}(h10:jB S){k:V->St->Prop}(hk:k (.str (bT v)) S):RC Tryz.prog 66 [.int .u64 (.ofNat v)] S k:=by
 have he47:=aOt hfin;obtain ⟨e,hgb⟩:=pM h10;obtain ⟨hdig,hbeh⟩:=kY v;have hnd:=aUc v;have hsl:=aPr v;have hex:=aTl v;have hdl:=sP (cX v);refine RC.pureG mixed aQs _ hgb hk ?_;refine build ?_;refine enter ?_;refine go ?_;refine aGo hv ?_;refine go ?_;refine bO (fun (h:_=4)=>absurd h hfin.2) (fun _=>?_);refine go ?_;refine bO (fun (h:_=3)=>absurd h hfin.1) (fun _=>?_);refine go ?_;refine aDG hv ?_;refine go ?_;apply LP.join 80 [(0,.int .u64 (.ofNat v)),(3,.int .i64 (.ofNat (jI v))),(4,.int .u64 (.ofNat (cX v))),(5,.ptr (aI+1) 0),(6,.ptr (aI+2) 0),(7,.func (.func 95) [] [.ptr (aI+1) 0]),(8,.func (.func 96) [] [.ptr (aI+1) 0,.ptr (aI+2) 0])]
 ·intro key;refine bO (fun (he0:_=0)=>?_) (fun (he0:_ ≠ 0)=>?_)
  ·have e1:jW v=cX v:=by unfold cX;rw [if_pos he0]
   have e2:jI v=1:=by unfold jI;rw [if_pos he0]
   rw [e1];refine go ?_;refine aGe om ⟨e,rfl⟩ ?_;refine go ?_;refine iO ?_;rw [aM,aFS,Lib.decDigits_length,<- sP];refine go ?_;exact key _ ⟨rfl,rfl,by rw [e2];rfl,rfl,rfl,rfl,rfl,rfl,trivial⟩
  ·have e1:2 ^ 52+jW v=cX v:=by unfold cX;rw [if_neg he0]
   have e2:jI v=dO v:=by unfold jI;rw [if_neg he0]
   refine go ?_;refine dM (cX v) ((aCK (b:=4503599627370496) (by have:=aBp v;omega) om).trans (congrArg Int.ofNat ((aXz (aBp v)).trans e1))) ?_;refine go ?_;refine aGe om ⟨e,rfl⟩ ?_;refine go ?_;refine iO ?_;rw [aM,aFS,Lib.decDigits_length,<- sP];refine go ?_;exact key _ ⟨rfl,rfl,by rw [e2];rfl,rfl,rfl,rfl,rfl,rfl,trivial⟩
 intro Ex hEx;have hdl0:dl (cX v) ≠ []:=List.length_pos_iff.1 (by rw [hdl];exact Lib.nDigits_pos _);have hngl:aI=1000:=rfl;refine LP.induct 1100 (fun j E S'=>(j <= jI v - 1075)∧Num S' (aI+1) (aI+2) (itD (dl (cX v)) j) 0∧S'.next <= aI+10+j∧Kn E 80 [(0,.int .u64 (.ofNat v)),(3,.int .i64 (.ofNat (jI v - j))),(4,.int .u64 (.ofNat (cX v))),(5,.ptr (aI+1) 0),(6,.ptr (aI+2) 0),(7,.func (.func 95) [] [.ptr (aI+1) 0]),(8,.func (.func 96) [] [.ptr (aI+1) 0,.ptr (aI+2) 0])]) ⟨ai _,?_,?_,by rw [Nat.sub_zero];exact hEx⟩ ?_
 ·refine ⟨⟨aI,false,.rw,sm,om,om,af _,?_,rfl,rfl⟩,rfl,om,⟨om,?_⟩,⟨om,?_⟩⟩
  ·exact ae rfl
  ·exact ae rfl
  ·exact ae rfl
 ·exact ae rfl
 rintro j E S1 ⟨hj,hN,hnx,hf⟩ ih;refine LP.kn mixed hf ?_;refine go ?_;refine bE (fun (hgt:1075 < _)=>?_) (fun (hle:_ <= 1075)=>?_)
 ·refine go ?_;refine aIf (wD (vP _) _) ?_ ?_ hN om fun S2 hN2 hn2=>?_
  ·have:=(lL (dl (cX v)) j).1;exact List.length_pos_iff.1 (by have:=List.length_pos_iff.2 hdl0;omega)
  ·have:=(lL (dl (cX v)) j).2;omega
  refine go ?_;refine jK (jI v - (j+1)) ?_ (by show jI v - j=jI v - (j+1)+1;omega);refine go ?_;exact ih _ _ om ⟨om,hN2,om,rfl,rfl,rfl,rfl,rfl,rfl,rfl,rfl,trivial⟩
 ·refine go ?_;have hA:nE (itD (dl (cX v)) j):=wD (vP _) _
  have hA0:0 < (itD (dl (cX v)) j).length:=by
   have:=(lL (dl (cX v)) j).1;have:=List.length_pos_iff.2 hdl0;omega
  have hA2:=(lL (dl (cX v)) j).2
  have hjn:1075 < jI v->j=jI v - 1075:=fun h=>by omega
  have hj0:jI v <= 1075->j=0:=fun h=>by omega
  have hall:∀ n,n <= 1075 - (jI v - j)->(0 < n->0 < cX v)->(1075 <= jI v - j+n ∨ cX v=0)->tY (itD (dl (cX v)) j) n=cH v:=fun n h1 h2 h3=>by
   unfold cH;by_cases h:1075 < jI v
   ·rw [if_pos h];have e1:=hjn h;have e2:n=0:=om;subst e2;rw [e1];rfl
   ·rw [if_neg h];have e1:=hj0 om;subst e1;by_cases h0:0 < cX v
    ·rw [if_pos h0];have e2:n=1075 - jI v:=om;rw [e2];rfl
    ·rw [if_neg h0]
     have e2:n=0:=by
      rcases Nat.eq_zero_or_pos n with h|h
      ·exact h
      ·exact absurd (h2 h) h0
     subst e2;rfl
  refine LP.induct 1100 (fun n E S'=>(n <= 1075 - (jI v - j))∧(0 < n->0 < cX v)∧Num S' (aI+1) (aI+2) (tY (itD (dl (cX v)) j) n).1 (tY (itD (dl (cX v)) j) n).2∧S'.next <= aI+10+j+n∧Kn E 80 [(0,.int .u64 (.ofNat v)),(3,.int .i64 (.ofNat (jI v - j+n))),(4,.int .u64 (.ofNat (cX v))),(5,.ptr (aI+1) 0),(6,.ptr (aI+2) 0),(8,.func (.func 96) [] [.ptr (aI+1) 0,.ptr (aI+2) 0])]) ⟨ai _,fun h=>absurd h (Nat.lt_irrefl _),hN,hnx,rfl,rfl,rfl,rfl,rfl,rfl,rfl,trivial⟩ ?_;rintro n E S2 ⟨hn,hnf,hN2,hnx2,hf2⟩ ih2;have hlen:=(nU (itD (dl (cX v)) j) n)
  refine LP.kn mixed hf2 ?_;refine go ?_;refine bE (fun (hlt:_ < 1075)=>?_) (fun (hge:1075 <= _)=>?_);refine go ?_;refine bE (fun (hf0:0 < _)=>?_) (fun (hf0:_ <= 0)=>?_)
  ·refine go ?_;refine aLw (aBv hA _) (List.length_pos_iff.1 om) om om hN2 om fun S3 hN3 hn3=>?_;refine go ?_;refine bI (jI v - j+(n+1)) ?_ rfl om;refine go ?_;exact ih2 _ _ om ⟨om,fun _=>hf0,hN3,om,rfl,rfl,rfl,rfl,rfl,rfl,rfl,trivial⟩
  all_goals
   rw [hall n hn hnf om] at hN2 hlen;clear ih2 ih;obtain ⟨⟨q,ex,fl,hfl,_,_,hq1,hq2,gp,gq⟩,gb,_,_,_⟩:=hN2;refine go ?_;refine aA gp ?_;refine go ?_;refine aA gp ?_;refine go ?_;refine aA gb ?_;refine go ?_;refine jK ((cH v).1.length - (cH v).2) ?_ om om;refine go ?_;have hm:(cH v).1.length - (cH v).2 <= (cH v).1.length:=Nat.sub_le _ _;have hmh:(cH v).1.length=((cH v).1.length - (cH v).2)+(cH v).2:=om;have hl3:(cH v).1.length <= 4000:=om
   have hw:cU v=if List.drop (mN (rG 48) (dB ((cH v).1.take ((cH v).1.length - (cH v).2)))) (dB ((cH v).1.take ((cH v).1.length - (cH v).2)))=[] then [48] else List.drop (mN (rG 48) (dB ((cH v).1.take ((cH v).1.length - (cH v).2)))) (dB ((cH v).1.take ((cH v).1.length - (cH v).2))):=rfl
   have hfr:cD v=rz (dB ((cH v).1.drop ((cH v).1.length - (cH v).2))):=rfl;have hlw:=yF (dB ((cH v).1.take ((cH v).1.length - (cH v).2)));rw [iR,bh] at hlw;unfold lz at hlw;have hlf:=aDM (dB ((cH v).1.drop ((cH v).1.length - (cH v).2)));rw [iR,List.length_drop,<- hfr] at hlf;have hds:nE (cH v).1:=hdig;generalize (cH v).1.length - (cH v).2=m at *;generalize (cH v).1=ds at *;have hdt:nE (ds.take m):=fun d hd=>hds d (List.mem_of_mem_take hd);have hdd:nE (ds.drop m):=fun d hd=>hds d (List.mem_of_mem_drop hd);refine ifK_intro (ag hm) ?_;refine go ?_;refine aA gq ?_;refine go ?_;refine aKB (m:=bC (dB (ds.take m))) (by rw [lF];exact hm) (by rw [<- aJK hdt];unfold dC;rw [List.map_take];rfl) ?_;refine fG ?_;refine go ?_;refine pF (c:=48) dc ?_
   have hsg:v &&& 2 ^ 63=if 2 ^ 63 <= v then 2 ^ 63 else 0:=aUD om
   obtain ⟨nz,hz1,hz2,hz3,hz4⟩:=aAw (dB (ds.drop m));generalize List.drop (mN (rG 48) (dB (ds.take m))) (dB (ds.take m))=W0 at *;refine go ?_;refine eU (fun hem=>?_) (fun hem=>?_)
   ·rw [if_pos hem] at hw;refine go ?_;refine aA gp ?_;refine go ?_;refine aA gp ?_;refine go ?_;refine aA gb ?_;refine go ?_;refine jK m ?_ hmh om;refine go ?_;refine ifK_intro (ag hm) ?_;refine ifK_intro (ag (af _)) ?_;refine go ?_;refine aA gq ?_;refine go ?_;refine aSc (m:=bC (dB (ds.drop m))) (by rw [lF];show 0+m * 1 <= _;omega) (by rw [<- aJK hdd];unfold dC;rw [List.map_drop];congr 1;show 0+m * 1=m;omega) ?_;refine go ?_;refine aKA (by rw [cV,iR,List.length_drop];rfl) ?_;refine fG ?_;refine go ?_;refine sG (c:=48) (n:=nz) dc hz1 hz3 (fun h=>hz4 h om) (by rw [iR,List.length_drop];omega) ?_;rw [<- hz2,<- hfr];have ht1:cD v=[]->iA v=[]:=fun h=>if_pos h;have ht2:cD v ≠ []->iA v=46 :: cD v:=fun h=>if_neg h;generalize cD v=FT at *;refine go ?_;refine eU (fun ht=>?_) (fun ht=>?_)
    ·have htl:iA v=[]:=ht1 ht;refine go ?_;refine dM (v &&& 2 ^ 63) (qW (b:=9223372036854775808) hv om) ?_;rw [hsg];by_cases h63:2 ^ 63 <= v
     ·rw [if_pos h63];have hs1:uC v=[45]:=if_pos h63;refine go ?_;show V.str _=V.str (bT v);unfold bT;rw [hs1,hw,htl]
      rw [bf];all_goals rfl
     ·rw [if_neg h63];have hs1:uC v=[]:=if_neg h63;refine go ?_;show V.str _=V.str (bT v);unfold bT;rw [hs1,hw,htl]
      rw [bf];all_goals rfl
    ·have htl:iA v=46 :: FT:=ht2 ht;refine go ?_;refine gM (by first|exact ae rfl|(simp only [au,List.length_nil];omega)) ?_;refine go ?_;refine gM (by first|exact ae rfl|(simp only [au,List.length_nil,aq];omega)) ?_;refine go ?_;refine dM (v &&& 2 ^ 63) (qW (b:=9223372036854775808) hv om) ?_;rw [hsg];by_cases h63:2 ^ 63 <= v
     ·rw [if_pos h63];have hs1:uC v=[45]:=if_pos h63;refine go ?_;refine gM (by first|exact ae rfl|(simp only [au,List.length_nil,aq];omega)) ?_;refine go ?_;show V.str _=V.str (bT v);unfold bT;rw [hs1,hw,htl]
      all_goals rfl
     ·rw [if_neg h63];have hs1:uC v=[]:=if_neg h63;refine go ?_;show V.str _=V.str (bT v);unfold bT;rw [hs1,hw,htl]
      all_goals rfl
   ·rw [if_neg hem] at hw;refine go ?_;refine aA gp ?_;refine go ?_;refine aA gp ?_;refine go ?_;refine aA gb ?_;refine go ?_;refine jK m ?_ hmh om;refine go ?_;refine ifK_intro (ag hm) ?_;refine ifK_intro (ag (af _)) ?_;refine go ?_;refine aA gq ?_;refine go ?_;refine aSc (m:=bC (dB (ds.drop m))) (by rw [lF];show 0+m * 1 <= _;omega) (by rw [<- aJK hdd];unfold dC;rw [List.map_drop];congr 1;show 0+m * 1=m;omega) ?_;refine go ?_;refine aKA (by rw [cV,iR,List.length_drop];rfl) ?_;refine fG ?_;refine go ?_;refine sG (c:=48) (n:=nz) dc hz1 hz3 (fun h=>hz4 h om) (by rw [iR,List.length_drop];omega) ?_;rw [<- hz2,<- hfr];have ht1:cD v=[]->iA v=[]:=fun h=>if_pos h;have ht2:cD v ≠ []->iA v=46 :: cD v:=fun h=>if_neg h;generalize cD v=FT at *;refine go ?_;refine eU (fun ht=>?_) (fun ht=>?_)
    ·have htl:iA v=[]:=ht1 ht;refine go ?_;refine dM (v &&& 2 ^ 63) (qW (b:=9223372036854775808) hv om) ?_;rw [hsg];by_cases h63:2 ^ 63 <= v
     ·rw [if_pos h63];have hs1:uC v=[45]:=if_pos h63;refine go ?_;refine gM (by first|exact ae rfl|(simp only [au,List.length_nil,aq];omega)) ?_;refine go ?_;show V.str _=V.str (bT v);unfold bT;rw [hs1,hw,htl]
      rw [bf];all_goals rfl
     ·rw [if_neg h63];have hs1:uC v=[]:=if_neg h63;refine go ?_;show V.str _=V.str (bT v);unfold bT;rw [hs1,hw,htl]
      rw [bf];all_goals rfl
    ·have htl:iA v=46 :: FT:=ht2 ht;refine go ?_;refine gM (by first|exact ae rfl|(simp only [au,List.length_nil];omega)) ?_;refine go ?_;refine gM (by first|exact ae rfl|(simp only [au,List.length_nil,aq];omega)) ?_;refine go ?_;refine dM (v &&& 2 ^ 63) (qW (b:=9223372036854775808) hv om) ?_;rw [hsg];by_cases h63:2 ^ 63 <= v
     ·rw [if_pos h63];have hs1:uC v=[45]:=if_pos h63;refine go ?_;refine gM (by first|exact ae rfl|(simp only [au,List.length_nil,aq];omega)) ?_;refine go ?_;show V.str _=V.str (bT v);unfold bT;rw [hs1,hw,htl]
      all_goals rfl
     ·rw [if_neg h63];have hs1:uC v=[]:=if_neg h63;refine go ?_;show V.str _=V.str (bT v);unfold bT;rw [hs1,hw,htl]
      all_goals rfl
end Go.Am
namespace Go.Am
open Fp Go.Proofs Ieee
attribute [local irreducible] fN fI fB cR eQ evCode evOps rD kOp aAj wF wH wG kGc aLE aLD kDr kMg drOps fU kK sl
def sgN (b:Bool):Nat:=if b then 2 ^ 63 else 0
theorem xH (neg:Bool)(x:Nat):double.word neg x=sgN neg+x:=by
 cases neg
 ·exact (Nat.zero_add x).symm
 ·rfl
theorem aFc {a b c:Nat}(h:c=a+b):(2:Nat) ^ a * 2 ^ b=2 ^ c:=by rw [h,Nat.pow_add]
theorem aAu {m:Nat}(h0:0 < m)(h:m < 2 ^ 53):m.log2 <= 52:=by
 have:=(Nat.log2_lt (by omega:m ≠ 0)).2 h;omega
def fN0 (m:Nat):Nat:=m * 2 ^ (52 - m.log2)
def fA0 (m:Nat):Nat:=1022+m.log2
theorem aRs {m:Nat}(h0:0 < m)(h:m < 2 ^ 53):Rep (fN0 m) (fA0 m):=by
 have hl:=aAu h0 h;have h1:m < 2 ^ (m.log2+1):=Nat.lt_log2_self;have h2:2 ^ m.log2 <= m:=Nat.log2_self_le om;have p:=Nat.two_pow_pos (52 - m.log2)
 constructor
 ·exact Nat.mul_pos h0 p
 ·have:m * 2 ^ (52 - m.log2) < 2 ^ (m.log2+1) * 2 ^ (52 - m.log2):=Nat.mul_lt_mul_of_pos_right h1 p;rw [aFc (c:=53) om] at this;exact this
 ·left
  have:2 ^ m.log2 * 2 ^ (52 - m.log2) <= m * 2 ^ (52 - m.log2):=bi _ h2;rw [aFc (c:=52) om] at this;exact this
theorem aIq {m:Nat}(h0:0 < m)(h:m < 2 ^ 53):fA0 m <= 1074:=by have:=aAu h0 h;unfold fA0;omega
theorem aJP {m:Nat}(h0:0 < m)(h:m < 2 ^ 53):fN0 m * 2 ^ fA0 m=m * 2 ^ 1074:=by
 have hl:=aAu h0 h;unfold fN0 fA0;rw [Nat.mul_assoc,aFc (c:=1074) (by omega)]
def fB0 (m:Nat):Nat:=fN0 m+fA0 m * 2 ^ 52
theorem aWb {m:Nat}(h0:0 < m)(h:m < 2 ^ 53):FloatKind.f64.nearest (Int.ofNat m)=fB0 m:=by
 have hl:=aAu h0 h
 have e:FloatKind.f64.nearest (Int.ofNat m)=double.nearest false m 0:=by
  have:decide (Int.ofNat m < 0)=false:=decide_eq_false (by show ¬ (m:Int) < 0;omega);show FloatKind.f64.encode (Datum.number (decide (Int.ofNat m < 0)) m 0)=_;rw [this];rfl
 rw [e,nearest_rep false (aRs h0 h) (by have:=aIq h0 h;omega) ⟨52 - m.log2,.inl ⟨by unfold fA0;omega,rfl⟩⟩,xH];simp [sgN,fB0]
theorem aTn {m:Nat}(h0:0 < m)(h:m < 2 ^ 53):fB0 m < 2 ^ 63:=by
 have h1:=aIq h0 h;have h2:=(aRs h0 h).f53;unfold fB0;omega
theorem aXv {x:Nat}(h:x < 2 ^ 63):Op.negFloat .f64 x=2 ^ 63+x:=by
 have h1:=Nat.two_pow_add_eq_or_of_lt (i:=63) (b:=x) h 1;rw [Nat.mul_one] at h1;show x ^^^ 2 ^ 63=_;rw [h1];apply Nat.eq_of_testBit_eq;intro i;rw [Nat.testBit_xor,Nat.testBit_or,Nat.testBit_two_pow];by_cases hi:63=i
 ·subst hi;rw [Nat.testBit_lt_two_pow h];rfl
 ·rw [decide_eq_false hi];simp
def tN (i:Nat):Nat:=10 ^ i * 2 ^ 52 / 2 ^ (10 ^ i).log2
def tA (i:Nat):Nat:=1022+(10 ^ i).log2
def tB (i:Nat):Nat:=tN i+tA i * 2 ^ 52
def tOk (i:Nat):Bool:=Nat.blt 0 (tN i) && (Nat.blt (tN i) (2 ^ 53) && (Nat.ble (2 ^ 52) (tN i) && (Nat.ble (tA i) 2045 && Nat.beq (tN i * 2 ^ tA i) (10 ^ i * 2 ^ 1074))))
theorem aRJ:(List.range 23).all tOk=true:=kr
theorem aWn {i:Nat}(h:i < 23):Rep (tN i) (tA i)∧tA i <= 2045∧tN i * 2 ^ tA i=10 ^ i * 2 ^ 1074:=by
 have:=List.all_eq_true.1 aRJ i (List.mem_range.2 h);unfold tOk at this;simp only [Bool.and_eq_true,Nat.blt_eq,Nat.ble_eq,Nat.beq_eq] at this;obtain ⟨h1,h2,h3,h4,h5⟩:=this;exact ⟨⟨h1,h2,.inl h3⟩,h4,h5⟩
def tC:List V:=(List.range 23).map fun i=>.float .f64 (tB i)
theorem aPu {i:Nat}(h:i < 23):tC[i]?=some (.float .f64 (tB i)):=by simp [tC,h]
theorem aWD (a b c d:Nat):a * b * (c * d)=a * c * (b * d):=by ac_rfl
theorem aWE {m i f r:Nat}(neg:Bool)(h0:0 < m)(h:m < 2 ^ 53)(hi:i < 23)(P:Rep f r)(hr:r <= 2045)(hv:f * 2 ^ r * 10 ^ i=m * 2 ^ 1074) :
  double.div (sgN neg+fB0 m) (tB i)=some (sgN neg+(f+r * 2 ^ 52)):=by
 obtain ⟨T,ht,hT⟩:=aWn hi
 have e:fN0 m * 2 ^ (fA0 m+1074)=f * tN i * 2 ^ (r+tA i):=by
  rw [Nat.pow_add,<- Nat.mul_assoc,aJP h0 h,Nat.pow_add 2 r,aWD f,hT,<- Nat.mul_assoc,hv]
 have:=div_rep (sx:=neg) (sy:=false) (aRs h0 h) (by have:=aIq h0 h;omega) T ht P hr e;rw [xH,xH,xH,Bool.xor_false] at this;have e2:sgN false+(tN i+tA i * 2 ^ 52)=tB i:=Nat.zero_add _;rw [e2] at this;exact this
end Go.Am
namespace Go.Am
open Go.Proofs
attribute [local irreducible] fN fI fB cR eQ evCode evOps rD kOp aAj wF wH wG kGc aLE aLD kDr kMg drOps fU kK sl
structure FT (S:St):Prop where
 inf:∃ e fl,S.hs.get 12=some (.cells [.int .u64 52,.int .u64 11,.int .i64 (-1023)] e fl)
 ten:∃ B e fl e' fl' ex,S.hs.get 15=some (.cells [.slice B 0 23 23 1 ex] e fl)∧S.hs.get B=some (.cells tC e' fl')
 opt:∃ e fl,S.hs.get 11=some (.cells [.bool true] e fl)
 pow:∃ e,Gb [(18,.cells aAl e .ro)] S
theorem aWH:bB Tryz.prog 300 64 [.tmp 6,.tmp 7] (aL Tryz.f300):=fq Tryz.f300
theorem aJv:pY Tryz.prog 262=some false:=kr
theorem aHN {m:Nat}{x:Int}{neg:Bool}(hm:0 < m)(hm64:m < 18446744073709551616)(hx1:-100000 <= x)(hx2:x <= 100000){S:St}(hT:FT S){k:V->St->Prop}
  (hbig:2 ^ 52 <= m->k (.tup [.float .f64 0,.bool false]) S)
  (hz:m < 2 ^ 52->x=0->k (.tup [.float .f64 (sgN neg+fB0 m),.bool true]) S)
  (hn:∀ i:Nat,m < 2 ^ 52->x=-(i:Int)->1 <= i->i <= 22->∃ v,Ieee.double.div (sgN neg+fB0 m) (tB i)=some v∧k (.tup [.float .f64 v,.bool true]) S)
  (hl:m < 2 ^ 52->x < -22->∀ v,k (.tup [.float .f64 v,.bool false]) S) (hp:m < 2 ^ 52->x <= 0):RC Tryz.prog 300 [.int .u64 (.ofNat m),.int .i64 x,.bool neg] S k:=by
 obtain ⟨e1,l1,h12⟩:=hT.inf;obtain ⟨B,e2,l2,e3,l3,ex,h15,hB⟩:=hT.ten;refine RC.run mixed aS (aG aWH ?_);refine enter ?_;refine go ?_;refine aA h12 ?_;refine go ?_;obtain ⟨q,hq⟩:∃ q,m / 2 ^ 52=q:=⟨_,rfl⟩
 refine dM q (qQ dc hq) ?_;refine go ?_;refine bO (fun (h:q=0)=>?_) (fun (h:q ≠ 0)=>?_)
 ·have hm52:m < 2 ^ 52:=om;refine go ?_;have hlt:=aTn hm (by omega:m < 2 ^ 53);have hne:=aWb hm (by omega:m < 2 ^ 53);have hx0:=hp hm52
  have main:∀ y:Nat,y=sgN neg+fB0 m->(x=0->k (.tup [.float .f64 y,.bool true]) S)∧(∀ i:Nat,x=-(i:Int)->1 <= i->i <= 22->∃ v,Ieee.double.div y (tB i)=some v∧k (.tup [.float .f64 v,.bool true]) S)∧(x < -22->∀ v,k (.tup [.float .f64 v,.bool false]) S):=fun y hy=>by
   subst hy;exact ⟨hz hm52,fun i=>hn i hm52,hl hm52⟩
  cases neg with
  | true =>
    obtain ⟨c1,c2,c3⟩:=main (Op.negFloat .f64 (FloatKind.f64.nearest (Int.ofNat m))) (by rw [hne,aXv hlt];rfl);refine go ?_;refine dG (fun h0=>?_) (fun h0=>?_)
    ·refine go ?_;exact c1 (by rw [iZ] at h0;simpa using h0)
    ·have h1:x ≠ 0:=fun e=>by rw [iZ,e] at h0;simp at h0
     refine go ?_;refine lG (by rw [bF];exact decide_eq_false om) ?_;refine go ?_;refine kN (by rw [bF];exact decide_eq_true om) ?_;refine go ?_;refine dG (fun h2=>?_) (fun h2=>?_)
     ·have h3:x < -22:=by rw [bF] at h2;simpa using h2
      refine go ?_;exact c3 h3 _
     ·have h3:-22 <= x:=by rw [bF] at h2;simpa using h2
      obtain ⟨i,hi⟩:∃ i:Nat,x=-(i:Int):=⟨x.natAbs,om⟩
      obtain ⟨v,hv,hk⟩:=c2 i hi om om;refine go ?_;refine aA h15 ?_;refine go ?_;refine bI i ?_ (by show (0:Int) - x=(i:Int);omega) om;refine go ?_;refine ifK_intro (ag (show i+1 <= 23 by omega)) ?_;refine go ?_;refine aA hB ?_;refine go ?_;refine aH aJv i (by show 0+i * 1=i;omega) (aPu om) ?_;refine go ?_;refine bU v hv ?_;refine go ?_;exact hk
  | false =>
    obtain ⟨c1,c2,c3⟩:=main (FloatKind.f64.nearest (Int.ofNat m)) (by rw [hne];exact (Nat.zero_add _).symm);refine go ?_;refine dG (fun h0=>?_) (fun h0=>?_)
    ·refine go ?_;exact c1 (by rw [iZ] at h0;simpa using h0)
    ·have h1:x ≠ 0:=fun e=>by rw [iZ,e] at h0;simp at h0
     refine go ?_;refine lG (by rw [bF];exact decide_eq_false om) ?_;refine go ?_;refine kN (by rw [bF];exact decide_eq_true om) ?_;refine go ?_;refine dG (fun h2=>?_) (fun h2=>?_)
     ·have h3:x < -22:=by rw [bF] at h2;simpa using h2
      refine go ?_;exact c3 h3 _
     ·have h3:-22 <= x:=by rw [bF] at h2;simpa using h2
      obtain ⟨i,hi⟩:∃ i:Nat,x=-(i:Int):=⟨x.natAbs,om⟩
      obtain ⟨v,hv,hk⟩:=c2 i hi om om;refine go ?_;refine aA h15 ?_;refine go ?_;refine bI i ?_ (by show (0:Int) - x=(i:Int);omega) om;refine go ?_;refine ifK_intro (ag (show i+1 <= 23 by omega)) ?_;refine go ?_;refine aA hB ?_;refine go ?_;refine aH aJv i (by show 0+i * 1=i;omega) (aPu om) ?_;refine go ?_;refine bU v hv ?_;refine go ?_;exact hk
 ·refine go ?_;exact hbig om
end Go.Am
namespace Go.Am
open Fp Go.Proofs Ieee
attribute [local irreducible] fN fI fB cR eQ evCode evOps rD kOp aAj wF wH wG kGc aLE aLD kDr kMg drOps fU kK sl
structure Fit (f r i m:Nat)(tr:Bool):Prop where
 rep:Rep f r
 r45:r <= 2045
 lo:m * (tenN i * A74) <= f * 2 ^ r * tenD i
 hi:f * 2 ^ r * tenD i <= (m+tr.toNat) * (tenN i * A74)
 big:tr=true->10 ^ 18 <= m
 m19:m < 10 ^ 19
 small:m < 10 ^ 18->i <= 348
theorem aAA:A74=2 ^ 1074:=by unfold A74;rfl
theorem aPw (i:Nat):0 < tenD i:=Nat.pow_pos dc
theorem Fit.m0 {f r i m:Nat}{tr:Bool}(h:Fit f r i m tr):0 < m:=by
 apply Nat.pos_of_ne_zero;intro e
 cases tr with
 | true=>have:=h.big rfl;omega
 | false =>
   have h1:=h.hi;rw [e,show (0:Nat)+false.toNat=0 from rfl,Nat.zero_mul] at h1;have:=Nat.mul_pos (Nat.mul_pos h.rep.f0 (Nat.two_pow_pos r)) (aPw i);omega
theorem Fit.i_hi {f r i m : Nat}{tr : Bool}(h : Fit f r i m tr) : i <= 658 := by
  apply Nat.le_of_not_lt;intro hi;obtain ⟨K, hK⟩ : ∃ K, K = 2045 := ⟨_, rfl⟩
  obtain ⟨J, hJ⟩ : ∃ J, J = 311 := ⟨_, rfl⟩
  have h1 : f * 2 ^ r < 2 ^ 53 * 2 ^ K := Nat.mul_lt_mul_of_lt_of_le h.rep.f53 (Nat.pow_le_pow_right dc (by rw [hK]; exact h.r45)) (Nat.two_pow_pos _)
  have hD : tenD i = 1 := by unfold tenD; rw [show 348 - i = 0 by omega]
  have hN : 10 ^ J <= tenN i := Nat.pow_le_pow_right dc om
  have h2 : 10 ^ J * A74 <= m * (tenN i * A74) := by
    calc 10 ^ J * A74 <= tenN i * A74 := bi _ hN
      _ = 1 * (tenN i * A74) := (Nat.one_mul _).symm
      _ <= m * (tenN i * A74) := bi _ h.m0
  have h3 := h.lo;rw [hD, Nat.mul_one] at h3
  have h4 : (2 : Nat) ^ 53 * 2 ^ K <= 10 ^ J * A74 := by
    rw [hK, hJ, aAA];exact ae kr
  omega
theorem Fit.i_lo {f r i m : Nat}{tr : Bool}(h : Fit f r i m tr) : 3 <= i := by
  apply Nat.le_of_not_lt;intro hi;obtain ⟨K, hK⟩ : ∃ K, K = 346 := ⟨_, rfl⟩
  have h0 : 1 <= f * 2 ^ r := Nat.mul_pos h.rep.f0 (Nat.two_pow_pos r)
  have hN : tenN i = 1 := by unfold tenN; rw [show i - 348 = 0 by omega]
  have hD : 10 ^ K <= tenD i := Nat.pow_le_pow_right dc om;have h1 := h.hi;rw [hN, Nat.one_mul] at h1
  have h2 : 10 ^ K <= f * 2 ^ r * tenD i := by
    calc 10 ^ K <= tenD i := hD
      _ = 1 * tenD i := (Nat.one_mul _).symm
      _ <= f * 2 ^ r * tenD i := bi _ h0
  have h3 : (m + tr.toNat) * A74 <= 10 ^ 19 * A74 := bi _ (by have := h.m19; have := tr.toNat_le; omega)
  have h4 : (10 : Nat) ^ 19 * A74 < 10 ^ K := by
    rw [hK, aAA];exact mK kr
  omega
theorem aCZ {x:Nat}(h0:x ≠ 0)(h:x < 2 ^ 64):Lib.bitLen x <= 64∧2 ^ Lib.bitLen x <= 2 * x∧x < 2 ^ Lib.bitLen x:=by
 obtain ⟨h1,h2,h3⟩:=Lib.bitLenAux_bounds 64 x h h0;refine ⟨Lib.bitLen_le x 64 (af _) h,?_,h3⟩;show 2 ^ Lib.bitLenAux 64 x <= 2 * x;rw [show Lib.bitLenAux 64 x=Lib.bitLenAux 64 x - 1+1 by omega,Nat.pow_succ];omega
theorem Fit.near {f r i m:Nat}{tr:Bool}(h:Fit f r i m tr):Near m (Lib.bitLen m) (tenN i) (tenD i) f r (tr.toNat * (tenN i * A74)):=by
 have hm:=h.m19;obtain ⟨b1,b2,b3⟩:=aCZ (x:=m) (by have:=h.m0;omega) om;refine ⟨b1,b2,b3,bg h.lo (Nat.le_add_right _ _),?_,?_⟩
 ·rw [<- Nat.add_mul];exact h.hi
 ·cases tr with
  | false=>rw [show false.toNat=0 from rfl,Nat.zero_mul,Nat.zero_mul];exact ai _
  | true =>
    rw [show true.toNat=1 from rfl,Nat.one_mul,Nat.mul_comm,tn];exact bi _ (h.big rfl)
theorem Fit.near1 {f r i m:Nat}(h:Fit f r i m true):Near (m+1) (Lib.bitLen (m+1)) (tenN i) (tenD i) f r (tenN i * A74):=by
 have hm:=h.m19;obtain ⟨b1,b2,b3⟩:=aCZ (x:=m+1) om om;have hlo:=h.lo;have hhi:=h.hi;rw [show true.toNat=1 from rfl] at hhi;refine ⟨b1,b2,b3,?_,bg hhi (Nat.le_add_right _ _),?_⟩
 ·rw [Nat.add_mul,Nat.one_mul];omega
 ·rw [Nat.mul_comm,tn];exact bi _ (by have:=h.big rfl;omega)
theorem aJb {f r g s:Nat}(P:Rep f r)(Q:Rep g s)(h:f * 2 ^ r=g * 2 ^ s):f=g∧r=s:=by
 have key:∀ {f r g s:Nat},Rep f r->Rep g s->f * 2 ^ r=g * 2 ^ s->¬ r < s:=by
  intro f r g s P Q h hl;obtain ⟨k,hk⟩:∃ k,s=k+1+r:=⟨s - r - 1,om⟩
  have h52:2 ^ 52 <= g:=by
   rcases Q.norm with h|h
   ·exact h
   ·omega
  rw [hk,Nat.pow_add,<- Nat.mul_assoc] at h;have:=Nat.eq_of_mul_eq_mul_right (Nat.two_pow_pos r) h
  have h1:2 <= 2 ^ (k+1):=by
   have:2 ^ 1 <= 2 ^ (k+1):=Nat.pow_le_pow_right dc om;omega
  have h2:=Nat.mul_le_mul h52 h1;have:=P.f53;omega
 have e:r=s:=by
  have:=key P Q h;have:=key Q P h.symm;omega
 subst e;exact ⟨Nat.eq_of_mul_eq_mul_right (Nat.two_pow_pos r) h,rfl⟩
theorem Fit.ex {f r i m:Nat}{tr:Bool}(h:Fit f r i m tr)(hm:m < 2 ^ 52):tr=false∧i <= 348∧f * 2 ^ r * 10 ^ (348 - i)=m * 2 ^ 1074:=by
 have ht:tr=false:=by
  cases tr with
  | true=>have:=h.big rfl;omega
  | false=>rfl
 subst ht;have hi:=h.small (by omega);refine ⟨rfl,hi,?_⟩;have h1:=h.lo;have h2:=h.hi
 have hN:tenN i=1:=by unfold tenN;rw [show i - 348=0 by omega]
 rw [hN,Nat.one_mul,aAA] at h1 h2;exact Nat.le_antisymm h2 h1
theorem Fit.ex0 {f r m:Nat}{tr:Bool}(h:Fit f r 348 m tr)(hm:m < 2 ^ 52):fB0 m=f+r * 2 ^ 52:=by
 obtain ⟨_,_,he⟩:=h.ex hm;rw [show 348 - 348=0 from rfl,Nat.pow_zero,Nat.mul_one,<- aJP h.m0 om] at he;obtain ⟨e1,e2⟩:=aJb h.rep (aRs h.m0 om) he;unfold fB0;rw [e1,e2]
theorem aIN (neg:Bool){f r:Nat}(P:Rep f r)(hr:r <= 2045):double.order (sgN neg+(f+r * 2 ^ 52)) (sgN neg+(f+r * 2 ^ 52))=some .eq:=by
 rw [<- xH];unfold Format.order;rw [read_word neg P hr];unfold Datum.order;simp
end Go.Am
namespace Go.Am
open Go.Proofs
attribute [local irreducible] fN fI fB cR eQ evCode evOps rD kOp aAj wF wH wG kGc aLE aLD kDr kMg drOps fU kK sl
theorem aUR:bB Tryz.prog 322 36 [.tmp 4] (aL Tryz.f322):=fq Tryz.f322
theorem aQi {s:List UInt8}{c:UInt8}(h0:s[0]?=some c)(hc:oH c=true){S:St}{k:V->St->Prop}(hk:k (.int .i64 0) S):RC Tryz.prog 322 [.str s,.str [105,110,102,105,110,105,116,121]] S k:=by
 have hc:=dP.1 hc;have hl:0 < s.length:=(ao.1 h0).1;refine RC.run mixed aS (aG aUR ?_);refine enter ?_;refine go ?_;refine bX (fun hb=>?_) (fun hb=>?_)
 ·refine go ?_;refine LP.one mixed ?_;refine go ?_;refine bE (fun _=>?_) (fun h=>absurd h (by rw [aM];show ¬ _ <= 0;omega));refine go ?_;refine bU _ (vF h0) ?_;refine go ?_;refine bE (fun _=>?_) (fun (h:65 <= _)=>by omega);refine go ?_;refine bO (fun (h:_=105)=>by omega) (fun _=>?_);refine go ?_;exact hk
 ·refine go ?_;refine LP.one mixed ?_;refine go ?_;refine bU _ (vF h0) ?_;refine go ?_;refine bE (fun _=>?_) (fun (h:65 <= _)=>by omega);refine go ?_;refine bO (fun (h:_=105)=>by omega) (fun _=>?_);refine go ?_;exact hk
theorem aLp:bB Tryz.prog 289 50 [.tmp 2,.tmp 3,.tmp 4] (aL Tryz.f289):=fq Tryz.f289
theorem aHh {s sg r:List UInt8}{c:UInt8}(hs:s=sg ++ c :: r)(hsg:sg=[] ∨ sg=[45])(hc:oH c=true){S:St}{k:V->St->Prop}(hk:k (.tup [.float .f64 0,.int .i64 0,.bool false]) S):RC Tryz.prog 289 [.str s] S k:=by
 have hc':=dP.1 hc
 have hl:0 < s.length:=by rw [hs];simp;omega
 refine RC.run mixed aS (aG aLp ?_);refine enter ?_;refine go ?_;refine bO (fun h=>absurd h (by rw [aM];show ¬ _=0;omega)) (fun _=>?_);refine go ?_
 rcases hsg with rfl|rfl
 ·have h0:s[0]?=some c:=by rw [hs];rfl
  refine bU _ (vF h0) ?_;refine go ?_;refine bO (fun (h:_=43)=>by omega) (fun _=>?_);refine go ?_;refine bO (fun (h:_=45)=>by omega) (fun _=>?_);refine go ?_;refine bO (fun (h:_=105)=>by omega) (fun _=>?_);refine go ?_;refine bO (fun (h:_=73)=>by omega) (fun _=>?_);refine go ?_;refine bO (fun (h:_=110)=>by omega) (fun _=>?_);refine go ?_;refine bO (fun (h:_=78)=>by omega) (fun _=>?_);refine go ?_;exact hk
 ·have h0:s[0]?=some 45:=by rw [hs];rfl
  refine bU _ (vF h0) ?_;refine go ?_;refine bU _ (vF h0) ?_;refine go ?_;refine cT hl ?_
  have e:s.drop 1=c :: r:=by rw [hs];rfl
  rw [e];refine go ?_;refine aQi (c:=c) rfl hc ?_;refine go ?_;exact hk
theorem aWI:bB Tryz.prog 271 143 [.tmp 2,.tmp 3,.tmp 4] (aL Tryz.f271):=fq Tryz.f271
theorem aWl (b:Bool):IntKind.u64.wrap (Int.ofNat b.toNat * 2 ^ min 63 IntKind.u64.bits)=Int.ofNat (sgN b):=by cases b <;> kernel_rfl
theorem aUa (b:Bool):sgN b=0 ∨ sgN b=2 ^ 63:=by cases b;exact .inl rfl;exact .inr rfl
theorem aRu {i:Nat}(h:i < 696):∃ hi lo,Pinned.pow10Rows[i]?=some (hi,lo):=by
 have hlen:Pinned.pow10Rows.length=696:=kr;exact ⟨_,_,ak (by rw [hlen];exact h)⟩
open Fp in
theorem aHS {s sg D tl F ex E:List UInt8}(hs:s=sg ++ (D ++ tl) ++ ex)(hD:Dec (sg ++ (D ++ tl)) sg D tl F)(hex:(ex=[]∧E=[]) ∨ (ex=101 :: 45 :: E∧E ≠ []))(hE:E.all oH=true)(hE4:E.length <= 4)(hlen:s.length <= 2000)
  (hsg:sg=[] ∨ sg=[45]) {f r i w:Nat} (hfit:((cF (D ++ tl)).mant=0∧w=0) ∨ (Fit f r i (cF (D ++ tl)).mant (cF (D ++ tl)).tr∧kP (D ++ tl) E=(i:Int) - 348∧w=f+r * 2 ^ 52))
  {S:St} (hT:FT S) {k:V->St->Prop} (hk:k (.tup [.float .f64 (sgN (decide (sg=[45]))+w),.int .i64 (.ofNat s.length),.nilIface]) S):RC Tryz.prog 271 [.str s] S k:=by
 obtain ⟨e1,l1,h11⟩:=hT.opt;obtain ⟨e18,h18⟩:=hT.pow;obtain ⟨c,D',hc⟩:∃ c D',D=c :: D':=List.exists_cons_of_ne_nil hD.d0;have hcD:oH c=true:=List.all_eq_true.1 hD.d c (by rw [hc];simp);refine RC.run mixed aS (aG aWI ?_);refine enter ?_;refine go ?_;refine aHh (sg:=sg) (c:=c) (r:=D' ++ tl ++ ex) (by rw [hs,hc];simp) hsg hcD ?_;refine go ?_;refine aCL hs hD hex hE hE4 hlen ?_;unfold rfV;generalize kP (D ++ tl) E=x at *;generalize (cF (D ++ tl)).mant=m at *;generalize (cF (D ++ tl)).tr=tr at *;generalize decide (sg=[45])=neg at *;generalize s.length=n at *;refine go ?_;refine aA h11 ?_;refine go ?_;refine vG ?_;obtain ⟨z,hz⟩:∃ z,sgN neg=z:=⟨_,rfl⟩
 have hz':z=0 ∨ z=2 ^ 63:=hz ▸ aUa neg;rw [hz] at hk;refine aII (fun Q hQ=>by (conv=>whnf);exact hQ) ?_;refine aOd rfl (fun A B h=>by (conv=>whnf);exact h) (fun Q hQ=>by (conv=>whnf);exact hQ) (fun Q hQ=>by (conv=>whnf);exact hQ) ((aWl neg).trans (congrArg Int.ofNat hz)) ?_;refine go ?_;refine bO (fun (h:m=0)=>?_) (fun (h:m ≠ 0)=>?_)
 ·have hw:w=0:=by
   rcases hfit with ⟨_,h1⟩|⟨h1,_⟩
   ·exact h1
   ·have:=h1.m0;omega
  rw [hw] at hk;refine go ?_;refine dM z ((aCK (a:=z) (b:=0) om om).trans (congrArg Int.ofNat (Nat.or_zero z))) ?_;refine go ?_;refine qF ?_;refine go ?_;exact hk
 ·obtain ⟨hf,hx,hw⟩:=hfit.resolve_left fun h1=>h h1.1;have h3:=hf.i_lo;have h6:=hf.i_hi;have h0:=hf.m0;have h19:=hf.m19;obtain ⟨hi,lo,hrow⟩:=aRu (i:=i) om;rw [hw] at hk;refine go ?_;refine lG (by rw [bF];exact decide_eq_false om) ?_;refine go ?_;refine lG (by rw [bF];exact decide_eq_false om) ?_;refine go ?_
  have pf:∀ {k:V->St->Prop},k (.tup [.float .f64 (z+(f+r * 2 ^ 52)),.nilIface]) S->RC Tryz.prog 301 [.int .u64 (.ofNat m),.int .i64 x,.int .u64 (.ofNat z)] S k:=fun hk=>by
   rw [hx];exact aBM hz' hrow hf.rep hf.r45 hf.near h18 hk
  obtain ⟨u,hu⟩:∃ u,z+(f+r * 2 ^ 52)=u:=⟨_,rfl⟩
  rw [hu] at hk pf
  cases tr with
  | false =>
    refine go ?_;refine aHN h0 om om om hT (fun h1=>?_) (fun h1 h2=>?_) (fun j h1 h2 h4 h5=>⟨u,?_,?_⟩) (fun h1 h2 v=>?_) (fun h1=>?_)
    ·refine go ?_;refine pf ?_;refine go ?_;exact hk
    ·have e:sgN neg+fB0 m=u:=by
      have hi:i=348:=om;subst hi;rw [hz,hf.ex0 h1,hu]
     rw [e];refine go ?_;exact hk
    ·obtain ⟨_,_,he⟩:=hf.ex h1;rw [<- hu,<- hz];exact aWE neg h0 om om hf.rep hf.r45 (by rw [show j=348 - i by omega];exact he)
    ·refine go ?_;exact hk
    ·refine go ?_;refine pf ?_;refine go ?_;exact hk
    ·obtain ⟨_,_,_⟩:=hf.ex h1;omega
  | true =>
    obtain ⟨m1,hm1⟩:∃ m1,m1=m+1:=⟨_,rfl⟩
    have pf1:∀ {k:V->St->Prop},k (.tup [.float .f64 u,.nilIface]) S->RC Tryz.prog 301 [.int .u64 (.ofNat m1),.int .i64 x,.int .u64 (.ofNat z)] S k:=fun hk=>by
     rw [hx,hm1];exact aBM hz' hrow hf.rep hf.r45 hf.near1 h18 (by rw [hu];exact hk)
    refine go ?_;refine pf ?_;refine go ?_;refine bA m1 (by rw [hm1];rfl) (by show m1 <= 18446744073709551615;omega) ?_;refine go ?_;refine pf1 ?_;refine go ?_;refine kN (by have:=aIN neg hf.rep hf.r45;rw [hz,hu] at this;show (Ieee.double.order u u == some Ordering.eq)=true;rw [this];rfl) ?_;refine go ?_;exact hk
theorem aVq:bB Tryz.prog 245 27 [.tmp 4,.tmp 5,.tmp 6] (aL Tryz.f245):=fq Tryz.f245
theorem aVd:bB Tryz.prog 217 23 [.tmp 4,.tmp 5] (aL Tryz.f217):=fq Tryz.f217
theorem aVA:bB Tryz.prog 171 22 [.tmp 4,.tmp 5] (aL Tryz.f171):=fq Tryz.f171
structure Txt (s:List UInt8)(neg:Bool)(w:Nat):Prop where
 ex:∃ sg D tl F ex E f r i,s=sg ++ (D ++ tl) ++ ex∧Dec (sg ++ (D ++ tl)) sg D tl F∧((ex=[]∧E=[]) ∨ (ex=101 :: 45 :: E∧E ≠ []))∧E.all oH=true∧E.length <= 4∧s.length <= 2000∧decide (sg=[45])=neg ∧
  (((cF (D ++ tl)).mant=0∧w=0) ∨ (Fit f r i (cF (D ++ tl)).mant (cF (D ++ tl)).tr∧kP (D ++ tl) E=(i:Int) - 348∧w=f+r * 2 ^ 52))
theorem aRm {s:List UInt8}{neg:Bool}{w:Nat}(h:Txt s neg w){S:St}(hT:FT S){k:V->St->Prop}(hk:k (.tup [.float .f64 (sgN neg+w),.int .i64 (.ofNat s.length),.nilIface]) S):RC Tryz.prog 245 [.str s,.int .i64 64] S k:=by
 obtain ⟨sg,D,tl,F,ex,E,f,r,i,h1,h2,h3,h4,h5,h6,h7,h8⟩:=h.ex;refine RC.run mixed aS (aG aVq ?_);refine enter ?_;refine go ?_;refine aHS h1 h2 h3 h4 h5 h6 h2.sg' h8 hT ?_;rw [h7];generalize sgN neg+w=u at *;generalize s.length=n at *;refine go ?_;exact hk
theorem aQO {s:List UInt8}{neg:Bool}{w:Nat}(h:Txt s neg w){S:St}(hT:FT S){k:V->St->Prop}(hk:k (.tup [.float .f64 (sgN neg+w),.nilIface]) S):RC Tryz.prog 217 [.str s,.int .i64 64] S k:=by
 refine RC.run mixed aS (aG aVd ?_);refine enter ?_;refine go ?_;refine aRm h hT ?_;generalize sgN neg+w=u at *;refine go ?_;refine bO (fun _=>?_) (fun h=>absurd (aM s).symm h);refine go ?_;exact hk
theorem aRF {s:List UInt8}{neg:Bool}{w:Nat}(h:Txt s neg w){S:St}(hT:FT S){k:V->St->Prop}(hk:k (.tup [.float .f64 (sgN neg+w),.nilIface]) S):RC Tryz.prog 171 [.str s,.int .i64 64] S k:=by
 refine RC.run mixed aS (aG aVA ?_);refine enter ?_;refine go ?_;refine aQO h hT ?_;generalize sgN neg+w=u at *;refine go ?_;exact hk
theorem aQt:∃ fn,Tryz.prog.funcs[173]?=some fn∧fn.body=none:=⟨Tryz.f173,kr,kr⟩
theorem aLq {b:Nat}{S:St}{k:V->St->Prop}(hk:k (.int .u64 (.ofNat b)) S):RC Tryz.prog 173 [.float .f64 b] S k:=by
 refine RC.run mixed aS (nN aQt ?_)
 conv=>whnf
 exact hk
structure RI (st:RS)(val:Nat):Prop where
 lo:st.mant * 10 ^ (st.nd - st.nm) <= val
 hi:val < (st.mant+1) * 10 ^ (st.nd - st.nm)
 ex:st.tr=false->val=st.mant * 10 ^ (st.nd - st.nm)
 nm:st.nm=min st.nd 19
 z:st.nd=0->st.mant=0
 nz:0 < st.nd->10 ^ (st.nm - 1) <= st.mant
 t:st.tr=true->19 <= st.nd
theorem RI.zero:RI rs0 0:=⟨dc,dc,fun _=>rfl,rfl,fun _=>rfl,fun h=>absurd h dc,fun h=>by cases h⟩
theorem RI.dig {st:RS}{val d:Nat}(h:RI st val)(hd:d < 10):RI (st.dig d) (val * 10+d):=by
 obtain ⟨h1,h2,h3,h4,h5,h6,h7⟩:=h;unfold RS.dig;by_cases h0:d=0∧st.nd=0
 ·rw [if_pos h0];obtain ⟨rfl,hn⟩:=h0;have hm:=h5 hn;rw [hm,hn] at h1 h2 h3
  have hv:val=0:=by
   rw [Nat.zero_sub,Nat.pow_zero] at h2;omega
  subst hv;refine ⟨?_,?_,fun _=>?_,h4,h5,h6,h7⟩
  ·show st.mant * 10 ^ (st.nd - st.nm) <= _;rw [hm,Nat.zero_mul];exact ai _
  ·show _ < (st.mant+1) * 10 ^ (st.nd - st.nm);rw [hm,hn];simp
  ·show _=st.mant * 10 ^ (st.nd - st.nm);rw [hm];simp
 ·rw [if_neg h0];by_cases h9:st.nm < 19
  ·rw [if_pos h9];have hnn:st.nd=st.nm:=om;rw [hnn,Nat.sub_self,Nat.pow_zero,Nat.mul_one] at h1 h2;have hv:val=st.mant:=om;subst hv;refine ⟨?_,?_,fun _=>?_,?_,fun h=>?_,fun _=>?_,fun h=>?_⟩
   ·show (st.mant * 10+d) * 10 ^ (st.nd+1 - (st.nm+1)) <= _;rw [hnn,Nat.sub_self,Nat.pow_zero,Nat.mul_one];exact af _
   ·show _ < (st.mant * 10+d+1) * 10 ^ (st.nd+1 - (st.nm+1));rw [hnn,Nat.sub_self,Nat.pow_zero,Nat.mul_one];exact Nat.lt_succ_self _
   ·show _=(st.mant * 10+d) * 10 ^ (st.nd+1 - (st.nm+1));rw [hnn,Nat.sub_self,Nat.pow_zero,Nat.mul_one]
   ·show st.nm+1=min (st.nd+1) 19;omega
   ·exact absurd h (Nat.succ_ne_zero _)
   ·show 10 ^ (st.nm+1 - 1) <= st.mant * 10+d;rw [Nat.add_sub_cancel];by_cases hn0:st.nm=0
    ·rw [hn0,Nat.pow_zero];have:d ≠ 0:=fun e=>h0 ⟨e,om⟩;omega
    ·have:=h6 om
     have e:(10:Nat) ^ st.nm=10 ^ (st.nm - 1) * 10:=by rw [<- Nat.pow_succ];congr 1;omega
     omega
   ·have:=h7 h;omega
  ·rw [if_neg h9];have e:st.nd+1 - st.nm=st.nd - st.nm+1:=om;refine ⟨?_,?_,fun h=>?_,?_,fun h=>absurd h (Nat.succ_ne_zero _),fun _=>h6 om,fun _=>?_⟩
   ·show st.mant * 10 ^ (st.nd+1 - st.nm) <= _;rw [e,Nat.pow_succ,<- Nat.mul_assoc];omega
   ·show _ < (st.mant+1) * 10 ^ (st.nd+1 - st.nm);rw [e,Nat.pow_succ,<- Nat.mul_assoc];omega
   ·have h':(st.tr || !(decide (d=0)))=false:=h;rw [Bool.or_eq_false_iff] at h'
    have hd0:d=0:=by simpa using h'.2
    show _=st.mant * 10 ^ (st.nd+1 - st.nm);rw [e,Nat.pow_succ,<- Nat.mul_assoc,<- h3 h'.1,hd0,Nat.add_zero]
   ·show st.nm=min (st.nd+1) 19;omega
   ·show 19 <= st.nd+1;omega
theorem aTj (st:RS)(d:Nat):(st.dig d).dp - (st.dig d).nd=st.dp - st.nd - 1:=by
 unfold RS.dig
 split
 ·show st.dp - 1 - (st.nd:Int)=_;omega
 ·split
  ·show st.dp - ((st.nd+1:Nat):Int)=_;omega
  ·show st.dp - ((st.nd+1:Nat):Int)=_;omega
theorem aPs {st:RS}{c:UInt8}(h:oH c=true):st.step c=st.dig (c.toNat - 48):=by
 unfold RS.step;rw [if_neg];intro e;have:=dP.1 h;rw [e] at this;exact absurd this.1 dc
def vE (n:Nat)(l:List UInt8):Nat:=l.foldl (fun e c=>e * 10+(c.toNat - 48)) n
theorem RI.fold:∀ {l:List UInt8} {st:RS} {val:Nat},RI st val->l.all oH=true->RI (l.foldl RS.step st) (vE val l)∧(l.foldl RS.step st).dp - (l.foldl RS.step st).nd=st.dp - st.nd - l.length∧(l.foldl RS.step st).saw=st.saw
 | [],st,val,h,_=>⟨h,sm,rfl⟩
 | c :: l,st,val,h,hl=>by
   rw [List.all_cons,Bool.and_eq_true] at hl;have hc:=dP.1 hl.1;obtain ⟨a1,a2,a3⟩:=RI.fold (l:=l) (h.dig (d:=c.toNat - 48) om) hl.2;rw [List.foldl_cons,aPs hl.1];refine ⟨a1,?_,?_⟩
   ·rw [a2,aTj,au];omega
   ·rw [a3];unfold RS.dig
    split <;> (try split) <;> rfl
theorem zA (n:Nat)(a b:List UInt8):vE n (a ++ b)=vE (vE n a) b:=List.foldl_append
theorem aPi {D tl F:List UInt8}(hD:D.all oH=true)(hF:F.all oH=true)(ht:(tl=[]∧F=[]) ∨ tl=46 :: F) :
  RI (cF (D ++ tl)) (vE 0 (D ++ F))∧(if (cF (D ++ tl)).saw=true then (cF (D ++ tl)).dp else ((cF (D ++ tl)).nd:Int))=((cF (D ++ tl)).nd:Int) - F.length:=by
 obtain ⟨a1,a2,a3⟩:=RI.fold RI.zero hD;unfold cF;rw [List.foldl_append]
 rcases ht with ⟨rfl,rfl⟩|rfl
 ·rw [bf];refine ⟨a1,?_⟩;rw [List.foldl_nil,a3,if_neg dc];simp
 ·rw [List.foldl_cons]
  have hst:RI ((D.foldl RS.step rs0).step 46) (vE 0 D):=by
   obtain ⟨h1,h2,h3,h4,h5,h6,h7⟩:=a1;unfold RS.step;rw [if_pos rfl];exact ⟨h1,h2,h3,h4,h5,h6,h7⟩
  obtain ⟨b1,b2,b3⟩:=RI.fold hst hF;rw [zA];refine ⟨b1,?_⟩
  have hs:((D.foldl RS.step rs0).step 46).saw=true:=by unfold RS.step;rw [if_pos rfl]
  have hd:((D.foldl RS.step rs0).step 46).dp - ((D.foldl RS.step rs0).step 46).nd=0:=by
   unfold RS.step;rw [if_pos rfl];show (((D.foldl RS.step rs0).nd:Nat):Int) - ((D.foldl RS.step rs0).nd:Int)=0;omega
  rw [b3,hs,if_pos rfl];omega
end Go.Am
namespace Go.Am
open Fp Go.Proofs
attribute [local irreducible] fN fI fB cR eQ evCode evOps rD kOp aAj wF wH wG kGc aLE aLD kDr kMg drOps fU kK sl
theorem aUf {a b x y i:Nat}(h:a * 10 ^ x <= b * 10 ^ y)(hi:(x:Int) - y=(i:Int) - 348):a * tenN i <= b * tenD i:=by
 unfold tenN tenD;by_cases h3:348 <= i
 ·rw [show 348 - i=0 by omega,Nat.pow_zero,Nat.mul_one];rw [show x=(i - 348)+y by omega,Nat.pow_add,<- Nat.mul_assoc] at h;exact Nat.le_of_mul_le_mul_right h (Nat.pow_pos dc)
 ·rw [show i - 348=0 by omega,Nat.pow_zero,Nat.mul_one];rw [show y=(348 - i)+x by omega,Nat.pow_add,<- Nat.mul_assoc] at h;exact Nat.le_of_mul_le_mul_right h (Nat.pow_pos dc)
theorem aUe {a b x y i:Nat}(h:b * 10 ^ y <= a * 10 ^ x)(hi:(x:Int) - y=(i:Int) - 348):b * tenD i <= a * tenN i:=by
 unfold tenN tenD;by_cases h3:348 <= i
 ·rw [show 348 - i=0 by omega,Nat.pow_zero,Nat.mul_one];rw [show x=(i - 348)+y by omega,Nat.pow_add,<- Nat.mul_assoc] at h;exact Nat.le_of_mul_le_mul_right h (Nat.pow_pos dc)
 ·rw [show i - 348=0 by omega,Nat.pow_zero,Nat.mul_one];rw [show y=(348 - i)+x by omega,Nat.pow_add,<- Nat.mul_assoc] at h;exact Nat.le_of_mul_le_mul_right h (Nat.pow_pos dc)
theorem aPR:A74 <= 10 ^ 324:=by
 rw [aAA];exact Nat.le_of_ble_eq_true (by kernel_rfl)
theorem RI.pos {st:RS}{val:Nat}(h:RI st val)(hv:0 < val):0 < st.mant:=by
 apply Nat.pos_of_ne_zero;intro e
 have h1:st.nd=0:=by
  apply Nat.eq_zero_of_not_pos;intro hp;have:=h.nz hp;rw [e] at this;have:=Nat.pow_pos (a:=10) (n:=st.nm - 1) dc;omega
 have h2:=h.hi;rw [e,h1,Nat.zero_sub] at h2;simp at h2;omega
theorem RI.zero' {st:RS}(h:RI st 0):st.mant=0:=by
 have h1:=h.lo;have hp:0 < 10 ^ (st.nd - st.nm):=Nat.pow_pos dc;apply Nat.eq_zero_of_not_pos;intro hm;have:=Nat.mul_pos hm hp;omega
theorem aHk {s sg D tl F ex E:List UInt8}(hs:s=sg ++ (D ++ tl) ++ ex)(hD:Dec (sg ++ (D ++ tl)) sg D tl F)(hex:(ex=[]∧E=[]) ∨ (ex=101 :: 45 :: E∧E ≠ []))(hE:E.all oH=true)(hE4:E.length <= 4)(hlen:s.length <= 2000)
  (hv:vE 0 (D ++ F)=0):Txt s (decide (sg=[45])) 0:=by
 obtain ⟨hR,_⟩:=aPi hD.d hD.f hD.tl';rw [hv] at hR;exact ⟨sg,D,tl,F,ex,E,0,0,0,hs,hD,hex,hE,hE4,hlen,rfl,.inl ⟨hR.zero',rfl⟩⟩
theorem aPB {s sg D tl F ex E : List UInt8}{f r : Nat}(hs : s = sg ++ (D ++ tl) ++ ex)(hD : Dec (sg ++ (D ++ tl)) sg D tl F)(hex : (ex = [] ∧ E = []) ∨ (ex = 101 :: 45 :: E ∧ E ≠ []))(hE : E.all oH = true)(hE4 : E.length <= 4)(hlen : s.length <= 2000)
    (P : Rep f r) (hr : r <= 2045) (hv : f * 2 ^ r * 10 ^ (F.length + oG E) = vE 0 (D ++ F) * A74) : Txt s (decide (sg = [45])) (f + r * 2 ^ 52) := by
  obtain ⟨hR, hdp⟩ := aPi hD.d hD.f hD.tl'
  have hB : ∀ c ∈ D ++ tl, oH c = true ∨ c = 46 := fun c hc => by
    rcases List.mem_append.1 hc with h | h
    · exact .inl (List.all_eq_true.1 hD.d c h)
    · rcases hD.tl' with ⟨rfl, _⟩ | rfl
      · simp at h
      · rcases av.1 h with rfl | h
        · exact .inr rfl
        · exact .inl (List.all_eq_true.1 hD.f c h)
  have hin := aEX hB (j := (D ++ tl).length) (af _);rw [List.take_length] at hin;have hm19 := hin.mant64;have hp10 : ∀ n, 0 < 10 ^ n := fun n => Nat.pow_pos dc;have hf1 : 1 <= f * 2 ^ r := Nat.mul_pos P.f0 (Nat.two_pow_pos r)
  have hval : 0 < vE 0 (D ++ F) := by
    apply Nat.pos_of_ne_zero;intro e;rw [e, Nat.zero_mul] at hv;have := Nat.mul_pos hf1 (hp10 (F.length + oG E));omega
  have hm0 := hR.pos hval
  have hexp : kP (D ++ tl) E = ((cF (D ++ tl)).nd : Int) - F.length - oG E - (cF (D ++ tl)).nm := by
    unfold kP oD;rw [if_neg om];show (if (cF (D ++ tl)).saw = true then (cF (D ++ tl)).dp else ((cF (D ++ tl)).nd : Int)) - (oG E : Int) - ((cF (D ++ tl)).nm : Int) = _;rw [hdp]
  obtain ⟨p, hp⟩ : ∃ p, p = F.length + oG E := ⟨_, rfl⟩
  rw [<- hp] at hv;generalize hst : cF (D ++ tl) = st at *;generalize vE 0 (D ++ F) = val at *;obtain ⟨x, hx⟩ : ∃ x, x = st.nd - st.nm := ⟨_, rfl⟩
  have hnm := hR.nm;have hlo := hR.lo;have hhi := hR.hi;rw [<- hx] at hlo hhi
  have hpb : p < x + 343 := by
    apply Nat.lt_of_not_le;intro hc
    have h1 : 10 ^ p <= val * A74 := by
      rw [<- hv]
      calc 10 ^ p = 1 * 10 ^ p := (Nat.one_mul _).symm
        _ <= f * 2 ^ r * 10 ^ p := bi _ hf1
    have h2 : val * A74 < (10 ^ 19 * 10 ^ x) * A74 := by
      apply Nat.mul_lt_mul_of_pos_right _ a74pos;exact Nat.lt_of_lt_of_le hhi (bi _ om)
    have h3 : (10 ^ 19 * 10 ^ x) * A74 <= 10 ^ (x + 343) := by
      have h5 := Nat.mul_le_mul_left (10 ^ 19 * 10 ^ x) aPR;obtain ⟨K, hK⟩ : ∃ K, K = 324 := ⟨_, rfl⟩
      rw [<- hK] at h5
      have h6 : 10 ^ 19 * 10 ^ x * 10 ^ K = 10 ^ (x + 343) := by rw [<- Nat.pow_add, <- Nat.pow_add, show 19 + x + K = x + 343 by omega]
      rwa [h6] at h5
    have h4 : 10 ^ (x + 343) <= 10 ^ p := Nat.pow_le_pow_right dc hc;omega
  obtain ⟨i, hi⟩ : ∃ i : Nat, (x : Int) - p = (i : Int) - 348 := ⟨((x : Int) - p + 348).toNat, by omega⟩
  have hi' : kP (D ++ tl) E = (i : Int) - 348 := by rw [hexp]; omega
  refine ⟨sg, D, tl, F, ex, E, f, r, i, hs, hD, hex, hE, hE4, hlen, rfl, .inr ⟨?_, hi', rfl⟩⟩
  have hmain : Fit f r i st.mant st.tr := by
    refine ⟨P, hr, ?_, ?_, fun ht => ?_, by omega, fun hs => ?_⟩
    · have : st.mant * A74 * 10 ^ x <= f * 2 ^ r * 10 ^ p := by
        rw [hv, Nat.mul_right_comm];exact bi _ hlo
      have := aUf this hi;rw [Nat.mul_comm (tenN i), <- Nat.mul_assoc];exact this
    · have : f * 2 ^ r * 10 ^ p <= (st.mant + st.tr.toNat) * A74 * 10 ^ x := by
        rw [hv, Nat.mul_right_comm];refine bi _ ?_
        cases ht : st.tr with
        | false =>
          have := hR.ex ht;rw [<- hx] at this;rw [this];exact af _
        | true => exact Nat.le_of_lt hhi
      have := aUe this hi;rw [Nat.mul_comm (tenN i), <- Nat.mul_assoc];exact this
    · have h1 := hR.t ht
      have h2 := hR.nz om;rw [show st.nm = 19 by omega] at h2;exact h2
    · by_cases h19 : st.nm = 19
      · have h2 := hR.nz om
        rw [h19] at h2;have : (10 : Nat) ^ (19 - 1) = 10 ^ 18 := rfl;omega
      · omega
  rw [hst]; exact hmain
theorem sI (n:Nat):∀ l:List UInt8,vE n l=n * 10 ^ l.length+vE 0 l
 | []=>by simp [vE]
 | c :: l=>by
   have h1:=sI (n * 10+(c.toNat - 48)) l;have h2:=sI (0 * 10+(c.toNat - 48)) l;have e1:vE n (c :: l)=vE (n * 10+(c.toNat - 48)) l:=rfl;have e2:vE 0 (c :: l)=vE (0 * 10+(c.toNat - 48)) l:=rfl;rw [e1,e2,h1,h2,au,Nat.pow_succ,Nat.add_mul,Nat.add_mul,Nat.zero_mul,Nat.mul_assoc n 10,Nat.mul_comm 10];omega
theorem aCs:∀ {l:List UInt8},l.all (rG 48)=true->vE 0 l=0
 | [],_=>rfl
 | c :: l,h=>by
   rw [List.all_cons,Bool.and_eq_true] at h
   have hc:c=48:=by simpa [rG] using h.1
   subst hc;exact aCs (l:=l) h.2
theorem aNB {ds:List Nat}(h:nE ds):(dB ds).all oH=true:=by
 rw [List.all_eq_true];intro c hc;obtain ⟨d,hd,rfl⟩:=List.mem_map.1 hc;have:=h d hd;rw [dP,UInt8.toNat_ofNat'];omega
theorem aSK:∀ {ds:List Nat},nE ds->vE 0 (dB ds)=fJ ds
 | [],_=>rfl
 | d :: ds,h=>by
   have hd:d < 10:=h d sm;have ih:=aSK (ds:=ds) fun x hx=>h x (by simp [hx]);have e:vE 0 (dB (d :: ds))=vE (0 * 10+((UInt8.ofNat (48+d)).toNat - 48)) (dB ds):=rfl;rw [e,sI,ih,iR,UInt8.toNat_ofNat',show 0 * 10+((48+d) % 2 ^ 8 - 48)=d by omega];rfl
theorem aKG (l:List UInt8):vE 0 (lz l)=vE 0 l:=by
 unfold lz
 conv=>rhs;rw [<- List.take_append_drop (mN (rG 48) l) l]
 rw [zA,aCs (aFa (rG 48) l)]
theorem aAn {l m:List UInt8}(h:m.all oH=true)(hs:∀ c ∈ l,c ∈ m):l.all oH=true:=by
 rw [List.all_eq_true] at h ⊢;exact fun c hc=>h c (hs c hc)
def inW (v:Nat):List UInt8:=dB ((cH v).1.take ((cH v).1.length - (cH v).2))
def inF (v:Nat):List UInt8:=dB ((cH v).1.drop ((cH v).1.length - (cH v).2))
theorem uO (v:Nat):(inF v).length=(cH v).2:=by
 have:=(kY v).2;unfold inF;rw [iR,List.length_drop];omega
theorem aQM (v:Nat):(inW v).all oH=true:=aNB fun d hd=>(kY v).1 d (List.mem_of_mem_take hd)
theorem aQL (v:Nat):(inF v).all oH=true:=aNB fun d hd=>(kY v).1 d (List.mem_of_mem_drop hd)
theorem aTE (v:Nat):vE 0 (inW v ++ inF v)=fJ (cH v).1:=by
 have:inW v ++ inF v=dB (cH v).1:=by
  unfold inW inF dB;rw [<- List.map_append,List.take_append_drop]
 rw [this,aSK (kY v).1]
theorem aMJ (v:Nat):vE 0 (cU v)=vE 0 (inW v):=by
 unfold cU;show vE 0 (if lz (inW v)=[] then [48] else lz (inW v))=_
 split
 ·rename_i h
  rw [<- aKG (inW v),h];rfl
 ·exact aKG _
theorem fQ (v:Nat):Dec (bT v) (uC v) (cU v) (iA v) (cD v):=by
 refine ⟨rfl,?_,?_,?_,?_,?_⟩
 ·unfold uC;split
  ·exact .inr rfl
  ·exact .inl rfl
 ·unfold cU;split
  ·simp
  ·assumption
 ·unfold cU;split
  ·decide
  ·exact aAn (aQM v) fun c hc=>aIF hc
 ·obtain ⟨n,_,h,_⟩:=aAw (inF v);show (rz (inF v)).all oH=true;rw [h];exact aAn (aQL v) fun c hc=>List.mem_of_mem_take hc
 ·unfold iA;split
  ·exact .inl ⟨rfl,by assumption⟩
  ·exact .inr rfl
theorem aJS (v:Nat):(cD v).length <= (cH v).2:=by rw [<- uO];exact aDM _
theorem xW (v:Nat):vE 0 (cU v ++ cD v) * 10 ^ ((cH v).2 - (cD v).length)=fJ (cH v).1:=by
 obtain ⟨n,hn,h,hz,_⟩:=aAw (inF v);have hF:cD v=(inF v).take n:=h
 have hl:(cD v).length=n:=by rw [hF,bh];omega
 rw [<- aTE,zA,aMJ,sI _ (cD v),zA,sI _ (inF v)]
 have e:inF v=cD v ++ (inF v).drop n:=by rw [hF,List.take_append_drop]
 have hv:vE 0 (inF v)=vE 0 (cD v) * 10 ^ ((inF v).length - n):=by
  conv=>lhs;rw [e]
  rw [zA,sI,aCs hz,Nat.add_zero,List.length_drop]
 rw [hv,uO,hl,Nat.add_mul,Nat.mul_assoc,<- Nat.pow_add];rw [uO] at hn;rw [show n+((cH v).2 - n)=(cH v).2 by omega]
theorem aEy (v:Nat):1 <= jI v:=by unfold jI;split <;> omega
theorem pw2 {a b c:Nat}(h:a+b=c):(2:Nat) ^ a * 2 ^ b=2 ^ c:=by rw [<- Nat.pow_add,h]
theorem aNb {v:Nat}(h0:0 < cX v):cX v * 2 ^ (jI v - 1) * 10 ^ (cH v).2=fJ (cH v).1 * A74:=by
 have h1:=aEy v;rw [aAA];unfold cH
 split
 ·show cX v * 2 ^ (jI v - 1) * 10 ^ 0=fJ (itD (dl (cX v)) (jI v - 1075)) * 2 ^ 1074;rw [aEJ,tM,Nat.pow_zero,Nat.mul_one,Nat.mul_assoc,pw2 (by omega:jI v - 1075+1074=jI v - 1)]
 ·have h:=aEK (dl (cX v)) (1075 - jI v);rw [tM] at h;generalize tY (dl (cX v)) (1075 - jI v)=q at *;rw [<- pw2 (by omega:(1075 - jI v)+(jI v - 1)=1074),<- Nat.mul_assoc,h,Nat.mul_assoc,Nat.mul_assoc,Nat.mul_comm (10 ^ _)]
theorem aDl {v:Nat}(h0:0 < cX v):cX v * 2 ^ (jI v - 1) * 10 ^ (cD v).length=vE 0 (cU v ++ cD v) * A74:=by
 have h:=aNb h0;rw [<- xW v] at h;have hle:=aJS v;rw [show (cH v).2=(cD v).length+((cH v).2 - (cD v).length) by omega,Nat.pow_add,<- Nat.mul_assoc] at h;rw [show (cD v).length+((cH v).2 - (cD v).length) - (cD v).length=(cH v).2 - (cD v).length by omega,Nat.mul_right_comm (vE 0 _)] at h;exact Nat.eq_of_mul_eq_mul_right (Nat.pow_pos dc) h
theorem aBh {v:Nat}(h0:cX v=0):vE 0 (cU v ++ cD v)=0:=by
 have h:=xW v
 have he:jI v=1:=by
  unfold cX at h0;unfold jI
  split at h0
  ·rename_i h;rw [if_pos h]
  ·omega
 have hv:fJ (cH v).1=0:=by
  unfold cH;rw [he,if_neg dc,if_neg om,h0];exact tM 0
 rw [hv] at h
 rcases Nat.mul_eq_zero.1 h with h|h
 ·exact h
 ·exact absurd h (Nat.pos_iff_ne_zero.1 (Nat.pow_pos dc))
theorem aJR {v:Nat}(hv:v < 2 ^ 64)(he:dO v <= 2046):(0 < cX v->Rep (cX v) (jI v - 1))∧jI v - 1 <= 2045∧cX v+(jI v - 1) * 2 ^ 52=v % 2 ^ 63∧sgN (decide (uC v=[45]))+v % 2 ^ 63=v:=by
 have hf:jW v < 2 ^ 52:=Nat.mod_lt _ dc;have hfr:jW v=v % 2 ^ 52:=rfl;have hex:dO v=v / 2 ^ 52 % 2048:=rfl;refine ⟨fun h0=>⟨h0,?_,?_⟩,?_,?_,?_⟩
 ·unfold cX;split <;> omega
 ·unfold cX jI;by_cases h:dO v=0
  ·right;rw [if_pos h]
  ·left;rw [if_neg h];omega
 ·unfold jI;split <;> omega
 ·unfold cX jI;by_cases h:dO v=0
  ·rw [if_pos h,if_pos h];omega
  ·rw [if_neg h,if_neg h];omega
 ·unfold uC sgN;by_cases h:2 ^ 63 <= v
  ·rw [if_pos h];simp only [decide_true,if_true];omega
  ·rw [if_neg h];simp only [List.nil_eq,decide_false,reduceCtorEq,if_false];have:v % 2 ^ 63=v:=Nat.mod_eq_of_lt om;simp [this]
theorem aVZ {u:Nat}(hu:u < 2 ^ 64):(dl u).length <= 20:=by
 by_cases h:u=0
 ·subst h;unfold dl;rw [Lib.decDigits];simp
 ·rw [sP];exact lO om om
theorem aFA {v:Nat}(he:dO v <= 2046):(cH v).1.length <= 1094∧(cH v).2 <= 1074:=by
 have hs:cX v < 2 ^ 64:=by
  have hf:jW v < 2 ^ 52:=Nat.mod_lt _ dc;unfold cX;split <;> omega
 have hx:jI v <= 2046:=by unfold jI;split <;> omega
 have h1:=aEy v;have hn:=aVZ hs;unfold cH
 split
 ·have:=lL (dl (cX v)) (jI v - 1075);exact ⟨by show (itD _ _).length <= _;omega,ai _⟩
 ·split
  ·have:=nU (dl (cX v)) (1075 - jI v);exact ⟨om,om⟩
  ·exact ⟨by show (dl _).length <= _;omega,ai _⟩
theorem mU {v:Nat}(he:dO v <= 2046):(bT v).length <= 1100:=by
 obtain ⟨h1,h2⟩:=aFA he;have h3:=(kY v).2
 have hw:(cU v).length <= (cH v).1.length - (cH v).2+1:=by
  unfold cU
  split
  ·simp
  ·have:=yF (inW v)
   have e:(inW v).length <= (cH v).1.length - (cH v).2:=by unfold inW;rw [iR,bh];omega
   show (lz (inW v)).length <= _;omega
 have hf:=aJS v
 have hsg:(uC v).length <= 1:=by unfold uC;split <;> simp
 have ht:(iA v).length <= (cD v).length+1:=by unfold iA;split <;> simp
 unfold bT;rw [aq,aq];omega
theorem aXq {s n:Nat}(hs:s < 2 ^ 53)(hn:n <= 1074):s * 5 ^ n < 10 ^ 768:=by
 have h1:s * 5 ^ n <= 2 ^ 53 * 5 ^ 1074:=by
  obtain ⟨K,hK⟩:∃ K,K=1074:=⟨_,rfl⟩
  rw [<- hK] at hn ⊢;exact Nat.mul_le_mul (by omega) (Nat.pow_le_pow_right (by decide) hn)
 have h2:Nat.blt (2 ^ 53 * 5 ^ 1074) (10 ^ 768)=true:=by kernel_rfl
 have h3:2 ^ 53 * 5 ^ 1074 < 10 ^ 768:=mK h2;omega
theorem aVM {s n:Nat}(hs:s < 2 ^ 53)(hn:n <= 971):s * 2 ^ n < 10 ^ 768:=by
 have h1:s * 2 ^ n <= 2 ^ 53 * 2 ^ 971:=by
  obtain ⟨K,hK⟩:∃ K,K=971:=⟨_,rfl⟩
  rw [<- hK] at hn ⊢;exact Nat.mul_le_mul (by omega) (Nat.pow_le_pow_right (by decide) hn)
 have h2:Nat.blt (2 ^ 53 * 2 ^ 971) (10 ^ 768)=true:=by kernel_rfl
 have h3:2 ^ 53 * 2 ^ 971 < 10 ^ 768:=mK h2;omega
theorem aLn {v:Nat}(he:dO v <= 2046):vE 0 (cU v ++ cD v) < 10 ^ 768:=by
 have hs:cX v < 2 ^ 53:=by
  have hf:jW v < 2 ^ 52:=Nat.mod_lt _ (by decide);unfold cX;split <;> omega
 have hx:jI v <= 2046:=by unfold jI;split <;> omega
 have h1:=aEy v
 have hle:vE 0 (cU v ++ cD v) <= fJ (cH v).1:=by
  rw [<- xW v];exact Nat.le_mul_of_pos_right _ (Nat.pow_pos (by decide))
 refine Nat.lt_of_le_of_lt hle ?_;unfold cH
 split
 ·show fJ (itD (dl (cX v)) (jI v - 1075)) < _;rw [aEJ,tM];exact aVM hs (by omega)
 ·split
  ·have h:=aEK (dl (cX v)) (1075 - jI v);have hl:=(nU (dl (cX v)) (1075 - jI v)).2;rw [tM] at h;generalize tY (dl (cX v)) (1075 - jI v)=q at *
   have h2:fJ q.1 * 2 ^ (1075 - jI v) <= cX v * 5 ^ (1075 - jI v) * 2 ^ (1075 - jI v):=by
    rw [h,Nat.mul_assoc,<- Nat.mul_pow];exact Nat.mul_le_mul_left _ (Nat.pow_le_pow_right (by decide) hl)
   exact Nat.lt_of_le_of_lt (Nat.le_of_mul_le_mul_right h2 (Nat.two_pow_pos _)) (aXq hs (by omega))
  ·show fJ (dl (cX v)) < _;rw [tM];have:=aVM hs (n:=0) (by decide);rw [Nat.pow_zero,Nat.mul_one] at this;exact this
theorem aTO {l:List UInt8}{n:Nat}(h:l.all oH=true)(hv:vE 0 l < 10 ^ n):(lz l).length <= n:=by
 apply Nat.le_of_not_lt;intro hc;rw [<- aKG] at hv;have hd:(lz l).all oH=true:=aAn h fun c hc=>aIF hc;have hz:∀ c,(lz l).head?=some c->c ≠ 48:=fun c hc=>aSx hc
 cases hl:lz l with
 | nil=>rw [hl] at hc;simp at hc
 | cons c r =>
   rw [hl] at hv hd hz hc;have h48:=hz c rfl;rw [List.all_cons,Bool.and_eq_true] at hd;have hcd:=dP.1 hd.1;have hne:c.toNat ≠ 48:=fun e=>h48 (UInt8.toNat_inj.1 (by rw [e];rfl));have e:vE 0 (c :: r)=vE (0 * 10+(c.toNat - 48)) r:=rfl;rw [e,sI] at hv;have h1:10 ^ n <= 10 ^ r.length:=Nat.pow_le_pow_right dc (by rw [au] at hc;omega);have h2:1 * 10 ^ r.length <= (0 * 10+(c.toNat - 48)) * 10 ^ r.length:=bi _ om;omega
def sE (v:Nat):List UInt8:=lz (cU v ++ cD v)
theorem aPG (v:Nat):(cU v ++ cD v).all oH=true:=by
 rw [List.all_append,(fQ v).d,(fQ v).f];rfl
theorem aCd {v:Nat}(he:dO v <= 2046):(sE v).length <= 768:=aTO (aPG v) (aLn he)
theorem aMI {v:Nat}(he:dO v <= 2046):cU v=[48] ∨ (cU v).length+(cD v).length <= 768:=by
 by_cases h:cU v=[48]
 ·exact .inl h
 ·right
  have hs:=aCd he
  have hw:cU v=lz (inW v):=by
   unfold cU at h ⊢
   split
   ·rename_i h1;rw [if_pos h1] at h;exact absurd rfl h
   ·rfl
  cases hl:cU v with
  | nil=>exact absurd hl (fQ v).d0
  | cons c r =>
    have h48:c ≠ 48:=aSx (l:=inW v) (by rw [<- hw,hl];rfl)
    have e:sE v=cU v ++ cD v:=by
     unfold sE lz;rw [hl,List.cons_append]
     have hb:rG 48 c=false:=by unfold rG;exact decide_eq_false h48
     simp [mN,List.takeWhile,hb]
    rw [e,aq,hl] at hs;exact hs
theorem aBD {v:Nat}(he:dO v <= 2046)(h:780 < (bT v).length):cU v=[48]∧iA v=46 :: cD v∧776 < (cD v).length:=by
 have hsg:(uC v).length <= 1:=by unfold uC;split <;> simp
 have hl:(bT v).length=(uC v).length+((cU v).length+(iA v).length):=by simp [bT]
 rcases aMI he with hw|hw
 ·rw [hw] at hl;unfold iA at hl ⊢
  split at hl
  ·simp at hl;omega
  ·rename_i hf
   rw [if_neg hf];simp only [au,List.length_nil] at hl;exact ⟨hw,rfl,om⟩
 ·exfalso
  have ht:(iA v).length <= (cD v).length+1:=by unfold iA;split <;> simp
  omega
def aCc (v:Nat):List UInt8:=if (bT v).length <= 780 then bT v else uC v ++ ([48] ++ 46 :: sE v) ++ 101 :: 45 :: Lib.decDigits ((cD v).length - (sE v).length)
end Go.Am
namespace Go.Am
open Go.Proofs
attribute [local irreducible] fN fI fB cR eQ evCode evOps rD kOp aAj wF wH wG kGc aLE aLD kDr kMg drOps fU kK sl
theorem aRE {v:Nat}(hf:cD v ≠ []):sE v ≠ []:=by
 intro h
 have hz:(cU v ++ cD v).all (rG 48)=true:=by
  have h1:(cU v ++ cD v).length <= mN (rG 48) (cU v ++ cD v):=by
   have:=congrArg List.length h;unfold sE lz at this;rw [List.length_drop,List.length_nil] at this;omega
  have h2:=aFa (rG 48) (cU v ++ cD v);rw [bd h1] at h2;exact h2
 rw [List.all_append,Bool.and_eq_true] at hz;obtain ⟨n,hn,h1,_,h3⟩:=aAw (inF v);have hF:cD v=(inF v).take n:=h1;have hl:0 < (cD v).length:=List.length_pos_iff.2 hf;rw [hF,bh] at hl;have h4:=h3 om om
 have h5:=List.all_eq_true.1 hz.2 ((inF v)[n - 1]'(by omega)) (by
  rw [hF]
  exact List.mem_take_iff_getElem.2 ⟨n - 1,om,rfl⟩)
 rw [h4] at h5;cases h5
theorem aCV {s:List UInt8}(h:∀ c ∈ s,oH c=true ∨ c=46):aEi aEz s=.int .i64 (.negSucc 0):=by
 have hp:∀ c ∈ s,(!aEz c.toNat)=true:=fun c hc=>by
  rcases h c hc with h|h
  ·have:=dP.1 h;unfold aEz;simp only [aEp];have h1:c.toNat ≠ 101:=om;have h2:c.toNat ≠ 69:=om;simp [h1,h2]
  ·subst h;decide
 have:mN (fun c=>!aEz c.toNat) s=s.length:=by
  have hle:=aJn (fun c:UInt8=>!aEz c.toNat) s;by_cases hlt:mN (fun c:UInt8=>!aEz c.toNat) s < s.length
  ·have h1:=aFb (fun c:UInt8=>!aEz c.toNat) s hlt;have h2:=hp _ (az hlt);rw [h1] at h2;cases h2
  ·omega
 unfold aEi;rw [this,if_neg (Nat.lt_irrefl _)]
theorem aQC:bB Tryz.prog 172 84 [.tmp 2] (aL Tryz.f172):=fq Tryz.f172
theorem aMv {v:Nat}(he:dO v <= 2046){S:St}(h10:jB S){k:V->St->Prop}(hk:k (.str (aCc v)) S):RC Tryz.prog 172 [.str (bT v)] S k:=by
 obtain ⟨e,hgb⟩:=pM h10;refine RC.pureG mixed aQC _ hgb hk ?_;have hel:=mU he;refine build ?_;refine enter ?_;unfold aCc;by_cases hlen:(bT v).length <= 780
 ·rw [if_pos hlen];refine go ?_;refine bE (fun (h:780 < _)=>absurd h (by rw [aM];omega)) (fun _=>?_);refine go ?_;rfl
 ·rw [if_neg hlen];obtain ⟨hw,ht,hfl⟩:=aBD he om;have hsig:=aCd he;have hne:=aRE (v:=v) (by intro h;rw [h] at hfl;simp at hfl);have hFd:=(fQ v).f
  have hF2:(cD v).length <= 1100:=by
   have:(bT v).length=(uC v).length+((cU v).length+(iA v).length):=by simp [bT]
   rw [ht] at this;simp only [au] at this;omega
  have hsg:=(fQ v).sg'
  have hS:sE v=(([48] ++ cD v).drop (mN (rG 48) ([48] ++ cD v))):=by unfold sE lz;rw [hw]
  unfold bT at hlen ⊢;rw [hw,ht] at hlen ⊢;generalize uC v=sg at *;generalize sE v=D at *;generalize cD v=F at *
  have hc:∀ c ∈ ([48] ++ 46 :: F:List UInt8),oH c=true ∨ c=46:=fun c hc=>by
   rcases List.mem_append.1 hc with h|h
   ·exact .inl (by rw [ay] at h;subst h;decide)
   ·rcases av.1 h with h|h
    ·exact .inr h
    ·exact .inl (List.all_eq_true.1 hFd c h)
  rcases hsg with rfl|rfl
  ·rw [List.nil_append] at hlen;rw [List.nil_append];refine go ?_;refine bE (fun (h:780 < _)=>?_) (fun (h:_ <= 780)=>absurd h (by rw [aM];exact hlen));refine go ?_
   refine aFE (by simp;omega) (fun c hc'=>by
    rcases hc c hc' with h|h
    ·have:=dP.1 h;omega
    ·subst h;decide) ?_
   rw [aCV hc];refine go ?_;refine aEs (c:=46) (by simp;omega) (.inl ⟨[48],F,rfl,dc,rfl⟩) ?_;refine go ?_;refine gM (by simp;omega) ?_;refine go ?_;refine pF (c:=48) dc ?_;rw [<- hS];refine go ?_;refine eU (fun h=>absurd h hne) (fun _=>?_);refine go ?_;refine bI D.length ?_ (by show ((dH D:Nat):Int)+0=(D.length:Int);rw [aM];omega) om;refine go ?_;obtain ⟨w,hwy⟩:∃ w,w=F.length - D.length:=⟨_,rfl⟩
   obtain ⟨y,hy⟩:∃ y:Int,y=-(w:Int):=⟨_,rfl⟩
   rw [<- hwy];refine gR y (by show (D.length:Int) - ((dH F:Nat):Int)=y;rw [aM];omega) ?_ om om;refine go ?_;refine bE (fun (h:780 < _)=>absurd h (by rw [aM];omega)) (fun _=>?_);refine go ?_;refine gM (x:=[48,46]) (by simp;omega) ?_;refine go ?_;refine gM (y:=[101]) (by simp;omega) ?_;refine go ?_;refine aBw (u:=w) om om hy ⟨e,rfl⟩ ?_;refine go ?_
   have hdw:(Lib.decDigits w).length <= 20:=by rw [Lib.decDigits_length];exact lO om om
   refine gM (by simp;omega) ?_;refine go ?_;show V.str _=V.str _;simp
  ·refine go ?_;refine bE (fun (h:780 < _)=>?_) (fun (h:_ <= 780)=>absurd h (by rw [aM];exact hlen));refine go ?_;refine jO ?_;refine aV (v:=.str ([45] ++ ([48] ++ 46 :: F))) rfl (by intro Q hQ;(conv=>whnf);exact hQ) ?_;refine aV (v:=.str [45]) rfl (by intro Q hQ;(conv=>whnf);refine mG (s:=[45] ++ ([48] ++ 46 :: F)) (h:=1) sm ?_;exact hQ) ?_;refine aV (v:=.str ([45] ++ ([48] ++ 46 :: F))) rfl (by intro Q hQ;(conv=>whnf);exact hQ) ?_;refine aV (v:=.str ([48] ++ 46 :: F)) rfl (by intro Q hQ;(conv=>whnf);refine cT (s:=[45] ++ ([48] ++ 46 :: F)) (l:=1) sm ?_;exact hQ) ?_;refine vX ?_;refine go ?_
   refine aFE (by simp;omega) (fun c hc'=>by
    rcases hc c hc' with h|h
    ·have:=dP.1 h;omega
    ·subst h;decide) ?_
   rw [aCV hc];refine go ?_;refine aEs (c:=46) (by simp;omega) (.inl ⟨[48],F,rfl,dc,rfl⟩) ?_;refine go ?_;refine gM (by simp;omega) ?_;refine go ?_;refine pF (c:=48) dc ?_;rw [<- hS];refine go ?_;refine eU (fun h=>absurd h hne) (fun _=>?_);refine go ?_;refine bI D.length ?_ (by show ((dH D:Nat):Int)+0=(D.length:Int);rw [aM];omega) om;refine go ?_;obtain ⟨w,hwy⟩:∃ w,w=F.length - D.length:=⟨_,rfl⟩
   obtain ⟨y,hy⟩:∃ y:Int,y=-(w:Int):=⟨_,rfl⟩
   rw [<- hwy];refine gR y (by show (D.length:Int) - ((dH F:Nat):Int)=y;rw [aM];omega) ?_ om om;refine go ?_;refine bE (fun (h:780 < _)=>absurd h (by rw [aM];omega)) (fun _=>?_);refine go ?_;refine gM (x:=[45,48,46]) (by simp;omega) ?_;refine go ?_;refine gM (y:=[101]) (by simp;omega) ?_;refine go ?_;refine aBw (u:=w) om om hy ⟨e,rfl⟩ ?_;refine go ?_
   have hdw:(Lib.decDigits w).length <= 20:=by rw [Lib.decDigits_length];exact lO om om
   refine gM (by simp;omega) ?_;refine go ?_;show V.str _=V.str _;simp
end Go.Am
namespace Go.Am
open Fp Go.Proofs
attribute [local irreducible] fN fI fB cR eQ evCode evOps rD kOp aAj wF wH wG kGc aLE aLD kDr kMg drOps fU kK sl
theorem aEv {k:Nat}:∀ {u:Nat},u < 10 ^ (k+1)->(Lib.decDigits u).length <= k+1:=by
 induction k with
 | zero =>
   intro u hu;rw [Lib.decDigits];rw [dif_pos (by simpa using hu)];simp
 | succ k ih =>
   intro u hu;rw [Lib.decDigits]
   split
   ·simp
   ·rw [aq];have:=ih (u:=u / 10) (by rw [Nat.pow_succ] at hu;omega);simp only [List.length_singleton];omega
theorem aCt (u:Nat):vE 0 (Lib.decDigits u)=u:=by
 induction u using Nat.strongRecOn with
 | _ u ih =>
   rw [Lib.decDigits]
   split
   ·rename_i h
    show 0 * 10+((UInt8.ofNat _).toNat - 48)=u;rw [UInt8.toNat_ofNat'];omega
   ·rename_i h
    rw [zA,ih (u / 10) om];show u / 10 * 10+((UInt8.ofNat _).toNat - 48)=u;rw [UInt8.toNat_ofNat'];omega
theorem vO (u:Nat):(Lib.decDigits u).all oH=true:=by
 rw [List.all_eq_true];intro b hb;exact dP.2 (aEu u b hb)
theorem aMw {v:Nat}(hv:v < 2 ^ 64)(he:dO v <= 2046):Txt (aCc v) (decide (uC v=[45])) (v % 2 ^ 63):=by
 obtain ⟨hR,hr,hw,_⟩:=aJR hv he;have hel:=mU he;unfold aCc;by_cases hlen:(bT v).length <= 780
 ·rw [if_pos hlen];have hs:bT v=uC v ++ (cU v ++ iA v) ++ []:=(bf _).symm;have hD:Dec (uC v ++ (cU v ++ iA v)) (uC v) (cU v) (iA v) (cD v):=fQ v;by_cases h0:cX v=0
  ·have hz:v % 2 ^ 63=0:=by
    have he:jI v=1:=by
     unfold cX at h0;unfold jI
     split at h0
     ·rename_i h;rw [if_pos h]
     ·omega
    rw [<- hw,h0,he]
   rw [hz];exact aHk hs hD (.inl ⟨rfl,rfl⟩) rfl dc om (aBh h0)
  ·rw [<- hw];exact aPB hs hD (.inl ⟨rfl,rfl⟩) rfl dc om (hR om) hr (aDl om)
 ·rw [if_neg hlen];obtain ⟨hwh,ht,hfl⟩:=aBD he om;have hsig:=aCd he
  have hF2:(cD v).length <= 1100:=by
   have:(bT v).length=(uC v).length+((cU v).length+(iA v).length):=by simp [bT]
   rw [ht] at this;simp only [au] at this;omega
  have hsg1:(uC v).length <= 1:=by unfold uC;split <;> simp
  obtain ⟨w,hwy⟩:∃ w,w=(cD v).length - (sE v).length:=⟨_,rfl⟩
  rw [<- hwy];have hE4:(Lib.decDigits w).length <= 4:=aEv (k:=3) om
  have hE0:Lib.decDigits w ≠ []:=by
   rw [Lib.decDigits]
   split <;> simp
  have hD:Dec (uC v ++ ([48] ++ 46 :: sE v)) (uC v) [48] (46 :: sE v) (sE v) :=
   ⟨rfl,(fQ v).sg',sm,dc,aAn (aPG v) fun c hc=>aIF hc,.inr rfl⟩
  have hval:vE 0 ([48] ++ sE v)=vE 0 (cU v ++ cD v):=aKG _;have hEv:oG (Lib.decDigits w)=w:=aCt w
  have hlen2:(uC v ++ ([48] ++ 46 :: sE v) ++ 101 :: 45 :: Lib.decDigits w).length <= 2000:=by simp;omega
  by_cases h0:cX v=0
  ·have hz:v % 2 ^ 63=0:=by
    have he:jI v=1:=by
     unfold cX at h0;unfold jI
     split at h0
     ·rename_i h;rw [if_pos h]
     ·omega
    rw [<- hw,h0,he]
   rw [hz];exact aHk rfl hD (.inr ⟨rfl,hE0⟩) (vO w) hE4 hlen2 (by rw [hval];exact aBh h0)
  ·rw [<- hw];refine aPB rfl hD (.inr ⟨rfl,hE0⟩) (vO w) hE4 hlen2 (hR om) hr ?_;rw [hEv,show (sE v).length+w=(cD v).length by omega,hval];exact aDl om
end Go.Am
namespace Go.Am
open Go.Proofs
attribute [local irreducible] fN fI fB cR eQ evCode evOps rD kOp aAj wF wH wG kGc aLE aLD kDr kMg drOps fU kK sl
theorem aQz:bB Tryz.prog 125 28 [.tmp 2,.tmp 3] (aL Tryz.f125):=fq Tryz.f125
theorem aBg (v:Nat):∃ c r,oH c=true∧(bT v=c :: r ∨ bT v=45 :: c :: r):=by
 obtain ⟨c,r,h1,h2,_⟩:=(fQ v).head;refine ⟨c,r ++ iA v,h2,?_⟩;unfold bT;rw [h1]
 rcases (fQ v).sg' with h|h
 ·rw [h];exact .inl rfl
 ·rw [h];exact .inr rfl
theorem aGF {v:Nat}(hv:v < 2 ^ 64)(he:dO v <= 2046){S:St}(h10:jB S)(hT:FT S){k:V->St->Prop}(hk:k (.tup [.int .u64 (.ofNat v),.int .i64 0]) S):RC Tryz.prog 125 [.str (bT v)] S k:=by
 have hel:=mU he;have hx:=aMw hv he;obtain ⟨_,_,_,hsum⟩:=aJR hv he;obtain ⟨c,r,hc,hcr⟩:=aBg v;have hcd:=dP.1 hc
 have hne:∀ d:UInt8,d.toNat ≠ c.toNat->∀ l:List UInt8,bT v ≠ d :: l ∨ d=45:=fun d hd l=>by
  by_cases h45:d=45
  ·exact .inr h45
  ·left
   rcases hcr with h|h
   ·rw [h];intro e;cases e;exact hd rfl
   ·rw [h];intro e;cases e;exact h45 rfl
 have n1:bT v ≠ [73,110,102]:=(hne 73 (by show 73 ≠ _;omega) _).resolve_right dc;have n2:bT v ≠ [43,73,110,102]:=(hne 43 (by show 43 ≠ _;omega) _).resolve_right dc;have n4:bT v ≠ [78,97,78]:=(hne 78 (by show 78 ≠ _;omega) _).resolve_right dc
 have n3:bT v ≠ [45,73,110,102]:=by
  rcases hcr with h|h
  ·rw [h];intro e;cases e;exact absurd hcd.1 dc
  ·rw [h];intro e;cases e;exact absurd hcd.2 dc
 have hdec:=fQ v;refine RC.run mixed aS (aG aQz ?_);refine enter ?_;have hshort:=fun (k:V->St->Prop)=>aMv (k:=k) (S:=S) he h10;generalize aCc v=sh at *;generalize hTx:bT v=T at *;generalize uC v=sg at *;refine go ?_;refine bE (fun (h:1200 < _)=>absurd h (by rw [aM];omega)) (fun _=>?_);refine go ?_;refine eU (fun h=>absurd h n1) (fun _=>?_);refine go ?_;refine eU (fun h=>absurd h n2) (fun _=>?_);refine go ?_;refine eU (fun h=>absurd h n3) (fun _=>?_);refine go ?_;refine eU (fun h=>absurd h n4) (fun _=>?_);refine go ?_;refine aMq hdec om ?_;refine go ?_;refine hshort _ ?_;refine go ?_;refine aRF hx hT ?_;rw [hsum];refine go ?_;refine aLq ?_;refine go ?_;exact hk
end Go.Am
