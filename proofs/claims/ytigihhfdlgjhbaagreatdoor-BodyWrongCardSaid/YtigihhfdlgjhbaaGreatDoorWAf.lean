/- Part 6 of the proof that BodyWrong returns true, and leaves its arguments as they were, for every input, over a start where the listed variables hold what the program lays: the statement Rows.BodyWrongCardSaid. -/
import Derived.Test.YtigihhfdlgjhbaaGreatDoorWAe
import Derived.Ground.Names2Prog
import Derived.Ground.SlgnProg
import Derived.Shelf.Strconv.AtoiAll
import Derived.Shelf.LaysC
import Derived.Test.YtigihhfdlgjhbaaGreatDoorChecked
import Derived.Test.YtigihhfdlgjhbaaGreatDoorWAd
import Derived.Test.YtigihhfdlgjhbaaGreatDoorWAc
import Derived.Shelf.SlSortCmp.InsertionK
import Derived.Shelf.SlSortCmp.WholeK
import Derived.Shelf.SlSortCmp.NoneTotal
import Derived.Ground.SlsfProg
set_option linter.unusedVariables false
set_option linter.unusedSimpArgs false
set_option maxRecDepth 100000
set_option maxHeartbeats 400000000
namespace Go.Am
open Go.Proofs
attribute [local irreducible] fN fI fB cR eQ evCode evOps rD kOp aAj wF wH wG kGc aLE aLD kDr kMg drOps fU kK sl
theorem aIn {S:St}{k:V->St->Prop}(hk:k (.str [43,73,110,102]) S):RC Tryz.prog 66 [.int .u64 (.ofNat 9218868437227405312)] S k:=RC.kern 60 kr hk
theorem aIm {S:St}{k:V->St->Prop}(hk:k (.str [45,73,110,102]) S):RC Tryz.prog 66 [.int .u64 (.ofNat 18442240474082181120)] S k:=RC.kern 60 kr hk
theorem aIR {S:St}{k:V->St->Prop}(hk:k (.tup [.int .u64 (.ofNat 9218868437227405312),.int .i64 0]) S):RC Tryz.prog 125 [.str [43,73,110,102]] S k:=RC.kern 60 kr hk
theorem aIQ {S:St}{k:V->St->Prop}(hk:k (.tup [.int .u64 (.ofNat 18442240474082181120),.int .i64 0]) S):RC Tryz.prog 125 [.str [45,73,110,102]] S k:=RC.kern 60 kr hk
def kI (v:Nat):List UInt8:=if dO v <= 2046 then bT v else if 2 ^ 63 <= v then [45,73,110,102] else [43,73,110,102]
theorem aOl {v:Nat}(hv:v < 2 ^ 64)(hk4:iW v ≠ 4)(he:¬ dO v <= 2046):(2 ^ 63 <= v->v=18442240474082181120)∧(¬ 2 ^ 63 <= v->v=9218868437227405312):=by
 have hex:dO v=v / 2 ^ 52 % 2048:=rfl;have hfr:jW v=v % 2 ^ 52:=rfl;have h47:dO v=2047:=om
 have hf0:jW v=0:=by
  unfold iW at hk4;rw [if_pos h47] at hk4;by_cases h:jW v=0
  ·exact h
  ·rw [if_neg h] at hk4;exact absurd rfl hk4
 constructor <;> intro h <;> omega
theorem aLX {v:Nat}(hv:v < 2 ^ 64)(hk4:iW v ≠ 4){S:St}(h10:jB S)(hT:FT S){k:V->St->Prop}(hk:k (.tup [.int .u64 (.ofNat v),.int .i64 0]) S):RC Tryz.prog 125 [.str (kI v)] S k:=by
 unfold kI;by_cases he:dO v <= 2046
 ·rw [if_pos he];exact aGF hv he h10 hT hk
 ·rw [if_neg he];obtain ⟨h1,h2⟩:=aOl hv hk4 he;by_cases h:2 ^ 63 <= v
  ·rw [if_pos h];rw [h1 h] at hk;exact aIQ hk
  ·rw [if_neg h];rw [h2 h] at hk;exact aIR hk
theorem aLW {v:Nat}(hv:v < 2 ^ 64)(hk4:iW v ≠ 4){S:St}(h10:jB S){k:V->St->Prop}(hk:k (.str (kI v)) S):RC Tryz.prog 66 [.int .u64 (.ofNat v)] S k:=by
 unfold kI at hk;by_cases he:dO v <= 2046
 ·rw [if_pos he] at hk;refine aLo om ⟨fun h3=>?_,hk4⟩ h10 hk;unfold iW at h3;rw [if_neg om] at h3
  split at h3 <;> (try split at h3) <;> cases h3
 ·rw [if_neg he] at hk;obtain ⟨h1,h2⟩:=aOl hv hk4 he;by_cases h:2 ^ 63 <= v
  ·rw [if_pos h] at hk;rw [h1 h];exact aIm hk
  ·rw [if_neg h] at hk;rw [h2 h];exact aIn hk
theorem oV (v:Nat):(kI v).length <= 1100:=by
 unfold kI;by_cases he:dO v <= 2046
 ·rw [if_pos he];exact mU he
 ·rw [if_neg he];split <;> decide
theorem aIl {v:Nat}{c:UInt8}(h:c ∈ bT v):c=45 ∨ c=46 ∨ oH c=true:=by
 have hd:=fQ v;unfold bT at h
 rcases List.mem_append.1 h with h|h
 ·rcases hd.sg' with e|e
  ·rw [e] at h;cases h
  ·rw [e,ay] at h;exact .inl h
 ·rcases List.mem_append.1 h with h|h
  ·exact .inr (.inr (List.all_eq_true.1 hd.d c h))
  ·rcases hd.tl' with ⟨e,_⟩|e
   ·rw [e] at h;cases h
   ·rw [e] at h
    rcases av.1 h with h|h
    ·exact .inr (.inl h)
    ·exact .inr (.inr (List.all_eq_true.1 hd.f c h))
theorem wO {v:Nat}{c:UInt8}(h:c ∈ kI v):43 <= c.toNat∧c.toNat <= 110:=by
 unfold kI at h;by_cases he:dO v <= 2046
 ·rw [if_pos he] at h
  rcases aIl h with e|e|e
  ·subst e;decide
  ·subst e;decide
  ·have:=dP.1 e;omega
 ·rw [if_neg he] at h
  split at h
  ·simp only [av,List.not_mem_nil,or_false] at h
   rcases h with e|e|e|e <;> subst e <;> decide
  ·simp only [av,List.not_mem_nil,or_false] at h
   rcases h with e|e|e|e <;> subst e <;> decide
theorem aRe (v:Nat):kI v ≠ []:=by
 unfold kI
 split
 ·obtain ⟨c,r,_,h|h⟩:=aBg v
  ·rw [h];simp
  ·rw [h];simp
 ·split <;> simp
end Go.Am
namespace Go.Proofs
open Go.Shelf
def Tryz.laysC172_ren:Go.Shelf.Ren:=⟨fun|172=>174|244=>220|245=>218|247=>250|279=>246|280=>247|281=>248|282=>249|287=>274|316=>272|171=>67|205=>273|321=>302|322=>303|243=>99|246=>142|283=>182|284=>183|285=>184|286=>185|129=>111|317=>222|318=>223|319=>224|320=>225|337=>251|338=>252|n=>n,fun|9=>9|3=>3|75=>97|76=>98|4=>4|5=>5|167=>358|37=>36|0=>0|85=>362|2=>2|168=>359|53=>47|175=>383|46=>145|210=>381|127=>142|145=>436|143=>434|21=>21|171=>277|173=>279|212=>326|51=>194|20=>20|213=>327|232=>385|233=>386|80=>100|n=>n,fun|15=>6|16=>7|17=>4|18=>8|19=>9|n=>n⟩
theorem Tryz.laysC172:Go.Proofs.LaysC.n172 Tryz.prog Tryz.laysC172_ren:={
 mixed:=by kernel_rfl
 f129:=Tryz.func111.trans (congrArg some (by kernel_rfl))
 f171:=Tryz.func67.trans (congrArg some (by kernel_rfl))
 f172:=Tryz.func174.trans (congrArg some (by kernel_rfl))
 f205:=Tryz.func273.trans (congrArg some (by kernel_rfl))
 f243:=Tryz.func99.trans (congrArg some (by kernel_rfl))
 f244:=Tryz.func220.trans (congrArg some (by kernel_rfl))
 f245:=Tryz.func218.trans (congrArg some (by kernel_rfl))
 f246:=Tryz.func142.trans (congrArg some (by kernel_rfl))
 f247:=Tryz.func250.trans (congrArg some (by kernel_rfl))
 f279:=Tryz.func246.trans (congrArg some (by kernel_rfl))
 f280:=Tryz.func247.trans (congrArg some (by kernel_rfl))
 f281:=Tryz.func248.trans (congrArg some (by kernel_rfl))
 f282:=Tryz.func249.trans (congrArg some (by kernel_rfl))
 f283:=Tryz.func182.trans (congrArg some (by kernel_rfl))
 f284:=Tryz.func183.trans (congrArg some (by kernel_rfl))
 f285:=Tryz.func184.trans (congrArg some (by kernel_rfl))
 f286:=Tryz.func185.trans (congrArg some (by kernel_rfl))
 f287:=Tryz.func274.trans (congrArg some (by kernel_rfl))
 f316:=Tryz.func272.trans (congrArg some (by kernel_rfl))
 f317:=Tryz.func222.trans (congrArg some (by kernel_rfl))
 f318:=Tryz.func223.trans (congrArg some (by kernel_rfl))
 f319:=Tryz.func224.trans (congrArg some (by kernel_rfl))
 f320:=Tryz.func225.trans (congrArg some (by kernel_rfl))
 f321:=Tryz.func302.trans (congrArg some (by kernel_rfl))
 f322:=Tryz.func303.trans (congrArg some (by kernel_rfl))
 f337:=Tryz.func251.trans (congrArg some (by kernel_rfl))
 f338:=Tryz.func252.trans (congrArg some (by kernel_rfl))
 t0:=Tryz.underlying0
 a0:=Tryz.isAgg0
 z0:=Tryz.sizeOf0
 v0:=Tryz.zeroValue0
 t2:=Tryz.underlying2
 a2:=Tryz.isAgg2
 z2:=Tryz.sizeOf2
 v2:=Tryz.zeroValue2
 t3:=Tryz.underlying3
 a3:=Tryz.isAgg3
 z3:=Tryz.sizeOf3
 v3:=Tryz.zeroValue3
 t4:=Tryz.underlying4
 a4:=Tryz.isAgg4
 z4:=Tryz.sizeOf4
 v4:=Tryz.zeroValue4
 t5:=Tryz.underlying5
 a5:=Tryz.isAgg5
 z5:=Tryz.sizeOf5
 v5:=Tryz.zeroValue5
 t9:=Tryz.underlying9
 a9:=Tryz.isAgg9
 z9:=Tryz.sizeOf9
 v9:=Tryz.zeroValue9
 t20:=Tryz.underlying20
 a20:=Tryz.isAgg20
 z20:=Tryz.sizeOf20
 v20:=Tryz.zeroValue20
 t21:=Tryz.underlying21
 a21:=Tryz.isAgg21
 z21:=Tryz.sizeOf21
 v21:=Tryz.zeroValue21
 t37:=Tryz.underlying36
 a37:=Tryz.isAgg36
 z37:=Tryz.sizeOf36
 v37:=Tryz.zeroValue36
 t46:=Tryz.underlying145
 a46:=Tryz.isAgg145
 z46:=Tryz.sizeOf145
 v46:=Tryz.zeroValue145
 t51:=Tryz.underlying194
 a51:=Tryz.isAgg194
 z51:=Tryz.sizeOf194
 v51:=Tryz.zeroValue194
 t53:=Tryz.underlying47
 a53:=Tryz.isAgg47
 z53:=Tryz.sizeOf47
 v53:=Tryz.zeroValue47
 t75:=Tryz.underlying97
 a75:=Tryz.isAgg97
 z75:=Tryz.sizeOf97
 v75:=Tryz.zeroValue97
 t76:=Tryz.underlying98
 a76:=Tryz.isAgg98
 z76:=Tryz.sizeOf98
 v76:=Tryz.zeroValue98
 t85:=Tryz.underlying362
 a85:=Tryz.isAgg362
 z85:=Tryz.sizeOf362
 v85:=Tryz.zeroValue362
 t127:=Tryz.underlying142
 a127:=Tryz.isAgg142
 z127:=Tryz.sizeOf142
 v127:=Tryz.zeroValue142
 t143:=Tryz.underlying434
 a143:=Tryz.isAgg434
 z143:=Tryz.sizeOf434
 v143:=Tryz.zeroValue434
 t145:=Tryz.underlying436
 a145:=Tryz.isAgg436
 z145:=Tryz.sizeOf436
 v145:=Tryz.zeroValue436
 t167:=Tryz.underlying358
 a167:=Tryz.isAgg358
 z167:=Tryz.sizeOf358
 v167:=Tryz.zeroValue358
 t168:=Tryz.underlying359
 a168:=Tryz.isAgg359
 z168:=Tryz.sizeOf359
 v168:=Tryz.zeroValue359
 t171:=Tryz.underlying277
 a171:=Tryz.isAgg277
 z171:=Tryz.sizeOf277
 v171:=Tryz.zeroValue277
 t173:=Tryz.underlying279
 a173:=Tryz.isAgg279
 z173:=Tryz.sizeOf279
 v173:=Tryz.zeroValue279
 t175:=Tryz.underlying383
 a175:=Tryz.isAgg383
 z175:=Tryz.sizeOf383
 v175:=Tryz.zeroValue383
 t210:=Tryz.underlying381
 a210:=Tryz.isAgg381
 z210:=Tryz.sizeOf381
 v210:=Tryz.zeroValue381
 t212:=Tryz.underlying326
 a212:=Tryz.isAgg326
 z212:=Tryz.sizeOf326
 v212:=Tryz.zeroValue326
 t213:=Tryz.underlying327
 a213:=Tryz.isAgg327
 z213:=Tryz.sizeOf327
 t232:=Tryz.underlying385
 a232:=Tryz.isAgg385
 z232:=Tryz.sizeOf385
 v232:=Tryz.zeroValue385
 t233:=Tryz.underlying386
 a233:=Tryz.isAgg386
 z233:=Tryz.sizeOf386
 v233:=Tryz.zeroValue386
 g15:=by kernel_rfl
 g16:=by kernel_rfl
 g17:=by kernel_rfl
 g18:=by kernel_rfl
 g19:=by kernel_rfl
 t80:=Tryz.underlying100
 a80:=Tryz.isAgg100
 z80:=Tryz.sizeOf100
 v80:=Tryz.zeroValue100
 i0:=by kernel_rfl
 i2:=by kernel_rfl
 i3:=by kernel_rfl
 i4:=by kernel_rfl
 i5:=by kernel_rfl
 i9:=by kernel_rfl
 i20:=by kernel_rfl
 i21:=by kernel_rfl
 i37:=by kernel_rfl
 i46:=by kernel_rfl
 i51:=by kernel_rfl
 i53:=by kernel_rfl
 i75:=by kernel_rfl
 i76:=by kernel_rfl
 i80:=by kernel_rfl
 i85:=by kernel_rfl
 i127:=by kernel_rfl
 i143:=by kernel_rfl
 i145:=by kernel_rfl
 i167:=by kernel_rfl
 i168:=by kernel_rfl
 i171:=by kernel_rfl
 i173:=by kernel_rfl
 i175:=by kernel_rfl
 i210:=by kernel_rfl
 i212:=by kernel_rfl
 i232:=by kernel_rfl
 i233:=by kernel_rfl
 m15:=by kernel_rfl
 m16:=by kernel_rfl
 m17:=by kernel_rfl
 m18:=by kernel_rfl
 m19:=by kernel_rfl
 c0:=by kernel_rfl
 c2:=by kernel_rfl
 c3:=by kernel_rfl
 c4:=by kernel_rfl
 c5:=by kernel_rfl
 c9:=by kernel_rfl
 c20:=by kernel_rfl
 c21:=by kernel_rfl
 c37:=by kernel_rfl
 c46:=by kernel_rfl
 c51:=by kernel_rfl
 c53:=by kernel_rfl
 c75:=by kernel_rfl
 c76:=by kernel_rfl
 c80:=by kernel_rfl
 c85:=by kernel_rfl
 c127:=by kernel_rfl
 c143:=by kernel_rfl
 c145:=by kernel_rfl
 c167:=by kernel_rfl
 c168:=by kernel_rfl
 c171:=by kernel_rfl
 c173:=by kernel_rfl
 c175:=by kernel_rfl
 c210:=by kernel_rfl
 c212:=by kernel_rfl
 c213:=by kernel_rfl
 c232:=by kernel_rfl
 c233:=by kernel_rfl }
open Go.RowKit in
theorem Tryz.strconv_Atoi_ok (s:ByteArray)(hmax:s.size <= 9223372036854775806)(v:Int)(h:Lib.atoiAll s.data.toList=.ok v)(w:World) :
  Calls Tryz.prog 174 #[.string s] w fun e w'=>e=.returned (.tuple #[.int .i64 v,.nilIface])∧(w'=w ∨ ∃ t,w'=Lib.bytesWorld w 5 t):=Any.strconv_Atoi_ok Tryz.laysC172 s hmax v h w
end Go.Proofs
namespace Go.Am
open Go.Proofs
attribute [local irreducible] fN fI fB cR eQ evCode evOps rD kOp aAj wF wH wG kGc aLE aLD kDr kMg drOps fU kK sl
theorem aGx {α:Type}(xs:Array α)(o:α)(f:α->α):(xs.push o).modify xs.size f=xs ++ #[f o]:=by
 apply Array.ext
 ·simp
 ·intro i h1 h2;rw [Array.getElem_modify];by_cases h:xs.size=i
  ·subst h;simp
  ·rw [if_neg h]
   have:i < xs.size:=by simp at h1;omega
   rw [Array.getElem_push_lt this,Array.getElem_append_left this]
theorem aHW (w:World)(e:TypeId)(s:ByteArray):∃ os,Lib.bytesWorld w e s=Go.Sort.grow w.drew os:=by
 unfold Lib.bytesWorld World.freeze;rw [if_neg dc]
 have key:∀ (o:Obj) (f:Obj->Obj),∃ os,({ (w.drew.alloc o) with heap:=(w.drew.alloc o).heap.modify w.heap.size f }:World)=Go.Sort.grow w.drew os:=fun o f=>⟨#[f o],by
  have hh:(w.drew.alloc o).heap.modify w.heap.size f=w.drew.heap ++ #[f o]:=aGx w.drew.heap o f;rw [hh]
  rfl⟩
 exact key _ _
theorem aTq:bB Tryz.prog 174 18 [.tmp 2,.tmp 3] (aL Tryz.f174):=fq Tryz.f174
theorem aNp {s:List UInt8}{v:Int}(hs:s.length <= 9223372036854775806)(h:Lib.atoiAll s=.ok v){S:St}{k:V->St->Prop}(hk:k (.tup [.int .i64 v,.nilIface]) S):RC Tryz.prog 174 [.str s] S k :=
 RC.ofCalls aTq (fun ρ w l' _ hsim hl=>by
  cases hl with
  | cons h1 hl =>
    cases h1;cases hl
    exact (Tryz.strconv_Atoi_ok ⟨s.toArray⟩ (by simpa [ByteArray.size] using hs) v (by simpa using h) w).mono fun e w' ⟨he,hw⟩=>by
     rcases hw with hw|⟨t,hw⟩
     ·subst hw;exact ⟨_,ρ,he,.tup (.cons (.int _ _) (.cons .nilIface .nil)),hsim,Ext.refl _ _ _⟩
     ·obtain ⟨os,ho⟩:=aHW w 5 t;rw [ho] at hw;subst hw
      exact ⟨_,ρ,he,.tup (.cons (.int _ _) (.cons .nilIface .nil)),hsim.drew.grow os,(Ext.drew ρ S.hs w).trans (Ext.grow ρ S.hs w.drew os)⟩) hk
theorem aWr (n:Nat)(l:List UInt8):n <= vE n l:=by
 rw [sI];exact bg (Nat.le_mul_of_pos_right n (Nat.pow_pos dc)) (Nat.le_add_right _ _)
theorem aWe:∀ {l:List UInt8} {acc:Nat},l.all oH=true->vE acc l < 18446744073709551616->Lib.parseUint10 acc l=.ok (vE acc l)
 | [],acc,_,_=>rfl
 | c :: r,acc,h,hv=>by
   rw [List.all_cons,Bool.and_eq_true] at h;have hc:=dP.1 h.1;have e:vE acc (c :: r)=vE (acc * 10+(c.toNat - 48)) r:=rfl;rw [e] at hv ⊢;have hge:=aWr (acc * 10+(c.toNat - 48)) r;rw [Lib.parseUint10,if_pos hc,if_neg om,if_neg om];exact aWe h.2 hv
theorem aIc (u:Nat):Lib.decDigits u ≠ []:=by
 rw [Lib.decDigits]
 split <;> simp
theorem aPb {u:Nat}(hu:u < 18446744073709551616):Lib.parseMag (Lib.decDigits u)=.ok u:=by
 unfold Lib.parseMag;rw [if_neg (aIc u),aWe (vO u) (by rw [aCt];exact hu),aCt]
theorem aNo {u:Nat}(hu:u < 9223372036854775808):Lib.atoiAll (Lib.decDigits u)=.ok (u:Int):=by
 have h:=aPb (u:=u) om;obtain ⟨c,r,hcr⟩:=List.exists_cons_of_ne_nil (aIc u);have hd:=vO u;rw [hcr,List.all_cons,Bool.and_eq_true] at hd;have hc:=dP.1 hd.1;rw [hcr] at h ⊢;rw [Lib.atoiAll_plain c r om om,h];show (if 9223372036854775808 <= u then Lib.NumEnd.range else Lib.NumEnd.ok (u:Int))=_;rw [if_neg om]
theorem aNn {u:Nat}(hu:u <= 9223372036854775808):Lib.atoiAll (45 :: Lib.decDigits u)=.ok (-(u:Int)):=by
 rw [Lib.atoiAll_minus,aPb om];show (if 9223372036854775808 < u then Lib.NumEnd.range else Lib.NumEnd.ok (-(u:Int)))=_;rw [if_neg om]
def uP:Int->List UInt8
 | .ofNat u=>Lib.decDigits u
 | .negSucc n=>45 :: Lib.decDigits (n+1)
theorem aKY {x:Int}(h1:-9223372036854775808 <= x)(h2:x <= 9223372036854775807):Lib.atoiAll (uP x)=.ok x:=by
 cases x with
 | ofNat u=>exact aNo (by have:((u:Nat):Int) <= 9223372036854775807:=h2;omega)
 | negSucc n =>
   have:Int.negSucc n=-((n+1:Nat):Int):=rfl;rw [this] at h1;exact aNn (u:=n+1) om
theorem oR {x:Int}(h1:-9223372036854775808 <= x)(h2:x <= 9223372036854775807):(uP x).length <= 20:=by
 cases x with
 | ofNat u=>exact bg (aEv (k:=18) (by have:((u:Nat):Int) <= 9223372036854775807:=h2;omega)) dc
 | negSucc n =>
   have e:Int.negSucc n=-((n+1:Nat):Int):=rfl;rw [e] at h1;have:=aEv (k:=18) (u:=n+1) om;show (45 :: Lib.decDigits (n+1)).length <= 20;rw [au];omega
theorem aGk {x:Int}(h1:-9223372036854775808 <= x)(h2:x <= 9223372036854775807){S:St}(h10:jB S){k:V->St->Prop}(hk:k (.str (uP x)) S):RC Tryz.prog 67 [.int .i64 x] S k:=by
 cases x with
 | ofNat u=>exact aOo (by have:((u:Nat):Int) <= 9223372036854775807:=h2;omega) h10 hk
 | negSucc n =>
   have e:Int.negSucc n=-((n+1:Nat):Int):=rfl;rw [e] at h1;exact aBw (u:=n+1) om om e h10 hk
theorem aVn:bB Tryz.prog 126 20 [.tmp 2,.tmp 3] (aL Tryz.f126):=fq Tryz.f126
theorem aIK {x:Int}(h1:-9223372036854775808 <= x)(h2:x <= 9223372036854775807){S:St}(h10:jB S){k:V->St->Prop}(hk:k (.tup [.int .i64 x,.bool true]) S):RC Tryz.prog 126 [.str (uP x)] S k:=by
 have hl:=oR h1 h2;have ha:=aKY h1 h2;have hit:=fun (k:V->St->Prop)=>aGk (k:=k) (S:=S) h1 h2 h10;generalize uP x=s at *;refine RC.run mixed aS (aG aVn ?_);refine enter ?_;refine go ?_;refine aNp om ha ?_;refine go ?_;refine hit _ ?_;refine go ?_;refine eU (fun _=>?_) (fun h=>absurd rfl h);refine go ?_;exact hk
structure jL (S:St)(p:Nat)(s:List UInt8):Prop where
 at':∃ e fl,fl ≠ .ro∧S.hs.get p=some (.cells [.str s] e fl)
 lt:p < room
theorem jL.step {S S':St}{p:Nat}{s t:List UInt8}(h:jL S p s){e:TypeId}{fl:Fl}(hfl:fl ≠ .ro)(hS:S'.hs=S.hs.put p (some (.cells [.str t] e fl))):jL S' p t:=⟨⟨e,fl,hfl,aR hS⟩,h.lt⟩
theorem aNS:bB Tryz.prog 121 27 [.tmp 4] (aL Tryz.f121):=fq Tryz.f121
theorem aNv {p:Nat}{c:UInt8}{s:List UInt8}{S:St}(h:jL S p (c :: s)){k:V->St->Prop}(hk:∀ S' e fl,fl ≠ .ro->S'.hs=S.hs.put p (some (.cells [.str s] e fl))->k (.bool true) S'):RC Tryz.prog 121 [.ptr p 0,.int .u8 (.ofNat c.toNat)] S k:=by
 obtain ⟨e,fl,hfl,hS⟩:=h.at';refine RC.run mixed aS (aG aNS ?_);refine enter ?_;refine go ?_;refine aA hS ?_;refine go ?_;refine aA hS ?_;refine go ?_;refine bO (fun _=>?_) (fun h=>absurd rfl h);refine go ?_;refine aA hS ?_;refine go ?_;refine cT (s:=c :: s) (l:=1) sm ?_;refine go ?_;refine aA hS ?_;refine bH (v:=.str s) rfl hfl kr rfl (Nat.zero_lt_one) ?_;refine aE h.lt fun S2 hS2=>?_;refine go ?_;exact hk S2 e fl hfl hS2
theorem aNR:bB Tryz.prog 120 10 [] (aL Tryz.f120):=fq Tryz.f120
theorem aAQ {p:Nat}{s:List UInt8}{S:St}(h:jL S p s){k:V->St->Prop}(hk:∀ S' e fl,fl ≠ .ro->S'.hs=S.hs.put p (some (.cells [.str (s.drop (mN (fun c=>dS c.toNat) s))] e fl))->k (.tup []) S'):RC Tryz.prog 120 [.ptr p 0] S k:=by
 obtain ⟨e,fl,hfl,hS⟩:=h.at';refine RC.run mixed aS (aG aNR ?_);refine enter ?_;refine go ?_;refine aA hS ?_;refine go ?_;refine aCO ?_;generalize s.drop (mN (fun c=>dS c.toNat) s)=t at *;refine go ?_;refine aA hS ?_;refine bH (v:=.str t) rfl hfl kr rfl (Nat.zero_lt_one) ?_;refine aE h.lt fun S2 hS2=>?_;refine go ?_;exact hk S2 e fl hfl hS2
theorem aTz:bB Tryz.prog 122 33 [.tmp 2] (aL Tryz.f122):=fq Tryz.f122
theorem aPH {p:Nat}{s:List UInt8}(hs:s.length < 9223372036854775807)(hasc:∀ c ∈ s,c.toNat < 128){S:St}(h:jL S p s){k:V->St->Prop}
  (hk:∀ S' e fl,fl ≠ .ro->S'.hs=S.hs.put p (some (.cells [.str (s.drop (mN (fun c=>!dS c.toNat) s))] e fl))->k (.str (s.take (mN (fun c=>!dS c.toNat) s))) S'):RC Tryz.prog 122 [.ptr p 0] S k:=by
 obtain ⟨e,fl,hfl,hS⟩:=h.at';refine RC.run mixed aS (aG aTz ?_);refine enter ?_;refine go ?_;refine aA hS ?_;refine go ?_;refine aEh hs hasc ?_;unfold aEi;have hle:=aJn (fun c=>!dS c.toNat) s;generalize mN (fun c=>!dS c.toNat) s=n at *;by_cases hn:n < s.length
 ·rw [if_pos hn];refine go ?_;refine aA hS ?_;refine go ?_;refine mG hle ?_;generalize s.take n=a at *;refine go ?_;refine aA hS ?_;refine go ?_;refine cT hle ?_;generalize s.drop n=b at *;refine go ?_;refine aA hS ?_;refine bH (v:=.str b) rfl hfl kr rfl (Nat.zero_lt_one) ?_;refine aE h.lt fun S2 hS2=>?_;refine go ?_;exact hk S2 e fl hfl hS2
 ·rw [if_neg hn]
  have hn2:dH s=n:=by rw [aM];omega
  refine go ?_;refine aA hS ?_;refine go ?_;refine aA hS ?_;rw [hn2];refine go ?_;refine mG hle ?_;generalize s.take n=a at *;refine go ?_;refine aA hS ?_;refine go ?_;refine cT hle ?_;generalize s.drop n=b at *;refine go ?_;refine aA hS ?_;refine bH (v:=.str b) rfl hfl kr rfl (Nat.zero_lt_one) ?_;refine aE h.lt fun S2 hS2=>?_;refine go ?_;exact hk S2 e fl hfl hS2
def nmB (x:UInt8)(c:UInt8):Bool:=decide ((97 <= c.toNat∧c.toNat <= 122) ∨ (65 <= c.toNat∧c.toNat <= 90) ∨ (48 <= c.toNat∧c.toNat <= 57) ∨ c.toNat=95 ∨ c.toNat=x.toNat)
theorem aTv:bB Tryz.prog 123 71 [.tmp 4] (aL Tryz.f123):=fq Tryz.f123
theorem aOD {p:Nat}{x:UInt8}{s:List UInt8}(hs:s.length < 9223372036854775807){S:St}(h:jL S p s){k:V->St->Prop}
  (hk:∀ S' e fl,fl ≠ .ro->S'.hs=S.hs.put p (some (.cells [.str (s.drop (mN (nmB x) s))] e fl))->k (.str (s.take (mN (nmB x) s))) S'):RC Tryz.prog 123 [.ptr p 0,.int .u8 (.ofNat x.toNat)] S k:=by
 obtain ⟨e,fl,hfl,hS⟩:=h.at';refine RC.run mixed aS (aG aTv ?_);refine enter ?_;refine go ?_;refine LP.induct0 s.length (fun j E=>j <= s.length∧(s.take j).all (nmB x)=true∧Kn E 71 [(0,.ptr p 0),(1,.int .u8 (.ofNat x.toNat)),(5,.int .i64 (.ofNat j))]) ⟨ai _,sm,rfl,rfl,rfl,rfl,trivial⟩ ?_;intro j E ⟨hj,ha,hf⟩ ih;refine LP.kn mixed hf ?_;refine go ?_;refine aA hS ?_;refine go ?_;have hend:(∀ h:j < s.length,nmB x s[j]=false)->mN (nmB x) s=j:=fun h=>sH ha h hj;refine bE (fun hlt=>?_) (fun hge=>?_)
 ·rw [aM] at hlt;refine go ?_;refine aA hS ?_;refine go ?_;refine bU _ (qL hlt) ?_;refine go ?_
  repeat' (first
   | (refine bE (fun (h97:_ < 97)=>?_) (fun (h97:97 <= _)=>?_) <;> refine go ?_)
   | (refine bE (fun (h122:122 < _)=>?_) (fun (h122:_ <= 122)=>?_) <;> refine go ?_)
   | (refine bE (fun (h65:_ < 65)=>?_) (fun (h65:65 <= _)=>?_) <;> refine go ?_)
   | (refine bE (fun (h90:90 < _)=>?_) (fun (h90:_ <= 90)=>?_) <;> refine go ?_)
   | (refine bE (fun (h48:_ < 48)=>?_) (fun (h48:48 <= _)=>?_) <;> refine go ?_)
   | (refine bE (fun (h57:57 < _)=>?_) (fun (h57:_ <= 57)=>?_) <;> refine go ?_)
   | (refine bO (fun (h95:_=95)=>?_) (fun (h95:_ ≠ 95)=>?_) <;> refine go ?_)
   | (refine bO (fun hx=>?_) (fun hx=>?_) <;> refine go ?_))
  all_goals first
   | (refine bI (j+1) ?_;refine go ?_;refine ih _ hlt ⟨hlt,pH ha hlt (decide_eq_true om),rfl,rfl,rfl,rfl,trivial⟩)
   | (have hE:=hend fun _=>decide_eq_false om;rw [hE] at hk;refine aA hS ?_;refine go ?_;refine mG hj ?_;generalize s.take j=a at *;refine go ?_;refine aA hS ?_;refine go ?_;refine cT hj ?_;generalize s.drop j=b at *;refine go ?_;refine aA hS ?_;refine bH (v:=.str b) rfl hfl kr rfl (Nat.zero_lt_one) ?_;refine aE h.lt fun S2 hS2=>?_;refine go ?_;exact hk S2 e fl hfl hS2)
 ·have hE:=hend fun hlt=>absurd hlt (by rw [aM] at hge;omega);refine go ?_;rw [hE] at hk;refine aA hS ?_;refine go ?_;refine mG hj ?_;generalize s.take j=a at *;refine go ?_;refine aA hS ?_;refine go ?_;refine cT hj ?_;generalize s.drop j=b at *;refine go ?_;refine aA hS ?_;refine bH (v:=.str b) rfl hfl kr rfl (Nat.zero_lt_one) ?_;refine aE h.lt fun S2 hS2=>?_;refine go ?_;exact hk S2 e fl hfl hS2
end Go.Am
namespace Go.Am
def vS (c:UInt8):List UInt8:=if c=92 then [92,92] else if c=10 then [92,110] else if c=34 then [92,34] else [c]
def gY:List UInt8->List UInt8
 | []=>[]
 | c :: s=>vS c ++ gY s
def jG:List (List UInt8):=[[49],[50],[195,169],[117,112],[97,32,98],[10],[57]]
theorem aPE {v:List UInt8}(h:v ∈ gQ)(hn:v ≠ []):v ∈ jG:=by
 simp only [gQ,av,List.not_mem_nil,or_false] at h
 rcases h with rfl|rfl|rfl|rfl|rfl|rfl|rfl|rfl
 ·exact absurd rfl hn
 all_goals (unfold jG;simp)
theorem aHp {v:List UInt8}(h:v ∈ jG):v ∈ gQ∧v ≠ []:=by
 simp only [jG,av,List.not_mem_nil,or_false] at h
 rcases h with rfl|rfl|rfl|rfl|rfl|rfl|rfl <;> (unfold gQ;simp)
def mM (v:List UInt8):List UInt8:=34 :: (gY v ++ [34])
def oK (q:aY):List UInt8:=q.1 ++ 61 :: mM q.2
def gS:List aY->List UInt8
 | []=>[]
 | [q]=>oK q
 | q :: r :: l=>oK q ++ 44 :: gS (r :: l)
theorem aBQ {v:List UInt8}(h:v ∈ jG):(mM v).length <= 5:=by
 simp only [jG,av,List.not_mem_nil,or_false] at h
 rcases h with rfl|rfl|rfl|rfl|rfl|rfl|rfl <;> decide
theorem wK {s:List UInt8}(h:s ∈ bW):s.all (nmB 95)=true∧s ≠ []∧s.length <= 19:=by
 simp only [bW,av,List.not_mem_nil,or_false] at h
 rcases h with rfl|rfl|rfl|rfl|rfl|rfl|rfl|rfl|rfl|rfl|rfl|rfl|rfl|rfl|rfl|rfl <;> decide
theorem oT {s:List UInt8}(h:s ∈ jD):s.all (nmB 58)=true∧s ≠ []∧s.length <= 10:=by
 simp only [jD,av,List.not_mem_nil,or_false] at h
 rcases h with rfl|rfl|rfl|rfl|rfl|rfl|rfl|rfl <;> decide
theorem aBA {q:aY}(hn:q.1 ∈ bW)(hv:q.2 ∈ jG):(oK q).length <= 25:=by
 have h1:=(wK hn).2.2;have h2:=aBQ hv;unfold oK;simp only [aq,au];omega
theorem sW:∀ {l:List aY},(∀ q ∈ l,q.1 ∈ bW∧q.2 ∈ jG)->(gS l).length <= 26 * l.length
 | [],_=>by simp [gS]
 | [q],h=>by
   have:=aBA (h q sm).1 (h q sm).2;show (oK q).length <= 26;omega
 | q :: r :: l,h=>by
   have:=aBA (h q sm).1 (h q sm).2;have:=sW (l:=r :: l) fun x hx=>h x (be _ hx);show (oK q ++ 44 :: gS (r :: l)).length <= _;simp only [aq,au] at *;omega
end Go.Am
namespace Go.Am
open Go.Proofs
attribute [local irreducible] fN fI fB cR eQ evCode evOps rD kOp aAj wF wH wG kGc aLE aLD kDr kMg drOps fU kK sl
section
structure Bld (b:Nat)(S:St)(p:Nat)(bs:List UInt8):Prop where
 hi:p < room
 old:p < S.next
 at':∃ a buf,(a=.nilPtr ∨ a=.ptr p 0)∧S.hs.get p=some (.cells [a,buf] 93 .ex)∧((bs=[]∧buf=.nilSlice) ∨ ∃ m rest,buf=.slice m 0 bs.length (bs.length+List.length rest) 1 false∧b <= m∧m < room∧m < S.next∧m ≠ p∧0 < bs.length+List.length rest∧S.hs.get m=some (.cells (bC bs ++ rest) 5 .rw))
theorem Bld.keep {b p:Nat}{S S':St}{bs:List UInt8}(h:Bld b S p bs)(hk:∀ id,id < S.next->S'.hs.get id=S.hs.get id)(hn:S.next <= S'.next):Bld b S' p bs:=by
 obtain ⟨a,buf,h2,h3,h4⟩:=h.at';refine ⟨h.hi,by have:=h.old;omega,a,buf,h2,by rw [hk p h.old];exact h3,?_⟩
 rcases h4 with h4|⟨m,rest,x1,x2,x3,x4,x5,x7,x6⟩
 ·exact .inl h4
 ·exact .inr ⟨m,rest,x1,x2,x3,om,x5,x7,by rw [hk m x4];exact x6⟩
theorem aWX:∃ fn,Tryz.prog.funcs[100]?=some fn∧fn.body=none:=⟨Tryz.f100,kr,kr⟩
theorem wN {v:V}{S:St}{k:V->St->Prop}(hk:k v S):RC Tryz.prog 100 [v] S k:=by
 refine RC.run mixed aS (nN aWX ?_)
 conv=>whnf
 exact hk
theorem aQo {P:Program}{c:Bool}{t e:TypeId}{i o n:Nat}(hn:(P.info? e).map (fun f=>f.size)=some (n+1)):eqD P c t (.pointer e) (.ptr i o) (.ptr i o)=some true:=by
 cases h:P.info? e with
 | none=>rw [h] at hn;cases hn
 | some f =>
   rw [h] at hn;have hs:f.size=n+1:=Option.some.inj hn;show (match P.info? e with|some f=>if f.size=0 then none else if i=i then some (o == o) else none|none=>none)=some true;rw [h];show (if f.size=0 then none else if i=i then some (o == o) else none)=some true;rw [if_neg om,if_pos rfl];simp
theorem aUP:bB Tryz.prog 68 20 [] (aL Tryz.f68):=fq Tryz.f68
theorem tV {b p:Nat}{bs:List UInt8}{S:St}(h:Bld b S p bs){k:V->St->Prop}(hk:∀ S',Abv p b S S' 0->Bld b S' p bs->k (.tup []) S'):RC Tryz.prog 68 [.ptr p 0] S k:=by
 obtain ⟨a,buf,ha,hS,hb⟩:=h.at';refine RC.run mixed aS (aG aUP ?_);refine enter ?_;refine go ?_;refine aA hS ?_;refine go ?_
 rcases ha with rfl|rfl
 ·refine go ?_;refine aA hS ?_;refine go ?_;refine wN ?_;refine go ?_;refine aA hS ?_
  conv=>whnf
  refine ifK_intro kr ?_;refine go ?_;refine aA hS ?_;refine bH (v:=.ptr p 0) rfl sm kr rfl sm ?_;refine aE h.hi fun S2 hS2=>?_;refine go ?_;have hS':S2.hs.get p=some (.cells [.ptr p 0,buf] 93 .ex):=aR hS2;refine hk S2 ((Abv.refl p b S 0).put hS2 (.inl rfl)) ⟨h.hi,by rw [aK hS2];exact h.old,_,buf,.inr rfl,hS',?_⟩
  rcases hb with hb|⟨m,rest,x1,x2,x3,x4,x5,x7,x6⟩
  ·exact .inl hb
  ·exact .inr ⟨m,rest,x1,x2,x3,by rw [aK hS2];exact x4,x5,x7,by rw [aB hS2 x5];exact x6⟩
 ·refine go ?_;refine aA hS ?_;refine go ?_;refine bU true (aQo (n:=1) kr) ?_;refine go ?_;exact hk S (.refl ..) h
theorem sM (a b:List UInt8):bC (a ++ b)=bC a ++ bC b:=by simp [bC]
theorem aAN:∀ s:List UInt8,cQ (bC s)=true
 | []=>rfl
 | c :: s=>by
   show Bool.rec (motive:=fun _=>Bool) false (cQ (bC s)) (V.one (.int .u8 (.ofNat c.toNat)))=true;rw [aAN s];rfl
theorem aOV {xs mid post:List V}(hm:mid.length=xs.length):∀ {pre:List V} {off:Nat} {k:List V->Prop},off=pre.length->k (pre ++ (xs ++ post))->eJ xs off (pre ++ (mid ++ post)) k
 | [],off,k,ho,h=>by
   subst ho;show eJ xs 0 (mid ++ post) k;exact overA0 hm h
 | x :: pre,off,k,ho,h=>by
   subst ho;show eJ xs pre.length (pre ++ (mid ++ post)) fun r=>k (x :: r);exact aOV hm rfl h
theorem aNh {s:List UInt8}{S:St}{k:V->St->Prop}(hs:s.length <= 1000000)(h0:s=[]->k .nilSlice S)(h1:s ≠ []->bK (.cells (bC s) 5 .rw) S fun id S'=>k (.slice id 0 s.length s.length 1 false) S'):aO Tryz.prog #[36,9] .nilSlice (.str s) S k:=by
 conv=>whnf
 refine iO ?_
 conv=>whnf
 cases s with
 | nil=>exact h0 rfl
 | cons c s =>
   have h:=h1 sm;rw [aM];refine ifK_intro (ag ?_) h;show ((c :: s).length * 2) <= 70368744177664;omega
theorem aNi {bs s:List UInt8}{rest:List V}{m:Nat}{S:St}{k:V->St->Prop}(hb:bs.length+s.length <= 1000000)(hm:S.hs.get m=some (.cells (bC bs ++ rest) 5 .rw))
  (h0:s.length <= rest.length->bD m (some (.cells (bC (bs ++ s) ++ rest.drop s.length) 5 .rw)) S fun S'=>k (.slice m 0 (bs ++ s).length (bs.length+rest.length) 1 false) S')
  (h00:s=[]->k (.slice m 0 bs.length (bs.length+rest.length) 1 false) S)
  (h1:rest.length < s.length->bD m none S fun S'=>bK (.cells (bC (bs ++ s)) 5 .rw) S' fun id S''=>k (.slice id 0 (bs ++ s).length (bs ++ s).length 1 false) S'') :
  aO Tryz.prog #[36,9] (.slice m 0 bs.length (bs.length+rest.length) 1 false) (.str s) S k:=by
 rw [aq] at h0 h1
 conv=>whnf
 refine iO ?_
 conv=>whnf
 rw [aM];refine aP ?_
 conv=>whnf
 refine bX (fun h=>?_) (fun h=>?_)
 ·have hle:s.length <= rest.length:=by have h':bs.length+s.length <= bs.length+rest.length:=ae h;omega
  cases s with
  | nil=>exact h00 rfl
  | cons c s =>
    conv=>whnf
    refine aA hm ?_
    conv=>whnf
    refine ifK_intro (aAN _) ?_
    have e:bC bs ++ rest=bC bs ++ (rest.take (c :: s).length ++ rest.drop (c :: s).length):=by rw [List.take_append_drop]
    rw [e];refine aOV (by rw [cV,bh];omega) (by rw [cV];show 0+bs.length * 1=_;omega) ?_;have h:=h0 hle;rw [sM,List.append_assoc] at h;exact h
 ·have h:=h1 (by rcases Nat.lt_or_ge rest.length s.length with h'|h';exact h';exact absurd ((ag (by show bs.length+s.length <= bs.length+rest.length;omega)).symm.trans h) sm);refine ifK_intro (ag (by show (bs.length+s.length) * 2 <= _;omega)) ?_;refine aA hm ?_;refine bY (ai _) ?_;refine bJ (by show bs.length * 1 <= _;simp [cV]) ?_;refine bZ ?_
  have e:(((bC bs ++ rest).drop 0).take (bs.length * 1)) ++ bC s=bC (bs ++ s):=by
   rw [sM,List.drop_zero,Nat.mul_one,List.take_left' (cV bs)]
  show dD (cQ (bC s)) (bD m none S fun S=>bK (.cells ((((bC bs ++ rest).drop 0).take (bs.length * 1)) ++ bC s) 5 .rw) S fun id S=>k (.slice id 0 (bs.length+s.length) (bs.length+s.length) 1 false) S);rw [e];refine ifK_intro (aAN _) ?_;exact h
attribute [local irreducible] aO
theorem aXo:bB Tryz.prog 35 19 [.tmp 4,.tmp 5] (aL Tryz.f35):=fq Tryz.f35
theorem aFi {b p:Nat}{bs s:List UInt8}{S:St}(h:Bld b S p bs)(hb:b <= S.next)(hl:bs.length+s.length <= 1000000)(hn:S.next+1 < room){k:V->St->Prop}(hk:∀ S',Abv p b S S' 1->Bld b S' p (bs ++ s)->k (.tup [.int .i64 (.ofNat s.length),.nilIface]) S'):RC Tryz.prog 35 [.ptr p 0,.str s] S k:=by
 refine RC.run mixed aS (aG aXo ?_);refine enter ?_;refine go ?_;refine tV h fun S1 hA1 h1=>?_;have hn1:=hA1.hi;have hn2:=hA1.lo;obtain ⟨a,buf,ha,hS,hB⟩:=h1.at';refine go ?_;refine aA hS ?_;refine go ?_
 rcases hB with ⟨rfl,rfl⟩|⟨m,rest,rfl,x2,x3,x4,x5,x7,x6⟩
 ·refine go ?_;refine aNh om (fun h0=>?_) (fun hne=>?_)
  ·subst h0;refine go ?_;refine aA hS ?_;refine bH (v:=.nilSlice) rfl sm kr rfl sm ?_;refine aE h.hi fun S2 hS2=>?_;refine go ?_;exact hk S2 ((hA1.put hS2 (.inl rfl)).le om) ⟨h.hi,by rw [aK hS2];have:=h.old;omega,_,_,ha,aR hS2,.inl ⟨rfl,rfl⟩⟩
  ·refine aD om fun S2 hS2=>?_;refine go ?_
   have hpn:p ≠ S1.next:=by have:=h1.old;omega
   refine aA (by rw [aC hS2 hpn];exact hS) ?_;refine bH (v:=.slice S1.next 0 s.length s.length 1 false) rfl sm kr rfl sm ?_;refine aE h.hi fun S3 hS3=>?_;refine go ?_;rw [aM];refine go ?_;have hA3:Abv p b S S3 1:=(Abv.new hA1 hS2 hb om).put hS3 (.inl rfl);refine hk S3 hA3 ⟨h.hi,by have:=h.old;have:=hA3.lo;omega,_,_,ha,aR hS3,.inr ⟨S1.next,[],sm,om,om,by rw [aK hS3,aF hS2];omega,Ne.symm hpn,by have:=List.length_pos_iff.2 hne;simpa using this,?_⟩⟩;rw [aB hS3 (Ne.symm hpn),bf];exact aJ hS2
 ·refine go ?_;refine aNi hl x6 (fun hle=>?_) (fun h0=>?_) (fun hgt=>?_)
  ·refine aE x3 fun S2 hS2=>?_;refine go ?_;refine aA (by rw [aB hS2 (Ne.symm x5)];exact hS) ?_;refine bH (v:=.slice m 0 (bs ++ s).length (bs.length+rest.length) 1 false) rfl sm kr rfl sm ?_;refine aE h.hi fun S3 hS3=>?_;refine go ?_;rw [aM];refine go ?_;have hA3:Abv p b S S3 1:=((hA1.put hS2 (.inr x2)).put hS3 (.inl rfl)).le om;refine hk S3 hA3 ⟨h.hi,by have:=h.old;have:=hA3.lo;omega,_,_,ha,aR hS3,.inr ⟨m,rest.drop s.length,by simp;omega,x2,x3,by rw [aK hS3,aK hS2];omega,x5,by simp;omega,?_⟩⟩;rw [aB hS3 x5];exact aR hS2
  ·subst h0;refine go ?_;refine aA hS ?_;refine bH (v:=.slice m 0 bs.length (bs.length+rest.length) 1 false) rfl sm kr rfl sm ?_;refine aE h.hi fun S3 hS3=>?_;refine go ?_;have hA3:Abv p b S S3 1:=(hA1.put hS3 (.inl rfl)).le om;refine hk S3 hA3 ⟨h.hi,by have:=h.old;have:=hA3.lo;omega,_,_,ha,aR hS3,.inr ⟨m,rest,sm,x2,x3,by rw [aK hS3];omega,x5,by simpa using x7,?_⟩⟩;rw [aB hS3 x5,bf];exact x6
  ·refine aE x3 fun S2 hS2=>?_;refine aD (by rw [aK hS2];omega) fun S3 hS3=>?_;refine go ?_;have hn3:S2.next=S1.next:=aK hS2
   have hpn:p ≠ S2.next:=by have:=h1.old;omega
   refine aA (by rw [aC hS3 hpn,aB hS2 (Ne.symm x5)];exact hS) ?_;refine bH (v:=.slice S2.next 0 (bs ++ s).length (bs ++ s).length 1 false) rfl sm kr rfl sm ?_;refine aE h.hi fun S4 hS4=>?_;refine go ?_;rw [aM];refine go ?_;have hA3:Abv p b S S4 1:=(Abv.new (hA1.put hS2 (.inr x2)) hS3 hb om).put hS4 (.inl rfl);refine hk S4 hA3 ⟨h.hi,by have:=h.old;have:=hA3.lo;omega,_,_,ha,aR hS4,.inr ⟨S2.next,[],sm,om,om,by rw [aK hS4,aF hS3];omega,Ne.symm hpn,by simp;omega,?_⟩⟩;rw [aB hS4 (Ne.symm hpn),bf];exact aJ hS3
end
section
theorem aKW {c:UInt8}{i2:Nat}{e2:TypeId}{fl2:Fl}{S:St}{k:V->St->Prop}(hx:S.hs.get i2=some (.cells (bC [c]) e2 fl2))(h1:bK (.cells (bC [c]) 5 .rw) S fun id S'=>k (.slice id 0 1 1 1 false) S'):aO Tryz.prog #[36,36] .nilSlice (.slice i2 0 1 1 1 true) S k:=by
 conv=>whnf
 refine aA hx ?_
 conv=>whnf
 exact h1
theorem aKX {bs:List UInt8}{c:UInt8}{rest:List V}{m i2:Nat}{e2:TypeId}{fl2:Fl}{S:St}{k:V->St->Prop}(hx:S.hs.get i2=some (.cells (bC [c]) e2 fl2))(hb:bs.length <= 1000000)(hm:S.hs.get m=some (.cells (bC bs ++ rest) 5 .rw))
  (h0:1 <= rest.length->bD m (some (.cells (bC (bs ++ [c]) ++ rest.drop 1) 5 .rw)) S fun S'=>k (.slice m 0 (bs ++ [c]).length (bs.length+rest.length) 1 false) S')
  (h1:bD m none S fun S'=>bK (.cells (bC (bs ++ [c])) 5 .rw) S' fun id S''=>k (.slice id 0 (bs ++ [c]).length (bs ++ [c]).length 1 false) S'') :
  aO Tryz.prog #[36,36] (.slice m 0 bs.length (bs.length+rest.length) 1 false) (.slice i2 0 1 1 1 true) S k:=by
 rw [aq] at h0 h1
 conv=>whnf
 refine aA hx ?_
 conv=>whnf
 refine aP ?_
 conv=>whnf
 refine bX (fun h=>?_) (fun h=>?_)
 ·have hle:1 <= rest.length:=by have h':bs.length+1 <= bs.length+rest.length:=ae h;omega
  conv=>whnf
  refine aA hm ?_
  conv=>whnf
  refine ifK_intro (aAN [c]) ?_
  have e:bC bs ++ rest=bC bs ++ (rest.take 1 ++ rest.drop 1):=by rw [List.take_append_drop]
  rw [e];refine aOV (xs:=bC [c]) (by rw [cV,bh];show _=1;omega) (by rw [cV];show 0+bs.length * 1=_;omega) ?_;have h:=h0 hle;rw [sM,List.append_assoc] at h;exact h
 ·have h:=h1;refine ifK_intro (ag (by show (bs.length+1) * 2 <= _;omega)) ?_;refine aA hm ?_;refine bY (ai _) ?_;refine bJ (by show bs.length * 1 <= _;simp [cV]) ?_;refine bZ ?_
  have e:(((bC bs ++ rest).drop 0).take (bs.length * 1)) ++ bC [c]=bC (bs ++ [c]):=by
   rw [sM,List.drop_zero,Nat.mul_one,List.take_left' (cV bs)]
  show dD (cQ (bC [c])) (bD m none S fun S=>bK (.cells ((((bC bs ++ rest).drop 0).take (bs.length * 1)) ++ bC [c]) 5 .rw) S fun id S=>k (.slice id 0 (bs.length+1) (bs.length+1) 1 false) S);rw [e];refine ifK_intro (aAN _) ?_;exact h
attribute [local irreducible] aO bK cM bD
theorem aXl:bB Tryz.prog 180 17 [.tmp 4] (aL Tryz.f180):=fq Tryz.f180
theorem aPF {b p:Nat}{bs:List UInt8}{c:UInt8}{S:St}(h:Bld b S p bs)(hb:b <= S.next)(hl:bs.length <= 1000000)(hn:S.next+2 < room){k:V->St->Prop}(hk:∀ S',Abv p b S S' 2->Bld b S' p (bs ++ [c])->k .nilIface S'):RC Tryz.prog 180 [.ptr p 0,.int .u8 (.ofNat c.toNat)] S k:=by
 refine RC.run mixed aS (aG aXl ?_);refine enter ?_;refine go ?_;refine tV h fun S1 hA1 h1=>?_;have hn1:=hA1.hi;have hn2:=hA1.lo;have hold:=h1.old;obtain ⟨a,buf,ha,hS,hB⟩:=h1.at';refine go ?_;refine aA hS ?_;refine go ?_;refine aD (S:=S1) (o:=.cells (bC [c]) 5 .ex) om fun Sx hSx=>?_;refine go ?_;have hA2:Abv p b S Sx 1:=Abv.new hA1 hSx hb om;have hnx:=aF hSx;have hx:Sx.hs.get S1.next=some (.cells (bC [c]) 5 .ex):=aJ hSx;have hpx:p ≠ S1.next:=om
 have hSp:Sx.hs.get p=some (.cells [a,buf] 93 .ex):=by rw [aC hSx hpx];exact hS
 rcases hB with ⟨rfl,rfl⟩|⟨m,rest,rfl,x2,x3,x4,x5,x7,x6⟩
 ·refine aKW hx ?_;refine aD om fun S2 hS2=>?_;refine go ?_;have hpn:p ≠ Sx.next:=om;refine aA (by rw [aC hS2 hpn];exact hSp) ?_;refine bH (v:=.slice Sx.next 0 1 1 1 false) rfl sm kr rfl sm ?_;refine aE h.hi fun S3 hS3=>?_;refine go ?_;have hA3:Abv p b S S3 2:=(Abv.new hA2 hS2 hb om).put hS3 (.inl rfl);refine hk S3 hA3 ⟨h.hi,by have:=h.old;have:=hA3.lo;omega,_,_,ha,aR hS3,.inr ⟨Sx.next,[],sm,om,om,by rw [aK hS3,aF hS2];omega,Ne.symm hpn,sm,?_⟩⟩;rw [aB hS3 (Ne.symm hpn),bf];exact aJ hS2
 ·have hm:Sx.hs.get m=some (.cells (bC bs ++ rest) 5 .rw):=by rw [aC hSx om];exact x6
  refine aKX hx hl hm (fun hle=>?_) ?_
  ·refine aE x3 fun S2 hS2=>?_;refine go ?_;refine aA (by rw [aB hS2 (Ne.symm x5)];exact hSp) ?_;refine bH (v:=.slice m 0 (bs ++ [c]).length (bs.length+rest.length) 1 false) rfl sm kr rfl sm ?_;refine aE h.hi fun S3 hS3=>?_;refine go ?_;have hA3:Abv p b S S3 2:=((hA2.put hS2 (.inr x2)).put hS3 (.inl rfl)).le om;refine hk S3 hA3 ⟨h.hi,by have:=h.old;have:=hA3.lo;omega,_,_,ha,aR hS3,.inr ⟨m,rest.drop 1,by simp;omega,x2,x3,by rw [aK hS3,aK hS2];omega,x5,by simp;omega,?_⟩⟩;rw [aB hS3 x5];exact aR hS2
  ·refine aE x3 fun S2 hS2=>?_;have hn3:S2.next=Sx.next:=aK hS2;refine aD om fun S3 hS3=>?_;refine go ?_;have hpn:p ≠ S2.next:=om;refine aA (by rw [aC hS3 hpn,aB hS2 (Ne.symm x5)];exact hSp) ?_;refine bH (v:=.slice S2.next 0 (bs ++ [c]).length (bs ++ [c]).length 1 false) rfl sm kr rfl sm ?_;refine aE h.hi fun S4 hS4=>?_;refine go ?_;have hA3:Abv p b S S4 2:=(Abv.new (hA2.put hS2 (.inr x2)) hS3 hb om).put hS4 (.inl rfl);refine hk S4 hA3 ⟨h.hi,by have:=h.old;have:=hA3.lo;omega,_,_,ha,aR hS4,.inr ⟨S2.next,[],sm,om,om,by rw [aK hS4,aF hS3];omega,Ne.symm hpn,sm,?_⟩⟩;rw [aB hS4 (Ne.symm hpn),bf];exact aJ hS3
theorem aVj:bB Tryz.prog 34 8 [.tmp 2] (aL Tryz.f34):=fq Tryz.f34
theorem aAR {b p:Nat}{bs:List UInt8}{S:St}(h:Bld b S p bs){k:V->St->Prop}(hk:k (.int .i64 (.ofNat bs.length)) S):RC Tryz.prog 34 [.ptr p 0] S k:=by
 obtain ⟨a,buf,ha,hS,hB⟩:=h.at';refine RC.run mixed aS (aG aVj ?_);refine enter ?_;refine go ?_;refine aA hS ?_
 rcases hB with ⟨rfl,rfl⟩|⟨m,rest,rfl,x2,x3,x4,x5,x7,x6⟩
 ·refine go ?_;exact hk
 ·refine go ?_;exact hk
theorem aVC:bB Tryz.prog 36 14 [.tmp 2] (aL Tryz.f36):=fq Tryz.f36
theorem vI {b p:Nat}{bs:List UInt8}{S:St}(h:Bld b S p bs)(hl:bs.length <= 1000000){k:V->St->Prop}(hk:∀ S',Abv p b S S' 12->k (.str bs) S'):RC Tryz.prog 36 [.ptr p 0] S k:=by
 obtain ⟨a,buf,ha,hS,hB⟩:=h.at';refine RC.run mixed aS (aG aVC ?_);refine enter ?_;refine go ?_;refine vX ?_;refine dE (v:=buf) rfl (fun Q hQ=>aA hS (aH kr _ rfl rfl hQ)) ?_
 rcases hB with ⟨rfl,rfl⟩|⟨m,rest,rfl,x2,x3,x4,x5,x7,x6⟩
 ·refine vX ?_;refine dE (v:=.nilSlice) rfl (fun Q hQ=>aA hS (aH kr _ rfl rfl hQ)) ?_;refine vX ?_;refine dK (A:=fun Q=>Q (.str []) ⟨S.hp,Nat.add S.next 12⟩) (pe':=[]) rfl (fun Q hQ=>by (conv=>whnf);exact hQ) (fun Q hQ=>by (conv=>whnf);exact hQ) ?_;refine n_dopA ?_;refine vX ?_;refine cS (.inl kr) (.inr fun Q hQ=>by (conv=>whnf);exact hQ) rfl ?_;refine cS (.inl kr) (.inr fun Q hQ=>aA (S:=⟨S.hp,_⟩) hS (aH kr _ rfl rfl hQ)) rfl ?_;refine cS (.inl kr) (.inr fun Q hQ=>by (conv=>whnf);exact hQ) rfl ?_;refine cS (.inl kr) (.inr fun Q hQ=>aA (S:=⟨S.hp,_⟩) hS (aH kr _ rfl rfl hQ)) rfl ?_;refine vX ?_;refine go ?_;exact hk _ ⟨fun _ _ _=>rfl,Nat.le_add_right _ _,af _⟩
 ·have h0:Nat.blt 0 (bs.length+rest.length)=true:=ag x7;refine vX ?_;refine dE (v:=.ptr m 0) rfl (fun Q hQ=>by (conv=>whnf);exact ifK_intro h0 hQ) ?_;refine vX ?_;refine dE (v:=.slice m 0 bs.length (bs.length+rest.length) 1 false) rfl (fun Q hQ=>aA hS (aH kr _ rfl rfl hQ)) ?_;refine vX ?_;have hS':(⟨S.hp,Nat.add S.next 12⟩:St).hs.get p=some (.cells [a,.slice m 0 bs.length (bs.length+rest.length) 1 false] 93 .ex):=hS;have x6':(⟨S.hp,Nat.add S.next 12⟩:St).hs.get m=some (.cells (bC bs ++ rest) 5 .rw):=x6
  cases bs with
  | nil =>
    refine dK (A:=fun Q=>Q (.str []) ⟨S.hp,Nat.add S.next 12⟩) (pe':=[]) rfl (fun Q hQ=>by (conv=>whnf);exact hQ) (fun Q hQ=>by (conv=>whnf);exact hQ) ?_;refine n_dopA ?_;refine vX ?_;refine cS (.inl kr) (.inr fun Q hQ=>by (conv=>whnf);exact hQ) rfl ?_;refine cS (.inl kr) (.inr fun Q hQ=>aA (S:=⟨S.hp,_⟩) hS (aH kr _ rfl rfl hQ)) (eG _ _ _ _ _ _) ?_;refine cS (.inl kr) (.inr fun Q hQ=>by (conv=>whnf);exact ifK_intro h0 hQ) (sQ _ _) ?_;refine cS (.inl kr) (.inr fun Q hQ=>aA (S:=⟨S.hp,_⟩) hS (aH kr _ rfl rfl hQ)) (eG _ _ _ _ _ _) ?_;refine vX ?_;refine go ?_;exact hk _ ⟨fun _ _ _=>rfl,Nat.le_add_right _ _,af _⟩
  | cons c0 bs0 =>
    have hle:(c0 :: bs0).length <= 9223372036854775807:=om
    have htk:((bC (c0 :: bs0) ++ rest).drop 0).take (c0 :: bs0).length=bC (c0 :: bs0):=by rw [List.drop_zero,List.take_left' (cV _)]
    refine dK (A:=fun Q=>bD m (some (.cells (bC (c0 :: bs0) ++ rest) 5 .ro)) ⟨S.hp,Nat.add S.next 12⟩ fun S'=>Q (.str (c0 :: bs0)) S') (pe':=[]) rfl (fun Q hQ=>by (conv=>whnf);exact hQ) (fun Q hQ=>by
     (conv=>whnf)
     refine ifK_intro (ag hle) ?_
     (conv=>whnf)
     refine aA x6' ?_;refine ifK_intro kr (ifK_intro kr ?_);refine (show ∀ {q:Prop},q->wrK .rw q from fun h=>h) ?_;refine bY (ai _) ?_;refine bJ (by simp [bC]) ?_;rw [htk]
     exact fG hQ) ?_
    refine aE x3 fun S2 hS2=>?_;refine n_dopA ?_;refine vX ?_;refine cS (.inl kr) (.inr fun Q hQ=>by (conv=>whnf);exact hQ) (gN _ _) ?_;refine cS (.inl kr) (.inr fun Q hQ=>aA (S:=⟨S.hp,_⟩) hS (aH kr _ rfl rfl hQ)) (eG _ _ _ _ _ _) ?_;refine cS (.inl kr) (.inr fun Q hQ=>by (conv=>whnf);exact ifK_intro h0 hQ) (sQ _ _) ?_;refine cS (.inl kr) (.inr fun Q hQ=>aA (S:=⟨S.hp,_⟩) hS (aH kr _ rfl rfl hQ)) (eG _ _ _ _ _ _) ?_;refine vX ?_;refine go ?_;have hn2:S2.next=S.next+12:=aK hS2;exact hk _ ⟨fun id h1 _=>by rw [aB hS2 om];rfl,om,om⟩
end
section
attribute [local irreducible] aO bK cM bD
theorem aMh {v:List UInt8}(h:v ∈ jG){S:St}{k:V->St->Prop}(hk:k (.tup [.str (mM v),.int .i64 0]) S):RC Tryz.prog 64 [.str v] S k:=by
 simp only [jG,av,List.not_mem_nil,or_false] at h
 rcases h with rfl|rfl|rfl|rfl|rfl|rfl|rfl
 all_goals exact RC.kern 60 kr hk
def aDF:List V:=[.int .u8 92,.int .u8 92,.int .u8 10,.int .u8 110,.int .u8 34,.int .u8 34]
theorem aMb {S:St}{k:V->St->Prop}(hk:k (.agg aDF) S):RC Tryz.prog 178 [] S k:=RC.kern 10 kr hk
theorem aTx:bB Tryz.prog 175 76 [.tmp 6,.tmp 7,.tmp 8] (aL Tryz.f175):=fq Tryz.f175
theorem aDj:∀ (v:List UInt8) (j:Nat) (hj:j < v.length),∃ r,gY v=gY (v.take j) ++ (vS v[j] ++ r)
 | c :: v,0,_=>⟨gY v,rfl⟩
 | c :: v,j+1,hj=>by
   obtain ⟨r,h⟩:=aDj v j (by simpa using hj);exact ⟨r,by simp only [gY,List.take_succ_cons,List.getElem_cons_succ];rw [h,List.append_assoc]⟩
theorem aFZ (c:UInt8):0 < (vS c).length:=by unfold vS;split <;> (try split) <;> (try split) <;> simp
theorem zI:∀ a b:List UInt8,gY (a ++ b)=gY a ++ gY b
 | [],_=>rfl
 | c :: a,b=>by simp [gY,zI a b]
theorem aBf:∀ v:List UInt8,(gY v).length <= 2 * v.length
 | []=>af _
 | c :: v=>by
   have h:=aBf v
   have:(vS c).length <= 2:=by unfold vS;split <;> (try split) <;> (try split) <;> simp
   simp only [gY,aq,au];omega
theorem uU {S1 S2 S3 S4:St}{o:O}{o':Option O}(h2:S2.hs=S1.hs.new o)(h3:S3.hs=S2.hs.put S1.next o')(h4:S4=⟨S3.hp,Nat.add S3.next 6⟩):(∀ id,id < S1.next->S4.hs.get id=S1.hs.get id)∧S4.next=S1.next+7:=by
 have h5:=aF h2;have h6:=aK h3;subst h4;refine ⟨fun id h=>?_,by show S3.next+6=_;omega⟩;show S3.hs.get id=_;rw [aB h3 om,aC h2 om]
theorem aPg {v r:List UInt8}(hv:∀ c ∈ v,c.toNat ≠ 34∧c.toNat ≠ 92)(hvl:v.length <= 100)(hr:r.length <= 100000){S:St}{k:V->St->Prop}(hk:k (.tup [.str v,.int .i64 (.ofNat (gY v).length),.int .i64 0]) S):RC Tryz.prog 175 [.str (gY v ++ 34 :: r),.int .i64 3,.bool true] S k:=by
 refine RC.pure mixed aTx (v:=.tup [.str v,.int .i64 (.ofNat (gY v).length),.int .i64 0]) hk ?_;clear hk;have hn0:(⟨.nil,aI⟩:St).next=1000:=rfl;generalize (⟨.nil,aI⟩:St)=S0 at *;have hroom:room=4096:=rfl;refine enter ?_;refine go ?_;refine aD om fun S1 hS1=>?_;refine go ?_;refine aMb ?_;refine go ?_;have hn1:=aF hS1;refine aD om fun S2 hS2=>?_;have hn2:=aF hS2;refine go ?_;refine aA (aJ hS2) ?_;refine go ?_
 conv=>whnf
 refine aE om fun S3 hS3=>?_;have hn3:=aK hS3;have hA0:S3.hs.get S1.next=some (.cells aDF 271 .ex):=aR hS3;have hB0:Bld 1002 S3 1000 []:=⟨om,om,.nilPtr,.nilSlice,.inl rfl,by rw [aB hS3 om,aC hS2 om,<- hn0];exact aJ hS1,.inl ⟨rfl,rfl⟩⟩
 rw [show S1.next=1001 by omega] at hA0 ⊢;rw [show S0.next=1000 by omega];have hnx:S3.next=1002:=om;clear hS1 hS2 hS3 hn0 hn1 hn2 hn3;clear S0 S1 S2;refine go ?_;have hs10:∀ j,j <= v.length->(gY (v.take j)).length <= 2 * j:=fun j hj=>bg (aBf _) (by rw [bh];omega)
 have hsl:(gY v ++ 34 :: r).length <= 100300:=by have:=aBf v;simp only [aq,au];omega
 have hat:∀ (j:Nat) (hj:j < v.length),(gY v ++ 34 :: r)[(gY (v.take j)).length]?=(vS v[j])[0]?∧(vS v[j]).length+(gY (v.take j)).length < (gY v ++ 34 :: r).length∧(1 < (vS v[j]).length->(gY v ++ 34 :: r)[(gY (v.take j)).length+1]?=(vS v[j])[1]?)∧(gY (v.take (j+1))).length=(gY (v.take j)).length+(vS v[j]).length:=fun j hj=>by
  obtain ⟨x,h⟩:=aDj v j hj;have h0:=aFZ v[j];refine ⟨?_,?_,fun h1=>?_,?_⟩
  ·rw [h,List.append_assoc,List.getElem?_append_right (af _),Nat.sub_self,List.append_assoc,List.getElem?_append_left h0]
  ·rw [h];simp only [aq,au];omega
  ·rw [h,List.append_assoc,List.getElem?_append_right om,Nat.add_sub_cancel_left,List.append_assoc,List.getElem?_append_left h1]
  ·rw [an hj,zI,aq];simp [gY]
 have hend:(gY v ++ 34 :: r)[(gY v).length]?=some 34:=by simp
 generalize hs:gY v ++ 34 :: r=s at *
 refine LP.induct v.length (fun j E S'=>j <= v.length∧Kn E 76 [(0,.str s),(1,.int .i64 3),(2,.bool true),(9,.ptr 1000 0),(10,.ptr 1001 0),(11,.int .i64 (.ofNat (gY (v.take j)).length)),(12,.int .i64 222)]∧Bld 1002 S' 1000 (v.take j)∧S'.hs.get 1001=some (.cells aDF 271 .ex)∧1002 <= S'.next∧S'.next <= 1002+30 * j)
  ⟨ai _,kq,hB0,hA0,om,om⟩ ?_
 rintro j E S1 ⟨hj,hf,hB,hA,hn1,hn2⟩ ih;refine LP.kn mixed hf ?_;have hi2:=hs10 j hj;by_cases hjl:j < v.length
 ·obtain ⟨e1,e2,e3,e4⟩:=hat j hjl;have hc:=hv v[j] (az hjl);have etk:v.take (j+1)=v.take j ++ [v[j]]:=an hjl;rw [e4,etk] at ih;generalize (gY (v.take j)).length=i at *
  have hwl:(v.take j).length <= 100:=by rw [bh];omega
  generalize v.take j=w at *;generalize v[j]=c at *;have e0:=aFZ c;refine go ?_;refine bE (fun _=>?_) (fun h=>absurd h (by rw [aM];omega));refine go ?_;by_cases h10:c=10
  ·subst h10;have e5:s[i+1]?=some 110:=e3 dc;have e6:(vS 10).length=2:=rfl;rw [e6] at ih e2;refine bU _ (vF e1) ?_;refine go ?_;refine bI (i+1) ?_;refine go ?_;refine bO (fun h=>absurd h (by rw [aM];omega)) (fun _=>?_);refine go ?_;refine aA hA ?_
   conv=>whnf
   refine go ?_;refine LP.one mixed ?_;refine go ?_;refine aA hA ?_;unfold cR
   conv=>whnf
   refine go ?_;refine aD om fun S1a hS1a=>?_;refine go ?_;refine aA (aJ hS1a) ?_
   conv=>whnf
   refine aE om fun S1b hS1b=>?_;have pS1b:=aR hS1b;refine go ?_;refine jO ?_;refine aV rfl (by intro Q hQ;(conv=>whnf);exact hQ) ?_;refine aV rfl (by intro Q hQ;(conv=>whnf);exact hQ) ?_;refine aV (v:=.int .u8 (.ofNat 110)) rfl (fun Q hQ=>by (conv=>whnf);exact bU _ (vF e5) (by (conv=>whnf);exact aP hQ)) ?_;refine aV rfl (by intro Q hQ;(conv=>whnf);exact aP hQ) ?_;refine dE (v:=.int .u8 92) rfl (fun Q hQ=>aA (S:=⟨S1b.hp,_⟩) pS1b (aH kr _ rfl rfl hQ)) ?_;refine aV (v:=.bool false) rfl (fun Q hQ=>by (conv=>whnf);exact aBi hQ) ?_;refine zG ?_;refine aGz ?_;refine lY sm (by intro Q hQ;exact aA (S:=⟨S1b.hp,_⟩) pS1b (aH kr _ rfl rfl hQ)) (gN _ _) (.inl rfl) ?_;refine jA ?_;refine iQ ?_;refine yG (S1:=⟨S1b.hp,Nat.add S1b.next 6⟩) (fun Q hQ=>by (conv=>whnf);exact hQ) ?_;obtain ⟨kS1c,qS1c⟩:=uU hS1a hS1b rfl;have pS1c:(⟨S1b.hp,Nat.add S1b.next 6⟩:St).hs.get S1.next=_:=pS1b;generalize (⟨S1b.hp,Nat.add S1b.next 6⟩:St)=S1c at *
   have AS1c:S1c.hs.get 1001=some (.cells aDF 271 .ex):=by rw [kS1c 1001 om];exact hA
   have BS1c:=hB.keep kS1c om;refine go ?_;refine bI 1 ?_;refine go ?_;refine LP.one mixed ?_;refine go ?_;refine aA AS1c ?_;unfold cR
   conv=>whnf
   refine go ?_;refine aD om fun S1ca hS1ca=>?_;refine go ?_;refine aA (aJ hS1ca) ?_
   conv=>whnf
   refine aE om fun S1cb hS1cb=>?_;have pS1cb:=aR hS1cb;refine go ?_;refine jO ?_;refine aV rfl (by intro Q hQ;(conv=>whnf);exact hQ) ?_;refine aV rfl (by intro Q hQ;(conv=>whnf);exact hQ) ?_;refine aV (v:=.int .u8 (.ofNat 110)) rfl (fun Q hQ=>by (conv=>whnf);exact bU _ (vF e5) (by (conv=>whnf);exact aP hQ)) ?_;refine aV rfl (by intro Q hQ;(conv=>whnf);exact aP hQ) ?_;refine dE (v:=.int .u8 110) rfl (fun Q hQ=>aA (S:=⟨S1cb.hp,_⟩) pS1cb (aH kr _ rfl rfl hQ)) ?_;refine aV (v:=.bool true) rfl (fun Q hQ=>by (conv=>whnf);exact aBi hQ) ?_;refine zG ?_;refine aGz ?_;refine lY sm (by intro Q hQ;exact aA (S:=⟨S1cb.hp,_⟩) pS1cb (aH kr _ rfl rfl hQ)) (gN _ _) (.inl rfl) ?_;refine jA ?_;refine iQ ?_;refine yG (S1:=⟨S1cb.hp,Nat.add S1cb.next 6⟩) (fun Q hQ=>by (conv=>whnf);exact hQ) ?_;obtain ⟨kS1cc,qS1cc⟩:=uU hS1ca hS1cb rfl;have pS1cc:(⟨S1cb.hp,Nat.add S1cb.next 6⟩:St).hs.get S1c.next=_:=pS1cb;generalize (⟨S1cb.hp,Nat.add S1cb.next 6⟩:St)=S1cc at *
   have AS1cc:S1cc.hs.get 1001=some (.cells aDF 271 .ex):=by rw [kS1cc 1001 om];exact AS1c
   have BS1cc:=BS1c.keep kS1cc om;refine go ?_;refine aA pS1cc ?_;refine go ?_;refine aPF (c:=10) BS1cc om om om fun S1cd hS1cd BS1cd=>?_;have l1S1c:=hS1cd.lo;have l2S1c:=hS1cd.hi;have AS1cd:=hS1cd.at AS1cc om om;refine go ?_;refine bI 2 ?_;refine go ?_;refine LP.one mixed ?_;refine go ?_;refine aA AS1cd ?_;unfold cR
   conv=>whnf
   refine go ?_;refine aD om fun S1cda hS1cda=>?_;refine go ?_;refine aA (aJ hS1cda) ?_
   conv=>whnf
   refine aE om fun S1cdb hS1cdb=>?_;have pS1cdb:=aR hS1cdb;refine go ?_;refine jO ?_;refine aV rfl (by intro Q hQ;(conv=>whnf);exact hQ) ?_;refine aV rfl (by intro Q hQ;(conv=>whnf);exact hQ) ?_;refine aV (v:=.int .u8 (.ofNat 110)) rfl (fun Q hQ=>by (conv=>whnf);exact bU _ (vF e5) (by (conv=>whnf);exact aP hQ)) ?_;refine aV rfl (by intro Q hQ;(conv=>whnf);exact aP hQ) ?_;refine dE (v:=.int .u8 34) rfl (fun Q hQ=>aA (S:=⟨S1cdb.hp,_⟩) pS1cdb (aH kr _ rfl rfl hQ)) ?_;refine aV (v:=.bool false) rfl (fun Q hQ=>by (conv=>whnf);exact aBi hQ) ?_;refine zG ?_;refine aGz ?_;refine lY sm (by intro Q hQ;exact aA (S:=⟨S1cdb.hp,_⟩) pS1cdb (aH kr _ rfl rfl hQ)) (gN _ _) (.inl rfl) ?_;refine jA ?_;refine iQ ?_;refine yG (S1:=⟨S1cdb.hp,Nat.add S1cdb.next 6⟩) (fun Q hQ=>by (conv=>whnf);exact hQ) ?_;obtain ⟨kS1cdc,qS1cdc⟩:=uU hS1cda hS1cdb rfl;have pS1cdc:(⟨S1cdb.hp,Nat.add S1cdb.next 6⟩:St).hs.get S1cd.next=_:=pS1cdb;generalize (⟨S1cdb.hp,Nat.add S1cdb.next 6⟩:St)=S1cdc at *
   have AS1cdc:S1cdc.hs.get 1001=some (.cells aDF 271 .ex):=by rw [kS1cdc 1001 om];exact AS1cd
   have BS1cdc:=BS1cd.keep kS1cdc om;refine go ?_;refine bI 3 ?_;refine go ?_;refine LP.one mixed ?_;refine go ?_;refine bI (i+2) ?_;refine go ?_;exact ih _ _ hjl ⟨hjl,kq,BS1cdc,AS1cdc,om,om⟩
  ·have hb:vS c=[c]:=by
    unfold vS;rw [if_neg (fun h=>hc.2 (by rw [h];rfl)),if_neg h10,if_neg (fun h=>hc.1 (by rw [h];rfl))]
   rw [hb] at e1 e2 e3 e4 ih;refine bU _ (vF e1) ?_;refine go ?_;refine bO (fun h=>absurd (UInt8.toNat_inj.1 h) h10) (fun _=>?_);refine go ?_;refine bO (fun h=>absurd h hc.1) (fun _=>?_);refine go ?_;refine bO (fun h=>absurd h hc.2) (fun _=>?_);refine go ?_;refine aPF hB om (by have:=hwl;omega) om fun S2 hA2 hB2=>?_;refine go ?_;refine bI (i+1) ?_;refine go ?_;have:=hA2.lo;have:=hA2.hi;exact ih _ _ hjl ⟨hjl,kq,hB2,hA2.at hA om om,om,om⟩
 ·have hje:j=v.length:=om;subst hje;rw [List.take_length] at hf hB ⊢;refine go ?_;refine bE (fun _=>?_) (fun h=>absurd h (by have:=(ao.1 hend).1;rw [aM];omega));refine go ?_;refine bU _ (vF hend) ?_;refine go ?_;refine vI hB om fun S2 hA2=>?_;refine go ?_;exact rfl
theorem zZ {v:List UInt8}(h:v ∈ jG):(∀ c ∈ v,c.toNat ≠ 34∧c.toNat ≠ 92)∧v.length <= 100:=by
 simp only [jG,av,List.not_mem_nil,or_false] at h
 rcases h with rfl|rfl|rfl|rfl|rfl|rfl|rfl <;> decide
theorem aXh:bB Tryz.prog 214 52 [.tmp 4,.tmp 5,.tmp 6] (aL Tryz.f214):=fq Tryz.f214
theorem aCM {v r:List UInt8}(h:v ∈ jG)(hr:r.length <= 65000){S:St}{k:V->St->Prop}(hk:k (.tup [.str v,.int .i64 (.ofNat (mM v).length),.int .i64 0]) S):RC Tryz.prog 214 [.str (mM v ++ r),.int .i64 0] S k:=by
 have hl:=aBQ h;have hread:=fun (k:V->St->Prop) hk=>aPg (r:=r) (k:=k) (S:=S) (zZ h).1 (zZ h).2 om hk
 have e1:mM v ++ r=34 :: (gY v ++ 34 :: r):=by simp [mM]
 have e2:(mM v).length=(gY v).length+2:=by simp [mM]
 have e3:(gY v ++ 34 :: r).length <= 65100:=by simp only [mM,au,aq,List.length_nil] at hl ⊢;omega
 rw [e1];rw [e2] at hk;generalize gY v ++ 34 :: r=t at *;have hn:(gY v).length <= 5:=om;generalize (gY v).length=n at *;refine RC.run mixed aS (aG aXh ?_);refine enter ?_;refine go ?_;refine bE (fun h=>absurd h (by rw [aM,au];show ¬ 65536 < _;omega)) (fun _=>?_);refine go ?_;refine bO (a:=0) (fun h=>absurd h (by rw [aM,au];omega)) (fun _=>?_);refine go ?_;refine bI 1 ?_;refine go ?_;refine cT (s:=34 :: t) (l:=1) sm ?_;refine go ?_;refine hread _ ?_;refine go ?_;refine bI 1 ?_;refine go ?_;refine bI (1+n) ?_;refine go ?_;refine bI (1+n+1) ?_;refine go ?_;rw [show 1+n+1=n+2 by omega];exact hk
end
theorem aRQ {f:UInt8->Bool}:∀ {s:List UInt8},(∀ c r,s=c :: r->f c=false)->mN f s=0
 | [],_=>rfl
 | c :: r,h=>sH (j:=0) sm (fun _=>h c r rfl) (ai _)
theorem aJo {f:UInt8->Bool}{w r:List UInt8}{d:UInt8}(hw:w.all f=true)(hd:f d=false):mN f (w ++ d :: r)=w.length :=
 sH (by rw [List.take_left];exact hw) (fun _=>by rw [List.getElem_append_right (af _)];simpa using hd) sm
theorem aUh {f:UInt8->Bool}{w:List UInt8}(hw:w.all f=true):mN f w=w.length :=
 sH (by rw [List.take_length];exact hw) (fun h=>absurd h (Nat.lt_irrefl _)) (af _)
theorem gU {p:Nat}{s:List UInt8}{S:St}(h:jL S p s)(h0:∀ c r,s=c :: r->dS c.toNat=false){k:V->St->Prop}(hk:∀ S',Grew S S' p 0->jL S' p s->k (.tup []) S'):RC Tryz.prog 120 [.ptr p 0] S k :=
 aAQ h fun S' e fl hfl hS=>by
  rw [aRQ h0,List.drop_zero] at hS;exact hk S' ((Grew.refl S p 0).put hS (.inl rfl)) (h.step hfl hS)
theorem yU {p:Nat}{s:List UInt8}{S:St}(h:jL S p (32 :: s))(h0:∀ c r,s=c :: r->dS c.toNat=false){k:V->St->Prop}(hk:∀ S',Grew S S' p 0->jL S' p s->k (.tup []) S'):RC Tryz.prog 120 [.ptr p 0] S k :=
 aAQ h fun S' e fl hfl hS=>by
  have:mN (fun c=>dS c.toNat) (32 :: s)=1:=sH (p:=fun c=>dS c.toNat) (s:=32 :: s) (j:=1) (by simp;rfl) (fun h1=>by
   cases s with
   | nil=>simp at h1
   | cons c r=>exact h0 c r rfl) sm
  rw [this] at hS;exact hk S' ((Grew.refl S p 0).put hS (.inl rfl)) (h.step hfl hS)
theorem xD {p:Nat}{c:UInt8}{s:List UInt8}{S:St}(h:jL S p (c :: s)){k:V->St->Prop}(hk:∀ S',Grew S S' p 0->jL S' p s->k (.bool true) S'):RC Tryz.prog 121 [.ptr p 0,.int .u8 (.ofNat c.toNat)] S k :=
 aNv h fun S' e fl hfl hS=>hk S' ((Grew.refl S p 0).put hS (.inl rfl)) (h.step hfl hS)
theorem aAy {p:Nat}{c:UInt8}{s:List UInt8}{S:St}(h:jL S p s)(hn:∀ d r,s=d :: r->d.toNat ≠ c.toNat){k:V->St->Prop}(hk:k (.bool false) S):RC Tryz.prog 121 [.ptr p 0,.int .u8 (.ofNat c.toNat)] S k:=by
 obtain ⟨e,fl,hfl,hS⟩:=h.at';refine RC.run mixed aS (aG aNS ?_);refine enter ?_;refine go ?_;refine aA hS ?_;refine go ?_
 cases s with
 | nil =>
   refine go ?_;exact hk
 | cons d r =>
   refine go ?_;refine aA hS ?_;refine go ?_;refine bO (fun h=>absurd h (hn d r rfl)) (fun _=>?_);refine go ?_;exact hk
theorem aKf {p:Nat}{x d:UInt8}{w r:List UInt8}{S:St}(h:jL S p (w ++ d :: r))(hw:w.all (nmB x)=true)(hd:nmB x d=false)(hl:(w ++ d :: r).length < 9223372036854775807){k:V->St->Prop}(hk:∀ S',Grew S S' p 0->jL S' p (d :: r)->k (.str w) S'):RC Tryz.prog 123 [.ptr p 0,.int .u8 (.ofNat x.toNat)] S k :=
 aOD hl h fun S' e fl hfl hS=>by
  rw [aJo hw hd,List.drop_left] at hS;rw [aJo hw hd,List.take_left];exact hk S' ((Grew.refl S p 0).put hS (.inl rfl)) (h.step hfl hS)
theorem aKJ {p:Nat}{w r:List UInt8}{S:St}(h:jL S p (w ++ r))(hw:w.all (fun c=>!dS c.toNat)=true)(hr:r=[] ∨ ∃ r',r=32 :: r')(hl:(w ++ r).length < 9223372036854775807)(ha:∀ c ∈ w ++ r,c.toNat < 128){k:V->St->Prop}(hk:∀ S',Grew S S' p 0->jL S' p r->k (.str w) S'):RC Tryz.prog 122 [.ptr p 0] S k :=
 aPH hl ha h fun S' e fl hfl hS=>by
  have:mN (fun c=>!dS c.toNat) (w ++ r)=w.length:=by
   rcases hr with rfl|⟨r',rfl⟩
   ·rw [bf];exact aUh hw
   ·exact aJo hw rfl
  rw [this,List.drop_left] at hS;rw [this,List.take_left];exact hk S' ((Grew.refl S p 0).put hS (.inl rfl)) (h.step hfl hS)
theorem aNV:bB Tryz.prog 167 33 [.tmp 2,.tmp 3] (aL Tryz.f167):=fq Tryz.f167
theorem aIX {p:Nat}{v r:List UInt8}{S:St}(h:jL S p (mM v ++ r))(hv:v ∈ jG)(hr:r.length <= 65000){k:V->St->Prop}(hk:∀ S',Grew S S' p 0->jL S' p r->k (.tup [.str v,.bool true]) S'):RC Tryz.prog 167 [.ptr p 0] S k:=by
 obtain ⟨e,fl,hfl,hS⟩:=h.at';have hX:v ∈ iB:=List.mem_append.2 (.inl (aHp hv).1);have hrd:=fun (k:V->St->Prop) hk=>aCM (k:=k) (S:=S) hv hr hk;have hd:(mM v ++ r).drop (mM v).length=r:=List.drop_left
 have hlen:(mM v).length <= (mM v ++ r).length:=by simp
 generalize mM v ++ r=s at *;generalize (mM v).length=n at *;refine RC.run mixed aS (aG aNV ?_);refine enter ?_;refine go ?_;refine aA hS ?_;refine go ?_;refine hrd _ ?_;refine go ?_;refine aPD hX ?_;refine go ?_;refine aA hS ?_;refine go ?_;refine cT hlen ?_;rw [hd];refine go ?_;refine aA hS ?_;refine bH (v:=.str r) rfl hfl kr rfl (Nat.zero_lt_one) ?_;refine aE h.lt fun S2 hS2=>?_;refine go ?_;exact hk S2 ((Grew.refl S p 0).put hS2 (.inl rfl)) (h.step hfl hS2)
end Go.Am
namespace Go.Am
open Go.Proofs
section
attribute [local irreducible] fN fI fB cR eQ aO evOps evCode drOps fU sl
theorem f90:bB Tryz.prog 90 46 [.cell 4 177,.cell 5 3,.cell 6 43] (aL Tryz.f90):=fq Tryz.f90
theorem f131:bB Tryz.prog 131 6 [.tmp 4] (aL Tryz.f131):=fq Tryz.f131
theorem f176:bB Tryz.prog 176 37 [] (aL Tryz.f176):=fq Tryz.f176
end
end Go.Am
namespace Go.Am
open Go.Proofs
attribute [local irreducible] fN fI fB cR eQ aO evCode evOps rD kOp aAj wF wH wG kGc aLE aLD kDr kMg drOps fU kK sl
theorem f58:bB Tryz.prog 58 38 [.tmp 4,.tmp 5,.tmp 6] (aL Tryz.f58):=fq Tryz.f58
theorem f26:bB Tryz.prog 26 72 [.cell 4 49,.tmp 5,.tmp 6] (aL Tryz.f26):=fq Tryz.f26
theorem pQ:aW ∈ dF:=by decide
theorem aEU {l:List aY}(h:l ≠ []):mL l=[.cells (cellsOf l) 34 .rw]:=by cases l with|nil=>exact absurd rfl h|cons=>rfl
theorem kO {l:List aY}(h:l ≠ [])(n:Nat):mD l n=.slice n 0 l.length l.length 2 false:=by cases l with|nil=>exact absurd rfl h|cons=>rfl
theorem kF.filt {l:List aY}(h:kF l){f:aY->Bool}:kF (l.filter f):=⟨fun q hq=>h.name q (List.mem_filter.1 hq).1,fun q hq=>h.val q (List.mem_filter.1 hq).1,fun q hq=>h.full q (List.mem_filter.1 hq).1,h.asc.filter _⟩
theorem tF {s:List UInt8}(h:s ∈ jD):s ∈ iB:=List.mem_append.2 (.inr h)
theorem aEO {s:List UInt8}(h:s ∈ jD):s ≠ []:=by
 simp only [jD,av,List.mem_nil_iff,or_false] at h
 rcases h with rfl|rfl|rfl|rfl|rfl|rfl|rfl|rfl <;> simp
noncomputable def tZ (tg sm:List aY):eY × Nat:=[(aW,getL aW (kW tg sm))].foldl cK (((kW tg sm).filter fun q=>!eP q.1).foldl cK ([],0))
end Go.Am
namespace Go.Am
open Go.Proofs
section
attribute [local irreducible] fN fI fB cR eQ aO evOps evCode drOps fU sl
theorem f40:bB Tryz.prog 40 10 [.tmp 4] (aL Tryz.f40):=fq Tryz.f40
noncomputable def xS (a b:List UInt8):Int:=if jJ a b=true then Int.negSucc 0 else if a=b then 0 else 1
theorem RC.use0 {P:Program}{g:FuncId}{l:List V}{S:St}{v:V}{k:V->St->Prop}(h:RC P g l S fun r S'=>r=v∧S'=S)(hk:k v S):RC P g l S k:=by
 cases h with
 | mk v' S' h1 h2 =>
   obtain ⟨rfl,rfl⟩:=h2;exact .mk _ _ h1 hk
theorem aTi (a b:List UInt8)(S:St):RC Tryz.prog 149 [.str a,.str b] S fun r S'=>r=.int .i64 (xS a b)∧S'=S:=by
 refine RC.run mixed aS ?_;generalize hK:(fun r S'=>r=V.int .i64 (xS a b)∧S'=S)=K
 conv=>whnf
 refine bX (fun h=>?_) (fun h=>?_)
 ·rw [<- hK];exact ⟨by unfold xS;rw [if_pos h],rfl⟩
 ·refine bX (fun h2=>?_) (fun h2=>?_)
  ·rw [cY] at h2;rw [<- hK];exact ⟨by unfold xS;rw [if_neg (by rw [h];simp),if_pos (eq_of_beq h2)],rfl⟩
  ·rw [cY] at h2;rw [<- hK];exact ⟨by unfold xS;rw [if_neg (by rw [h];simp),if_neg (fun e=>by rw [e] at h2;simp at h2)],rfl⟩
attribute [local semireducible] fN fI fB cR eQ aO evOps evCode drOps fU sl
theorem aUI (a b:List UInt8)(S:St):RC Tryz.prog 112 [.str a,.str b] S fun r S'=>r=.int .i64 (xS a b)∧S'=S:=by
 refine RC.run mixed aS ?_;generalize hK:(fun r S'=>r=V.int .i64 (xS a b)∧S'=S)=K
 conv=>whnf
 refine (aTi a b S).use0 ?_
 conv=>whnf
 rw [<- hK];exact ⟨rfl,rfl⟩
theorem aUH (a b:List UInt8)(S:St):RC Tryz.prog 73 [.str a,.str b] S fun r S'=>r=.int .i64 (xS a b)∧S'=S:=by
 refine RC.run mixed aS ?_;generalize hK:(fun r S'=>r=V.int .i64 (xS a b)∧S'=S)=K
 conv=>whnf
 refine (aUI a b S).use0 ?_
 conv=>whnf
 rw [<- hK];exact ⟨rfl,rfl⟩
attribute [local irreducible] fN fI fB cR eQ aO evOps evCode drOps fU sl
theorem aAT (p q:aY){S:St}{k:V->St->Prop}(hk:k (.int .i64 (xS p.1 q.1)) S):RC Tryz.prog 40 [.agg [.str p.1,.str p.2],.agg [.str q.1,.str q.2]] S k:=by
 refine RC.read mixed f40 (l:=[.agg [.str p.1,.str p.2],.agg [.str q.1,.str q.2]]) [] [] [] [] (v2:=.int .i64 (xS p.1 q.1)) sm rfl rfl sm sm (.cons (.agg (.cons (.str _) (.cons (.str _) .nil))) (.cons (.agg (.cons (.str _) (.cons (.str _) .nil))) .nil)) sm ?_ hk;generalize hK:aAC _ _ _ _ _ _ _=K;apply aDO
 ·intro Q hQ
  conv=>whnf
  exact hQ
 apply aRC
 ·intro Q hQ
  conv=>whnf
  exact hQ
 intro K0 hK0;unfold aL
 conv=>arg 7;whnf
 repeat(first|((first|refine aKt ?_|refine aDN ?_|refine aKr ?_|refine yR ?_);intro _ _)|refine aGZ ?_|refine aOR ?_|refine aJN ‹_› ?_|refine aBe ‹_› ?_|refine aFT ‹_› ?_|refine aJO ‹_› ?_|refine aHa ?_|refine aGY ?_|refine aKs ?_|refine aDP ?_|refine aBY (fun Q hQ=>by (conv=>whnf);exact hQ) ?_|refine yS (fun Q hQ=>by (conv=>whnf);exact hQ) ?_|(apply aKl;(·intro _ _ hy;(conv=>whnf);exact hy);(·intro Q hQ;(conv=>whnf);repeat(first|exact hQ|((first|refine kN (by first|rfl|assumption) ?_|refine lG (by first|rfl|assumption) ?_|refine aP ?_|refine bR ?_|unfold cR);(conv=>whnf))));(·intro Q hQ;(conv=>whnf);exact hQ))|(apply aKk;(·intro _ _ hy;(conv=>whnf);exact hy);(·intro Q hQ;(conv=>whnf);exact hQ)))
 apply aRh
 ·(intro _ _ hy;(conv=>whnf);exact hy)
 intro Q hQ
 conv=>whnf
 refine (aUH _ _ _).use0 ?_;rw [hQ]
 conv=>whnf
 repeat(first|((first|refine aKt ?_|refine aDN ?_|refine aKr ?_|refine yR ?_);intro _ _)|refine aGZ ?_|refine aOR ?_|refine aJN ‹_› ?_|refine aBe ‹_› ?_|refine aFT ‹_› ?_|refine aJO ‹_› ?_|refine aHa ?_|refine aGY ?_|refine aKs ?_|refine aDP ?_|refine aBY (fun Q hQ=>by (conv=>whnf);exact hQ) ?_|refine yS (fun Q hQ=>by (conv=>whnf);exact hQ) ?_|(apply aKl;(·intro _ _ hy;(conv=>whnf);exact hy);(·intro Q hQ;(conv=>whnf);repeat(first|exact hQ|((first|refine kN (by first|rfl|assumption) ?_|refine lG (by first|rfl|assumption) ?_|refine aP ?_|refine bR ?_|unfold cR);(conv=>whnf))));(·intro Q hQ;(conv=>whnf);exact hQ))|(apply aKk;(·intro _ _ hy;(conv=>whnf);exact hy);(·intro Q hQ;(conv=>whnf);exact hQ)))
 conv=>whnf
 rw [<- hK];exact ⟨[],bj,sm,.int _ _,trivial,trivial⟩
end
end Go.Am
namespace Go.Am
open Go.Proofs
attribute [local irreducible] fN fI fB cR eQ aO evCode evOps rD kOp aAj wF wH wG kGc aLE aLD kDr kMg drOps fU kK sl
section
theorem f44:bB Tryz.prog 44 2 [.tmp 0] (aL Tryz.f44):=fq Tryz.f44
theorem f20:bB Tryz.prog 20 60 [.tmp 2] (aL Tryz.f20):=fq Tryz.f20
def fH:List (List UInt8)->List V
 | []=>[]
 | s :: l=>.str s :: fH l
theorem yV:∀ (l:List (List UInt8)) (i:Nat),(fH l)[i]?=(l[i]?).map .str
 | [],i=>by simp [fH]
 | s :: l,0=>rfl
 | s :: l,i+1=>by simpa [fH] using yV l i
theorem oF (l:List (List UInt8)){i:Nat}(h:i < l.length):(fH l)[i]?=some (.str (l.getD i [])):=by
 rw [yV];simp [List.getD,h]
theorem tL {R:Nat->Nat->Prop}:∀ l:List (List UInt8),mJ R (fH l) (fH l)
 | []=>.nil
 | s :: l=>.cons (.str s) (tL l)
theorem aDA {S:St}{k:V->St->Prop}(hk:bK (.cells (fH bW) 9 .rw) S fun id S'=>k (.slice id 0 16 16 1 true) S'):RC Tryz.prog 44 [] S k:=by
 refine RC.read mixed f44 (l:=[]) [] [] [] [.cells (fH bW) 9 .rw] (v2:=.slice S.next 0 16 16 1 true) sm rfl rfl sm sm .nil ?_ ?_ (mZ hk)
 ·rintro (_|a) o h
  ·simp at h;subst h;rfl
  ·simp at h
 ·show dJ _ ⟨T.nil,aI+0⟩ _;refine build ?_;refine enter ?_;refine goB ?_;exact ⟨[_],eE _,fun g hg=>by rw [ay] at hg;subst hg;exact ae rfl,.slice _ _ _ _ _ _ _ (uF.new (a:=0) rfl (ae rfl) sm) (.inl rfl) (af _) (fun h=>⟨h,rfl⟩),trivial,⟨⟨_,rfl,.cells (tL bW) (.inr (.inl rfl))⟩,trivial⟩⟩
def dR:List (Nat × Nat)->List V
 | []=>[]
 | s :: l=>.int .u8 (.ofNat s.1) :: .int .u8 (.ofNat s.2) :: dR l
theorem jS {R:Nat->Nat->Prop}:∀ l:List (Nat × Nat),mJ R (dR l) (dR l)
 | []=>.nil
 | s :: l=>.cons (.int _ _) (.cons (.int _ _) (jS l))
theorem pC:∀ l:List (Nat × Nat),(dR l).length=2 * l.length
 | []=>rfl
 | q :: l=>by simp [dR,pC l];omega
theorem zX:∀ (l:List (Nat × Nat)) (j:Nat),(dR l).drop (2 * j)=dR (l.drop j)
 | [],j=>by simp [dR]
 | q :: l,0=>rfl
 | q :: l,j+1=>by
   have:=zX l j;rw [show 2 * (j+1)=2 * j+1+1 by omega];simpa [dR] using this
theorem aRZ:pY Tryz.prog 109=some true:=kr
theorem aTF:∃ i,Tryz.prog.info? 109=some i∧i.size=2:=by
 have h:(Tryz.prog.info? 109).map (·.size)=some 2:=kr
 cases hi:Tryz.prog.info? 109 with
 | none=>rw [hi] at h;cases h
 | some i=>rw [hi] at h;exact ⟨i,rfl,by simpa using h⟩
theorem aGG {P:Program}{t:TypeId}(ha:pY P t=some true){i:TypeInfo}(hi:P.info? t=some i)(hs:i.size=2){l:List (Nat × Nat)}{j off:Nat}{q:Nat × Nat}(hq:l[j]?=some q)(ho:off=2 * j){k:V->Prop}(h:k (.agg [.int .u8 (.ofNat q.1),.int .u8 (.ofNat q.2)])):cR P t off (dR l) k:=by
 unfold cR;rw [ha];show uW P t fun n=>kM off (dR l) fun r=>fX n r fun r=>k (.agg r);unfold uW;rw [hi];show kM off (dR l) fun r=>fX i.size r fun r=>k (.agg r);rw [hs];have hlt:j < l.length:=(ao.1 hq).1;refine bY (by rw [pC];omega) ?_;rw [ho,zX]
 have hd:l.drop j=q :: l.drop (j+1):=by
  rw [List.drop_eq_getElem_cons hlt]
  congr 1
  rw [ak hlt] at hq;exact Option.some.inj hq
 rw [hd];exact h
def SV (S:St)(v:V)(s:List (Nat × Nat)):Prop:=(s=[]∧(v=.nilSlice ∨ ∃ i ex,v=.slice i 0 0 0 2 ex)) ∨ ∃ i c ex rest e fl,v=.slice i 0 s.length c 2 ex∧s.length <= c∧S.hs.get i=some (.cells (dR s ++ rest) e fl)
def mB (s:Nat × Nat):aY:=(bW.getD (s.1 % 16) [],gQ.getD (s.2 % 8) [])
def nJ (n:List UInt8):List aY->List aY
 | []=>[]
 | x :: l=>if x.1=n then l else x :: nJ n l
def iI (o:List aY)(s:Nat × Nat):List aY:=nJ (mB s).1 o ++ [mB s]
def oL (s:List (Nat × Nat)):List aY:=(s.take 40).foldl iI []
theorem aDi (n:List UInt8):∀ l:List aY,(nJ n l).length <= l.length
 | []=>af _
 | x :: l=>by
   unfold nJ
   split
   ·simp
   ·have:=aDi n l;simp;omega
theorem aBF:∀ (s:List (Nat × Nat)) (o:List aY),(s.foldl iI o).length <= o.length+s.length
 | [],o=>by simp
 | x :: s,o=>by
   have h1:=aBF s (iI o x)
   have h2:(iI o x).length <= o.length+1:=by
    unfold iI;have:=aDi (mB x).1 o;simp;omega
   simp only [List.foldl_cons,au];omega
theorem aBd {n:List UInt8}:∀ {l:List aY},(∀ x ∈ l,x.1 ≠ n)->nJ n l=l
 | [],_=>rfl
 | x :: l,h=>by
   unfold nJ;rw [if_neg (h x sm),aBd fun y hy=>h y (by simp [hy])]
theorem aBc {n:List UInt8}:∀ {l:List aY} {j:Nat} (hj:j < l.length),(∀ x ∈ l.take j,x.1 ≠ n)->l[j].1=n->nJ n l=l.take j ++ l.drop (j+1)
 | [],j,hj,_,_=>by simp at hj
 | x :: l,0,_,_,h=>by
   have:x.1=n:=h;unfold nJ;rw [if_pos this];rfl
 | x :: l,j+1,hj,hn,h=>by
   unfold nJ;rw [if_neg (hn x sm),aBc (l:=l) (j:=j) (by simpa using hj) (fun y hy=>hn y (by simp [hy])) (by simpa using h)];rfl
attribute [local irreducible] fX nH cM bK bD
theorem aCW {S:St}{id2:Nat}{q:aY}{e2:TypeId}{fl2:Fl}(hx:S.hs.get id2=some (.cells (cellsOf [q]) e2 fl2)){k:V->St->Prop}
  (hk:bK (.cells (cellsOf [q]) 34 .rw) S fun id S=>k (.slice id 0 1 1 2 false) S):aO Tryz.prog #[28,28] .nilSlice (.slice id2 0 1 1 2 true) S k:=by
 unfold aO
 conv=>whnf
 refine aA hx ?_
 conv=>whnf
 refine bJ (n:=2) (by simp [cellsOf]) ?_
 conv=>whnf
 exact hk
theorem xP {S:St}{id id2:Nat}{o:List aY}{q:aY}{e2:TypeId}{fl2:Fl}(ho:S.hs.get id=some (.cells (cellsOf o) 34 .rw))(hx:S.hs.get id2=some (.cells (cellsOf [q]) e2 fl2))(hlen:o.length < 4096){k:V->St->Prop}
  (hk:bD id none S fun S=>bK (.cells (cellsOf (o ++ [q])) 34 .rw) S fun id S=>k (.slice id 0 (o.length+1) (o.length+1) 2 false) S):aO Tryz.prog #[28,28] (.slice id 0 o.length o.length 2 false) (.slice id2 0 1 1 2 true) S k:=by
 rw [eS] at hk;unfold aO
 conv=>whnf
 refine aA hx ?_
 conv=>whnf
 refine bJ (n:=2) (by simp [cellsOf]) ?_
 conv=>whnf
 refine aP ?_
 conv=>whnf
 refine bX (fun h=>?_) (fun _=>?_)
 ·have:o.length+1 <= o.length:=ae h;omega
 conv=>whnf
 refine bX (fun _=>?_) (fun h=>?_)
 ·refine aA ho ?_
  conv=>whnf
  refine bJ (by rw [aZ];show o.length * 2 <= 2 * o.length;omega) ?_;refine bZ ?_
  conv=>whnf
  rw [bd (by rw [aZ];show 2 * o.length <= o.length * 2;omega)];exact hk
 ·have h1:Nat.ble ((o.length+1) * 33) 70368744177664=true:=ag om;exact absurd (h.symm.trans h1) sm
theorem qC:∀ (l:List aY) (j:Nat),(cellsOf l).take (2 * j)=cellsOf (l.take j)
 | [],j=>by simp [cellsOf]
 | q :: l,0=>rfl
 | q :: l,j+1=>by
   have:=qC l j;rw [show 2 * (j+1)=2 * j+1+1 by omega];simpa [cellsOf] using this
theorem aNd {S:St}{id id2:Nat}{o:List aY}{jj:Nat}{q:aY}{e2:TypeId}{fl2:Fl}(ho:S.hs.get id=some (.cells (cellsOf o) 34 .rw))(hx:S.hs.get id2=some (.cells (cellsOf [q]) e2 fl2))(hj:jj <= o.length)(hlen:o.length < 4096){k:V->St->Prop}
  (hk:bK (.cells (cellsOf (o.take jj ++ [q])) 34 .rw) S fun id S=>k (.slice id 0 (jj+1) (jj+1) 2 false) S):aO Tryz.prog #[28,28] (.slice id 0 jj jj 2 true) (.slice id2 0 1 1 2 true) S k:=by
 rw [eS] at hk;unfold aO
 conv=>whnf
 refine aA hx ?_
 conv=>whnf
 refine bJ (n:=2) (by simp [cellsOf]) ?_
 conv=>whnf
 refine aP ?_
 conv=>whnf
 refine bX (fun h=>?_) (fun _=>?_)
 ·have:jj+1 <= jj:=ae h;omega
 conv=>whnf
 refine bX (fun _=>?_) (fun h=>?_)
 ·refine aA ho ?_
  conv=>whnf
  refine bJ (by rw [aZ];show jj * 2 <= 2 * o.length;omega) ?_;refine bZ ?_
  conv=>whnf
  rw [show Nat.mul jj 2=2 * jj from Nat.mul_comm jj 2,qC];exact hk
 ·have h1:Nat.ble ((jj+1) * 33) 70368744177664=true:=ag om;exact absurd (h.symm.trans h1) sm
theorem aPV {S:St}{id off:Nat}{o:List aY}{jj:Nat}(ho:S.hs.get id=some (.cells (cellsOf o) 34 .rw))(hj:jj < o.length)(hlen:o.length < 4096)(hoff:off=2 * (jj+1)){k:V->St->Prop}
  (h1:jj+1=o.length->k (.slice id 0 jj jj 2 true) S)
  (h2:jj+1 < o.length->bK (.cells (cellsOf (o.take jj ++ o.drop (jj+1))) 34 .rw) S fun id2 S=>k (.slice id2 0 (o.take jj ++ o.drop (jj+1)).length (o.take jj ++ o.drop (jj+1)).length 2 false) S) :
  aO Tryz.prog #[28,28] (.slice id 0 jj jj 2 true) (.slice id off (o.length - (jj+1)) (o.length - (jj+1)) 2 false) S k:=by
 have hl:(o.take jj ++ o.drop (jj+1)).length=jj+(o.length - (jj+1)):=by rw [aq,bh,List.length_drop];omega
 rw [hl,eS] at h2
 have hd:(cellsOf o).drop off=cellsOf (o.drop (jj+1)):=by rw [hoff,qB]
 have hdl:(cellsOf (o.drop (jj+1))).length=2 * (o.length - (jj+1)):=by rw [aZ,List.length_drop]
 generalize hm:o.length - (jj+1)=m at *;unfold aO
 conv=>whnf
 refine aA ho ?_
 conv=>whnf
 refine bY (by rw [aZ];omega) ?_;rw [hd];refine bJ (by rw [hdl];show m * 2 <= 2 * m;omega) ?_;rw [bd (by rw [hdl];show 2 * m <= m * 2;omega)]
 conv=>whnf
 refine aP ?_
 conv=>whnf
 cases m with
 | zero =>
   refine bX (fun _=>?_) (fun h=>?_)
   ·exact h1 om
   ·have h3:Nat.ble (jj+0) jj=true:=ag (af _);exact absurd (h.symm.trans h3) sm
 | succ m =>
   refine bX (fun h=>?_) (fun _=>?_)
   ·have:jj+(m+1) <= jj:=ae h;omega
   conv=>whnf
   refine bX (fun _=>?_) (fun h=>?_)
   ·refine aA ho ?_
    conv=>whnf
    refine bJ (by rw [aZ];show jj * 2 <= 2 * o.length;omega) ?_;refine bZ ?_
    conv=>whnf
    rw [show Nat.mul jj 2=2 * jj from Nat.mul_comm jj 2,qC];exact h2 om
   ·have h4:Nat.ble ((jj+(m+1)) * 33) 70368744177664=true:=ag om;exact absurd (h.symm.trans h4) sm
attribute [local semireducible] fX nH cM bK bD
noncomputable def aWd (o:List aY)(s:List (Nat × Nat))(e:TypeId):St:=match o with
 | []=>rE [(aI,.cells (dR s) e .ro)] (aI+1)
 | q :: o=>rE [(aI,.cells (dR s) e .ro),(aI+1,.cells (cellsOf (q :: o)) 34 .rw)] (aI+2)
theorem aAv {l:List aY}{s:List (Nat × Nat)}{e:TypeId}(h:l ≠ []):aWd l s e=rE [(aI,.cells (dR s) e .ro),(aI+1,.cells (cellsOf l) 34 .rw)] (aI+2):=by cases l with|nil=>exact absurd rfl h|cons=>rfl
theorem aTQ {n:Nat}{A:V->St->Prop}{S:St}(h:A (.int .i64 (.ofNat (min n 40))) S):Bool.rec (motive:=fun _=>Prop) (A (.int .i64 (.ofNat n)) S) (A (.int .i64 40) S) (qG 40 (.ofNat n)):=by
 cases hb:qG 40 (.ofNat n)
 ·rw [bF] at hb
  have:¬ (40:Int) < (n:Int):=by simpa using hb
  rw [show min n 40=n by omega] at h;exact h
 ·rw [bF] at hb
  have:(40:Int) < (n:Int):=by simpa using hb
  rw [show min n 40=40 by omega] at h;exact h
theorem aGv {s:List (Nat × Nat)}{v:V}{S:St}(h:SV S v s){k:V->St->Prop}(hk:iX (mL (oL s)) S (k (mD (oL s) S.next))):RC Tryz.prog 20 [v] S k:=by
 obtain ⟨i40,hi40,hs40⟩:=lK;obtain ⟨i84,hi84,hs84⟩:=aTF
 rcases h with ⟨rfl,rfl|⟨i,ex,rfl⟩⟩|⟨i,cap,ex,rest,e,fl,rfl,hc,hrow⟩
 ·refine RC.read mixed f20 (l:=[.nilSlice]) [] [] [] [] (v2:=.nilSlice) sm rfl rfl sm sm (.cons .nilSlice .nil) sm ?_ hk;refine build ?_;refine enter ?_;refine goB ?_;refine LP.one mixed ?_;refine goB ?_;exact ⟨[],bj,sm,.nilSlice,trivial,trivial⟩
 ·refine RC.run mixed aS (aG f20 ?_);refine enter ?_;refine goB ?_;refine LP.one mixed ?_;refine goB ?_;exact hk
 ·refine RC.read mixed f20 (l:=[.slice aI 0 s.length s.length 2 false]) [i] [.cells (dR s ++ rest) e fl] [.cells (dR s) e .ro] (mL (oL s)) (v2:=mD (oL s) S.next) ?_ rfl rfl ?_ ?_
   (.cons (.slice _ _ _ _ _ _ _ (iC.at (a:=0) rfl sm) (.inr (af _)) hc sm) .nil) tG ?_ hk
  ·rintro (_|a) o h
   ·simp at h;subst h;rfl
   ·simp at h
  ·rintro (_|a) j o h1 h2
   ·simp at h1 h2;subst h1;subst h2;exact hrow
   ·simp at h1
  ·rintro (_|a) o1 o2 h1 h2
   ·simp at h1 h2;subst h1;subst h2;exact .part (jS s)
   ·simp at h1
  ·show dJ _ ⟨T.nil,aI+1⟩ _;have hn1:min s.length 40 <= s.length:=Nat.min_le_left _ _;have hn2:min s.length 40 <= 40:=Nat.min_le_right _ _
   have hmade:oL s=(s.take (min s.length 40)).foldl iI []:=by unfold oL;congr 1;rw [List.take_eq_take_iff];omega
   rw [hmade];refine build ?_;refine enter ?_;refine goB ?_;refine aTQ ?_;generalize min s.length 40=n at hn1 hn2 ⊢;refine goB ?_;refine ifK_intro (ag hn1) ?_;refine aP ?_;refine aP ?_;refine aP ?_;refine goB ?_;refine LPB.lp' (aI+1) rfl (LPB.induct n (fun j E S'=>j <= n∧S'=aWd ((s.take j).foldl iI []) s e∧Kn E 60 [(0,.slice aI 0 s.length s.length 2 false),(3,mD ((s.take j).foldl iI []) (aI+1)),(12,.slice aI 0 n s.length 2 false),(13,.int .i64 (.ofNat n)),(14,.int .i64 (.ofNat j))]) ⟨ai _,kr,kq⟩ ?_);intro j E S' ⟨hjl,hS',hf⟩ ih;subst hS';generalize hout:(s.take j).foldl iI []=out at *
   cases out with
   | nil =>
     refine LPB.kn mixed (ae rfl) (ae rfl) hf ?_;cases hb:qG (.ofNat j) (.ofNat n)
     ·have hge:n <= j:=by rw [bF] at hb;simpa using hb
      refine goB ?_;obtain rfl:j=n:=Nat.le_antisymm hjl hge;rw [hout];exact ⟨[],bj,sm,.nilSlice,trivial,trivial⟩
     ·have hlt:j < n:=by rw [bF] at hb;simpa using hb
      have hls:j < s.length:=om;have hblt:Nat.blt j n=true:=hb;have h16:Nat.blt (s[j].1 % 16) 16=true:=ag (Nat.mod_lt _ dc);have h8:Nat.blt (s[j].2 % 8) 8=true:=ag (Nat.mod_lt _ dc);refine goB ?_;refine bX (fun _=>?_) (fun h=>absurd (h.symm.trans hblt) sm);refine goB ?_;refine aGG aRZ hi84 hs84 (j:=j) (ak hls) (show 0+j * 2=2 * j by omega) ?_;refine goB ?_;refine godB ?_;refine d_callA (hs:=rfl) rfl ?_;refine aDA ?_;refine n_dopA ?_;refine godB ?_
      refine aV rfl (by
       intro Q hQ
       conv=>whnf
       refine bX (fun _=>?_) (fun h=>absurd (h.symm.trans h16) sm)
       conv=>whnf
       (repeat (first|exact hQ|(refine kN (by first|rfl|assumption) ?_;conv=>whnf)|(refine lG (by first|rfl|assumption) ?_;conv=>whnf)|(refine aP ?_;conv=>whnf)|(refine bR ?_;conv=>whnf)|(unfold cR;conv=>whnf)))) ?_
      refine d_readH (hs:=rfl) rfl (by
       intro Q hQ
       conv=>whnf
       refine aH xN (s[j].1 % 16) (show 0+s[j].1 % 16 * 1=s[j].1 % 16 by omega) (oF bW (Nat.mod_lt _ dc)) ?_
       exact hQ) ?_
      intro _;refine godB ?_
      refine aV rfl (by
       intro Q hQ
       conv=>whnf
       refine bX (fun _=>?_) (fun h=>absurd (h.symm.trans h8) sm)
       conv=>whnf
       (repeat (first|exact hQ|(refine kN (by first|rfl|assumption) ?_;conv=>whnf)|(refine lG (by first|rfl|assumption) ?_;conv=>whnf)|(refine aP ?_;conv=>whnf)|(refine bR ?_;conv=>whnf)|(unfold cR;conv=>whnf)))) ?_
      refine d_readH (hs:=rfl) rfl (by
       intro Q hQ
       conv=>whnf
       refine aH xN (s[j].2 % 8) (show 0+s[j].2 % 8 * 1=s[j].2 % 8 by omega) (oF gQ (Nat.mod_lt _ dc)) ?_
       exact hQ) ?_
      intro _;refine godB ?_;refine d_callA (hs:=rfl) rfl ?_;refine n_dopA ?_;refine godB ?_;refine eK (.inl kr) (.inr (.inr rdx)) (.inr fun Q hQ=>?_) (oP _) ?_
      ·conv=>whnf
       refine aH xN (s[j].2 % 8) (show 0+s[j].2 % 8 * 1=s[j].2 % 8 by omega) (oF gQ (Nat.mod_lt _ dc)) ?_;exact hQ
      refine eK (.inl kr) (.inr (.inr rdx)) (.inr rdx) (gN _ _) ?_;refine eK (.inl kr) (.inr (.inr rdx)) (.inl kr) (oP _) ?_;refine eK (.inl kr) (.inr (.inr rdx)) (.inr rdx) (gN _ _) ?_;refine jA ?_;refine kZ (.inl kr) (.inr kr) kr ?_;refine kZ (.inl kr) (.inr kr) kr ?_;refine godB ?_;refine goB ?_;refine LP.one mixed ?_;refine goB ?_;refine aCW (q:=mB s[j]) rfl ?_;refine goB ?_;refine bA (j+1) rfl (by show j+1 <= 9223372036854775807;omega) ?_;refine goB ?_
      have hn:(s.take (j+1)).foldl iI []=[mB s[j]]:=by
       rw [an hls,List.foldl_append,hout];rfl
      have hov:mD ([mB s[j]]) (aI+1)=.slice (aI+1) 0 (1) (1) 2 false:=by
       rw [kO sm];rfl
      refine ⟨[aI+19],rE [(aI,.cells (dR s) e .ro),(aI+1,.cells (cellsOf ([mB s[j]])) 34 .rw)] (aI+2),⟨rfl,eE _,fun g hg=>by rw [ay] at hg;subst hg;exact ae rfl,?_⟩,rfl,ih _ _ hlt ⟨om,by rw [hn];exact (aAv sm).symm,⟨rfl,rfl,by rw [hn,hov];rfl,rfl,rfl,rfl,trivial⟩⟩⟩
      repeat' (first
       | exact trivial
       | exact ⟨_,_,.inl ⟨ae rfl,rfl⟩,rfl,.cells (jS _) (.inl rfl)⟩
       | exact ⟨_,_,.inr ⟨ae rfl,ae rfl,rfl⟩,rfl,.cells (aN _) (.inl rfl)⟩
       | apply And.intro)
   | cons q0 o0 =>
     replace hf:Kn E 60 [(0,.slice aI 0 s.length s.length 2 false),(3,.slice (aI+1) 0 (q0 :: o0).length (q0 :: o0).length 2 false),(12,.slice aI 0 n s.length 2 false),(13,.int .i64 (.ofNat n)),(14,.int .i64 (.ofNat j))]:=hf;refine LPB.kn mixed (ae rfl) (ae rfl) hf ?_;cases hb:qG (.ofNat j) (.ofNat n)
     ·have hge:n <= j:=by rw [bF] at hb;simpa using hb
      refine goB ?_;obtain rfl:j=n:=Nat.le_antisymm hjl hge;rw [hout];exact ⟨[aI+1],eE _,fun g hg=>by rw [ay] at hg;subst hg;exact ae rfl,.slice _ _ _ _ _ _ _ (uF.new (a:=0) rfl (ae rfl) (by simp [mL])) (.inl rfl) (af _) (fun h=>⟨h,rfl⟩),trivial,⟨⟨_,rfl,.cells (aN _) (.inl rfl)⟩,trivial⟩⟩
     ·have hlt:j < n:=by rw [bF] at hb;simpa using hb
      have hls:j < s.length:=om;have hblt:Nat.blt j n=true:=hb;have h16:Nat.blt (s[j].1 % 16) 16=true:=ag (Nat.mod_lt _ dc);have h8:Nat.blt (s[j].2 % 8) 8=true:=ag (Nat.mod_lt _ dc);refine goB ?_;refine bX (fun _=>?_) (fun h=>absurd (h.symm.trans hblt) sm);refine goB ?_;refine aGG aRZ hi84 hs84 (j:=j) (ak hls) (show 0+j * 2=2 * j by omega) ?_;refine goB ?_;refine godB ?_;refine d_callA (hs:=rfl) rfl ?_;refine aDA ?_;refine n_dopA ?_;refine godB ?_
      refine aV rfl (by
       intro Q hQ
       conv=>whnf
       refine bX (fun _=>?_) (fun h=>absurd (h.symm.trans h16) sm)
       conv=>whnf
       (repeat (first|exact hQ|(refine kN (by first|rfl|assumption) ?_;conv=>whnf)|(refine lG (by first|rfl|assumption) ?_;conv=>whnf)|(refine aP ?_;conv=>whnf)|(refine bR ?_;conv=>whnf)|(unfold cR;conv=>whnf)))) ?_
      refine d_readH (hs:=rfl) rfl (by
       intro Q hQ
       conv=>whnf
       refine aH xN (s[j].1 % 16) (show 0+s[j].1 % 16 * 1=s[j].1 % 16 by omega) (oF bW (Nat.mod_lt _ dc)) ?_
       exact hQ) ?_
      intro _;refine godB ?_
      refine aV rfl (by
       intro Q hQ
       conv=>whnf
       refine bX (fun _=>?_) (fun h=>absurd (h.symm.trans h8) sm)
       conv=>whnf
       (repeat (first|exact hQ|(refine kN (by first|rfl|assumption) ?_;conv=>whnf)|(refine lG (by first|rfl|assumption) ?_;conv=>whnf)|(refine aP ?_;conv=>whnf)|(refine bR ?_;conv=>whnf)|(unfold cR;conv=>whnf)))) ?_
      refine d_readH (hs:=rfl) rfl (by
       intro Q hQ
       conv=>whnf
       refine aH xN (s[j].2 % 8) (show 0+s[j].2 % 8 * 1=s[j].2 % 8 by omega) (oF gQ (Nat.mod_lt _ dc)) ?_
       exact hQ) ?_
      intro _;refine godB ?_;refine d_callA (hs:=rfl) rfl ?_;refine n_dopA ?_;refine godB ?_;refine eK (.inl kr) (.inr (.inr rdx)) (.inr fun Q hQ=>?_) (oP _) ?_
      ·conv=>whnf
       refine aH xN (s[j].2 % 8) (show 0+s[j].2 % 8 * 1=s[j].2 % 8 by omega) (oF gQ (Nat.mod_lt _ dc)) ?_;exact hQ
      refine eK (.inl kr) (.inr (.inr rdx)) (.inr rdx) (gN _ _) ?_;refine eK (.inl kr) (.inr (.inr rdx)) (.inl kr) (oP _) ?_;refine eK (.inl kr) (.inr (.inr rdx)) (.inr rdx) (gN _ _) ?_;refine jA ?_;refine kZ (.inl kr) (.inr kr) kr ?_;refine kZ (.inl kr) (.inr kr) kr ?_;refine godB ?_;refine goB ?_
      have hm0:(q0 :: o0).length <= 40:=by rw [<- hout];exact bg (aBF (s.take j) []) (by rw [bh];simp;omega)
      generalize ho:q0 :: o0=o at *;refine LP.induct0 o.length (fun jj E2=>jj <= o.length∧(∀ x ∈ o.take jj,x.1 ≠ (mB s[j]).1)∧Kn E2 60 [(0,.slice aI 0 s.length s.length 2 false),(3,.slice (aI+1) 0 o.length o.length 2 false),(6,.ptr (aI+16) 0),(12,.slice aI 0 n s.length 2 false),(13,.int .i64 (.ofNat n)),(14,.int .i64 (.ofNat j)),(32,.int .i64 (.ofNat o.length)),(33,.int .i64 (.ofNat jj))]) ⟨ai _,sm,kq⟩ ?_;intro jj E2 ⟨hjjl,hno,hf2⟩ ih2;refine LP.kng mixed hf2 ?_;cases hb2:qG (.ofNat jj) (.ofNat o.length)
      ·have hge:o.length <= jj:=by rw [bF] at hb2;simpa using hb2
       rw [bd hge] at hno;refine goB ?_;refine xP (q:=mB s[j]) rfl rfl om ?_;refine goB ?_;refine bA (j+1) rfl (by show j+1 <= 9223372036854775807;omega) ?_;refine goB ?_
       have hn:(s.take (j+1)).foldl iI []=o ++ [mB s[j]]:=by
        rw [an hls,List.foldl_append,hout];show iI o s[j]=_;unfold iI;rw [aBd hno]
       have hov:mD (o ++ [mB s[j]]) (aI+1)=.slice (aI+1) 0 (o.length+1) (o.length+1) 2 false:=by
        rw [kO sm];rw [aq];rfl
       refine ⟨[aI+20],rE [(aI,.cells (dR s) e .ro),(aI+1,.cells (cellsOf (o ++ [mB s[j]])) 34 .rw)] (aI+2),⟨rfl,eE _,fun g hg=>by rw [ay] at hg;subst hg;exact ae rfl,?_⟩,rfl,ih _ _ hlt ⟨om,by rw [hn];exact (aAv sm).symm,⟨rfl,rfl,by rw [hn,hov];rfl,rfl,rfl,rfl,trivial⟩⟩⟩
       repeat' (first
        | exact trivial
        | exact ⟨_,_,.inl ⟨ae rfl,rfl⟩,rfl,.cells (jS _) (.inl rfl)⟩
        | exact ⟨_,_,.inr ⟨ae rfl,ae rfl,rfl⟩,rfl,.cells (aN _) (.inl rfl)⟩
        | apply And.intro)
      ·have hlt2:jj < o.length:=by rw [bF] at hb2;simpa using hb2
       have hblt2:Nat.blt jj o.length=true:=hb2;by_cases hq:o[jj].1=(mB s[j]).1
       ·have heq:kG o[jj].1 (bW.getD (s[j].1 % 16) [])=true:=by rw [cY];simpa [mB] using hq
        refine goB ?_;refine godB ?_
        refine aV rfl (by
         intro Q hQ
         conv=>whnf
         refine bX (fun _=>?_) (fun h=>absurd (h.symm.trans hblt2) sm)
         conv=>whnf
         (repeat (first|exact hQ|(refine kN (by first|rfl|assumption) ?_;conv=>whnf)|(refine lG (by first|rfl|assumption) ?_;conv=>whnf)|(refine aP ?_;conv=>whnf)|(refine bR ?_;conv=>whnf)|(unfold cR;conv=>whnf)))) ?_
        refine godB ?_
        refine d_readH (hs:=rfl) rfl (by
         intro Q hQ
         conv=>whnf
         refine aH xN (2 * jj) (show 0+jj * 2+0=2 * jj by omega) (jN hlt2).1 ?_
         exact hQ) ?_
        intro _;refine godB ?_;refine goB ?_;refine godB ?_
        refine aV rfl (by
         intro Q hQ
         conv=>whnf
         refine ifK_intro (ag (af jj)) ?_
         conv=>whnf
         refine ifK_intro (ag hjjl) ?_
         conv=>whnf
         (repeat (first|exact hQ|(refine kN (by first|rfl|assumption) ?_;conv=>whnf)|(refine lG (by first|rfl|assumption) ?_;conv=>whnf)|(refine aP ?_;conv=>whnf)|(refine bR ?_;conv=>whnf)|(unfold cR;conv=>whnf)))) ?_
        refine godB ?_
        refine aV rfl (by
         intro Q hQ
         conv=>whnf
         refine bA (jj+1) rfl (by show jj+1 <= 9223372036854775807;omega) ?_
         exact hQ) ?_
        refine aV rfl (by
         intro Q hQ
         conv=>whnf
         refine ifK_intro (ag hlt2) ?_
         conv=>whnf
         refine ifK_intro (ag (af o.length)) ?_
         conv=>whnf
         (repeat (first|exact hQ|(refine kN (by first|rfl|assumption) ?_;conv=>whnf)|(refine lG (by first|rfl|assumption) ?_;conv=>whnf)|(refine aP ?_;conv=>whnf)|(refine bR ?_;conv=>whnf)|(unfold cR;conv=>whnf)))) ?_
        refine d_callA (hs:=rfl) rfl ?_;refine aPV rfl hlt2 om (show 0+(jj+1) * 2=2 * (jj+1) by omega) (fun hA=>?_) (fun hB=>?_)
        ·refine n_dopA ?_;refine godB ?_;refine goB ?_;refine aNd (q:=mB s[j]) (o:=o) rfl rfl hjjl om ?_;refine goB ?_;refine bA (j+1) rfl (by show j+1 <= 9223372036854775807;omega) ?_;refine goB ?_
         have hn:(s.take (j+1)).foldl iI []=o.take jj ++ [mB s[j]]:=by
          rw [an hls,List.foldl_append,hout];show iI o s[j]=_;unfold iI;rw [aBc hlt2 hno hq,List.drop_eq_nil_of_le om,bf]
         have hov:mD (o.take jj ++ [mB s[j]]) (aI+1)=.slice (aI+1) 0 (jj+1) (jj+1) 2 false:=by
          rw [kO sm];rw [aq,bh,Nat.min_eq_left hjjl];rfl
         refine ⟨[aI+38],rE [(aI,.cells (dR s) e .ro),(aI+1,.cells (cellsOf (o.take jj ++ [mB s[j]])) 34 .rw)] (aI+2),⟨rfl,eE _,fun g hg=>by rw [ay] at hg;subst hg;exact ae rfl,?_⟩,rfl,ih _ _ hlt ⟨om,by rw [hn];exact (aAv sm).symm,⟨rfl,rfl,by rw [hn,hov];rfl,rfl,rfl,rfl,trivial⟩⟩⟩
         repeat' (first
          | exact trivial
          | exact ⟨_,_,.inl ⟨ae rfl,rfl⟩,rfl,.cells (jS _) (.inl rfl)⟩
          | exact ⟨_,_,.inr ⟨ae rfl,ae rfl,rfl⟩,rfl,.cells (aN _) (.inl rfl)⟩
          | apply And.intro)
        ·conv=>whnf
         refine n_dopA ?_;refine godB ?_;refine goB ?_
         have hlo:(o.take jj ++ o.drop (jj+1)).length < 4096:=by simp;omega
         refine xP (q:=mB s[j]) (o:=o.take jj ++ o.drop (jj+1)) rfl rfl hlo ?_;refine goB ?_;refine bA (j+1) rfl (by show j+1 <= 9223372036854775807;omega) ?_;refine goB ?_
         have hn:(s.take (j+1)).foldl iI []=o.take jj ++ o.drop (jj+1) ++ [mB s[j]]:=by
          rw [an hls,List.foldl_append,hout];show iI o s[j]=_;unfold iI;rw [aBc hlt2 hno hq]
         have hov:mD (o.take jj ++ o.drop (jj+1) ++ [mB s[j]]) (aI+1)=.slice (aI+1) 0 ((o.take jj ++ o.drop (jj+1)).length+1) ((o.take jj ++ o.drop (jj+1)).length+1) 2 false:=by
          rw [kO sm];rw [aq];rfl
         refine ⟨[aI+39],rE [(aI,.cells (dR s) e .ro),(aI+1,.cells (cellsOf (o.take jj ++ o.drop (jj+1) ++ [mB s[j]])) 34 .rw)] (aI+2),⟨rfl,eE _,fun g hg=>by rw [ay] at hg;subst hg;exact ae rfl,?_⟩,rfl,ih _ _ hlt ⟨om,by rw [hn];exact (aAv sm).symm,⟨rfl,rfl,by rw [hn,hov];rfl,rfl,rfl,rfl,trivial⟩⟩⟩
         repeat' (first
          | exact trivial
          | exact ⟨_,_,.inl ⟨ae rfl,rfl⟩,rfl,.cells (jS _) (.inl rfl)⟩
          | exact ⟨_,_,.inr ⟨ae rfl,ae rfl,rfl⟩,rfl,.cells (aN _) (.inl rfl)⟩
          | apply And.intro)
       ·have heq:kG o[jj].1 (bW.getD (s[j].1 % 16) [])=false:=by rw [cY];simpa [mB] using hq
        refine goB ?_;refine godB ?_
        refine aV rfl (by
         intro Q hQ
         conv=>whnf
         refine bX (fun _=>?_) (fun h=>absurd (h.symm.trans hblt2) sm)
         conv=>whnf
         (repeat (first|exact hQ|(refine kN (by first|rfl|assumption) ?_;conv=>whnf)|(refine lG (by first|rfl|assumption) ?_;conv=>whnf)|(refine aP ?_;conv=>whnf)|(refine bR ?_;conv=>whnf)|(unfold cR;conv=>whnf)))) ?_
        refine godB ?_
        refine d_readH (hs:=rfl) rfl (by
         intro Q hQ
         conv=>whnf
         refine aH xN (2 * jj) (show 0+jj * 2+0=2 * jj by omega) (jN hlt2).1 ?_
         exact hQ) ?_
        intro _;refine godB ?_;refine goB ?_;refine bA (jj+1) rfl (by show jj+1 <= 9223372036854775807;omega) ?_;refine goB ?_;refine ⟨_,⟨ae kr,?_⟩,rfl,ih2 _ hlt2 ⟨om,?_,?_⟩⟩
        ·
         repeat' (first
          | exact trivial
          | exact ae kr
          | exact ⟨_,rfl,.cells (aN _) (.inl rfl)⟩
          | exact ⟨_,rfl,.cells (jS _) (.inl rfl)⟩
          | exact ⟨_,rfl,.cells (tL _) (.inl rfl)⟩
          | exact ⟨_,rfl,.cells (tL gQ) (.inl rfl)⟩
          | exact ⟨_,rfl,.cells (.cons (.int _ _) (.cons (.int _ _) .nil)) (.inl rfl)⟩
          | exact ⟨_,rfl,.cells (.cons (.str _) (.cons (.str _) .nil)) (.inl rfl)⟩
          | apply And.intro)
        ·intro x hx;rw [an hlt2] at hx
         rcases List.mem_append.1 hx with hx|hx
         ·exact hno x hx
         ·rw [ay] at hx;subst hx;exact hq
        ·exact kq
end
section
theorem f43:bB Tryz.prog 43 6 [.tmp 2] (aL Tryz.f43):=fq Tryz.f43
theorem f74:bB Tryz.prog 74 19 [.tmp 4] (aL Tryz.f74):=fq Tryz.f74
theorem f42:bB Tryz.prog 42 42 [.tmp 4] (aL Tryz.f42):=fq Tryz.f42
theorem aJJ {q:aY}{S:St}{k:V->St->Prop}(hk:k (.bool (kG q.2 [])) S):RC Tryz.prog 43 [gE q] S k:=by
 refine RC.read mixed f43 (l:=[gE q]) [] [] [] [] (v2:=.bool (kG q.2 [])) sm rfl rfl sm sm (.cons (.agg (.cons (.str _) (.cons (.str _) .nil))) .nil) sm ?_ hk;unfold gE;refine build ?_;refine enter ?_;refine goB ?_;refine dG (fun h=>?_) (fun h=>?_) <;> (have h:kG q.2 []=_:=h;rw [h];refine goB ?_;exact ⟨[],bj,sm,.bool _,trivial,trivial⟩)
theorem yB {l:List aY}{v:V}{S:St}(h:LV S v l)(hlen:l.length <= 64)(i0:Nat)(hi0:i0 <= l.length)(hpre:∀ x ∈ l.take i0,x.2 ≠ [])(hat:∀ h:i0 < l.length,l[i0].2=[]){r:Int}(hr:r=if i0 < l.length then .ofNat i0 else .negSucc 0){k:V->St->Prop}(hk:k (.int .i64 r) S):RC Tryz.prog 74 [v,.func (.func 43) [] []] S k:=by
 obtain ⟨i40,hi40,hs40⟩:=lK;refine RC.lab mixed f74 h (fun _=>.cons (.func _ .nil .nil) .nil) [] sm (v2:=.int .i64 r) ?_ ?_ hk
 ·rintro rfl
  have hr2:r=.negSucc 0:=by rw [hr,if_neg sm]
  subst hr2;refine build ?_;refine enter ?_;refine goB ?_;refine LP.one mixed ?_;refine goB ?_;exact ⟨[],bj,sm,.int _ _,trivial,trivial⟩
 ·intro e i;refine build ?_;refine enter ?_;refine goB ?_;refine LP.induct0 l.length (fun j E=>j <= i0∧Kn E 19 [(0,.slice aI 0 l.length l.length 2 false),(1,.func (.func 43) [] []),(6,.slice aI 0 l.length l.length 2 false),(7,.int .i64 (.ofNat l.length)),(8,.int .i64 (.ofNat j))]) ⟨ai _,kq⟩ ?_;intro j E ⟨hjl,hf⟩ ih;refine LP.kng mixed hf ?_;cases hb:qG (.ofNat j) (.ofNat l.length)
  ·have hge:l.length <= j:=by rw [bF] at hb;simpa using hb
   have hr2:r=.negSucc 0:=by rw [hr,if_neg om]
   subst hr2;refine goB ?_;exact ⟨[],bj,sm,.int _ _,trivial,trivial⟩
  ·have hlt:j < l.length:=by rw [bF] at hb;simpa using hb
   have hblt:Nat.blt j l.length=true:=hb;refine goB ?_;refine bX (fun _=>?_) (fun h=>absurd (h.symm.trans hblt) sm);refine goB ?_;refine dT agg40 hi40 hs40 (j:=j) (ak hlt) (show 0+j * 2=2 * j by omega) ?_;refine goB ?_;refine aJJ ?_;refine goB ?_;by_cases hji:j < i0
   ·have he:kG l[j].2 []=false:=xV (hpre l[j] (by rw [List.mem_take_iff_getElem];exact ⟨j,om,rfl⟩));rw [he];refine goB ?_;refine bA (j+1) rfl (by show j+1 <= 9223372036854775807;omega) ?_;refine goB ?_;refine ⟨_,⟨af _,?_⟩,rfl,ih _ hlt ⟨om,kq⟩⟩
    repeat' (first
     | exact trivial
     | exact ae rfl
     | exact ⟨_,rfl,.cells (aN _) (.inl rfl)⟩
     | apply And.intro)
   ·have hj:j=i0:=om;subst hj
    have he:kG l[j].2 []=true:=by rw [cY,hat hlt];rfl
    rw [he]
    have hr2:r=.ofNat j:=by rw [hr,if_pos hlt]
    subst hr2;refine goB ?_;exact ⟨[],bj,sm,.int _ _,trivial,trivial⟩
noncomputable def fR (l:List aY):List aY:=l.filter fun q=>!(kG q.2 [])
noncomputable def xT (l:List aY):List aY:=fR l ++ List.replicate (l.length - (fR l).length) ([],[])
theorem aBk:∀ l:List aY,(∀ x ∈ l,x.2 ≠ []) ∨ ∃ i,∃ h:i < l.length,l[i].2=[]∧∀ x ∈ l.take i,x.2 ≠ []
 | []=>.inl sm
 | q :: l=>by
   by_cases hq:q.2=[]
   ·exact .inr ⟨0,sm,hq,sm⟩
   ·rcases aBk l with h|⟨i,hi,h1,h2⟩
    ·exact .inl fun x hx=>by
      rcases av.1 hx with rfl|hx
      ·exact hq
      ·exact h x hx
    ·refine .inr ⟨i+1,by simpa using hi,by simpa using h1,fun x hx=>?_⟩;rw [List.take_succ_cons] at hx
     rcases av.1 hx with rfl|hx
     ·exact hq
     ·exact h2 x hx
theorem xY {l:List aY}(h:∀ x ∈ l,x.2 ≠ []):fR l=l:=List.filter_eq_self.2 fun q hq=>by rw [xV (h q hq)];rfl
theorem aBK {q:aY}:∀ {c:Nat} {r:List aY} {k:List V->Prop},c < r.length->k (cellsOf (r.set c q))->eJ [.str q.1,.str q.2] (2 * c) (cellsOf r) k
 | 0,[],_,h,_=>by simp at h
 | 0,x :: r,k,_,h=>h
 | c+1,[],_,h,_=>by simp at h
 | c+1,x :: r,k,hc,h=>by
   show eJ [.str q.1,.str q.2] (2 * c) (cellsOf r) fun y=>k (.str x.1 :: .str x.2 :: y);exact aBK (c:=c) (r:=r) (by simpa using hc) h
theorem aGD {q:aY}{c off:Nat}{r:List aY}{k:List V->Prop}(hc:c < r.length)(ho:off=2 * c)(h:k (cellsOf (r.set c q))):eJ [.str q.1,.str q.2] off (cellsOf r) k:=by subst ho;exact aBK hc h
theorem aDK:∀ {d:Nat} {r:List aY} {k:List V->Prop},d=r.length->k (cellsOf (List.replicate d ([],[])))->aMp (repl [.str [],.str []] d) (cellsOf r) k
 | 0,[],k,_,h=>h
 | 0,_ :: _,_,h,_=>by simp at h
 | d+1,[],_,h,_=>by simp at h
 | d+1,x :: r,k,hd,h=>by
   show aMp (repl [.str [],.str []] d) (cellsOf r) fun y=>k (.str [] :: .str [] :: y);exact aDK (d:=d) (r:=r) (by simpa using hd) h
theorem zT {d:Nat}:∀ {c:Nat} {r:List aY} {k:List V->Prop},c+d=r.length->k (cellsOf (r.take c ++ List.replicate d ([],[])))->eJ (repl [.str [],.str []] d) (2 * c) (cellsOf r) k
 | 0,r,k,hc,h=>aDK om h
 | c+1,[],k,hc,h=>by simp at hc
 | c+1,x :: r,k,hc,h=>by
   show eJ (repl [.str [],.str []] d) (2 * c) (cellsOf r) fun y=>k (.str x.1 :: .str x.2 :: y);exact zT (c:=c) (r:=r) (by simp at hc;omega) h
theorem aDD {d c off:Nat}{r:List aY}{k:List V->Prop}(hc:c+d=r.length)(ho:off=2 * c)(h:k (cellsOf (r.take c ++ List.replicate d ([],[])))):eJ (repl [.str [],.str []] d) off (cellsOf r) k:=by subst ho;exact zT hc h
attribute [local irreducible] eJ
theorem aIe {l:List aY}(hlen:l.length <= 64){S:St}{id:Nat}(hg:S.hs.get id=some (.cells (cellsOf l) 34 .rw)){k:V->St->Prop}
  (hk:bD id (some (.cells (cellsOf (xT l)) 34 .rw)) S fun S=>k (.slice id 0 (fR l).length l.length 2 false) S):RC Tryz.prog 42 [.slice id 0 l.length l.length 2 false,.func (.func 43) [] []] S k:=by
 obtain ⟨i40,hi40,hs40⟩:=lK
 refine RC.small mixed f42 (l:=[.slice aI 0 l.length l.length 2 false,.func (.func 43) [] []]) 0 [id] [.cells (cellsOf l) 34 .rw] [.cells (cellsOf l) 34 .rw] [.cells (cellsOf (xT l)) 34 .rw] [] (v2:=.slice id 0 (fR l).length l.length 2 false) ?_ sm rfl rfl rfl ?_ ?_
  (.cons (.slice _ _ _ _ _ _ _ (iC.at (a:=0) rfl sm) (.inl rfl) (af _) (fun h=>⟨h,rfl⟩)) (.cons (.func _ .nil .nil) .nil)) ?_ sm ?_ hk
 ·rintro (_|a) (_|b) x _ h1 h2 <;> simp at h1 h2 ⊢
 ·rintro (_|a) j o h1 h2
  ·simp at h1 h2;subst h1;subst h2;exact hg
  ·simp at h1
 ·rintro (_|a) o1 o2 h1 h2
  ·simp at h1 h2;subst h1;subst h2;exact .cells (aN l) (.inl rfl)
  ·simp at h1
 ·rintro (_|a) o h
  ·simp at h;subst h;rfl
  ·simp at h
 ·show dJ _ ⟨T.nil,aI+1⟩ _
  rcases aBk l with hall|⟨i0,hi0,hat,hpre⟩
  ·have hfl:fR l=l:=xY hall
   have hdl:xT l=l:=by unfold xT;rw [hfl];simp
   rw [hdl,hfl];refine build ?_;refine enter ?_;refine goB ?_;refine yB (LV.mk (e:=34) (fl:=.rw) rfl (af _)) hlen l.length (af _) (fun x hx=>hall x (List.mem_of_mem_take hx)) (fun h=>absurd h (Nat.lt_irrefl _)) (r:=.negSucc 0) (by rw [if_neg (Nat.lt_irrefl _)]) ?_;refine goB ?_;exact ⟨[],bj,sm,.slice _ _ _ _ _ _ _ (uF.at (a:=0) rfl sm (af _)) (.inl rfl) (af _) (fun h=>⟨h,rfl⟩),⟨⟨_,rfl,.cells (aN _) (.inl rfl)⟩,trivial⟩,trivial⟩
  ·have hf0:fR (l.take (i0+1))=l.take i0:=by
    rw [an hi0];unfold fR;rw [List.filter_append,show (l.take i0).filter (fun q=>!(kG q.2 []))=l.take i0 from xY hpre];simp [hat,nL]
   refine build ?_;refine enter ?_;refine goB ?_;refine yB (LV.mk (e:=34) (fl:=.rw) rfl (af _)) hlen i0 (Nat.le_of_lt hi0) hpre (fun _=>hat) (r:=.ofNat i0) (by rw [if_pos hi0]) ?_;refine goB ?_;refine bA (i0+1) rfl (by show i0+1 <= 9223372036854775807;omega) ?_;refine goB ?_;refine LP.induct l.length (fun m E S'=>i0+1+m <= l.length∧∃ (r:List aY) (c:Nat),c=(fR (l.take (i0+1+m))).length∧r.length=l.length∧r.take c=fR (l.take (i0+1+m))∧r.drop (i0+1+m)=l.drop (i0+1+m)∧c <= i0+m∧S'=rE [(aI,.cells (cellsOf r) 34 .rw)] (aI+1)∧Kn E 42 [(0,.slice aI 0 l.length l.length 2 false),(1,.func (.func 43) [] []),(5,.int .i64 (.ofNat c)),(6,.int .i64 (.ofNat (i0+1+m)))]) ⟨om,l,i0,?_,rfl,?_,rfl,af _,kr,kq⟩ ?_
   ·show i0=(fR (l.take (i0+1))).length;rw [hf0,bh];omega
   ·show l.take i0=fR (l.take (i0+1));exact hf0.symm
   intro m E S' ⟨hjl,r,c,hc,hrl,hrt,hrd,hci,hS',hf⟩ ih;subst hS';refine LP.kng mixed hf ?_;cases hb:qG (.ofNat (i0+1+m)) (.ofNat l.length)
   ·have hge:l.length <= i0+1+m:=by rw [bF] at hb;exact Nat.le_of_not_lt fun h=>of_decide_eq_false hb (Int.ofNat_lt.2 h)
    obtain ⟨d,hd⟩:∃ d,l.length - c=d+1:=⟨l.length - c - 1,om⟩
    have hd2:Nat.sub l.length c=d+1:=hd;have hcl:c <= l.length:=om;refine goB ?_;refine ifK_intro (ag hcl) ?_;refine ifK_intro (ag (af l.length)) ?_;refine goB ?_;rw [hd2];refine aDD (c:=c) (d:=d+1) om (show 0+c * 2=2 * c by omega) ?_;refine goB ?_;refine ifK_intro (ag hcl) ?_;refine goB ?_
    have hfin:fR (l.take (i0+1+m))=fR l:=by rw [bd hge]
    rw [hfin] at hc hrt
    have hrow:r.take c ++ List.replicate (d+1) ([],[])=xT l:=by rw [hrt];unfold xT;rw [<- hc,hd]
    rw [hrow];rw [<- hc];exact ⟨[],bj,sm,.slice _ _ _ _ _ _ _ (uF.at (a:=0) rfl sm (af _)) (.inl rfl) (af _) (fun h=>⟨h,rfl⟩),⟨⟨_,rfl,.cells (aN _) (.inl rfl)⟩,trivial⟩,trivial⟩
   ·have hlt:i0+1+m < l.length:=by rw [bF] at hb;exact Int.ofNat_lt.1 (of_decide_eq_true hb)
    have hlr:i0+1+m < r.length:=om;have hblt:Nat.blt (i0+1+m) l.length=true:=hb
    have hrj:r[i0+1+m]=l[i0+1+m]:=by
     have h1:(r.drop (i0+1+m))[0]?=(l.drop (i0+1+m))[0]?:=by rw [hrd]
     rw [List.getElem?_drop,List.getElem?_drop,Nat.add_zero,ak hlr,ak om] at h1;exact Option.some.inj h1
    refine goB ?_;refine bX (fun _=>?_) (fun h=>absurd (h.symm.trans hblt) sm);refine goB ?_;refine dT agg40 hi40 hs40 (j:=i0+1+m) (ak hlr) (show 0+(i0+1+m) * 2=2 * (i0+1+m) by omega) ?_;refine goB ?_;unfold eJ;refine goB ?_;refine aJJ ?_;refine goB ?_
    have hF:fR (l.take (i0+1+(m+1)))=fR (l.take (i0+1+m)) ++ if kG r[i0+1+m].2 []=true then [] else [r[i0+1+m]]:=by
     show fR (l.take (i0+1+m+1))=_;rw [an hlt,hrj];unfold fR;rw [List.filter_append]
     congr 1
     cases hc0:kG l[i0+1+m].2 [] <;> simp [hc0]
    have hrd2:r.drop (i0+1+(m+1))=l.drop (i0+1+(m+1)):=by
     have h1:=congrArg (List.drop 1) hrd;rw [List.drop_drop,List.drop_drop] at h1;exact h1
    cases he:kG r[i0+1+m].2 []
    ·rw [he] at hF;rw [if_neg sm] at hF;have hbc:Nat.blt c l.length=true:=ag (show c+1 <= l.length by omega);refine goB ?_;refine bX (fun _=>?_) (fun h=>absurd (h.symm.trans hbc) sm);refine goB ?_;refine aGD (r:=r) (c:=c) (q:=r[i0+1+m]) om (show 0+c * 2=2 * c by omega) ?_;refine goB ?_;refine bA (c+1) rfl (by show c+1 <= 9223372036854775807;omega) ?_;refine goB ?_;refine bA (i0+1+m+1) rfl (by show i0+1+m+1 <= 9223372036854775807;omega) ?_;refine goB ?_;refine ⟨rE [(aI,.cells (cellsOf (r.set c r[i0+1+m])) 34 .rw)] (aI+1),⟨af _,?_⟩,rfl,ih _ _ om ⟨om,r.set c r[i0+1+m],c+1,?_,?_,?_,?_,om,rfl,?_⟩⟩
     ·
      repeat' (first
       | exact trivial
       | exact ae rfl
       | exact ⟨_,rfl,.cells (aN _) (.inl rfl)⟩
       | apply And.intro)
     ·rw [hF,aq,<- hc];rfl
     ·rw [List.length_set];exact hrl
     ·rw [hF,<- hrt];have hcr:c < r.length:=om;rw [an (by rw [List.length_set];exact hcr),List.take_set_of_le (af _)];simp
     ·rw [<- hrd2,List.drop_set_of_lt om]
     ·exact kq
    ·rw [he] at hF;rw [if_pos rfl,bf] at hF;refine goB ?_;refine bA (i0+1+m+1) rfl (by show i0+1+m+1 <= 9223372036854775807;omega) ?_;refine goB ?_;refine ⟨rE [(aI,.cells (cellsOf r) 34 .rw)] (aI+1),⟨af _,?_⟩,rfl,ih _ _ om ⟨om,r,c,by rw [hF];exact hc,hrl,by rw [hF];exact hrt,hrd2,om,rfl,?_⟩⟩
     ·
      repeat' (first
       | exact trivial
       | exact ae rfl
       | exact ⟨_,rfl,.cells (aN _) (.inl rfl)⟩
       | apply And.intro)
     ·exact kq
end
end Go.Am
namespace Go.Am
open Go.Proofs Go.Sort
section
variable {P:Program}
theorem fP.callsOf {g:FuncId}{fn:Func}{l:List V}{H H':Hs}{v:V}(h:fP P g l H v H')(hf:P.funcs[g]?=some fn)(h0:¬ fn.name = "runtime.NumGoroutine"){c:Code}(hb:fn.body=some c)
  {ρ:Rho} {w:World} {l':List Value} (hg:dZ ρ) (hs:cP ρ H w) (hl:VRs ρ l l'):Calls P g ⟨l'⟩ w (Rt ρ H w v H'):=by
 have hcall:(callFunc g ⟨l'⟩).run P w=.ok (.enter g ⟨l'⟩) w:=by simp [callFunc,hf,h0,hb]
 have:=h ρ w l' hg hs hl;rw [hcall] at this;exact gF.1 this
theorem Ext.grown {ρ ρ':Rho}{H H':Hs}{w w':World}(h:Ext ρ H w ρ' H' w')(h0:∀ id,H.get id=none):∃ q os,w'=Go.Sort.grow (w.drewN q) os:=by
 refine ⟨w'.drawn - w.drawn,w'.heap.extract w.heap.size w'.heap.size,?_⟩
 have hh:w'.heap=w.heap ++ w'.heap.extract w.heap.size w'.heap.size:=by
  have hsz:=h.size;apply Array.ext_getElem?;intro b;rw [Array.getElem?_append]
  split
  ·rename_i hb
   refine h.keep b hb fun ⟨id,l,h1,_⟩=>?_;rw [h0 id] at h1;cases h1
  ·rename_i hb
   rw [Array.getElem?_extract];by_cases hb2:b < w'.heap.size
   ·rw [if_pos om]
    congr 1;omega
   ·rw [if_neg om,Array.getElem?_eq_none om]
 have hd:=h.drawn
 have ext:∀ a b:World,a.heap=b.heap->a.tape=b.tape->a.drawn=b.drawn->a.os=b.os->a.output=b.output->a=b:=fun a b h1 h2 h3 h4 h5=>by
  cases a;cases b;cases h1;cases h2;cases h3;cases h4;cases h5;rfl
 exact ext _ _ hh h.tape (show w'.drawn=w.drawn+(w'.drawn - w.drawn) by omega) h.os h.output
def rC (x:aY):List Value:=[.string ⟨⟨x.1⟩⟩,.string ⟨⟨x.2⟩⟩]
theorem xK {α:Type}(d n:Nat):T.get d n (.nil:T α)=none:=by
 unfold T.get
 cases digs d n with
 | none=>rfl
 | some l =>
   show T.getL l .nil=none
   induction l with
   | nil=>rfl
   | cons x l ih=>cases x <;> exact rfl
theorem aHZ {c:FuncId}{fn:Func}{body:Code}(hf:P.funcs[c]?=some fn)(h0:¬ fn.name = "runtime.NumGoroutine")(hb:fn.body=some body){cf:aY->aY->Int}
  (hc:∀ (x y:aY) (n:Nat),RC P c [.agg [.str x.1,.str x.2],.agg [.str y.1,.str y.2]] ⟨.nil,n⟩ fun v _=>v=.int .i64 (cf x y)) {ρ:Rho} (hg:dZ ρ) {n:Nat} (hn:∀ id,n <= id->ρ id=none) (blk off size:Nat) (w:World) :
  CmpLays P c #[] rC 2 cf blk off size w:=fun m os dk _ x y=>by
 cases hc x y n with
 | mk v S' h1 hv0 =>
 subst hv0;have hget:∀ id,(St.hs ⟨.nil,n⟩).get id=none:=fun id=>xK _ _;have hs:cP ρ (St.hs ⟨.nil,n⟩) (sortWorldK rC 2 w blk off m dk os):=⟨fun id o ho=>(by rw [hget] at ho;cases ho),fun id _ _ _ h=>(by rw [hget] at h;cases h),hn⟩
 refine (h1.callsOf hf h0 hb hg hs (l':=[.agg ⟨rC x⟩,.agg ⟨rC y⟩]) (.cons (.agg (.cons (.str _) (.cons (.str _) .nil))) (.cons (.agg (.cons (.str _) (.cons (.str _) .nil))) .nil))).mono fun e w' ⟨v',ρ',he,hv,_,hx⟩=>?_;cases hv;exact ⟨he,hx.grown hget⟩
end
section
variable {P:Program}
theorem rL:∀ (l:List aY) (t:Nat),(cellsOf l)[t]?=(l[t / 2]?).map fun q=>V.str (if t % 2=0 then q.1 else q.2)
 | [],t=>by simp [cellsOf]
 | q :: l,0=>rfl
 | q :: l,1=>rfl
 | q :: l,t+2=>by
   have h1:(t+2) / 2=t / 2+1:=om;have h2:(t+2) % 2=t % 2:=om;rw [h1,h2];exact rL l t
theorem aGd (l:List aY){t:Nat}{q:aY}(h:l[t / 2]?=some q):(Go.Sort.flatK rC 2 ⟨l⟩)[t]! = .string ⟨⟨if t % 2=0 then q.1 else q.2⟩⟩:=by
 have hlt:t / 2 < l.length:=(ao.1 h).1;rw [get_flatK _ _ _ _ (show t < l.length * 2 by omega)]
 have h1:(⟨l⟩:Array aY)[t / 2]! = q:=by
  rw [getElem!_pos (⟨l⟩:Array aY) (t / 2) hlt];exact (ao.1 h).2
 rw [h1]
 rcases Nat.mod_two_eq_zero_or_one t with h2|h2 <;> rw [h2] <;> rfl
theorem aQF {ρ:Rho}(l:List aY){t:Nat}{v:V}(h:(cellsOf l)[t]?=some v):VR ρ v ((Go.Sort.flatK rC 2 ⟨l⟩)[t]!):=by
 rw [rL] at h
 cases hq:l[t / 2]? with
 | none=>rw [hq] at h;cases h
 | some q=>rw [hq] at h;cases h;rw [aGd l hq];exact .str _
theorem aQG {ρ:Rho}(l:List aY){t:Nat}{v:V}{v':Value}(h:(cellsOf l)[t]?=some v)(hv:VR ρ v v'):v'=(Go.Sort.flatK rC 2 ⟨l⟩)[t]! := by
 rw [rL] at h
 cases hq:l[t / 2]? with
 | none=>rw [hq] at h;cases h
 | some q=>rw [hq] at h;cases h;rw [aGd l hq];cases hv;rfl
def aMT (P:Program)(g c:FuncId)(cf:aY->aY->Int):Prop:=∀ (blk off cap:Nat) (d:Array aY) (w:World),CmpLays P c #[] rC 2 cf blk off d.size w->HoldsK rC 2 w blk off d->blk < w.heap.size->d.size < 4611686018427387904 ->
 Calls P g #[.slice (some ⟨blk,off,none⟩) d.size cap,.func (.func c) #[] #[]] w fun e w'=>e=.returned (.tuple #[])∧∃ d' n os,PermIn 0 d.size d d'∧SortedIn (ltOf cf) 0 d.size d'∧w'=sortWorldK rC 2 w blk off n d' os
theorem aMy {cf:aY->aY->Int}(hlt:∀ x y,ltOf cf x y=jJ x.1 y.1){l:List aY}(hp:l.Pairwise fun p q=>p.1 ≠ q.1){d':Array aY}(h1:PermIn 0 l.length ⟨l⟩ d')(h2:SortedIn (ltOf cf) 0 l.length d'):d'.toList=cE l []:=by
 obtain ⟨hsz,_,hperm⟩:=h1;have hsz':d'.size=l.length:=hsz
 have e1:(d'.extract 0 l.length).toList=d'.toList:=by rw [<- hsz'];simp
 have e2:((⟨l⟩:Array aY).extract 0 l.length).toList=l:=by simp
 rw [e1,e2] at hperm;have hne:d'.toList.Pairwise fun p q=>p.1 ≠ q.1:=hperm.symm.pairwise hp fun h=>Ne.symm h;refine lA ?_ (kC .nil hp sm) fun x=>?_
 ·rw [List.pairwise_iff_getElem] at hne ⊢;intro i j hi hj hij
  have hi':i < d'.size:=by simpa using hi
  have hj':j < d'.size:=by simpa using hj
  have h3:=h2 i j (ai _) hij om;rw [hlt,getElem!_pos d' i hi',getElem!_pos d' j hj'] at h3;have h4:=hne i j hi hj hij;simp only [Array.getElem_toList] at h4 ⊢
  cases hb:jJ d'[i].1 d'[j].1 with
  | true=>rfl
  | false=>exact absurd (pP hb h3) h4
 ·rw [lR,hperm.mem_iff];simp
theorem aKw {g c:FuncId}{cf:aY->aY->Int}(hS:aMT P g c cf){fn fg:Func}{body bodyg:Code}(hf:P.funcs[c]?=some fn)(h0:¬ fn.name = "runtime.NumGoroutine")(hb:fn.body=some body)
  (hfg:P.funcs[g]?=some fg) (h0g:¬ fg.name = "runtime.NumGoroutine") (hbg:fg.body=some bodyg)
  (hc:∀ (x y:aY) (n:Nat),RC P c [.agg [.str x.1,.str x.2],.agg [.str y.1,.str y.2]] ⟨.nil,n⟩ fun v _=>v=.int .i64 (cf x y)) (hlt:∀ x y,ltOf cf x y=jJ x.1 y.1)
  {l:List aY} (hp:l.Pairwise fun p q=>p.1 ≠ q.1) (hne:l ≠ []) (hlen:l.length < 4611686018427387904) {S:St} {id cap:Nat} {ex:Bool} {e:TypeId} {fl:Fl} (hfl:fl ≠ .ro) (hg:S.hs.get id=some (.cells (cellsOf l) e fl)) {k:V->St->Prop}
  (hk:bD id (some (.cells (cellsOf (cE l [])) e fl)) S fun S'=>k (.tup []) S'):RC P g [.slice id 0 l.length cap 2 ex,.func (.func c) [] []] S k:=by
 obtain ⟨S',hk',hS'⟩:=bS hk;refine .mk (.tup []) S' (fun ρ w l' hgl hs hl=>?_) hk'
 cases hl with
 | cons h1 hl =>
 cases hl with
 | cons h2 hl =>
 cases hl
 cases h2 with
 | func _ ha hb2 =>
 cases ha;cases hb2
 cases h1 with
 | sliceS _ _ _ _ _ off' cap' sp hloc ho hcc hx hll hr hsp =>
 rename_i l0
 have hl0:0 < l.length:=List.length_pos_iff.2 hne;have hoff:off'=0:=ho om;subst hoff;obtain rfl:=hsp om;obtain ⟨lx,co,a,b,cc,f,rfl,hsz,hle,hcells,hrw,hex⟩:=hs.obj id _ hg;rw [hloc] at a;cases a
 have hcall:(callFunc g ⟨[Value.slice (some ⟨l0.blk,l0.base+0,none⟩) l.length cap',.func (.func c) ⟨[]⟩ ⟨[]⟩]⟩).run P w=.ok (.enter g ⟨[Value.slice (some ⟨l0.blk,l0.base+0,none⟩) l.length cap',.func (.func c) ⟨[]⟩ ⟨[]⟩]⟩) w:=by
  simp [callFunc,hfg,h0g,hbg]
 rw [hcall]
 have hblk:l0.blk < w.heap.size:=by
  rcases Nat.lt_or_ge l0.blk w.heap.size with h'|h'
  ·exact h'
  ·simp [Array.getElem?_eq_none h'] at b
 have hclen:(cellsOf l).length=l.length * 2:=by rw [aZ];omega
 have hH:HoldsK rC 2 w l0.blk (l0.base+0) ⟨l⟩:=fun j hj=>by
  have hj':j < (cellsOf l).length:=by rw [hclen];simpa using hj
  obtain ⟨v',hv',hvr⟩:=hcells j _ (ak hj');refine ⟨?_,?_⟩
  ·have:w.cell? ⟨l0.blk,l0.base+0+j,none⟩=some v':=by simp [World.cell?,b,hv']
   rw [this,aQG l (ak hj') hvr];rfl
  ·have h3:=(hrw hfl).2 (l0.base+j) om;simp [World.frozen?,b];omega
 refine gF.2 ((hS l0.blk (l0.base+0) cap' ⟨l⟩ w (aHZ hf h0 hb hc hgl hs.fresh _ _ _ _) hH hblk hlen).mono fun e' w' ⟨he,d',n,os,hperm,hsorted,hw⟩=>?_);have hd':=aMy hlt hp hperm hsorted;have hdsz:d'.size=l.length:=hperm.1;refine ⟨.tuple #[],ρ,he,.tup .nil,?_⟩;rw [hS',hw];have hput:=hs.put_cells (w':=putRowK rC 2 (Go.Sort.ahead w n) l0.blk (l0.base+0) d') (cs':=cellsOf (cE l [])) (fl':=fl) hg hloc (hrw hfl).1 (co':=.cells (putCells (fun v=>v) (l0.base+0) (Go.Sort.flatK rC 2 d') cc) e f) ?_ ?_ ?_ rfl rfl rfl ?_ (Nat.le_add_right _ _)
 ·exact ⟨hput.1.grow os,hput.2.trans (Ext.grow _ _ _ os)⟩
 ·show (w.heap.modify l0.blk (onCells _))[l0.blk]?=_;rw [Array.getElem?_modify,if_pos rfl,b];rfl
 ·intro b' hb';show (w.heap.modify l0.blk (onCells _))[b']?=_;rw [Array.getElem?_modify,if_neg (Ne.symm hb')]
 ·exact Go.Sort.size_putRow _ _ _ _ _
 ·have hlen':(cellsOf (cE l [])).length=(cellsOf l).length:=by rw [aZ,aZ,dY];simp
  refine ⟨_,f,rfl,by simpa [putCells] using hsz,by simpa [putCells,hlen'] using hle,fun i v hv=>?_,fun h=>⟨(hrw h).1,fun o ho=>(hrw h).2 o (by simpa [putCells] using ho)⟩,fun h=>by simpa [putCells,hlen'] using hex h⟩
  have hi:i < (cellsOf l).length:=by rw [<- hlen'];exact (ao.1 hv).1
  refine ⟨(Go.Sort.flatK rC 2 d')[i]!, ?_,?_⟩
  ·have hlt2:l0.base+i < cc.size:=om;simp only [putCells,Array.getElem?_mapIdx,Array.getElem?_eq_getElem hlt2,Option.map_some];rw [if_pos (by refine ⟨om,?_⟩;rw [size_flatK,hdsz];omega)];have e3:l0.base+i - (l0.base+0)=i:=om;rw [e3]
  ·have:=aQF (ρ:=ρ) (cE l []) hv;rw [<- hd'] at this;exact this
end
end Go.Am
namespace Go.Proofs
open Go.Shelf Go.RowKit Go.Lib Go.Sort
def Tryz.sort29_ren:Go.Shelf.Ren:=⟨fun|6=>39|15=>72|14=>71|28=>110|29=>111|20=>102|21=>103|22=>104|23=>105|24=>106|25=>107|26=>108|27=>109|46=>144|47=>145|48=>146|49=>147|50=>148|57=>191|n=>n,fun|22=>28|24=>34|25=>104|3=>3|39=>145|0=>0|53=>194|55=>47|4=>4|46=>188|45=>187|50=>84|5=>5|9=>9|66=>243|70=>247|76=>286|77=>287|n=>n,fun|n=>n⟩
theorem Tryz.sort29:Go.Proofs.SlLaysF0.n6 Tryz.prog Tryz.sort29_ren:={
 mixed:=by kernel_rfl
 f6:=⟨Tryz.f39.name,by decide,Tryz.func39.trans (congrArg some (by kernel_rfl))⟩
 f14:=⟨Tryz.f71.name,by decide,Tryz.func71.trans (congrArg some (by kernel_rfl))⟩
 f15:=Tryz.func72.trans (congrArg some (by kernel_rfl))
 f20:=⟨Tryz.f102.name,by decide,Tryz.func102.trans (congrArg some (by kernel_rfl))⟩
 f21:=⟨Tryz.f103.name,by decide,Tryz.func103.trans (congrArg some (by kernel_rfl))⟩
 f22:=⟨Tryz.f104.name,by decide,Tryz.func104.trans (congrArg some (by kernel_rfl))⟩
 f23:=⟨Tryz.f105.name,by decide,Tryz.func105.trans (congrArg some (by kernel_rfl))⟩
 f24:=⟨Tryz.f106.name,by decide,Tryz.func106.trans (congrArg some (by kernel_rfl))⟩
 f25:=⟨Tryz.f107.name,by decide,Tryz.func107.trans (congrArg some (by kernel_rfl))⟩
 f26:=⟨Tryz.f108.name,by decide,Tryz.func108.trans (congrArg some (by kernel_rfl))⟩
 f27:=⟨Tryz.f109.name,by decide,Tryz.func109.trans (congrArg some (by kernel_rfl))⟩
 f28:=Tryz.func110.trans (congrArg some (by kernel_rfl))
 f29:=Tryz.func111.trans (congrArg some (by kernel_rfl))
 f46:=⟨Tryz.f144.name,by decide,Tryz.func144.trans (congrArg some (by kernel_rfl))⟩
 f47:=Tryz.func145.trans (congrArg some (by kernel_rfl))
 f48:=Tryz.func146.trans (congrArg some (by kernel_rfl))
 f49:=⟨Tryz.f147.name,by decide,Tryz.func147.trans (congrArg some (by kernel_rfl))⟩
 f50:=⟨Tryz.f148.name,by decide,Tryz.func148.trans (congrArg some (by kernel_rfl))⟩
 f57:=⟨Tryz.f191.name,by decide,Tryz.func191.trans (congrArg some (by kernel_rfl))⟩
 t0:=Tryz.underlying0
 a0:=Tryz.isAgg0
 z0:=Tryz.sizeOf0
 v0:=Tryz.zeroValue0
 t3:=Tryz.underlying3
 a3:=Tryz.isAgg3
 z3:=Tryz.sizeOf3
 v3:=Tryz.zeroValue3
 t4:=Tryz.underlying4
 a4:=Tryz.isAgg4
 z4:=Tryz.sizeOf4
 v4:=Tryz.zeroValue4
 t5:=Tryz.underlying5
 a5:=Tryz.isAgg5
 z5:=Tryz.sizeOf5
 v5:=Tryz.zeroValue5
 t9:=Tryz.underlying9
 a9:=Tryz.isAgg9
 z9:=Tryz.sizeOf9
 v9:=Tryz.zeroValue9
 t22:=Tryz.underlying28
 a22:=Tryz.isAgg28
 z22:=Tryz.sizeOf28
 v22:=Tryz.zeroValue28
 t25:=Tryz.underlying104
 a25:=Tryz.isAgg104
 z25:=Tryz.sizeOf104
 v25:=Tryz.zeroValue104
 t39:=Tryz.underlying145
 a39:=Tryz.isAgg145
 z39:=Tryz.sizeOf145
 v39:=Tryz.zeroValue145
 t45:=Tryz.underlying187
 a45:=Tryz.isAgg187
 z45:=Tryz.sizeOf187
 v45:=Tryz.zeroValue187
 t46:=Tryz.underlying188
 a46:=Tryz.isAgg188
 z46:=Tryz.sizeOf188
 v46:=Tryz.zeroValue188
 t50:=Tryz.underlying84
 a50:=Tryz.isAgg84
 z50:=Tryz.sizeOf84
 v50:=Tryz.zeroValue84
 t53:=Tryz.underlying194
 a53:=Tryz.isAgg194
 z53:=Tryz.sizeOf194
 v53:=Tryz.zeroValue194
 t55:=Tryz.underlying47
 a55:=Tryz.isAgg47
 z55:=Tryz.sizeOf47
 v55:=Tryz.zeroValue47
 t66:=Tryz.underlying243
 a66:=Tryz.isAgg243
 z66:=Tryz.sizeOf243
 v66:=Tryz.zeroValue243
 t70:=Tryz.underlying247
 a70:=Tryz.isAgg247
 z70:=Tryz.sizeOf247
 v70:=Tryz.zeroValue247
 t76:=Tryz.underlying286
 a76:=Tryz.isAgg286
 z76:=Tryz.sizeOf286
 v76:=Tryz.zeroValue286
 t77:=Tryz.underlying287
 a77:=Tryz.isAgg287
 z77:=Tryz.sizeOf287
 v77:=Tryz.zeroValue287 }
theorem Tryz.agg40:∀ w,(isAgg (Tryz.sort29_ren.t 24)).run Tryz.prog w=.ok true w:=fun w=>Tryz.isAgg34 w
theorem Tryz.size40:∀ w,(Go.sizeOf (Tryz.sort29_ren.t 24)).run Tryz.prog w=.ok 2 w:=fun w=>Tryz.sizeOf34 w
open Go.Am
theorem Am.enc1:∀ (x:aY),∀ v ∈ rC x,v.oneCell'=true:=fun x v hv=>by
 simp [rC] at hv
 rcases hv with rfl|rfl <;> rfl
theorem Am.enters30:∀ args w,(callFunc 40 args).run Tryz.prog w=.ok (.enter 40 args) w:=enters_of Tryz.func40 (by kernel_rfl) rfl
theorem Am.sort29 {cf:aY->aY->Int}(hO:SWO (ltOf cf)):aMT Tryz.prog 39 40 cf:=fun blk off cap d w hcmp hH hblk hsz =>
 AnyQ.slices_SortFunc Tryz.sort29 2 Tryz.agg40 Tryz.size40 rC (fun _=>rfl) Am.enc1 cf hO 40 #[] blk off cap d w Am.enters30 hcmp hH hblk hsz
set_option maxHeartbeats 2000000 in
set_option maxRecDepth 100000 in
theorem Am.sort61 {cf:aY->aY->Int}(hO:SWO (ltOf cf)):aMT Tryz.prog 91 40 cf:=fun blk off cap d w hcmp hH hblk hsz=>by
 have L:=Tryz.sort29;have hlim:Lib.bitLen d.size < 4611686018427387904:=Nat.lt_of_le_of_lt (Lib.bitLen_le d.size 62 (by omega) (by omega)) (by omega);have hp:=AnyQ.pdqsortCmpFunc_all (P:=Tryz.prog) (ρ:=Tryz.sort29_ren) { L with } 2 Tryz.agg40 Tryz.size40 rC cf 40 #[] hO blk off cap d w Am.enters30 hcmp ⟨fun _=>rfl,Am.enc1,hH,hblk⟩ (d.size+1) 0 d.size (Lib.bitLen d.size) d w (by omega) rfl (SWK.start hH) (Nat.zero_le _) (Nat.le_refl _) hsz hlim (Or.inl rfl)
 have hl:Calls Tryz.prog 72 #[.int .u64 (d.size:Int)] w fun e w'=>e=.returned (.int .i64 (Lib.bitLen d.size:Nat))∧w'=w:=by
  have h:=Any.bits_Len (SlLaysF0.n15.bits (P:=Tryz.prog) (ρ:=Tryz.sort29_ren) { L with }) (d.size:Int) w (by omega) (by omega);rwa [Int.toNat_natCast] at h
 change Calls Tryz.prog 71 _ _ _ at hp
 have wr:IntKind.u64.wrap (d.size:Int)=d.size:=by simp [IntKind.wrap,IntKind.bits,IntKind.signed];omega
 have hsorts:=pdq_sorts (ltOf cf) hO d 0 d.size (Lib.bitLen d.size) true true (Nat.zero_le _) (Nat.le_refl _) (Or.inl rfl);clear hH hcmp L;generalize pdq (ltOf cf) d 0 d.size (Lib.bitLen d.size) true true=rr at hp hsorts;generalize Lib.bitLen d.size=bl at hp hl hlim
 go_enter Tryz.func91,Tryz.ntmps61
 go_wp2_with (first|(go_at_call 72;refine hl.mono ?_;rintro e w' ⟨rfl,rfl⟩)|(go_at_call 71;refine hp.mono ?_;rintro e w' ⟨rfl,n,os,rfl⟩))
 go_end0
 exact ⟨rfl,rr,n,os,hsorts.1,hsorts.2,rfl⟩
theorem Am.none29 (w:World):Calls Tryz.prog 39 #[.slice none 0 0,.func (.func 40) #[] #[]] w fun e w'=>e=.returned (.tuple #[])∧w'=w :=
 AnyF.slices_SortFunc_none Tryz.sort29 none 0 (.func (.func 40) #[] #[]) w
set_option maxHeartbeats 2000000 in
set_option maxRecDepth 100000 in
theorem Am.none61 (w:World):Calls Tryz.prog 91 #[.slice none 0 0,.func (.func 40) #[] #[]] w fun e w'=>e=.returned (.tuple #[])∧w'=w:=by
 have L:=Tryz.sort29;have hp:=fun lim W=>AnyF.pdqsortCmpFunc_none (P:=Tryz.prog) (ρ:=Tryz.sort29_ren) { L with } none 0 lim (.func (.func 40) #[] #[]) W
 have hl:∀ W,Calls Tryz.prog 72 #[.int .u64 0] W fun e w'=>e=.returned (.int .i64 (Lib.bitLen 0:Nat))∧w'=W:=fun W=>by
  have h:=Any.bits_Len (SlLaysF0.n15.bits (P:=Tryz.prog) (ρ:=Tryz.sort29_ren) { L with }) 0 W (by omega) (by omega);exact h
 change ∀ lim W,Calls Tryz.prog 71 _ _ _ at hp
 clear L;generalize (Lib.bitLen 0:Nat)=bl at hl
 go_enter Tryz.func91,Tryz.ntmps61
 go_wp2_with (first|(go_at_call 72;refine (hl _).mono ?_;rintro e w' ⟨rfl,rfl⟩)|(go_at_call 71;refine (hp _ _).mono ?_;rintro e w' ⟨rfl,rfl⟩))
 go_end0
 exact ⟨rfl,rfl⟩
end Go.Proofs
namespace Go.Am
open Go.Proofs Go.Sort
noncomputable def cfL (x y:aY):Int:=xS x.1 y.1
theorem cfL_lt (x y:aY):ltOf cfL x y=jJ x.1 y.1:=by
 unfold ltOf cfL xS
 cases h:jJ x.1 y.1 with
 | true=>simp
 | false =>
   simp
   split <;> simp
theorem cfL_swo:SWO (ltOf cfL) where
 irrefl x:=by rw [cfL_lt];exact lM _
 trans x y z h1 h2:=by rw [cfL_lt] at *;exact lN h1 h2
 ntrans x y z h1 h2:=by
  rw [cfL_lt] at *
  cases h:jJ x.1 z.1 with
  | false=>rfl
  | true =>
    cases h3:jJ y.1 x.1 with
    | true=>rw [lN h3 h] at h2;cases h2
    | false=>rw [pP h1 h3,h2] at h;cases h
theorem sort29_run {l:List aY}(hp:l.Pairwise fun p q=>p.1 ≠ q.1)(hne:l ≠ [])(hlen:l.length <= 4096){S:St}{id cap:Nat}{ex:Bool}{e:TypeId}{fl:Fl}(hfl:fl ≠ .ro)(hg:S.hs.get id=some (.cells (cellsOf l) e fl)){k:V->St->Prop}
  (hk:bD id (some (.cells (cellsOf (cE l [])) e fl)) S fun S'=>k (.tup []) S'):RC Tryz.prog 39 [.slice id 0 l.length cap 2 ex,.func (.func 40) [] []] S k :=
 aKw (Am.sort29 cfL_swo) (fn:=Tryz.f40) (fg:=Tryz.f39) (by kernel_rfl) (by decide) rfl (by kernel_rfl) (by decide) rfl (fun x y n=>aAT x y rfl) cfL_lt hp hne (by omega) hfl hg hk
theorem sort61_run {l:List aY}(hp:l.Pairwise fun p q=>p.1 ≠ q.1)(hne:l ≠ [])(hlen:l.length <= 4096){S:St}{id cap:Nat}{ex:Bool}{e:TypeId}{fl:Fl}(hfl:fl ≠ .ro)(hg:S.hs.get id=some (.cells (cellsOf l) e fl)){k:V->St->Prop}
  (hk:bD id (some (.cells (cellsOf (cE l [])) e fl)) S fun S'=>k (.tup []) S'):RC Tryz.prog 91 [.slice id 0 l.length cap 2 ex,.func (.func 40) [] []] S k :=
 aKw (Am.sort61 cfL_swo) (fn:=Tryz.f40) (fg:=Tryz.f91) (by kernel_rfl) (by decide) rfl (by kernel_rfl) (by decide) rfl (fun x y n=>aAT x y rfl) cfL_lt hp hne (by omega) hfl hg hk
theorem sortNone_ok {P:Program}{g:FuncId}{fg:Func}{bodyg:Code}(hS:∀ w,Calls P g #[.slice none 0 0,.func (.func 40) #[] #[]] w fun e w'=>e=.returned (.tuple #[])∧w'=w)(hfg:P.funcs[g]?=some fg)(h0g:¬ fg.name = "runtime.NumGoroutine")(hbg:fg.body=some bodyg)
  {S:St} {k:V->St->Prop} (hk:k (.tup []) S):RC P g [.nilSlice,.func (.func 40) [] []] S k:=by
 refine .mk (.tup []) S (fun ρ w l' hgl hs hl=>?_) hk
 cases hl with
 | cons h1 hl =>
 cases hl with
 | cons h2 hl =>
 cases hl
 cases h2 with
 | func _ ha hb2 =>
 cases ha;cases hb2;cases h1
 have hcall:(callFunc g ⟨[Value.slice none 0 0,.func (.func 40) ⟨[]⟩ ⟨[]⟩]⟩).run P w=.ok (.enter g ⟨[Value.slice none 0 0,.func (.func 40) ⟨[]⟩ ⟨[]⟩]⟩) w:=by
  simp [callFunc,hfg,h0g,hbg]
 rw [hcall];refine gF.2 ((hS w).mono fun e' w' ⟨he,hw⟩=>?_);subst hw;exact ⟨.tuple #[],ρ,he,.tup .nil,hs,Ext.refl _ _ _⟩
theorem sort29_nil {S:St}{k:V->St->Prop}(hk:k (.tup []) S):RC Tryz.prog 39 [.nilSlice,.func (.func 40) [] []] S k:=sortNone_ok Am.none29 (fg:=Tryz.f39) (by kernel_rfl) (by decide) rfl hk
theorem sort61_nil {S:St}{k:V->St->Prop}(hk:k (.tup []) S):RC Tryz.prog 91 [.nilSlice,.func (.func 40) [] []] S k:=sortNone_ok Am.none61 (fg:=Tryz.f91) (by kernel_rfl) (by decide) rfl hk
end Go.Am
namespace Go.Am
open Go.Proofs
attribute [local irreducible] fN fI fB cR eQ aO evCode evOps rD kOp aAj wF wH wG kGc aLE aLD kDr kMg drOps fU kK sl
theorem f19:bB Tryz.prog 19 48 [.tmp 2,.tmp 3] (aL Tryz.f19):=fq Tryz.f19
theorem aFQ {l:List aY}{n:Nat}(hn:n=l.length)(hlen:l.length <= 64){S:St}{id:Nat}(hg:S.hs.get id=some (.cells (cellsOf l) 34 .rw)){k:V->St->Prop}
  (hk:bD id (some (.cells (cellsOf (xT l)) 34 .rw)) S fun S=>k (.slice id 0 (fR l).length n 2 false) S):RC Tryz.prog 42 [.slice id 0 n n 2 false,.func (.func 43) [] []] S k:=by subst hn;exact aIe hlen hg hk
theorem aId {S:St}{k:V->St->Prop}(hk:k .nilSlice S):RC Tryz.prog 42 [.nilSlice,.func (.func 43) [] []] S k:=by
 refine RC.read mixed f42 (l:=[.nilSlice,.func (.func 43) [] []]) [] [] [] [] (v2:=.nilSlice) sm rfl rfl sm sm (.cons .nilSlice (.cons (.func _ .nil .nil) .nil)) sm ?_ hk;refine build ?_;refine enter ?_;refine goB ?_;refine yB (LV.nil _) sm 0 (af _) sm (fun h=>absurd h (Nat.lt_irrefl _)) (r:=.negSucc 0) rfl ?_;refine goB ?_;exact ⟨[],bj,sm,.nilSlice,trivial,trivial⟩
theorem aDb {S:St}{k:V->St->Prop}(hk:k (.tup [.nilSlice,.int .i64 0]) S):RC Tryz.prog 41 [.nilSlice] S k:=by
 refine RC.read mixed f41 (l:=[.nilSlice]) [] [] [] [] (v2:=.tup [.nilSlice,.int .i64 0]) sm rfl rfl sm sm (.cons .nilSlice .nil) sm ?_ hk;refine build ?_;refine enter ?_;refine goB ?_;exact ⟨[],bj,sm,.tup (.cons .nilSlice (.cons (.int _ _) .nil)),trivial,trivial⟩
theorem aTU {S:St}{k:V->St->Prop}(hk:k (.tup [.nilSlice,.int .i64 0]) S):RC Tryz.prog 19 [.nilSlice] S k:=by
 refine RC.read mixed f19 (l:=[.nilSlice]) [] [] [] [] (v2:=.tup [.nilSlice,.int .i64 0]) sm rfl rfl sm sm (.cons .nilSlice .nil) sm ?_ hk;refine build ?_;refine enter ?_;refine goB ?_;refine LP.one mixed ?_;refine goB ?_;refine zF (l:=[]) (LV.nil _) (fun h=>absurd rfl h) sm ?_;refine goB ?_;refine sort29_nil ?_;refine goB ?_;refine LP.one mixed ?_;refine goB ?_;refine aId ?_;refine goB ?_;refine aDb ?_;refine goB ?_;exact ⟨[],bj,sm,.tup (.cons .nilSlice (.cons (.int _ _) .nil)),trivial,trivial⟩
theorem aOO {l:List aY}(hne:l ≠ [])(hlen:l.length <= 64)(hn':∀ q ∈ l,q.1 ∈ dF)(hv':∀ q ∈ l,q.2 ∈ iB)(hp:l.Pairwise fun p q=>p.1 ≠ q.1){v:V}{S:St}(h:LS S v l){k:V->St->Prop}
  (hk:bK (.cells (cellsOf (xT (cE l []))) 34 .rw) S fun id S'=>k (.tup [.slice id 0 (fR (cE l [])).length l.length 2 false,.int .i64 0]) S'):RC Tryz.prog 19 [v] S k:=by
 obtain ⟨i40,hi40,hs40⟩:=lK
 have hsl:(cE l []).length=l.length:=by rw [dY];simp
 have hasc:(cE l []).Pairwise fun p q=>jJ p.1 q.1=true:=kC .nil hp sm;obtain ⟨i,cap,ex,rest,e,fl,rfl,hc,hrow⟩:=h
 refine RC.read mixed f19 (l:=[.slice aI 0 l.length l.length 2 false]) [i] [.cells (cellsOf l ++ rest) e fl] [.cells (cellsOf l) e .ro] [.cells (cellsOf (xT (cE l []))) 34 .rw] (v2:=.tup [.slice S.next 0 (fR (cE l [])).length l.length 2 false,.int .i64 0]) ?_ rfl rfl ?_ ?_
  (.cons (.slice _ _ _ _ _ _ _ (iC.at (a:=0) rfl sm) (.inr (af _)) hc sm) .nil) ?_ ?_ (mZ hk)
 ·rintro (_|a) o h
  ·simp at h;subst h;rfl
  ·simp at h
 ·rintro (_|a) j o h1 h2
  ·simp at h1 h2;subst h1;subst h2;exact hrow
  ·simp at h1
 ·rintro (_|a) o1 o2 h1 h2
  ·simp at h1 h2;subst h1;subst h2;exact .part (aN l)
  ·simp at h1
 ·rintro (_|a) o h
  ·simp at h;subst h;rfl
  ·simp at h
 ·show dJ _ ⟨T.nil,aI+1⟩ _;refine build ?_;refine enter ?_;refine goB ?_;refine LP.induct0 l.length (fun j E=>j <= l.length∧Kn E 48 [(0,.slice aI 0 l.length l.length 2 false),(9,.slice aI 0 l.length l.length 2 false),(10,.int .i64 (.ofNat l.length)),(11,.int .i64 (.ofNat j))]) ⟨ai _,kq⟩ ?_;intro j E ⟨hjl,hf⟩ ih;refine LP.kng mixed hf ?_;cases hb:qG (.ofNat j) (.ofNat l.length)
  ·have hge:l.length <= j:=by rw [bF] at hb;simpa using hb
   clear ih;refine goB ?_;refine zF (LV.mk (e:=e) (fl:=.ro) rfl (af _)) (fun _=>hne) om ?_;rw [aEU hne,kO hne];refine goB ?_;refine sort29_run hp hne om (fl:=.rw) sm rfl ?_;refine goB ?_;refine LP.induct0 l.length (fun m E=>m <= l.length∧Kn E 48 [(0,.slice aI 0 l.length l.length 2 false),(7,.slice (aI+1) 0 l.length l.length 2 false),(8,.int .i64 (.ofNat (m+1)))]) ⟨ai _,kq⟩ ?_;intro m E ⟨hml,hf⟩ ih;refine LP.kng mixed hf ?_;cases hb2:qG (.ofNat (m+1)) (.ofNat l.length)
   ·have hge2:l.length <= m+1:=by rw [bF] at hb2;exact Nat.le_of_not_lt fun h=>of_decide_eq_false hb2 (Int.ofNat_lt.2 h)
    clear ih;refine goB ?_;refine aFQ hsl.symm om rfl ?_;refine goB ?_;refine mY _ _ _ _ _ _ (bg (List.length_filter_le _ _) om) ?_;refine goB ?_;exact ⟨[_],eE _,fun g hg=>by rw [ay] at hg;subst hg;exact ae rfl,.tup (.cons (.slice _ _ _ _ _ _ _ (uF.new (a:=0) rfl (ae rfl) sm) (.inl rfl) (af _) (fun h=>⟨h,rfl⟩)) (.cons (.int _ _) .nil)),trivial,⟨⟨_,rfl,.cells (aN _) (.inl rfl)⟩,trivial⟩⟩
   ·have hlt2:m+1 < l.length:=by rw [bF] at hb2;exact Int.ofNat_lt.1 (of_decide_eq_true hb2)
    have hblt2:Nat.blt (m+1) l.length=true:=hb2;have hm:Nat.blt m l.length=true:=ag (show m+1 <= l.length by omega);have hlt3:kG (cE l [])[m+1].1 (cE l [])[m].1=false:=xV (Ne.symm (rW (List.pairwise_iff_getElem.1 hasc m (m+1) om om om)));refine goB ?_;refine godB ?_
    refine aV rfl (by
     intro Q hQ
     conv=>whnf
     refine bX (fun _=>?_) (fun h=>absurd (h.symm.trans hblt2) sm)
     conv=>whnf
     (repeat (first|exact hQ|(refine kN (by first|rfl|assumption) ?_;conv=>whnf)|(refine lG (by first|rfl|assumption) ?_;conv=>whnf)|(refine aP ?_;conv=>whnf)|(refine bR ?_;conv=>whnf)|(unfold cR;conv=>whnf)))) ?_
    refine godB ?_
    refine d_readH (hs:=rfl) rfl (by
     intro Q hQ
     conv=>whnf
     refine aH xN (2 * (m+1)) (show 0+(m+1) * 2+0=2 * (m+1) by omega) (jN (l:=cE l []) om).1 ?_
     exact hQ) ?_
    intro _;refine godB ?_
    refine aV rfl (by
     intro Q hQ
     conv=>whnf
     refine bA m (by show Int.subNatNat (m+1) 1=_;rw [Int.subNatNat_of_le om];rfl) (by show m <= 9223372036854775807;omega) ?_
     exact hQ) ?_
    refine godB ?_
    refine aV rfl (by
     intro Q hQ
     conv=>whnf
     refine bX (fun _=>?_) (fun h=>absurd (h.symm.trans hm) sm)
     conv=>whnf
     (repeat (first|exact hQ|(refine kN (by first|rfl|assumption) ?_;conv=>whnf)|(refine lG (by first|rfl|assumption) ?_;conv=>whnf)|(refine aP ?_;conv=>whnf)|(refine bR ?_;conv=>whnf)|(unfold cR;conv=>whnf)))) ?_
    refine godB ?_
    refine d_readH (hs:=rfl) rfl (by
     intro Q hQ
     conv=>whnf
     refine aH xN (2 * m) (show 0+m * 2+0=2 * m by omega) (jN (l:=cE l []) om).1 ?_
     exact hQ) ?_
    intro _;refine godB ?_;refine godB ?_;refine godB ?_;refine goB ?_;refine bA (m+1+1) rfl (by show m+1+1 <= 9223372036854775807;omega) ?_;refine goB ?_;refine ⟨_,⟨ae kr,?_⟩,rfl,ih _ om ⟨om,?_⟩⟩
    ·
     repeat' (first
      | exact trivial
      | exact ae rfl
      | exact ⟨_,rfl,.cells (aN _) (.inl rfl)⟩
      | apply And.intro)
    ·exact kq
  ·have hlt:j < l.length:=by rw [bF] at hb;simpa using hb
   have hblt:Nat.blt j l.length=true:=hb;refine goB ?_;refine bX (fun _=>?_) (fun h=>absurd (h.symm.trans hblt) sm);refine goB ?_;refine dT agg40 hi40 hs40 (j:=j) (ak hlt) (show 0+j * 2=2 * j by omega) ?_;refine goB ?_;refine wQ (q:=l[j]) (hn' _ (az hlt)) (hv' _ (az hlt)) ?_;refine goB ?_;refine bA (j+1) rfl (by show j+1 <= 9223372036854775807;omega) ?_;refine goB ?_;refine ⟨_,⟨af _,?_⟩,rfl,ih _ hlt ⟨om,kq⟩⟩
   repeat' (first
    | exact trivial
    | exact ae rfl
    | exact ⟨_,rfl,.cells (aN _) (.inl rfl)⟩
    | apply And.intro)
end Go.Am
namespace Go.Am
theorem expTs_mem {tg sm:List aY}:∀ {l:List aY} {x:eY × Nat},fE x->∀ y:aY,y ∈ (l.foldl (eL tg sm) x).1.map (·.1)->y ∈ x.1.map (·.1) ∨ (y ∈ l∧getL y.1 tg=[]) ∨ ∃ q ∈ l,y=(kH q.1,q.2)
 | [],x,_,y,h=>.inl h
 | q :: l,x,hx,y,h=>by
   rcases expTs_mem (l:=l) (vV hx) y h with h1|⟨h1,h2⟩|⟨z,hz,h1⟩
   ·unfold eL at h1;by_cases hg:getL q.1 tg=[]
    ·rw [if_pos hg,oA hx.dist] at h1
     rcases h1 with rfl|⟨_,h1⟩
     ·exact .inr (.inl ⟨by simp,hg⟩)
     ·exact .inl h1
    ·rw [if_neg hg] at h1;by_cases hc:getL (kH q.1) tg ++ getL (kH q.1) sm=[]
     ·rw [if_pos hc,oA hx.dist] at h1
      rcases h1 with rfl|⟨_,h1⟩
      ·exact .inr (.inr ⟨q,by simp,rfl⟩)
      ·exact .inl h1
     ·rw [if_neg hc] at h1;exact .inl h1
   ·exact .inr (.inl ⟨List.mem_cons_of_mem _ h1,h2⟩)
   ·exact .inr (.inr ⟨z,List.mem_cons_of_mem _ hz,h1⟩)
theorem expTs_keep {tg sm:List aY}{y:aY}(hy:getL y.1 sm ≠ []):∀ {l:List aY} {x:eY × Nat},fE x->(∀ q ∈ l,q.1 ≠ y.1)->y ∈ x.1.map (·.1)->y ∈ (l.foldl (eL tg sm) x).1.map (·.1)
 | [],_,_,_,h=>h
 | q :: l,x,hx,hn,h=>by
   refine expTs_keep hy (l:=l) (vV hx) (fun z hz=>hn z (by simp [hz])) ?_;unfold eL;by_cases hg:getL q.1 tg=[]
   ·rw [if_pos hg,oA hx.dist];exact .inr ⟨Ne.symm (hn q (by simp)),h⟩
   ·rw [if_neg hg];by_cases hc:getL (kH q.1) tg ++ getL (kH q.1) sm=[]
    ·rw [if_pos hc,oA hx.dist];refine .inr ⟨fun e=>hy ?_,h⟩;have e':y.1=kH q.1:=e;rw [e'];exact (List.append_eq_nil_iff.1 hc).2
    ·rw [if_neg hc];exact h
theorem expTs_put {tg sm:List aY}{y:aY}(hy:getL y.1 sm ≠ [])(hg:getL y.1 tg=[]):∀ {l:List aY} {x:eY × Nat},fE x->l.Pairwise (fun p q=>p.1 ≠ q.1)->y ∈ l->y ∈ (l.foldl (eL tg sm) x).1.map (·.1)
 | [],_,_,_,h=>by simp at h
 | q :: l,x,hx,hp,h=>by
   have hp':=List.pairwise_cons.1 hp
   rcases List.mem_cons.1 h with rfl|h
   ·refine expTs_keep hy (l:=l) (vV hx) (fun z hz=>Ne.symm (hp'.1 z hz)) ?_;unfold eL;rw [if_pos hg,oA hx.dist];exact .inl rfl
   ·exact expTs_put hy hg (l:=l) (vV hx) hp'.2 h
section
variable {tg sm:List aY} (okT:kF tg) (hT:∀ q ∈ tg,eP q.1=false) (okS:kF sm) (hS:∀ q ∈ sm,q.1 ∈ bW) {met:List UInt8} (hmet:met ∈ jD) (hin:(aW,met) ∈ sm)
include okT in
theorem expL_mem (y:aY):y ∈ kW tg sm ↔ y ∈ tg ∨ ((∀ q ∈ tg,y.1 ≠ q.1)∧y ∈ (sm.foldl (eL tg sm) ([],0)).1.map (·.1)):=by
 unfold kW;rw [kV,oB (rQ _ .nil) (gL okT.asc)]
include okS in
theorem getS {y:aY}(hy:y ∈ sm):getL y.1 sm ≠ []:=by
 rw [iF (gL okS.asc) hy];exact okS.full y hy
include okT in
theorem noT {s:List UInt8}(h:getL s tg=[]):∀ q ∈ tg,s ≠ q.1:=fun q hq e=>by
 rw [e,iF (gL okT.asc) hq] at h;exact okT.full q hq h
include okT okS in
theorem expL_keep {y:aY}(hy:y ∈ sm)(hg:getL y.1 tg=[]):y ∈ kW tg sm :=
 (expL_mem okT y).2 (.inr ⟨noT okT hg,expTs_put (getS okS hy) hg .nil (gL okS.asc) hy⟩)
include hT in
theorem nameT:getL aW tg=[]:=sT fun q hq e=>by
 have:=hT q hq;rw [e] at this;exact absurd this (by decide)
include okT hT okS hin in
theorem nameX_in:(aW,met) ∈ kW tg sm:=expL_keep okT okS hin (nameT hT)
include okT okS hS in
theorem expL_ok:kF (kW tg sm):=by
 have key:∀ y ∈ kW tg sm,(y.1 ∈ dF∧y.2 ∈ iB)∧y.2 ≠ []:=fun y hy=>by
  rcases (expL_mem okT y).1 hy with h|⟨_,h⟩
  ·exact ⟨⟨okT.name y h,okT.val y h⟩,okT.full y h⟩
  ·rcases expTs_mem .nil y h with h|⟨h,_⟩|⟨q,hq,rfl⟩
   ·simp at h
   ·exact ⟨⟨okS.name y h,okS.val y h⟩,okS.full y h⟩
   ·exact ⟨⟨aTm (hS q hq),okS.val q hq⟩,okS.full q hq⟩
 exact ⟨fun y hy=>(key y hy).1.1,fun y hy=>(key y hy).1.2,fun y hy=>(key y hy).2,xC (.puts _ (rQ _ .nil))⟩
include okT hT okS hS hin in
theorem expL_name:getL aW (kW tg sm)=met:=iF (q:=(aW,met)) (gL (expL_ok okT okS hS).asc) (nameX_in okT hT okS hin)
include okT hT okS hS hin in
theorem made_mem (y:aY):y ∈ fW (tZ tg sm) ↔ y=(aW,met) ∨ (y.1 ≠ aW∧eP y.1=false∧y ∈ kW tg sm):=by
 have hF:((kW tg sm).filter fun q=>!eP q.1).Pairwise fun p q=>p.1 ≠ q.1:=gL ((expL_ok okT okS hS).asc.filter _);rw [kV];unfold tZ;rw [oB (.puts _ .nil) (List.pairwise_singleton _ _),oB .nil hF,expL_name okT hT okS hS hin];simp;rw [and_comm (a:=y ∈ kW tg sm)]
include okT hT okS hS hin in
theorem made_ne:(tZ tg sm).1 ≠ []:=fun h=>by
 have h1:=(made_mem okT hT okS hS hin (aW,met)).2 (.inl rfl);rw [kV,h] at h1;simp at h1
theorem made_asc:(fW (tZ tg sm)).Pairwise fun p q=>jJ p.1 q.1=true:=xC (.puts _ (.puts _ .nil))
include okT hT okS hS hmet hin in
theorem made_ok:kF (fW (tZ tg sm)):=by
 have hX:=expL_ok okT okS hS
 have key:∀ y ∈ fW (tZ tg sm),(y.1 ∈ dF∧y.2 ∈ iB)∧y.2 ≠ []:=fun y hy=>by
  rcases (made_mem okT hT okS hS hin y).1 hy with rfl|⟨_,_,h⟩
  ·exact ⟨⟨pQ,tF hmet⟩,aEO hmet⟩
  ·exact ⟨⟨hX.name y h,hX.val y h⟩,hX.full y h⟩
 exact ⟨fun y hy=>(key y hy).1.1,fun y hy=>(key y hy).1.2,fun y hy=>(key y hy).2,made_asc⟩
include okT hT okS hS hin in
theorem made_name:getL aW (fW (tZ tg sm))=met:=iF (q:=(aW,met)) (gL made_asc) ((made_mem okT hT okS hS hin _).2 (.inl rfl))
include okT hT okS hS hin in
theorem made_own {y:aY}(hy:y ∈ tg):getL y.1 (fW (tZ tg sm))=y.2:=by
 have hn:y.1 ≠ aW:=fun e=>by
  have:=hT y hy;rw [e] at this;exact absurd this (by decide)
 exact iF (gL made_asc) ((made_mem okT hT okS hS hin y).2 (.inr ⟨hn,hT y hy,(expL_mem okT y).2 (.inl hy)⟩))
include okT hT okS hS hin in
theorem made_sample {y:aY}(hy:y ∈ sm)(hg:getL y.1 tg=[])(hh:eP y.1=false ∨ y.1=aW):getL y.1 (fW (tZ tg sm))=y.2:=by
 by_cases hn:y.1=aW
 ·rw [hn,made_name okT hT okS hS hin];have h1:=iF (gL okS.asc) hy;have h2:=iF (q:=(aW,met)) (gL okS.asc) hin;rw [hn] at h1;exact h2.symm.trans h1
 ·have hh':eP y.1=false:=hh.resolve_right hn;exact iF (gL made_asc) ((made_mem okT hT okS hS hin y).2 (.inr ⟨hn,hh',expL_keep okT okS hy hg⟩))
include okT hT okS hS hin in
theorem made_hidden {s:List UInt8}(hh:eP s=true)(hn:s ≠ aW):getL s (fW (tZ tg sm))=[]:=sT fun z hz e=>by
 rcases (made_mem okT hT okS hS hin z).1 hz with rfl|⟨_,h2,_⟩
 ·exact hn e.symm
 ·rw [e,hh] at h2;cases h2
end
theorem dropN_mem {n:List UInt8}{x:aY}:∀ {l:List aY},x ∈ nJ n l->x ∈ l
 | [],h=>h
 | y :: l,h=>by
   unfold nJ at h
   split at h
   ·exact List.mem_cons_of_mem _ h
   ·rcases List.mem_cons.1 h with rfl|h
    ·simp
    ·exact List.mem_cons_of_mem _ (dropN_mem h)
theorem dropN_ne {n:List UInt8}:∀ {l:List aY},l.Pairwise (fun p q=>p.1 ≠ q.1)->(nJ n l).Pairwise (fun p q=>p.1 ≠ q.1)∧∀ x ∈ nJ n l,x.1 ≠ n
 | [],_=>⟨.nil,by simp [nJ]⟩
 | y :: l,h=>by
   have h':=List.pairwise_cons.1 h;unfold nJ
   split
   ·rename_i e
    exact ⟨h'.2,fun x hx he=>h'.1 x hx (e.trans he.symm)⟩
   ·rename_i e
    obtain ⟨h1,h2⟩:=dropN_ne (n:=n) h'.2;refine ⟨List.pairwise_cons.2 ⟨fun x hx=>h'.1 x (dropN_mem hx),h1⟩,fun x hx=>?_⟩
    rcases List.mem_cons.1 hx with rfl|hx
    ·exact e
    ·exact h2 x hx
theorem made_dist:∀ (s:List (Nat × Nat)) {o:List aY},o.Pairwise (fun p q=>p.1 ≠ q.1)->(s.foldl iI o).Pairwise fun p q=>p.1 ≠ q.1
 | [],_,h=>h
 | x :: s,o,h=>by
   refine made_dist s ?_;unfold iI;obtain ⟨h1,h2⟩:=dropN_ne (n:=(mB x).1) h;refine List.pairwise_append.2 ⟨h1,List.pairwise_singleton _ _,fun a ha b hb=>?_⟩;rw [List.mem_singleton] at hb;subst hb;exact h2 a ha
theorem getD_in {l:List (List UInt8)}{i:Nat}(h:i < l.length):l.getD i [] ∈ l:=by
 simp [List.getD,h]
theorem labS_in (x:Nat × Nat):(mB x).1 ∈ bW∧(mB x).2 ∈ gQ:=⟨getD_in (Nat.mod_lt _ (by decide)),getD_in (Nat.mod_lt _ (by decide))⟩
theorem made_in:∀ (s:List (Nat × Nat)) {o:List aY},(∀ q ∈ o,q.1 ∈ bW∧q.2 ∈ gQ)->∀ q ∈ s.foldl iI o,q.1 ∈ bW∧q.2 ∈ gQ
 | [],_,h=>h
 | x :: s,o,h=>by
   refine made_in s fun q hq=>?_;unfold iI at hq
   rcases List.mem_append.1 hq with hq|hq
   ·exact h q (dropN_mem hq)
   ·rw [List.mem_singleton] at hq;subst hq;exact labS_in x
theorem made_few (s:List (Nat × Nat)):(oL s).length <= 40:=by
 unfold oL;have:=aBF (s.take 40) [];rw [List.length_take] at this;simp at this;omega
theorem made_names (s:List (Nat × Nat)):∀ q ∈ oL s,q.1 ∈ bW∧q.2 ∈ gQ:=made_in _ (by simp)
theorem made_pair (s:List (Nat × Nat)):(oL s).Pairwise fun p q=>p.1 ≠ q.1:=made_dist _ .nil
theorem names_X {s:List UInt8}(h:s ∈ bW):s ∈ dF:=List.mem_append.2 (.inl h)
theorem vals_X {s:List UInt8}(h:s ∈ gQ):s ∈ iB:=List.mem_append.2 (.inl h)
noncomputable def ofS (s:List (Nat × Nat)):List aY:=fR (cE (oL s) [])
theorem ofS_mem {s:List (Nat × Nat)}{q:aY}(h:q ∈ ofS s):q ∈ oL s∧q.2 ≠ []:=by
 obtain ⟨h1,h2⟩:=List.mem_filter.1 h;rw [lR] at h1;refine ⟨h1.resolve_right (by simp),fun e=>?_⟩;rw [e] at h2;simp [nL] at h2
theorem ofS_ok (s:List (Nat × Nat)):kF (ofS s) :=
 ⟨fun q hq=>names_X (made_names s q (ofS_mem hq).1).1,fun q hq=>vals_X (made_names s q (ofS_mem hq).1).2,fun q hq=>(ofS_mem hq).2,(kC .nil (made_pair s) (by simp)).filter _⟩
theorem ofS_names (s:List (Nat × Nat)):∀ q ∈ ofS s,q.1 ∈ bW:=fun q hq=>(made_names s q (ofS_mem hq).1).1
noncomputable def ownS (s:List (Nat × Nat)):List aY:=(ofS s).filter fun q=>!eP q.1
theorem ownS_ok (s:List (Nat × Nat)):kF (ownS s):=(ofS_ok s).filt
theorem ownS_hid (s:List (Nat × Nat)):∀ q ∈ ownS s,eP q.1=false:=fun q hq=>by simpa using (List.mem_filter.1 hq).2
noncomputable def smpT (met:List UInt8)(s:List (Nat × Nat)):eY × Nat:=[(aW,met)].foldl cK ((ofS s).foldl cK ([],0))
theorem smp_mem {met:List UInt8}{s:List (Nat × Nat)}(y:aY):y ∈ fW (smpT met s) ↔ y=(aW,met) ∨ (y.1 ≠ aW∧y ∈ ofS s):=by
 rw [kV];unfold smpT;rw [oB (.puts _ .nil) (List.pairwise_singleton _ _),oB .nil (gL (ofS_ok s).asc)];simp
theorem nameN_04:aW ∈ bW:=by decide
theorem smp_ok {met:List UInt8}(hmet:met ∈ jD)(s:List (Nat × Nat)):kF (fW (smpT met s)):=by
 have key:∀ y ∈ fW (smpT met s),(y.1 ∈ dF∧y.2 ∈ iB)∧y.2 ≠ []:=fun y hy=>by
  rcases (smp_mem y).1 hy with rfl|⟨_,h⟩
  ·exact ⟨⟨pQ,tF hmet⟩,aEO hmet⟩
  ·exact ⟨⟨(ofS_ok s).name y h,(ofS_ok s).val y h⟩,(ofS_ok s).full y h⟩
 exact ⟨fun y hy=>(key y hy).1.1,fun y hy=>(key y hy).1.2,fun y hy=>(key y hy).2,xC (.puts _ (.puts _ .nil))⟩
theorem smp_names {met:List UInt8}(s:List (Nat × Nat)):∀ q ∈ fW (smpT met s),q.1 ∈ bW:=fun y hy=>by
 rcases (smp_mem y).1 hy with rfl|⟨_,h⟩
 ·exact nameN_04
 ·exact ofS_names s y h
theorem smp_ne {met:List UInt8}(s:List (Nat × Nat)):(smpT met s).1 ≠ []:=fun h=>by
 have h1:=(smp_mem (met:=met) (s:=s) (aW,met)).2 (.inl rfl);rw [kV,h] at h1;simp at h1
end Go.Am
namespace Go.Am
open Go.Proofs
attribute [local irreducible] fN fI fB cR eQ evCode evOps rD kOp aAj wF wH wG kGc aLE aLD kDr kMg drOps fU kK sl
section
attribute [local irreducible] aO bK cM bD
theorem aTT {S:St}{i:Nat}{s:List (Nat × Nat)}(h:S.hs.get i=some (.cells (cellsOf (xT (cE (oL s) []))) 34 .rw)):LV S (.slice i 0 (fR (cE (oL s) [])).length (oL s).length 2 false) (ofS s):=by
 have h1:(fR (cE (oL s) [])).length <= (cE (oL s) []).length:=List.length_filter_le _ _;rw [dY] at h1;unfold xT at h;rw [eS] at h;exact .inr ⟨i,_,_,_,34,.rw,rfl,by show (fR (cE (oL s) [])).length <= _;simpa using h1,h⟩
theorem aRf {s:List (Nat × Nat)}(h:oL s=[]):ofS s=[]:=by unfold ofS;rw [h];rfl
def LR (b:Nat)(S:St)(v:V)(l:List aY):Prop:=(l=[]∧v=.nilSlice) ∨ ∃ m,l ≠ []∧v=.slice m 0 l.length l.length 2 false∧b <= m∧m < S.next∧m < room∧S.hs.get m=some (.cells (cellsOf l) 34 .rw)
theorem aBJ (o:List aY):(mL o).length <= 1:=by cases o <;> simp [mL]
theorem aIO {o:List aY}{b:Nat}{S S2:St}(hb:b <= S.next)(hr:S.next < room)(h:S2.hs=eC (mL o) S.hs):LR b S2 (mD o S.next) o∧(∀ id,id < S.next->S2.hs.get id=S.hs.get id)∧S.next <= S2.next∧S2.next <= S.next+1:=by
 cases o with
 | nil =>
   have h':S2.hs=S.hs:=h;have hn:S2.next=S.next:=congrArg Hs.next h';exact ⟨.inl ⟨rfl,rfl⟩,fun id _=>by rw [h'],om,om⟩
 | cons q o =>
   have h':S2.hs=S.hs.new (.cells (cellsOf (q :: o)) 34 .rw):=h;have hn:=aF h';exact ⟨.inr ⟨S.next,sm,rfl,om,om,om,aJ h'⟩,fun id g=>aC h' om,om,om⟩
theorem aKi {s:List (Nat × Nat)}{v:V}{S:St}(hv:LR 0 S v (oL s))(hn:S.next+1 < room){k:V->St->Prop}
  (hk:∀ S' v',(∀ id,id < S.next->S'.hs.get id=S.hs.get id)->S.next <= S'.next->S'.next <= S.next+1->(∀ S'':St,(∀ id,id < S'.next->S''.hs.get id=S'.hs.get id)->LV S'' v' (ofS s))->k (.tup [v',.int .i64 0]) S'):RC Tryz.prog 19 [v] S k:=by
 rcases hv with ⟨hm,rfl⟩|⟨m,hm,rfl,_,h2,h3,h4⟩
 ·exact aTU (hk S _ (fun _ _=>rfl) (af _) (Nat.le_add_right _ _) fun _ _=>.inl ⟨rfl,aRf hm⟩)
 ·refine aOO hm (bg (made_few s) dc) (fun q hq=>names_X (made_names s q hq).1) (fun q hq=>vals_X (made_names s q hq).2) (made_pair s) (LS.mk h4 (af _)) ?_;refine aD om fun S2 hS2=>?_;have n2:=aF hS2;exact hk S2 _ (fun id g=>aC hS2 om) om om fun S'' h=>aTT ((h _ om).trans (aJ hS2))
theorem aVo:bB Tryz.prog 6 22 [.tmp 2,.tmp 3] (aL Tryz.f6):=fq Tryz.f6
theorem aRk {s:List (Nat × Nat)}{v:V}{S:St}(hsv:SV S v s)(hn:S.next+4 < room){k:V->St->Prop}(hk:∀ S' v',(∀ id,id < S.next->S'.hs.get id=S.hs.get id)->S.next <= S'.next->S'.next <= S.next+3->LR S.next S' v' (ownS s)->k (.tup [v',.bool true]) S'):RC Tryz.prog 6 [v] S k:=by
 refine RC.run mixed aS (aG aVo ?_);refine enter ?_;refine goB ?_;refine aGv hsv ?_;refine eD (by have:=aBJ (oL s);omega) fun S1 hS1=>?_;obtain ⟨hL1,k1,a1,b1⟩:=aIO (b:=0) (ai _) om hS1;refine goB ?_;refine aKi hL1 om fun S2 v2 k2 a2 b2 hL2=>?_;refine goB ?_;refine aHs (hL2 S2 fun _ _=>rfl) (ofS_ok s) ?_;refine eD (by have:=aBJ ((ofS s).filter fun q=>!eP q.1);omega) fun S3 hS3=>?_;obtain ⟨hL3,k3,a3,b3⟩:=aIO (b:=S.next) om om hS3;refine goB ?_;exact hk S3 _ (fun id g=>(k3 id om).trans ((k2 id om).trans (k1 id g))) om om hL3
noncomputable def bN (b:Int):Int:=Bool.rec b 4609434218613702656 (xU (aBz b) 4)
noncomputable def tmN (timed:Bool)(t:Int):Int:=Bool.rec 0 t timed
theorem aVl:bB Tryz.prog 17 48 [.cell 2 49,.tmp 3] (aL Tryz.f17):=fq Tryz.f17
theorem aIG (hL:nG Tryz.prog 62 34){s:List (Nat × Nat)}{v:V}{S:St}(hsv:∀ S':St,(∀ id,id < S.next->S'.hs.get id=S.hs.get id)->SV S' v s){nm:Nat}{b t:Int}{timed:Bool}(hn:S.next+30 < room){k:V->St->Prop}
  (hk:∀ S' m,(∀ id,id < S.next->S'.hs.get id=S.hs.get id)->S.next <= m->m < S'.next->S'.next <= S.next+18->S'.hs.get m=some (.cells (cellsOf (fW (smpT (jD.getD (nm % 8) []) s))) 34 .rw)->k (.tup [.agg [.slice m 0 (fW (smpT (jD.getD (nm % 8) []) s)).length (fW (smpT (jD.getD (nm % 8) []) s)).length 2 false,.int .u64 (bN b),.bool timed,.int .i64 (tmN timed t)],.bool true]) S') :
  RC Tryz.prog 17 [.agg [.int .u8 (.ofNat nm),v,.int .u64 b,.int .i64 t,.bool timed]] S k:=by
 have hmet:(jD.getD (nm % 8) []) ∈ jD:=getD_in (Nat.mod_lt _ dc);have h8:Nat.blt (nm % 8) 8=true:=ag (Nat.mod_lt _ dc);refine RC.run mixed aS (aG aVl ?_);refine enter ?_;refine goB ?_;refine aD om fun S1 hS1=>?_;have n1:=aF hS1;have x1:S1.hs.get S.next=some (.cells [.int .u8 (.ofNat nm),v,.int .u64 b,.int .i64 t,.bool timed] 60 .ex):=aJ hS1;refine goB ?_;refine aD om fun S2 hS2=>?_;have n2:=aF hS2;refine goB ?_;refine aA ((aC hS2 om).trans x1) ?_;refine aH kr _ rfl rfl ?_;refine goB ?_;have x2:S2.hs.get S.next=some (.cells [.int .u8 (.ofNat nm),v,.int .u64 b,.int .i64 t,.bool timed] 60 .ex):=(aC hS2 om).trans x1;have k2:∀ id,id < S.next->S2.hs.get id=S.hs.get id:=fun id g=>(aC hS2 om).trans (aC hS1 om);refine aGv (hsv S2 k2) ?_;refine eD (by have:=aBJ (oL s);omega) fun S3 hS3=>?_;obtain ⟨hL3,k3,a3,b3⟩:=aIO (b:=0) (ai _) om hS3;refine goB ?_;refine aKi hL3 om fun S4 v4 k4 a4 b4 hL4=>?_;refine goB ?_;refine aD om fun S5 hS5=>?_;have n5:=aF hS5;have k52:∀ id,id < S2.next->S5.hs.get id=S2.hs.get id:=fun id g=>(aC hS5 om).trans ((k4 id om).trans (k3 id g));refine goB ?_;refine aA ((k52 _ om).trans x2) ?_;refine aH kr _ rfl rfl ?_;refine goB ?_;refine bX (fun _=>?_) (fun h=>absurd (h.symm.trans h8) sm);refine goB ?_;refine aA (aJ hS5) ?_;refine aH xN (nm % 8) (show 0+nm % 8 * 1=nm % 8 by omega) (oF jD (Nat.mod_lt _ dc)) ?_;refine goB ?_;refine aD om fun S6 hS6=>?_;have n6:=aF hS6;refine goB ?_;refine aRD hL (hL4 S6 fun id g=>(aC hS6 om).trans (aC hS5 om)) (ofS_ok s) (LS.mk (l:=[(aW,(jD.getD (nm % 8) []))]) (e:=34) (fl:=.ex) (aJ hS6) (af _)) sm (fun q hq=>by rw [ay] at hq;subst hq;exact pQ) (fun q hq=>by rw [ay] at hq;subst hq;exact tF hmet) (fun q hq=>by rw [ay] at hq;subst hq;exact aEO hmet) (smp_ne (met:=(jD.getD (nm % 8) [])) s) (bg (smp_ok hmet s).few dc) ?_;show bK (.cells (cellsOf (fW (smpT (jD.getD (nm % 8) []) s))) _ _) _ fun id S'=>kOp _ _ _ _ _ _ (.tup [.slice id 0 (fW (smpT (jD.getD (nm % 8) []) s)).length (fW (smpT (jD.getD (nm % 8) []) s)).length 2 false,_]) S';generalize fW (smpT (jD.getD (nm % 8) []) s)=tl at *;refine aD om fun S7 hS7=>?_;have n7:=aF hS7
 have k72:∀ id,id < S2.next->S7.hs.get id=S2.hs.get id:=fun id g=>by rw [aC hS7 om,aC hS6 om];exact k52 id g
 refine goB ?_;refine aA ((k72 _ om).trans x2) ?_;refine aH kr _ rfl rfl ?_;refine goB ?_;refine aD om fun S8 hS8=>?_;have n8:=aF hS8;refine goB ?_;refine aA (aJ hS8) ?_;refine wrA (xs:=[.slice S6.next 0 tl.length tl.length 2 false,.int .u64 b,.bool false,.int .i64 0]) sm kr (by show 0 < 4;omega) rfl rfl ?_;refine aE om fun S9 hS9=>?_;have n9:=aK hS9
 have k9:∀ id,id < S7.next->S9.hs.get id=S7.hs.get id:=fun id g=>by rw [aB hS9 om,aC hS8 om]
 refine goB ?_;refine aA (aR hS9) ?_;refine aH kr _ rfl rfl ?_;refine goB ?_;refine aLH b ?_;refine goB ?_;have x9:=(k9 _ om).trans ((k72 _ om).trans x2);have r9:S9.hs.get S1.next=some (.cells [.nilSlice,.int .u64 0,.bool false,.int .i64 0] 49 .ex):=(k9 _ om).trans ((k72 _ om).trans (aJ hS2));have l9:=(k9 _ om).trans (aJ hS7);refine dG (fun hkd=>?_) (fun hkd=>?_);refine goB ?_;refine aA (aR hS9) ?_;refine bH rfl sm kr rfl (by show 1 < 4;omega) ?_;refine aE om fun S10 hS10=>?_;have n10:S10.next=S9.next:=aK hS10;have t10:S10.hs.get S7.next=some (.cells [.slice S6.next 0 tl.length tl.length 2 false,.int .u64 (bN b),.bool false,.int .i64 0] 49 .ex):=(aR hS10).trans (by unfold bN;rw [hkd];rfl);have x10:=(aB hS10 (show S.next ≠ S7.next by omega)).trans x9;have r10:=(aB hS10 (show S1.next ≠ S7.next by omega)).trans r9;have l10:=(aB hS10 (show S6.next ≠ S7.next by omega)).trans l9
 have k10:∀ id,id < S.next->S10.hs.get id=S.hs.get id:=fun id g=>by rw [aB hS10 om,k9 id om,k72 id om];exact k2 id g
 refine goB ?_;refine aA x10 ?_;refine aH kr _ rfl rfl ?_;refine goB ?_
 rotate_left
 have n10:S9.next=S9.next:=rfl;have t10:S9.hs.get S7.next=some (.cells [.slice S6.next 0 tl.length tl.length 2 false,.int .u64 (bN b),.bool false,.int .i64 0] 49 .ex):=(aR hS9).trans (by unfold bN;rw [hkd]);have x10:=x9;have r10:=r9;have l10:=l9
 have k10:∀ id,id < S.next->S9.hs.get id=S.hs.get id:=fun id g=>by rw [k9 id om,k72 id om];exact k2 id g
 refine goB ?_;refine aA x10 ?_;refine aH kr _ rfl rfl ?_;refine goB ?_
 all_goals
  clear hS9 x9 r9 l9 hL;cases timed
  ·refine goB ?_;refine aA t10 ?_;refine aX (n:=4) kr kr (af 4) rfl ?_;refine goB ?_;refine aA r10 ?_;refine wrA (xs:=[.slice S6.next 0 tl.length tl.length 2 false,.int .u64 (bN b),.bool false,.int .i64 0]) sm kr (by show 0 < 4;omega) rfl rfl ?_;refine aE om fun S11 hS11=>?_;refine goB ?_;refine aA (aR hS11) ?_;refine aX (n:=4) kr kr (af 4) rfl ?_;refine goB ?_;exact hk S11 S6.next (fun id g=>(aB hS11 om).trans (k10 id g)) om (by have:=aK hS11;omega) (by have:=aK hS11;omega) ((aB hS11 om).trans l10)
  ·refine goB ?_;refine godB ?_;refine dE (hs:=rfl) rfl (fun Q hQ=>by (conv=>whnf);exact aA x10 (aH kr _ rfl rfl hQ)) ?_;refine godB ?_;refine d_callA (hs:=rfl) rfl ?_;refine aA t10 ?_;refine bH rfl sm kr rfl (by show 2 < 4;omega) ?_;refine aE om fun S11 hS11=>?_;refine n_dopA ?_;refine godB ?_;refine d_callA (hs:=rfl) rfl ?_;refine aA (aR hS11) ?_;refine bH rfl sm kr rfl (by show 3 < 4;omega) ?_;refine aE om fun S12 hS12=>?_;refine n_dopA ?_;refine godB ?_
   have x11:S11.hs.get S.next=some (.cells [.int .u8 (.ofNat nm),v,.int .u64 b,.int .i64 t,.bool true] 60 .ex):=by rw [aB hS11 om];exact x10
   have r11:S11.hs.get S1.next=some (.cells [.nilSlice,.int .u64 0,.bool false,.int .i64 0] 49 .ex):=by rw [aB hS11 om];exact r10
   have l11:S11.hs.get S6.next=some (.cells (cellsOf tl) 34 .rw):=by rw [aB hS11 om];exact l10
   have k11:∀ id,id < S.next->S11.hs.get id=S.hs.get id:=fun id g=>by rw [aB hS11 om];exact k10 id g
   have n11:S11.next=S9.next+6:=(aK hS11).trans (congrArg (·+6) n10);have n12:=aK hS12;refine eK (.inl kr) (.inr (.inr fun Q hQ=>by (conv=>whnf);exact aA x11 (aH kr _ rfl rfl hQ))) (.inr fun Q hQ=>by (conv=>whnf);exact aA x10 (aH kr _ rfl rfl hQ)) (gN _ _) ?_;refine godB ?_;refine goB ?_;refine aA (aR hS12) ?_;refine aX (n:=4) kr kr (af 4) rfl ?_;refine goB ?_;refine aA ((aB hS12 om).trans r11) ?_;refine wrA (xs:=[.slice S6.next 0 tl.length tl.length 2 false,.int .u64 (bN b),.bool true,.int .i64 t]) sm kr (by show 0 < 4;omega) rfl rfl ?_;refine aE om fun S13 hS13=>?_;have n13:=aK hS13;refine goB ?_;refine aA (aR hS13) ?_;refine aX (n:=4) kr kr (af 4) rfl ?_;refine goB ?_;exact hk S13 S6.next (fun id g=>by rw [aB hS13 om,aB hS12 om];exact k11 id g) om om om (by rw [aB hS13 om,aB hS12 om];exact l11)
end
section
theorem aWS:bB Tryz.prog 169 8 [.tmp 3] (aL Tryz.f169):=fq Tryz.f169
theorem aTJ {q:aY}{nm:List UInt8}{S:St}{m:Nat}{e:TypeId}{fl:Fl}(hm:S.hs.get m=some (.cells [.str nm] e fl))(hne:q.1 ≠ nm){k:V->St->Prop}(hk:k (.bool false) S):RC Tryz.prog 169 [gE q,.ptr m 0] S k:=by
 refine RC.read mixed aWS (l:=[gE q,.ptr aI 0]) [m] [.cells [.str nm] e fl] [.cells [.str nm] e .ro] [] (v2:=.bool false) ?_ rfl rfl ?_ ?_ (.cons (vD q) (.cons (.ptr _ (iC.at (a:=0) rfl sm)) .nil)) sm ?_ hk
 ·rintro (_|a) o h
  ·simp at h;subst h;rfl
  ·simp at h
 ·rintro (_|a) j o h1 h2
  ·simp at h1 h2;subst h1;subst h2;exact hm
  ·simp at h1
 ·rintro (_|a) o1 o2 h1 h2
  ·simp at h1 h2;subst h1;subst h2;exact .cells (.cons (.str _) .nil) (.inr (.inr rfl))
  ·simp at h1
 ·refine build ?_;refine enter ?_;refine go ?_;refine eU (fun h=>absurd h hne) (fun _=>?_);refine go ?_;exact ⟨[],bj,sm,.bool _,trivial,trivial⟩
attribute [local irreducible] aO bK cM bD
theorem aVc:bB Tryz.prog 74 19 [.tmp 4] (aL Tryz.f74):=fq Tryz.f74
theorem aOk {g:FuncId}{caps:List V}{l:List aY}{v:V}{S:St}(h:LV S v l)(hlen:l.length <= 4096)(hg:∀ q ∈ l,∀ k:V->St->Prop,k (.bool false) S->RC Tryz.prog g (gE q :: caps) S k){k:V->St->Prop}(hk:k (.int .i64 (.negSucc 0)) S):RC Tryz.prog 74 [v,.func (.func g) [] caps] S k:=by
 obtain ⟨i40,hi40,hs40⟩:=lK;refine RC.run mixed aS (aG aVc ?_);refine enter ?_
 rcases h with ⟨rfl,rfl⟩|⟨i,c,ex,rest,e,fl,rfl,hc,hrow⟩
 ·refine go ?_;refine LP.one mixed ?_;refine go ?_;exact hk
 ·refine go ?_;refine LP.induct0 l.length (fun j E=>j <= l.length∧Kn E 19 [(0,.slice i 0 l.length c 2 ex),(1,.func (.func g) [] caps),(7,.int .i64 (.ofNat l.length)),(8,.int .i64 (.ofNat j))]) ⟨ai _,kq⟩ ?_;intro j E ⟨hj,hf⟩ ih;refine LP.kn mixed hf ?_;refine go ?_;refine bE (fun hlt=>?_) (fun hge=>?_)
  ·refine go ?_;refine ifK_intro (ag hlt) ?_;refine go ?_;refine aA hrow ?_;rw [show Nat.add 0 (j.mul 2)=2 * j from (Nat.zero_add _).trans (Nat.mul_comm j 2)];refine aX agg40 (n:=2) kr (by simp [aZ];omega) (rT hlt) ?_;refine go ?_;refine hg l[j] (az hlt) _ ?_;refine go ?_;refine bI (j+1) ?_;refine go ?_;exact ih _ hlt ⟨hlt,kq⟩
  ·refine go ?_;exact hk
theorem aTr:bB Tryz.prog 168 9 [.tmp 4] (aL Tryz.f168):=fq Tryz.f168
theorem aLj {g:FuncId}{caps:List V}{l:List aY}{v:V}{S:St}(h:LV S v l)(hlen:l.length <= 4096)(hg:∀ q ∈ l,∀ k:V->St->Prop,k (.bool false) S->RC Tryz.prog g (gE q :: caps) S k){k:V->St->Prop}(hk:k (.bool false) S):RC Tryz.prog 168 [v,.func (.func g) [] caps] S k:=by
 refine RC.run mixed aS (aG aTr ?_);refine enter ?_;refine go ?_;refine aOk h hlen hg ?_;refine go ?_;exact hk
end
end Go.Am
namespace Go.Am
structure jH where
 l:List aY
 b:Nat
 st:Bool
 t:Int
structure fD (x:jH):Prop where
 ok:kF x.l
 names:∀ q ∈ x.l,q.1 ∈ bW
 vals:∀ q ∈ x.l,q.1 ≠ aW->q.2 ∈ gQ
 met:getL aW x.l ∈ jD
 b:x.b < 2 ^ 64
 num:iW x.b ≠ 4
 t1:-9223372036854775808 <= x.t
 t2:x.t <= 9223372036854775807
 st:x.st=false->x.t=0
structure aKO (x:jH):Prop where
 ok:kF x.l
 met:getL aW x.l ∈ jD
 b:x.b < 2 ^ 64
 num:iW x.b ≠ 4
 st:x.st=false->x.t=0
theorem fD.r {x:jH}(h:fD x):aKO x:=⟨h.ok,h.met,h.b,h.num,h.st⟩
def cJ (l:List aY):List aY:=l.filter fun q=>decide (q.1 ≠ aW)
def aCy:List aY->List UInt8
 | []=>[]
 | q :: l=>123 :: (gS (q :: l) ++ [125])
def pE (x:jH):List UInt8:=if x.st=true then 32 :: uP x.t else []
def cN (x:jH):List UInt8:=getL aW x.l ++ (aCy (cJ x.l) ++ 32 :: (kI x.b ++ pE x))
def dI:List jH->List UInt8
 | []=>[]
 | x :: l=>cN x ++ 10 :: dI l
theorem iT {l:List aY}{q:aY}:q ∈ cJ l ↔ q ∈ l∧q.1 ≠ aW:=by unfold cJ;simp
theorem fD.rest {x:jH}(h:fD x):∀ q ∈ cJ x.l,q.1 ∈ bW∧q.2 ∈ jG:=fun q hq =>
 ⟨h.names q (iT.1 hq).1,aPE (h.vals q (iT.1 hq).1 (iT.1 hq).2) (h.ok.full q (iT.1 hq).1)⟩
theorem fD.few {x:jH}(h:fD x):(cJ x.l).length <= 32:=bg (List.length_filter_le _ _) h.ok.few
theorem fD.few16 {x:jH}(h:fD x):(cJ x.l).length <= 16:=by
 refine bg (List.length_filter_le _ _) ?_;rw [<- List.length_map (f:=fun q:aY=>q.1)]
 have hn:(x.l.map fun q=>q.1).Nodup:=by rw [List.Nodup,List.pairwise_map];exact gL h.ok.asc
 exact qS (b:=bW) hn fun s hs=>by
  obtain ⟨q,hq,rfl⟩:=List.mem_map.1 hs;exact h.names q hq
theorem fD.dist {x:jH}(h:fD x):(cJ x.l).Pairwise fun p q=>p.1 ≠ q.1:=(gL h.ok.asc).filter _
theorem aFG {l:List aY}(h:∀ q ∈ l,q.1 ∈ bW∧q.2 ∈ jG):(aCy l).length <= 26 * l.length+2:=by
 cases l with
 | nil=>simp [aCy]
 | cons q l =>
   have:=sW h;show (123 :: (gS (q :: l) ++ [125])).length <= _;simp only [aq,au,List.length_nil] at *;omega
theorem aCm {x:jH}(h:fD x):(pE x).length <= 21:=by
 unfold pE
 split
 ·have:=oR h.t1 h.t2;rw [au];omega
 ·simp
theorem rV {x:jH}(h:fD x):(cN x).length <= 2100:=by
 have h1:=(oT h.met).2.2;have h2:=aFG h.rest;have h3:=h.few;have h4:=oV x.b;have h5:=aCm h;unfold cN;simp only [aq,au];omega
theorem sF:∀ {l:List jH},(∀ x ∈ l,fD x)->(dI l).length <= 2101 * l.length
 | [],_=>by simp [dI]
 | x :: l,h=>by
   have h1:=rV (h x sm);have h2:=sF (l:=l) fun y hy=>h y (be _ hy);simp only [dI,aq,au];omega
theorem aOK {x c:UInt8}(hx:x.toNat ≠ 10)(h:nmB x c=true):c.toNat ≠ 10:=fun e=>by
 unfold nmB at h;simp only [decide_eq_true_eq] at h;omega
theorem aRn {v:List UInt8}(h:v ∈ jG):∀ c ∈ mM v,c.toNat ≠ 10:=by
 simp only [jG,av,List.not_mem_nil,or_false] at h
 rcases h with rfl|rfl|rfl|rfl|rfl|rfl|rfl <;> decide
theorem aKb {q:aY}(hn:q.1 ∈ bW)(hv:q.2 ∈ jG):∀ c ∈ oK q,c.toNat ≠ 10:=fun c hc=>by
 unfold oK at hc
 rcases List.mem_append.1 hc with hc|hc
 ·exact aOK (x:=95) dc (List.all_eq_true.1 (wK hn).1 c hc)
 ·rcases av.1 hc with rfl|hc
  ·decide
  ·exact aRn hv c hc
theorem aGr:∀ {l:List aY},(∀ q ∈ l,q.1 ∈ bW∧q.2 ∈ jG)->∀ c ∈ gS l,c.toNat ≠ 10
 | [],_,c,hc=>by cases hc
 | [q],h,c,hc=>aKb (h q sm).1 (h q sm).2 c hc
 | q :: r :: l,h,c,hc=>by
   have hc:c ∈ oK q ++ 44 :: gS (r :: l):=hc
   rcases List.mem_append.1 hc with hc|hc
   ·exact aKb (h q sm).1 (h q sm).2 c hc
   ·rcases av.1 hc with rfl|hc
    ·decide
    ·exact aGr (l:=r :: l) (fun x hx=>h x (be _ hx)) c hc
theorem rS {x:Int}:∀ c ∈ uP x,45 <= c.toNat∧c.toNat <= 57:=fun c hc=>by
 have hd:∀ u:Nat,c ∈ Lib.decDigits u->45 <= c.toNat∧c.toNat <= 57:=fun u h=>by
  have:=dP.1 (List.all_eq_true.1 (vO u) c h);omega
 cases x with
 | ofNat u=>exact hd u hc
 | negSucc n =>
   have hc:c ∈ 45 :: Lib.decDigits (n+1):=hc
   rcases av.1 hc with rfl|hc
   ·decide
   ·exact hd _ hc
theorem aRL (x:jH):∀ c ∈ pE x,c.toNat ≠ 10:=fun c hc=>by
 unfold pE at hc
 split at hc
 ·rcases av.1 hc with rfl|hc
  ·decide
  ·have:=rS c hc;omega
 ·cases hc
theorem aQY {x:jH}(h:fD x):∀ c ∈ cN x,c.toNat ≠ 10:=fun c hc=>by
 unfold cN at hc
 rcases List.mem_append.1 hc with hc|hc
 ·exact aOK (x:=58) dc (List.all_eq_true.1 (oT h.met).1 c hc)
 ·rcases List.mem_append.1 hc with hc|hc
  ·have hr:=h.rest
   cases hb:cJ x.l with
   | nil=>rw [hb] at hc;cases hc
   | cons q l =>
     rw [hb] at hc hr;have hc:c ∈ 123 :: (gS (q :: l) ++ [125]):=hc
     rcases av.1 hc with rfl|hc
     ·decide
     ·rcases List.mem_append.1 hc with hc|hc
      ·exact aGr hr c hc
      ·rw [ay] at hc;subst hc;decide
  ·rcases av.1 hc with rfl|hc
   ·decide
   ·rcases List.mem_append.1 hc with hc|hc
    ·have:=wO hc;omega
    ·exact aRL x c hc
theorem aEH {s:List UInt8}:∀ {l:List aY},getL s l ≠ []->(s,getL s l) ∈ l
 | [],h=>absurd rfl h
 | q :: l,h=>by
   unfold getL at h ⊢;by_cases e:q.1=s
   ·rw [if_pos e];subst e;exact List.mem_cons_self ..
   ·rw [if_neg e] at h ⊢;exact be _ (aEH h)
theorem aMx {l:List aY}(ha:l.Pairwise fun p q=>jJ p.1 q.1=true)(hm:getL aW l ≠ []):cE ((aW,getL aW l) :: cJ l) []=l:=by
 have hd:((aW,getL aW l) :: cJ l).Pairwise fun p q=>p.1 ≠ q.1 :=
  List.pairwise_cons.2 ⟨fun q hq=>Ne.symm (iT.1 hq).2,(gL ha).filter _⟩
 refine lA (kC .nil hd sm) ha fun x=>?_;rw [lR];simp only [av,List.not_mem_nil,or_false,iT]
 constructor
 ·rintro (rfl|h)
  ·exact aEH hm
  ·exact h.1
 ·intro h;by_cases e:x.1=aW
  ·left
   have:=iF (gL ha) h;rw [e] at this;rw [this];exact Prod.ext e rfl
  ·exact .inr ⟨h,e⟩
end Go.Am
namespace Go.Am
open Go.Proofs
attribute [local irreducible] fN fI fB cR eQ evCode evOps rD kOp aAj wF wH wG kGc aLE aLD kDr kMg drOps fU kK sl
section
def Row (b:Nat)(S:St)(v:V)(l:List aY):Prop:=(l=[]∧v=.nilSlice) ∨ ∃ m,v=.slice m 0 l.length l.length 2 false∧b <= m∧m < S.next∧m < room∧S.hs.get m=some (.cells (cellsOf l) 34 .rw)
theorem Row.lv {b:Nat}{S:St}{v:V}{l:List aY}(h:Row b S v l):LV S v l:=by
 rcases h with ⟨h1,h2⟩|⟨m,h1,h2,h3,h4,h5⟩
 ·exact .inl ⟨h2,h1⟩
 ·exact .inr ⟨m,l.length,false,[],_,_,h1,af _,by rw [bf];exact h5⟩
theorem Row.keep {b:Nat}{S S':St}{v:V}{l:List aY}(h:Row b S v l)(hk:∀ id,b <= id->id < S.next->S'.hs.get id=S.hs.get id)(hn:S.next <= S'.next):Row b S' v l:=by
 rcases h with h|⟨m,h1,h2,h3,h4,h5⟩
 ·exact .inl h
 ·exact .inr ⟨m,h1,h2,om,h4,by rw [hk m h2 h3];exact h5⟩
theorem Grew.low {S S1 S2:St}{p b n m t:Nat}(h:Grew S S1 p n)(h2:Abv b b S1 S2 m)(hb:S.next <= b)(hm:n+m <= t):Grew S S2 p t :=
 ⟨fun id h1 hp=>by rw [h2.keep id om om];exact h.keep id h1 hp,bg h.lo h2.lo,by have:=h.hi;have:=h2.hi;omega⟩
theorem aPW {b:Nat}{S:St}{v:V}{o:List aY}{q:aY}{i2:Nat}{e2:TypeId}{fl2:Fl}(h:Row b S v o)(hb:b <= S.next)(hx:S.hs.get i2=some (.cells (cellsOf [q]) e2 fl2))(hlen:o.length < 4096)(hn:S.next+1 < room){k:V->St->Prop}
  (hk:∀ S' v',Abv b b S S' 1->Row b S' v' (o ++ [q])->k v' S'):aO Tryz.prog #[28,28] v (.slice i2 0 1 1 2 true) S k:=by
 rcases h with ⟨rfl,rfl⟩|⟨m,rfl,h2,h3,h4,h5⟩
 ·refine aCW hx ?_;refine aD om fun S2 hS2=>?_;exact hk S2 _ ((Abv.refl b b S 0).new hS2 hb om) (.inr ⟨S.next,rfl,hb,by rw [aF hS2];omega,om,aJ hS2⟩)
 ·refine xP h5 hx hlen ?_;refine aE h4 fun S2 hS2=>?_;have hn2:=aK hS2;refine aD om fun S3 hS3=>?_;have hA:=((Abv.refl b b S 0).put hS2 (.inr h2)).new hS3 hb (m:=1) om;exact hk S3 _ hA (.inr ⟨S2.next,sm,om,by rw [aF hS3];omega,om,aJ hS3⟩)
attribute [local irreducible] aO bK cM bD
theorem aDv (q:aY)(l:List aY)(r:List UInt8):gS (q :: l) ++ 125 :: r=q.1 ++ 61 :: (mM q.2 ++ (match l with|[]=>125 :: r|_ :: _=>44 :: (gS l ++ 125 :: r))):=by
 cases l with
 | nil=>simp [gS,oK]
 | cons x l=>simp [gS,oK]
theorem aBI {x c:UInt8}(h:nmB x c=true)(hx:dS x.toNat=false):dS c.toNat=false:=by
 unfold nmB at h;simp only [decide_eq_true_eq] at h
 cases hb:dS c.toNat with
 | false=>rfl
 | true =>
   have hb2:c.toNat=32 ∨ c.toNat=9:=by
    unfold dS at hb;rw [Bool.or_eq_true] at hb;exact hb.imp aj aj
   have hx2:x.toNat ≠ 32∧x.toNat ≠ 9:=by
    unfold dS at hx;rw [Bool.or_eq_false_iff] at hx;exact ⟨fun e=>by rw [e] at hx;exact absurd hx.1 dc,fun e=>by rw [e] at hx;exact absurd hx.2 dc⟩
   omega
theorem pN {a:UInt8}{s:List UInt8}(ha:dS a.toNat=false):∀ c r',a :: s=c :: r'->dS c.toNat=false:=fun c r' e=>by
 injection e with e1 _
 rw [<- e1];exact ha
theorem aVi:bB Tryz.prog 124 75 [.tmp 2,.tmp 3] (aL Tryz.f124):=fq Tryz.f124
theorem aQW {p:Nat}{l:List aY}{r:List UInt8}{S:St}(h:jL S p (gS l ++ 125 :: r))(hne0:l ≠ [])(hl:∀ q ∈ l,q.1 ∈ bW∧q.2 ∈ jG)(hnm:∀ q ∈ l,q.1 ≠ aW)(hd:l.Pairwise fun p q=>p.1 ≠ q.1)(hfew:l.length <= 32)(hlr:r.length <= 60000)(hp:p < S.next)(hn:S.next+200 < room)
  {k:V->St->Prop} (hk:∀ S' v,Grew S S' p (5 * l.length)->jL S' p r->Row S.next S' v l->k (.tup [v,.int .i64 0]) S'):RC Tryz.prog 124 [.ptr p 0] S k:=by
 refine RC.run mixed aS (aG aVi ?_);refine enter ?_;refine go ?_
 have hhead:∀ (j:Nat) (c:UInt8) (r':List UInt8),j <= l.length->gS (l.drop j) ++ 125 :: r=c :: r'->dS c.toNat=false:=fun j c r' hj e=>by
  rcases Nat.lt_or_ge j l.length with hjl|hjl
  ·rw [List.drop_eq_getElem_cons hjl,aDv] at e;have hq:=(hl l[j] (az hjl)).1;have hnm:=wK hq
   cases hq1:l[j].1 with
   | nil=>exact absurd hq1 hnm.2.1
   | cons x y =>
     rw [hq1] at e hnm
     have:x=c:=by injection e
     subst this;exact aBI (List.all_eq_true.1 hnm.1 x sm) dc
  ·rw [List.drop_eq_nil_of_le hjl] at e
   have:(125:UInt8)=c:=by injection e
   subst this;rfl
 refine gU h (fun c r' e=>hhead 0 c r' (ai _) e) fun S0 hG0 hL0=>?_;refine go ?_;have hlen:∀ j,(gS (l.drop j)).length <= 26 * 32:=fun j=>bg (sW fun q hq=>hl q (List.mem_of_mem_drop hq)) (by rw [List.length_drop];omega)
 refine LP.induct l.length (fun j E S'=>∃ v,j <= l.length∧Kn E 75 [(0,.ptr p 0),(4,v),(5,.int .i64 0),(6,.func (.func 120) [.ptr p 0] []),(7,.func (.func 121) [.ptr p 0] [])]∧jL S' p (gS (l.drop j) ++ 125 :: r)∧Row S.next S' v (l.take j)∧Grew S S' p (5 * j))
  ⟨.nilSlice,ai _,kq,hL0,.inl ⟨rfl,rfl⟩,hG0⟩ ?_
 rintro j E S1 ⟨v,hj,hf,hL,hR,hG⟩ ih;refine LP.kn mixed hf ?_;refine go ?_;have hlo:=hG.lo;have hhi:=hG.hi
 rcases Nat.lt_or_ge j l.length with hjl|hjl
 ·have hq:=hl l[j] (az hjl);have hnmq:=wK hq.1;have hqn:=hnm l[j] (az hjl);have htk:l.take (j+1)=l.take j ++ [l[j]]:=an hjl
  have hdist:∀ q ∈ l.take j,q.1 ≠ l[j].1:=fun q hq'=>by
   obtain ⟨a,ha,e⟩:=List.getElem_of_mem hq';rw [List.getElem_take] at e
   have haj:a < j:=by rw [bh] at ha;omega
   rw [<- e];exact List.pairwise_iff_getElem.1 hd a j om hjl haj
  have hlen1:=hlen (j+1);have hhead1:=hhead (j+1);rw [List.drop_eq_getElem_cons hjl,aDv] at hL;rw [htk] at ih;generalize l[j]=q0 at *;have hx4:q0.1 ∈ dF:=List.mem_append.2 (.inl hq.1);have hjle:j+1 <= l.length:=hjl
  have hlj:(l.take j).length < 4096:=by rw [bh];omega
  have hemp:l.drop (j+1)=[]->j+1=l.length:=fun e=>by have:=congrArg List.length e;rw [List.length_drop] at this;simp at this;omega
  generalize hw:l.take j=w at *;generalize hlm:l.drop (j+1)=lm at *;obtain ⟨c0,n0,hcn⟩:=List.exists_cons_of_ne_nil hnmq.2.1
  refine aAy (c:=125) hL (fun d r' e=>by
   rw [hcn] at e
   have:c0=d:=by injection e
   subst this;intro e2;have:=List.all_eq_true.1 hnmq.1 c0 (by rw [hcn];simp);rw [UInt8.toNat_inj.1 e2] at this
   exact absurd this dc) ?_
  refine go ?_;generalize htl:(match lm with|[]=>125 :: r|_ :: _=>44 :: (gS lm ++ 125 :: r))=tl at *
  have htll:tl.length <= 61000:=by
   subst htl
   cases lm with
   | nil=>simp;omega
   | cons x y=>simp only [au,aq] at *;omega
  have hql:=aBQ hq.2
  have hszz:(q0.1 ++ 61 :: (mM q0.2 ++ tl)).length < 9223372036854775807:=by
   have:=hnmq.2.2;simp only [aq,au];omega
  refine aKf (x:=95) (d:=61) hL hnmq.1 dc hszz fun S2 hG2 hL2=>?_;have a2:=hG2.lo;have b2:=hG2.hi;refine go ?_;refine aD om fun S3 hS3=>?_;have n3:=aF hS3;refine go ?_;refine aA (aJ hS3) ?_;refine bH (v:=.str q0.1) rfl sm kr rfl Nat.zero_lt_one ?_;refine aE om fun S4 hS4=>?_;have n4:=aK hS4;have hG4:Grew S2 S4 p 1:=((Grew.refl S2 p 0).new hS3 om).put hS4 (.inr (af _));have hm4:S4.hs.get S2.next=some (.cells [.str q0.1] 9 .ex):=aR hS4
  have hL4:jL S4 p (61 :: (mM q0.2 ++ tl)):=by
   obtain ⟨e,fl,x1,x2⟩:=hL2.at';exact ⟨⟨e,fl,x1,by rw [aB hS4 om,aC hS3 om];exact x2⟩,hL2.lt⟩
  refine go ?_;refine gU hL4 (pN (a:=61) rfl) fun S5 hG5 hL5=>?_;have a5:=hG5.lo;have b5:=hG5.hi;have hm5:=hG5.at hm4 om om;refine go ?_;refine aA hm5 ?_;refine go ?_;refine aGA hx4 ?_;refine go ?_;refine xD (c:=61) hL5 fun S6 hG6 hL6=>?_;have a6:=hG6.lo;have b6:=hG6.hi;have hm6:=hG6.at hm5 om om;refine go ?_;refine gU hL6 (pN (a:=34) rfl) fun S7 hG7 hL7=>?_;have a7:=hG7.lo;have b7:=hG7.hi;have hm7:=hG7.at hm6 om om;refine go ?_;refine aIX hL7 hq.2 om fun S8 hG8 hL8=>?_;have a8:=hG8.lo;have b8:=hG8.hi;have hm8:=hG8.at hm7 om om;have hG18:Grew S1 S8 p 1:=((((hG2.trans hG4 (.inl rfl) (af _)).trans hG5 (.inl rfl) (af _)).trans hG6 (.inl rfl) (af _)).trans hG7 (.inl rfl) (af _)).trans hG8 (.inl rfl) (af _);have hR8:=hR.keep (fun id h1 h2=>hG18.keep id h2 om) hG18.lo;refine go ?_;refine aA hm8 ?_;refine go ?_;refine eU (fun h=>absurd h hqn) (fun _=>?_);refine go ?_;refine aLj hR8.lv om (fun q hq' k' hk'=>aTJ hm8 (hdist q hq') hk') ?_;refine go ?_;refine aA hm8 ?_;refine go ?_;refine aD (o:=.cells (cellsOf [q0]) 34 .ex) om fun S9 hS9=>?_;have n9:=aF hS9;refine go ?_;have hR9:Row S.next S9 v w:=hR8.keep (fun id h1 h2=>aC hS9 om) om;have hG19:Grew S1 S9 p 2:=hG18.new hS9 om;refine aPW hR9 om (aJ hS9) hlj om fun S10 v10 hA10 hR10=>?_;have a10:=hA10.lo;have b10:=hA10.hi
  have hL10:jL S10 p tl:=by
   obtain ⟨e,fl,x1,x2⟩:=hL8.at';exact ⟨⟨e,fl,x1,by rw [hA10.keep p hp om,aC hS9 om];exact x2⟩,hL8.lt⟩
  have hG10:Grew S S10 p (5 * j+3):=(hG.trans hG19 (.inl rfl) (af _)).low hA10 (af _) om;refine go ?_
  cases lm with
  | nil =>
    subst htl;refine gU hL10 (pN (a:=125) rfl) fun S11 hG11 hL11=>?_;have a11:=hG11.lo;have b11:=hG11.hi;refine go ?_
    refine aAy (c:=44) hL11 (fun d r' e=>by
     injection e with e1 _
     rw [<- e1];decide) ?_
    refine go ?_;obtain ⟨e,fl,x1,x2⟩:=hL11.at';refine aA x2 ?_;refine go ?_;refine aA x2 ?_;refine go ?_;refine ih _ S11 hjl ⟨v10,hjle,kq,hL11,hR10.keep (fun id h1 h2=>hG11.keep id h2 om) hG11.lo,(hG10.trans hG11 (.inl rfl) (af _)).le om⟩
  | cons x y =>
    subst htl;refine gU hL10 (pN (a:=44) rfl) fun S11 hG11 hL11=>?_;have a11:=hG11.lo;have b11:=hG11.hi;refine go ?_;refine xD (c:=44) hL11 fun S12 hG12 hL12=>?_;have a12:=hG12.lo;have b12:=hG12.hi;refine go ?_;refine gU hL12 (fun c r' e=>hhead1 c r' hjle e) fun S13 hG13 hL13=>?_;have a13:=hG13.lo;have b13:=hG13.hi;refine go ?_;have hGx:Grew S10 S13 p 0:=(hG11.trans hG12 (.inl rfl) (af _)).trans hG13 (.inl rfl) (af _);refine ih _ S13 hjl ⟨v10,hjle,kq,hL13,hR10.keep (fun id h1 h2=>hGx.keep id h2 om) hGx.lo,(hG10.trans hGx (.inl rfl) (af _)).le om⟩
 ·have hje:j=l.length:=om;subst hje;rw [List.drop_eq_nil_of_le (af _)] at hL;rw [List.take_length] at hR;refine xD (c:=125) hL fun S2 hG2 hL2=>?_;refine go ?_;refine hk S2 v ((hG.trans hG2 (.inl rfl) (af _)).le om) hL2 (hR.keep (fun id h1 h2=>hG2.keep id h2 om) hG2.lo)
end
end Go.Am
namespace Go.Am
def iH (sep:List UInt8):List (List UInt8)->List UInt8
 | []=>[]
 | [x]=>x
 | x :: y :: l=>x ++ (sep ++ iH sep (y :: l))
theorem nV {sep x:List UInt8}{l:List (List UInt8)}(h:l ≠ []):iH sep (x :: l)=x ++ (sep ++ iH sep l):=by
 cases l with
 | nil=>exact absurd rfl h
 | cons y l=>rfl
theorem aBB:∀ l:List aY,gS l=iH [44] (l.map oK)
 | []=>rfl
 | [q]=>rfl
 | q :: r :: l=>by
   show oK q ++ 44 :: gS (r :: l)=oK q ++ ([44] ++ iH [44] ((r :: l).map oK));rw [aBB (r :: l)];rfl
def aGn:List aY->List UInt8
 | []=>[]
 | q :: l=>q.1 ++ 255 :: (q.2 ++ 255 :: aGn l)
def mQ:List aY->List (List UInt8)
 | []=>[]
 | q :: l=>q.1 :: q.2 :: mQ l
theorem xA:∀ a b:List aY,mQ (a ++ b)=mQ a ++ mQ b
 | [],_=>rfl
 | q :: a,b=>by simp [mQ,xA a b]
theorem aCh {l:List aY}(h:l ≠ []):mQ l ≠ []:=by cases l with
 | nil=>exact absurd rfl h
 | cons q l=>simp [mQ]
theorem aDu:∀ {l:List aY},l ≠ []->aGn l=iH [255] (mQ l) ++ [255]
 | [],h=>absurd rfl h
 | [q],_=>by simp [aGn,mQ,iH]
 | q :: r :: l,_=>by
   have ih:=aDu (l:=r :: l) sm;show q.1 ++ 255 :: (q.2 ++ 255 :: aGn (r :: l))=iH [255] (q.1 :: q.2 :: mQ (r :: l)) ++ [255];rw [nV sm,nV (aCh sm),ih];simp
def liT (x:jH):List UInt8:=cN x ++ [10]
theorem aCk (x:jH)(l:List jH):dI (x :: l)=liT x ++ dI l:=by simp [dI,liT]
theorem xE:∀ a b:List jH,dI (a ++ b)=dI a ++ dI b
 | [],_=>rfl
 | x :: a,b=>by rw [List.cons_append,aCk,aCk,xE a b,List.append_assoc]
end Go.Am
namespace Go.Am
open Go.Proofs
attribute [local irreducible] fN fI fB cR eQ evCode evOps rD kOp aAj wF wH wG kGc aLE aLD kDr kMg drOps fU kK sl
section
structure pX (b:Nat)(S:St):Prop where
 hb:1000 <= b
 h10:jB S
 inf:∃ e fl,S.hs.get 12=some (.cells [.int .u64 52,.int .u64 11,.int .i64 (-1023)] e fl)
 ten:∃ B e fl e' fl' ex,B < b∧S.hs.get 15=some (.cells [.slice B 0 23 23 1 ex] e fl)∧S.hs.get B=some (.cells tC e' fl')
 opt:∃ e fl,S.hs.get 11=some (.cells [.bool true] e fl)
 pow:∃ e,Gb [(18,.cells aAl e .ro)] S
theorem pX.ft {b:Nat}{S:St}(h:pX b S):FT S:=⟨h.inf,by
 obtain ⟨B,e,fl,e',fl',ex,_,h1,h2⟩:=h.ten
 exact ⟨B,e,fl,e',fl',ex,h1,h2⟩,h.opt,h.pow⟩
theorem pX.keep {b:Nat}{S S':St}(h:pX b S)(hk:∀ id,id < b->S'.hs.get id=S.hs.get id):pX b S':=by
 have hb:=h.hb;refine ⟨hb,?_,?_,?_,?_,?_⟩
 ·obtain ⟨e,h1⟩:=h.h10;exact ⟨e,by rw [hk _ om];exact h1⟩
 ·obtain ⟨e,fl,h1⟩:=h.inf;exact ⟨e,fl,by rw [hk _ om];exact h1⟩
 ·obtain ⟨B,e,fl,e',fl',ex,h0,h1,h2⟩:=h.ten;exact ⟨B,e,fl,e',fl',ex,h0,by rw [hk _ om];exact h1,by rw [hk _ h0];exact h2⟩
 ·obtain ⟨e,fl,h1⟩:=h.opt;exact ⟨e,fl,by rw [hk _ om];exact h1⟩
 ·obtain ⟨e,h1⟩:=h.pow;exact ⟨e,h1.to fun p hp=>by rw [hk p.1 (by have:p.1 < aI:=(h1 p hp).1;have:aI=1000:=rfl;omega)];exact (h1 p hp).2.2.1⟩
attribute [local irreducible] aO bK cM bD
theorem nB {n:Nat}(h:n ≠ 32∧n ≠ 9):dS n=false:=by
 unfold dS;rw [Bool.or_eq_false_iff]
 constructor
 ·cases hb:Nat.beq n 32 with
  | false=>rfl
  | true=>exact absurd (aj hb) h.1
 ·cases hb:Nat.beq n 9 with
  | false=>rfl
  | true=>exact absurd (aj hb) h.2
theorem aES {v:Nat}{t:List UInt8}:∀ c r',kI v ++ t=c :: r'->43 <= c.toNat∧c.toNat <= 110:=fun c r' e=>by
 obtain ⟨d,w,hd⟩:=List.exists_cons_of_ne_nil (aRe v);rw [hd] at e
 injection e with e1 _
 rw [<- e1];exact wO (by rw [hd];simp)
theorem aNe {S:St}{id i2:Nat}{q:aY}{l:List aY}{e2 e3:TypeId}{fl2 fl3:Fl}(ho:S.hs.get id=some (.cells (cellsOf [q]) e3 fl3))(hx:S.hs.get i2=some (.cells (cellsOf l) e2 fl2))(hne:l ≠ [])(hlen:l.length < 4096){k:V->St->Prop}
  (hk:bK (.cells (cellsOf (q :: l)) 34 .rw) S fun id S=>k (.slice id 0 (q :: l).length (q :: l).length 2 false) S):aO Tryz.prog #[28,28] (.slice id 0 1 1 2 true) (.slice i2 0 l.length l.length 2 false) S k:=by
 have hlp:=List.length_pos_iff.2 hne;unfold aO
 conv=>whnf
 refine aA hx ?_;refine bY (ai _) ?_;refine bJ (by show l.length * 2 <= _;rw [List.drop_zero,aZ];omega) ?_
 have e:((cellsOf l).drop 0).take (l.length * 2)=cellsOf l:=by rw [List.drop_zero,bd (by rw [aZ];omega)]
 conv=>whnf
 refine aP ?_
 conv=>whnf
 refine bX (fun h=>?_) (fun _=>?_)
 ·have:1+l.length <= 1:=ae h;omega
 refine ifK_intro (ag ?_) ?_
 ·show (1+l.length) * 33 <= _;omega
 refine aA ho ?_;refine bY (ai _) ?_;refine bJ (af _) ?_;refine bZ ?_
 have e2:(q :: l).length=Nat.add 1 l.length:=by show l.length+1=1+l.length;omega
 rw [e2] at hk
 have e3:cellsOf (q :: l)=List.take (Nat.mul 1 2) (List.drop 0 (cellsOf [q])) ++ List.take (l.length * 2) (List.drop 0 (cellsOf l)):=by rw [e];rfl
 rw [e3] at hk;exact hk
theorem aQN (x:Int):uP x ≠ []:=by
 cases x with
 | ofNat u=>exact aIc u
 | negSucc n=>simp [uP]
theorem aPy (x:jH):∀ c ∈ pE x,c.toNat < 128:=fun c hc=>by
 unfold pE at hc
 split at hc
 ·rcases av.1 hc with rfl|hc
  ·decide
  ·have:=rS c hc;omega
 ·cases hc
theorem aXp:bB Tryz.prog 82 100 [.cell 2 49,.tmp 3] (aL Tryz.f82):=fq Tryz.f82
theorem aIZ {x:jH}(hx:fD x){S:St}{b:Nat}(hT:pX b S)(hb:b <= S.next)(hn:S.next+300 < room){k:V->St->Prop}
  (hk:∀ S' m,Abv S.next S.next S S' 100->S.next <= m->m < S'.next->S'.hs.get m=some (.cells (cellsOf x.l) 34 .rw)->k (.tup [.agg [.slice m 0 x.l.length x.l.length 2 false,.int .u64 (.ofNat x.b),.bool x.st,.int .i64 x.t],.int .i64 0]) S'):RC Tryz.prog 82 [.str (cN x)] S k:=by
 have hll:=rV hx;have hf16:=hx.few16;have hmet:=oT hx.met;have hrest:=hx.rest;have hsb:=aMx hx.ok.asc (oT hx.met).2.1;have hfl:fR x.l=x.l:=xY hx.ok.full
 have hdel:xT (cE ((aW,getL aW x.l) :: cJ x.l) [])=x.l:=by rw [hsb];unfold xT;rw [hfl,Nat.sub_self];simp
 have hful:(fR (cE ((aW,getL aW x.l) :: cJ x.l) [])).length=x.l.length:=by rw [hsb,hfl]
 have hLl:((aW,getL aW x.l) :: cJ x.l).length=x.l.length:=by rw [<- hsb,dY,hsb];simp
 have hLn:∀ q ∈ (aW,getL aW x.l) :: cJ x.l,q.1 ∈ dF:=fun q hq=>by
  rcases av.1 hq with rfl|hq
  ·exact pQ
  ·exact List.mem_append.2 (.inl (hrest q hq).1)
 have hLv:∀ q ∈ (aW,getL aW x.l) :: cJ x.l,q.2 ∈ iB:=fun q hq=>by
  rcases av.1 hq with rfl|hq
  ·exact tF hx.met
  ·exact List.mem_append.2 (.inl (aHp (hrest q hq).2).1)
 have hLd:((aW,getL aW x.l) :: cJ x.l).Pairwise fun p q=>p.1 ≠ q.1:=List.pairwise_cons.2 ⟨fun q hq=>Ne.symm (iT.1 hq).2,hx.dist⟩;refine RC.run mixed aS (aG aXp ?_);refine enter ?_;refine go ?_;refine aD om fun S1 hS1=>?_;have n1:=aF hS1;refine go ?_;refine bE (fun (h:65536 < _)=>absurd h (by rw [aM];omega)) (fun _=>?_);refine go ?_;refine aD (o:=.cells [.str (cN x)] 216 .ex) om fun S2 hS2=>?_;have n2:=aF hS2;refine go ?_
 have hnB:(kI x.b).all (fun c=>!dS c.toNat)=true:=List.all_eq_true.2 fun c hc=>by
  have:=wO hc;rw [nB om];rfl
 have hR1:S2.hs.get S.next=some (.cells [.nilSlice,.int .u64 0,.bool false,.int .i64 0] 49 .ex):=by rw [aC hS2 om];exact aJ hS1
 have hA2:Abv S.next S.next S S2 2:=((Abv.refl _ _ S 0).new hS1 (af _) (m:=1) om).new hS2 om om;have hL2:jL S2 S1.next (cN x):=⟨⟨_,_,sm,aJ hS2⟩,om⟩
 obtain ⟨d0,tl0,hd0,hbl0⟩:∃ d tl,aCy (cJ x.l) ++ 32 :: (kI x.b ++ pE x)=d :: tl∧nmB 58 d=false:=by
  cases cJ x.l with
  | nil=>exact ⟨32,_,rfl,dc⟩
  | cons q l=>exact ⟨123,_,rfl,dc⟩
 have hle:cN x=getL aW x.l ++ d0 :: tl0:=by rw [<- hd0];rfl
 have hml:(getL aW x.l ++ d0 :: tl0).length <= 2100:=by rw [<- hle];exact hll
 rw [hle] at hL2;obtain ⟨c0,n0,hcn⟩:=List.exists_cons_of_ne_nil hmet.2.1
 refine gU hL2 (fun c r' e=>by
  rw [hcn] at e
  injection e with e1 _
  rw [<- e1]
  exact aBI (List.all_eq_true.1 hmet.1 c0 (by rw [hcn];simp)) dc) fun S3 hG3 hL3=>?_
 have a3:=hG3.lo;have b3:=hG3.hi;refine go ?_;refine aKf (x:=58) (d:=d0) hL3 hmet.1 hbl0 om fun S4 hG4 hL4=>?_;have a4:=hG4.lo;have b4:=hG4.hi;refine go ?_;refine aD (o:=.cells (cellsOf [(aW,getL aW x.l)]) 34 .ex) om fun S5 hS5=>?_;have n5:=aF hS5;refine go ?_;refine aA (aJ hS5) ?_;refine go ?_;refine aVX hx.met ?_;refine go ?_;have hG24:=hG3.trans hG4 (.inl rfl) (af _)
 have hR5:S5.hs.get S.next=some (.cells [.nilSlice,.int .u64 0,.bool false,.int .i64 0] 49 .ex):=by rw [aC hS5 om];exact hG24.at hR1 om om
 have hA5:Abv S.next S.next S S5 3:=⟨fun id h1 _=>by rw [aC hS5 om,hG24.keep id om om];exact hA2.keep id h1 om,om,om⟩
 have hL5:jL S5 S1.next (d0 :: tl0):=by
  obtain ⟨e,fl,x1,x2⟩:=hL4.at';exact ⟨⟨e,fl,x1,by rw [aC hS5 om];exact x2⟩,hL4.lt⟩
 have hv5:=aJ hS5;clear hS1 hS2 hS5 hG3 hG4 hG24 hL2 hL3 hL4 hA2 hR1;by_cases hrn:cJ x.l=[]
 rw [hrn] at hd0;have hd0':d0 :: tl0=32 :: (kI x.b ++ pE x):=hd0.symm;rw [hd0'] at hL5;refine yU hL5 (fun c r' e=>nB (by have:=aES c r' e;omega)) fun S6 hG6 hL6=>?_;have a6:=hG6.lo;have b6:=hG6.hi;refine go ?_;refine aAy (c:=123) hL6 (fun d r' e=>by have:=aES d r' e;show d.toNat ≠ 123;omega) ?_;refine go ?_;have hA6:Abv S.next S.next S S6 90:=⟨fun id h1 _=>by rw [hG6.keep id om om];exact hA5.keep id h1 om,om,om⟩
 have hR6:=hG6.at hR5 om om
 have hv6:∃ iv cv exv e fl,(.slice S4.next 0 1 1 2 true:V)=.slice iv 0 ((aW,getL aW x.l) :: cJ x.l).length cv 2 exv∧((aW,getL aW x.l) :: cJ x.l).length <= cv∧iv < S6.next∧iv ≠ S1.next∧S6.hs.get iv=some (.cells (cellsOf ((aW,getL aW x.l) :: cJ x.l)) e fl):=by
  rw [hrn];exact ⟨S4.next,1,true,_,_,rfl,af _,om,om,hG6.at hv5 om om⟩
 refine gU hL6 (fun c r' e=>nB (by have:=aES c r' e;omega)) fun S7 hG7 hL7=>?_
 rotate_left
 have hd0':d0 :: tl0=123 :: (gS (cJ x.l) ++ 125 :: (32 :: (kI x.b ++ pE x))):=by
  rw [<- hd0]
  cases hr:cJ x.l with
  | nil=>exact absurd hr hrn
  | cons q l=>simp [aCy]
 rw [hd0'] at hL5;refine gU hL5 (pN (a:=123) rfl) fun Sx hGx hLx=>?_;have ax:=hGx.lo;have bx:=hGx.hi;refine go ?_;refine xD (c:=123) hLx fun Sa hGa hLa=>?_;have aa:=hGa.lo;have ba:=hGa.hi;refine go ?_;refine aQW hLa hrn hrest (fun q hq=>(iT.1 hq).2) hx.dist hx.few (by have:=oV x.b;have:=aCm hx;simp only [au,aq];omega) om om fun Sb vb hGb hLb hRb=>?_;have ab:=hGb.lo;have bb:=hGb.hi;refine go ?_
 rcases hRb with ⟨h1,_⟩|⟨mb,rfl,hm1,hm2,hm3,hm4⟩
 ·exact absurd h1 hrn
 have hvb:Sb.hs.get S4.next=some (.cells (cellsOf [(aW,getL aW x.l)]) 34 .ex):=hGb.at (hGa.at (hGx.at hv5 om om) om om) om om;refine aNe hvb hm4 hrn (by have:=hx.few;omega) ?_;refine aD om fun S6 hS6=>?_;have n6:=aF hS6;refine go ?_;have hGab:=(hGx.trans hGa (.inl rfl) (af _)).trans hGb (.inl rfl) (af _)
 have hLc:jL S6 S1.next (32 :: (kI x.b ++ pE x)):=by
  obtain ⟨e,fl,x1,x2⟩:=hLb.at';exact ⟨⟨e,fl,x1,by rw [aC hS6 om];exact x2⟩,hLb.lt⟩
 have hA6:Abv S.next S.next S S6 90:=⟨fun id h1 _=>by rw [aC hS6 om,hGab.keep id om om];exact hA5.keep id h1 om,om,om⟩
 have hR6:S6.hs.get S.next=some (.cells [.nilSlice,.int .u64 0,.bool false,.int .i64 0] 49 .ex):=by rw [aC hS6 om];exact hGab.at hR5 om om
 have hv6:∃ iv cv exv e fl,(.slice Sb.next 0 ((aW,getL aW x.l) :: cJ x.l).length ((aW,getL aW x.l) :: cJ x.l).length 2 false:V)=.slice iv 0 ((aW,getL aW x.l) :: cJ x.l).length cv 2 exv∧((aW,getL aW x.l) :: cJ x.l).length <= cv∧iv < S6.next∧iv ≠ S1.next∧S6.hs.get iv=some (.cells (cellsOf ((aW,getL aW x.l) :: cJ x.l)) e fl) :=
  ⟨Sb.next,_,false,_,_,rfl,af _,om,om,aJ hS6⟩
 refine yU hLc (fun c r' e=>nB (by have:=aES c r' e;omega)) fun S7 hG7 hL7=>?_
 all_goals
  have a6':=hA6.lo;have b6':=hA6.hi;have a7:=hG7.lo;have b7:=hG7.hi;refine go ?_;refine aD om fun S8 hS8=>?_;have n8:=aF hS8;refine go ?_
  have hL8:jL S8 S1.next (kI x.b ++ pE x):=by
   obtain ⟨e,fl,x1,x2⟩:=hL7.at';exact ⟨⟨e,fl,x1,by rw [aC hS8 om];exact x2⟩,hL7.lt⟩
  have htl:=aCm hx;have hnl:=oV x.b
  refine aKJ hL8 hnB (by unfold pE;split;exact .inr ⟨_,rfl⟩;exact .inl rfl) (by rw [aq];omega) (fun c hc=>by
   rcases List.mem_append.1 hc with hc|hc
   ·have:=wO hc;omega
   ·exact aPy x c hc) fun S9 hG9 hL9=>?_
  have a9:=hG9.lo;have b9:=hG9.hi;refine go ?_;have hA9:Abv S.next S.next S S9 91:=⟨fun id h1 _=>by rw [hG9.keep id om om,aC hS8 om,hG7.keep id om om];exact hA6.keep id h1 om,om,om⟩
  have hT9:pX b S9:=hT.keep fun id h1=>hA9.keep id om om;refine aLX hx.b hx.num hT9.h10 hT9.ft ?_;refine go ?_;have hQ9:S9.hs.get S7.next=some (.cells [.nilSlice,.int .u64 0,.bool false,.int .i64 0] 49 .ex):=hG9.at (aJ hS8) om om;have hR9:S9.hs.get S.next=some (.cells [.nilSlice,.int .u64 0,.bool false,.int .i64 0] 49 .ex):=hG9.at (by rw [aC hS8 om];exact hG7.at hR6 om om) om om;obtain ⟨iv,cv,exv,ev,flv,hve,hvc,hvl,hvn,hvr⟩:=hv6;have hv9:S9.hs.get iv=some (.cells (cellsOf ((aW,getL aW x.l) :: cJ x.l)) ev flv):=hG9.at (by rw [aC hS8 om];exact hG7.at hvr hvl hvn) om hvn;by_cases hst:x.st=true
  have hti:pE x=32 :: uP x.t:=by unfold pE;rw [if_pos hst]
  rw [hti] at hL9;refine yU hL9 (fun c r' e=>nB (by have:=rS (x:=x.t) c (by rw [e];simp);omega)) fun S10 hG10 hL10=>?_;have a10:=hG10.lo;have b10:=hG10.hi;refine go ?_;obtain ⟨e1,fl1,x1,x2⟩:=hL10.at';refine aA x2 ?_;refine go ?_;refine eU (fun h=>absurd h (aQN x.t)) (fun _=>?_);refine go ?_;have hil:=oR hx.t1 hx.t2
  refine aKJ (w:=uP x.t) (r:=[]) (by rw [bf];exact hL10) (List.all_eq_true.2 fun c hc=>by
   have:=rS c hc;rw [nB om]
   rfl) (.inl rfl) (by rw [bf];omega) (fun c hc=>by
   rw [bf] at hc;have:=rS c hc
   omega) fun S11 hG11 hL11=>?_
  have a11:=hG11.lo;have b11:=hG11.hi;refine go ?_;have hG911:=hG10.trans hG11 (.inl rfl) (af _);have hT11:pX b S11:=hT9.keep fun id h1=>hG911.keep id om om;refine aIK hx.t1 hx.t2 hT11.h10 ?_;refine go ?_;refine aA (hG911.at hQ9 om om) ?_;refine bH (v:=.bool true) rfl sm kr rfl (by show 2 < 4;omega) ?_;refine aE om fun S12 hS12=>?_;have n12:=aK hS12;refine go ?_;refine aA (aR hS12) ?_;refine bH (v:=.int .i64 x.t) rfl sm kr rfl (by show 3 < 4;omega) ?_;refine aE om fun S13 hS13=>?_;have n13:=aK hS13;refine go ?_
  have hL13:jL S13 S1.next []:=by
   obtain ⟨e,fl,y1,y2⟩:=hL11.at';exact ⟨⟨e,fl,y1,by rw [aB hS13 om,aB hS12 om];exact y2⟩,hL11.lt⟩
  have hK13:∀ id,id < S9.next->id ≠ S1.next->id ≠ S7.next->S13.hs.get id=S9.hs.get id:=fun id h1 h2 h3=>by
   rw [aB hS13 h3,aB hS12 h3];exact hG911.keep id h1 h2
  have hQ13:S13.hs.get S7.next=some (.cells [.nilSlice,.int .u64 0,.bool x.st,.int .i64 x.t] 49 .ex):=by rw [hst];exact aR hS13
  have n139:S13.next=S9.next:=om
  rotate_left
  have hti:pE x=[]:=by unfold pE;rw [if_neg hst]
  rw [hti] at hL9
  have hst':x.st=false:=by cases h:x.st with|false=>rfl|true=>exact absurd h hst
  have ht0:=hx.st hst';refine gU hL9 (fun c r' e=>by cases e) fun S13 hG10 hL13=>?_;have a10:=hG10.lo;have b10:=hG10.hi;refine go ?_;obtain ⟨e1,fl1,x1,x2⟩:=hL13.at';refine aA x2 ?_;refine go ?_;have hK13:∀ id,id < S9.next->id ≠ S1.next->id ≠ S7.next->S13.hs.get id=S9.hs.get id:=fun id h1 h2 h3=>hG10.keep id h1 h2
  have hQ13:S13.hs.get S7.next=some (.cells [.nilSlice,.int .u64 0,.bool x.st,.int .i64 x.t] 49 .ex):=by rw [hst',ht0];exact hG10.at hQ9 om om
  have n139:S13.next=S9.next:=om
  all_goals
   have hR13:=hK13 S.next om om om;rw [hR9] at hR13;have hv13:=hK13 iv om hvn om;rw [hv9] at hv13
   have hA13:∀ id,id < S.next->S13.hs.get id=S.hs.get id:=fun id h1=>by rw [hK13 id om om om];exact hA9.keep id h1 om
   clear hK13;refine gU hL13 (fun c r' e=>by cases e) fun S14 hG14 hL14=>?_;have a14:=hG14.lo;have b14:=hG14.hi;refine go ?_;obtain ⟨e4,fl4,x41,x42⟩:=hL14.at';refine aA x42 ?_;refine go ?_;refine aA (hG14.at hQ13 om om) ?_;refine bH (v:=.int .u64 (.ofNat x.b)) rfl sm kr rfl (by show 1 < 4;omega) ?_;refine aE om fun S15 hS15=>?_;have n15:=aK hS15;refine go ?_
   have hv15:S15.hs.get iv=some (.cells (cellsOf ((aW,getL aW x.l) :: cJ x.l)) ev flv):=by rw [aB hS15 om];exact hG14.at hv13 om hvn
   refine aOO (l:=(aW,getL aW x.l) :: cJ x.l) sm (by rw [hLl];exact bg hx.ok.few dc) hLn hLv hLd ⟨iv,cv,exv,[],ev,flv,hve,hvc,by rw [bf];exact hv15⟩ ?_;rw [hdel,hful,hLl];refine aD om fun S16 hS16=>?_;have n16:=aF hS16;refine go ?_
   have hQ16:S16.hs.get S7.next=some (.cells [.nilSlice,.int .u64 (.ofNat x.b),.bool x.st,.int .i64 x.t] 49 .ex):=by rw [aC hS16 om];exact aR hS15
   refine aA hQ16 ?_;refine bH (v:=.slice S15.next 0 x.l.length x.l.length 2 false) rfl sm kr rfl (by show 0 < 4;omega) ?_;refine aE om fun S17 hS17=>?_;have n17:=aK hS17;refine go ?_;refine aA (aR hS17) ?_;refine aX (n:=4) kr kr sm rfl ?_;refine go ?_
   have hR17:S17.hs.get S.next=some (.cells [.nilSlice,.int .u64 0,.bool false,.int .i64 0] 49 .ex):=by
    rw [aB hS17 om,aC hS16 om,aB hS15 om];exact hG14.at hR13 om om
   refine aA hR17 ?_
   conv=>whnf
   refine aE om fun S18 hS18=>?_;have n18:=aK hS18;refine go ?_;refine aA (aR hS18) ?_;refine aX (n:=4) kr kr (by exact af 4) rfl ?_
   conv=>whnf
   refine hk S18 S15.next ⟨fun id h1 _=>?_,om,om⟩ om om ?_
   ·rw [aB hS18 om,aB hS17 om,aC hS16 om,aB hS15 om,hG14.keep id om om];exact hA13 id h1
   ·rw [aB hS18 om,aB hS17 om];exact aJ hS16
end
section
attribute [local irreducible] aO bK cM bD
theorem aWR:bB Tryz.prog 81 25 [.tmp 2] (aL Tryz.f81):=fq Tryz.f81
theorem aID {c:UInt8}{s:List UInt8}(hb:dS c.toNat=false)(h35:c.toNat ≠ 35){S:St}{k:V->St->Prop}(hk:k (.str [115,97,109,112,108,101]) S):RC Tryz.prog 81 [.str (c :: s)] S k:=by
 refine RC.pure mixed aWR (v:=.str [115,97,109,112,108,101]) hk ?_;clear hk;have hn0:(⟨.nil,aI⟩:St).next=1000:=rfl;generalize (⟨.nil,aI⟩:St)=S0 at *;have hroom:room=4096:=rfl;refine enter ?_;refine go ?_;refine aD (o:=.cells [.str (c :: s)] 216 .ex) om fun S1 hS1=>?_;have n1:=aF hS1;refine go ?_;have hL1:jL S1 S0.next (c :: s):=⟨⟨_,_,sm,aJ hS1⟩,om⟩
 refine gU hL1 (pN hb) fun S2 hG2 hL2=>?_;refine go ?_;obtain ⟨e,fl,x1,x2⟩:=hL2.at';refine aA x2 ?_;refine go ?_;refine aAy (c:=35) hL2 (fun d r' e=>by injection e with e1 _;rw [<- e1];exact h35) ?_;refine go ?_;exact rfl
end
section
def SC (q:jH × Nat):List V:=[.slice q.2 0 q.1.l.length q.1.l.length 2 false,.int .u64 (.ofNat q.1.b),.bool q.1.st,.int .i64 q.1.t]
def xI:List (jH × Nat)->List V
 | []=>[]
 | q :: l=>SC q ++ xI l
theorem aBW:∀ a b,xI (a ++ b)=xI a ++ xI b
 | [],_=>rfl
 | q :: a,b=>by simp [xI,aBW a b]
theorem fK:∀ l,(xI l).length=4 * l.length
 | []=>rfl
 | q :: l=>by simp only [xI,aq,fK l,au];simp [SC];omega
theorem aEY:∀ {l:List (jH × Nat)} {rest:List V} {j:Nat} (h:j < l.length),((xI l ++ rest).drop (4 * j)).take 4=SC l[j]
 | q :: l,rest,0,_=>rfl
 | q :: l,rest,j+1,h=>aEY (l:=l) (rest:=rest) (j:=j) (by simpa using h)
def oI (b:Nat)(S:St)(L:List (jH × Nat)):Prop:=∀ q ∈ L,b <= q.2∧q.2 < S.next∧S.hs.get q.2=some (.cells (cellsOf q.1.l) 34 .rw)
def oJ (b:Nat)(S:St)(v:V)(L:List (jH × Nat)):Prop:=(L=[]∧v=.nilSlice) ∨ ∃ m,v=.slice m 0 L.length L.length 4 false∧b <= m∧m < S.next∧m < room∧S.hs.get m=some (.cells (xI L) 49 .rw)
theorem oI.keep {b:Nat}{S S':St}{L:List (jH × Nat)}(h:oI b S L)(hk:∀ id,b <= id->id < S.next->S'.hs.get id=S.hs.get id)(hn:S.next <= S'.next):oI b S' L:=fun q hq=>by
 obtain ⟨h1,h2,h3⟩:=h q hq;exact ⟨h1,om,by rw [hk q.2 h1 h2];exact h3⟩
theorem oJ.keep {b:Nat}{S S':St}{v:V}{L:List (jH × Nat)}(h:oJ b S v L)(hk:∀ id,b <= id->id < S.next->S'.hs.get id=S.hs.get id)(hn:S.next <= S'.next):oJ b S' v L:=by
 rcases h with h|⟨m,h1,h2,h3,h4,h5⟩
 ·exact .inl h
 ·exact .inr ⟨m,h1,h2,om,h4,by rw [hk m h2 h3];exact h5⟩
theorem oJ.one {b:Nat}{S:St}{v:V}{L:List (jH × Nat)}(h:oJ b S v L):V.one v=true:=by
 rcases h with ⟨_,rfl⟩|⟨m,rfl,_⟩ <;> rfl
theorem oJ.cells {b:Nat}{S:St}{v:V}{L:List (jH × Nat)}(h:oJ b S v L):v.cells=[v]:=by
 rcases h with ⟨_,rfl⟩|⟨m,rfl,_⟩ <;> rfl
theorem aFW {f:V->V->Bool}:∀ {l:List V},(∀ v ∈ l,f v v=true)->eqL f l l=true
 | [],_=>rfl
 | v :: l,h=>by
   show Bool.rec (motive:=fun _=>Bool) false (eqL f l l) (f v v)=true;rw [h v sm];exact aFW fun w hw=>h w (by simp [hw])
theorem aTk (q:jH × Nat):vA 8 (.agg (SC q)) (.agg (SC q))=true:=by
 show eqL (vA 7) (SC q) (SC q)=true;refine aFW fun v hv=>?_;simp only [SC,av,List.not_mem_nil,or_false] at hv
 rcases hv with rfl|rfl|rfl|rfl
 ·exact eG _ _ _ _ _ _
 ·exact gN _ _
 ·exact vQ _
 ·exact gN _ _
theorem aNf {S:St}{i2:Nat}{q:jH × Nat}{e2:TypeId}{fl2:Fl}(hx:S.hs.get i2=some (.cells (SC q) e2 fl2)){k:V->St->Prop}
  (hk:bK (.cells (SC q) 49 .rw) S fun id S=>k (.slice id 0 1 1 4 false) S):aO Tryz.prog #[25,25] .nilSlice (.slice i2 0 1 1 4 true) S k:=by
 unfold aO
 conv=>whnf
 refine aA hx ?_
 conv=>whnf
 exact hk
theorem aNg {S:St}{id i2:Nat}{L:List (jH × Nat)}{q:jH × Nat}{e2:TypeId}{fl2:Fl}(ho:S.hs.get id=some (.cells (xI L) 49 .rw))(hx:S.hs.get i2=some (.cells (SC q) e2 fl2))(hlen:L.length < 4096){k:V->St->Prop}
  (hk:bD id none S fun S=>bK (.cells (xI (L ++ [q])) 49 .rw) S fun id S=>k (.slice id 0 (L.length+1) (L.length+1) 4 false) S):aO Tryz.prog #[25,25] (.slice id 0 L.length L.length 4 false) (.slice i2 0 1 1 4 true) S k:=by
 rw [aBW] at hk;unfold aO
 conv=>whnf
 refine aA hx ?_
 conv=>whnf
 refine aP ?_
 conv=>whnf
 refine bX (fun h=>?_) (fun _=>?_)
 ·have:L.length+1 <= L.length:=ae h;omega
 refine ifK_intro (ag ?_) ?_
 ·show (L.length+1) * 49 <= 70368744177664;omega
 refine aA ho ?_;refine bY (ai _) ?_;refine bJ (by show L.length * 4 <= _;rw [List.drop_zero,fK];omega) ?_;refine bZ ?_
 have e:((xI L).drop 0).take (L.length * 4)=xI L:=by rw [List.drop_zero,bd (by rw [fK];omega)]
 show dD (cQ (SC q)) (bD id none S fun S=>bK (.cells (((xI L).drop 0).take (L.length * 4) ++ SC q) 49 .rw) S fun id S=>k (.slice id 0 (L.length+1) (L.length+1) 4 false) S);rw [e];refine ifK_intro rfl ?_
 have e2:xI [q]=SC q:=by simp [xI]
 rw [e2] at hk;exact hk
theorem aEl {b:Nat}{S:St}{v:V}{L:List (jH × Nat)}{q:jH × Nat}{i2:Nat}{e2:TypeId}{fl2:Fl}(h:oJ b S v L)(hLb:oI b S (L ++ [q]))(hb:b <= S.next)(hx:S.hs.get i2=some (.cells (SC q) e2 fl2))(hlen:L.length < 4096)(hn:S.next+1 < room){k:V->St->Prop}
  (hk:∀ S' v',Abv b b S S' 1->oJ b S' v' (L ++ [q])->oI b S' (L ++ [q])->k v' S'):aO Tryz.prog #[25,25] v (.slice i2 0 1 1 4 true) S k:=by
 rcases h with ⟨rfl,rfl⟩|⟨m,rfl,h2,h3,h4,h5⟩
 ·refine aNf hx ?_;refine aD om fun S2 hS2=>?_;have n2:=aF hS2;exact hk S2 _ ((Abv.refl b b S 0).new hS2 hb om) (.inr ⟨S.next,rfl,hb,om,om,by rw [aJ hS2];simp [xI]⟩) (hLb.keep (fun id _ h2=>aC hS2 om) om)
 ·refine aNg h5 hx hlen ?_;refine aE h4 fun S2 hS2=>?_;have hn2:=aK hS2;refine aD om fun S3 hS3=>?_;have hn3:=aF hS3;have hA:=((Abv.refl b b S 0).put hS2 (.inr h2)).new hS3 hb (m:=1) om;refine hk S3 _ hA (.inr ⟨S2.next,sm,om,om,om,aJ hS3⟩) fun x hx=>?_;obtain ⟨y1,y2,y3⟩:=hLb x hx
  have hne:x.2 ≠ m:=fun e=>by rw [e,h5] at y3;injection y3 with y3;injection y3 with _ y4 _;exact absurd y4 dc
  exact ⟨y1,om,by rw [aC hS3 om,aB hS2 hne];exact y3⟩
attribute [local irreducible] aO bK cM bD
theorem aUL:bB Tryz.prog 53 97 [.tmp 4] (aL Tryz.f53):=fq Tryz.f53
theorem aKR {x:jH}(hx:fD x){S:St}{t b p:Nat}{v:V}{L:List (jH × Nat)}{e:TypeId}(hT:pX t S)(hp:S.hs.get p=some (.cells [v,.nilSlice,.nilSlice] e .ex))(htb:t <= b)(hpb:p < b)(hb:b <= S.next)(hR:oJ b S v L)(hLb:oI b S L)(hlen:L.length < 1000)(hn:S.next+320 < room){k:V->St->Prop}
  (hk:∀ S' v' m,Abv p b S S' 130->S'.hs.get p=some (.cells [v',.nilSlice,.nilSlice] e .ex)->oJ b S' v' (L ++ [(x,m)])->oI b S' (L ++ [(x,m)])->k (.int .i64 0) S'):RC Tryz.prog 53 [.ptr p 0,.str (cN x)] S k:=by
 have hmet:=oT hx.met;obtain ⟨c0,n0,hcn⟩:=List.exists_cons_of_ne_nil hmet.2.1;have hc0:=List.all_eq_true.1 hmet.1 c0 (by rw [hcn];simp);have hline:∃ r,cN x=c0 :: r:=⟨n0 ++ (aCy (cJ x.l) ++ 32 :: (kI x.b ++ pE x)),by unfold cN;rw [hcn];rfl⟩
 have hrd:=fun (k:V->St->Prop)=>aIZ (k:=k) hx hT (bg htb hb) om;obtain ⟨r0,hr0⟩:=hline;rw [hr0] at hrd ⊢;refine RC.run mixed aS (aG aUL ?_);refine enter ?_;refine go ?_;refine aID (aBI hc0 dc) (fun e=>by rw [show c0=35 from UInt8.toNat_inj.1 e] at hc0;exact absurd hc0 dc) ?_;refine go ?_;refine RC.wf ?_;refine hrd _ fun S0 m hA0 hm1 hm2' hm3'=>?_;intro S1 hW1 hn01 hk01;have hA1:Abv S.next S.next S S1 100:=⟨fun id h1 h2=>by rw [hk01 id (by have:=hA0.lo;omega)];exact hA0.keep id h1 h2,by rw [hn01];exact hA0.lo,by rw [hn01];exact hA0.hi⟩
 have hm2:m < S1.next:=om
 have hm3:S1.hs.get m=some (.cells (cellsOf x.l) 34 .rw):=by rw [hk01 m hm2'];exact hm3'
 have a1:=hA1.lo;have b1:=hA1.hi;refine go ?_;refine aD om fun S2 hS2=>?_;have n2:=aF hS2;refine go ?_;refine aA (aJ hS2) ?_
 conv=>whnf
 refine aE om fun S3 hS3=>?_;have n3:=aK hS3;refine go ?_
 have hK3:∀ id,id < S1.next->S3.hs.get id=S1.hs.get id:=fun id h1=>by rw [aB hS3 om,aC hS2 om]
 have hp3:S3.hs.get p=some (.cells [v,.nilSlice,.nilSlice] e .ex):=by rw [hK3 p om];exact hA1.at hp om om
 have hs3:S3.hs.get S1.next=some (.cells (SC (x,m)) 49 .ex):=aR hS3
 have hm3':S3.hs.get m=some (.cells (cellsOf x.l) 34 .rw):=by rw [hK3 m om];exact hm3
 have hL3:oI b S3 (L ++ [(x,m)]):=fun q hq=>by
  rcases List.mem_append.1 hq with hq|hq
  ·obtain ⟨y1,y2,y3⟩:=hLb q hq;exact ⟨y1,om,by rw [hK3 q.2 om];exact hA1.at y3 om om⟩
  ·rw [ay] at hq;subst hq;exact ⟨by show b <= m;omega,by show m < _;omega,hm3'⟩
 have hR3:oJ b S3 v L:=hR.keep (fun id h1 h2=>by rw [hK3 id om];exact hA1.keep id h2 om) om;have hA3:Abv p b S S3 101:=⟨fun id h1 _=>by rw [hK3 id om];exact hA1.keep id om om,om,om⟩
 have hW3:Wf S3:=(hW1.new hS2).put hS3 om;refine aA hp3 ?_;have hR3':=hR3
 rcases hR3' with ⟨rfl,rfl⟩|⟨m0,rfl,_,_,_,_⟩
 refine go ?_
 rotate_left
 refine go ?_;refine bE (fun _=>?_) (fun (h:1000 <= _)=>absurd h om);refine go ?_
 all_goals
  obtain ⟨S4,e4,f4⟩:=aIW (id:=Nat.add S3.next 6) (o:=some (.cells (SC (x,m)) 49 .ex)) (S:=⟨S3.hp,Nat.add S3.next 11⟩) (by show S3.next+6 < room;omega);refine jO ?_;refine aV rfl (by intro Q hQ;(conv=>whnf);exact hQ) ?_;refine aV rfl (by intro Q hQ;(conv=>whnf);exact hQ) ?_;refine aV rfl (by intro Q hQ;(conv=>whnf);exact hQ) ?_;refine aV rfl (by intro Q hQ;(conv=>whnf);exact aP hQ) ?_;refine dE rfl (fun Q hQ=>aA (S:=⟨S3.hp,_⟩) hp3 (aH kr _ rfl rfl hQ)) ?_;refine dE rfl (fun Q hQ=>aA (S:=⟨S3.hp,_⟩) hs3 (aX (n:=4) kr kr (af 4) rfl hQ)) ?_;refine aEt rfl (by intro Q hQ;(conv=>whnf);exact hQ) ?_;have n4:S4.next=S3.next+11:=aK e4
  have k4:∀ id,id ≠ S3.next+6->S4.hs.get id=S3.hs.get id:=fun id h=>by rw [aB e4 h];rfl
  have x4:S4.hs.get (S3.next+6)=some (.cells (SC (x,m)) 49 .ex):=aR e4;have hR4:=hR3.keep (S':=S4) (fun id _ h2=>k4 id om) om;have hL4:=hL3.keep (S':=S4) (fun id _ h2=>k4 id om) om;have hp4:S4.hs.get p=_:=(k4 p om).trans hp3;refine dK (hs:=rfl) (pe':=[]) (A:=fun Q=>aO Tryz.prog #[25,25] _ (.slice (Nat.add S3.next 6) 0 1 1 4 true) S4 Q) rfl (fun Q hQ=>by (conv=>whnf);exact bX (fun _=>f4 _ hQ) (fun h=>absurd ((show aU _ _=true by kernel_rfl).symm.trans h) sm)) (fun Q hQ=>by (conv=>whnf);exact hQ) ?_;refine aEl hR4 hL4 om x4 om om fun S5 v5 hA5 hR5 hL5=>?_;have n5:=hA5.lo;have n5':=hA5.hi;refine n_dopA ?_;refine aV rfl (by intro Q hQ;(conv=>whnf);exact hQ) ?_;refine aV rfl (by intro Q hQ;(conv=>whnf);exact aP hQ) ?_;have hp5:S5.hs.get p=_:=(hA5.keep p hpb om).trans hp4
  refine dK (hs:=rfl) (pe':=[]) (S1:=S5) (A:=fun Q=>bD p (some (.cells [v5,.nilSlice,.nilSlice] e .ex)) S5 fun S=>Q undefV S) rfl (fun Q hQ=>by (conv=>whnf);exact hQ) (fun Q hQ=>by
   (conv=>whnf)
   refine aA hp5 ?_
   exact bH (v:=v5) hR5.cells sm kr hR5.one sm hQ) ?_
  refine aE om fun S6 hS6=>?_;have n6:=aK hS6;refine n_dopA ?_;refine zG ?_;refine aGz ?_;refine eK (.inl kr) (.inl kr) (.inr fun Q hQ=>aA (S:=⟨S3.hp,_⟩) hs3 (aX (n:=4) kr kr (af 4) rfl hQ)) (aTk _) ?_;refine eK (.inl kr) (.inl kr) (.inr fun Q hQ=>aA (S:=⟨S3.hp,_⟩) hp3 (aH kr _ rfl rfl hQ)) (by first|rfl|exact eG _ _ _ _ _ _) ?_;refine jA ?_;refine kZ (.inl kr) (.inl kr) (hW3 (S3.next+6) om om) ?_;refine iQ ?_;refine yG (fun Q hQ=>by (conv=>whnf);exact hQ) ?_;refine go ?_;refine hk S6 v5 m ⟨fun id h1 h2=>?_,om,om⟩ (aR hS6) (hR5.keep (fun id h1 h2=>aB hS6 om) om) (hL5.keep (fun id h1 h2=>aB hS6 om) om);rw [aB hS6 h2,hA5.keep id h1 om,k4 id om];exact hA3.keep id h1 h2
end
section
attribute [local irreducible] aO bK cM bD
theorem aNU:bB Tryz.prog 79 19 [] (aL Tryz.f79):=fq Tryz.f79
theorem aVk:bB Tryz.prog 52 4 [.tmp 2] (aL Tryz.f52):=fq Tryz.f52
theorem aLM {t:List UInt8}{S:St}(hn:S.next < room){k:V->St->Prop}(hk:∀ S',S'.hs=S.hs.new (.cells [.str t] 9 .ex)->k (.func (.func 79) [] [.ptr S.next 0]) S'):RC Tryz.prog 52 [.str t] S k:=by
 refine RC.run mixed aS (aG aVk ?_);refine enter ?_;refine go ?_;refine aD (o:=.cells [.str t] 9 .ex) hn fun S1 hS1=>?_;refine go ?_;exact hk S1 hS1
end
section
def zS:List V:=[.nilSlice,.int .u64 0,.bool false,.int .i64 0]
attribute [local irreducible] aO bK cM bD
end
section
attribute [local irreducible] aO bK cM bD
theorem aJk {l:List jH}{j:Nat}(h:j < l.length):dI (l.drop j)=cN l[j] ++ 10 :: dI (l.drop (j+1)):=by rw [List.drop_eq_getElem_cons h];rfl
structure Pz (S:St)(o:O)(T:Nat->List UInt8)(j:Nat)(S':St):Prop where
 lp:S'.hs.get (S.next+7)=some o
 mk':S'.hs.get (S.next+6)=some .deferred
 r0:S'.hs.get S.next=some (.cells [.nilSlice,.nilSlice,.nilSlice] 75 .ex)
 r1:S'.hs.get (S.next+1)=some (.cells [.int .i64 0] 3 .ex)
 r2:S'.hs.get (S.next+2)=some (.cells [.int .i64 0] 43 .ex)
 ct:S'.hs.get (S.next+4)=some (.cells [.int .i64 (.ofNat j)] 3 .ex)
 tx:S'.hs.get (S.next+5)=some (.cells [.str (T j)] 9 .ex)
 keep:∀ id,id < S.next->S'.hs.get id=S.hs.get id
 lo:S.next+8 <= S'.next
 hi:S'.next <= S.next+8+130 * j
def Py (S:St)(l:List jH)(j:Nat)(S':St):Prop:=∃ v L,L.map (·.1)=l.take j∧S'.hs.get (S.next+3)=some (.cells [v,.nilSlice,.nilSlice] 75 .ex)∧oJ (S.next+8) S' v L∧oI (S.next+8) S' L
structure Pb (S:St)(n:Nat)(S':St):Prop where
 lp:∃ E ps a b d,S'.hs.get (S.next+7)=some (.loop .done (some .ret) E ps a b d)
 mk':S'.hs.get (S.next+6)=some .deferred
 r0:S'.hs.get S.next=some (.cells [.nilSlice,.nilSlice,.nilSlice] 75 .ex)
 r1:S'.hs.get (S.next+1)=some (.cells [.int .i64 (.ofNat n)] 3 .ex)
 r2:S'.hs.get (S.next+2)=some (.cells [.int .i64 231] 43 .ex)
 keep:∀ id,id < S.next->S'.hs.get id=S.hs.get id
 lo:S.next+8 <= S'.next
 hi:S'.next <= S.next+1750
theorem aXd:bB Tryz.prog 23 26 [.cell 2 75,.cell 3 3,.cell 4 43] (aL Tryz.f23):=fq Tryz.f23
end
section
theorem qR:∀ a b,fH (a ++ b)=fH a ++ fH b
 | [],_=>rfl
 | q :: a,b=>by simp [fH,qR a b]
theorem kR:∀ l,(fH l).length=l.length
 | []=>rfl
 | q :: l=>by simp [fH,kR l]
def aAc (b:Nat)(S:St)(v:V)(L:List (List UInt8)):Prop:=(L=[]∧v=.nilSlice) ∨ ∃ m,v=.slice m 0 L.length L.length 1 false∧b <= m∧m < S.next∧m < room∧S.hs.get m=some (.cells (fH L) 9 .rw)
theorem aAc.keep {b:Nat}{S S':St}{v:V}{L:List (List UInt8)}(h:aAc b S v L)(hk:∀ id,b <= id->id < S.next->S'.hs.get id=S.hs.get id)(hn:S.next <= S'.next):aAc b S' v L:=by
 rcases h with h|⟨m,h1,h2,h3,h4,h5⟩
 ·exact .inl h
 ·exact .inr ⟨m,h1,h2,om,h4,by rw [hk m h2 h3];exact h5⟩
theorem aNl {S:St}{i2:Nat}{q:List UInt8}{e2:TypeId}{fl2:Fl}(hx:S.hs.get i2=some (.cells [.str q] e2 fl2)){k:V->St->Prop}
  (hk:bK (.cells [.str q] 9 .rw) S fun id S=>k (.slice id 0 1 1 1 false) S):aO Tryz.prog #[37,37] .nilSlice (.slice i2 0 1 1 1 true) S k:=by
 unfold aO
 conv=>whnf
 refine aA hx ?_
 conv=>whnf
 exact hk
theorem aNm {S:St}{id i2:Nat}{L:List (List UInt8)}{q:List UInt8}{e2:TypeId}{fl2:Fl}(ho:S.hs.get id=some (.cells (fH L) 9 .rw))(hx:S.hs.get i2=some (.cells [.str q] e2 fl2))(hlen:L.length < 4096){k:V->St->Prop}
  (hk:bD id none S fun S=>bK (.cells (fH (L ++ [q])) 9 .rw) S fun id S=>k (.slice id 0 (L.length+1) (L.length+1) 1 false) S):aO Tryz.prog #[37,37] (.slice id 0 L.length L.length 1 false) (.slice i2 0 1 1 1 true) S k:=by
 rw [qR] at hk;unfold aO
 conv=>whnf
 refine aA hx ?_
 conv=>whnf
 refine aP ?_
 conv=>whnf
 refine bX (fun h=>?_) (fun _=>?_)
 ·have:L.length+1 <= L.length:=ae h;omega
 refine ifK_intro (ag ?_) ?_
 ·show (L.length+1) * 17 <= 70368744177664;omega
 refine aA ho ?_;refine bY (ai _) ?_;refine bJ (by show L.length * 1 <= _;rw [List.drop_zero,kR];omega) ?_;refine bZ ?_
 have e:((fH L).drop 0).take (L.length * 1)=fH L:=by rw [List.drop_zero,bd (by rw [kR];omega)]
 show dD (cQ [.str q]) (bD id none S fun S=>bK (.cells (((fH L).drop 0).take (L.length * 1) ++ [.str q]) 9 .rw) S fun id S=>k (.slice id 0 (L.length+1) (L.length+1) 1 false) S);rw [e];refine ifK_intro rfl ?_;have e2:fH [q]=[.str q]:=rfl;rw [e2] at hk;exact hk
theorem aJC {b:Nat}{S:St}{v:V}{L:List (List UInt8)}{q:List UInt8}{i2:Nat}{e2:TypeId}{fl2:Fl}(h:aAc b S v L)(hb:b <= S.next)(hx:S.hs.get i2=some (.cells [.str q] e2 fl2))(hlen:L.length < 4096)(hn:S.next+1 < room){k:V->St->Prop}
  (hk:∀ S' v',Abv b b S S' 1->aAc b S' v' (L ++ [q])->k v' S'):aO Tryz.prog #[37,37] v (.slice i2 0 1 1 1 true) S k:=by
 rcases h with ⟨rfl,rfl⟩|⟨m,rfl,h2,h3,h4,h5⟩
 ·refine aNl hx ?_;refine aD om fun S2 hS2=>?_;have n2:=aF hS2;exact hk S2 _ ((Abv.refl b b S 0).new hS2 hb om) (.inr ⟨S.next,rfl,hb,om,om,aJ hS2⟩)
 ·refine aNm h5 hx hlen ?_;refine aE h4 fun S2 hS2=>?_;have hn2:=aK hS2;refine aD om fun S3 hS3=>?_;have hn3:=aF hS3;have hA:=((Abv.refl b b S 0).put hS2 (.inr h2)).new hS3 hb (m:=1) om;exact hk S3 _ hA (.inr ⟨S2.next,sm,om,om,om,aJ hS3⟩)
attribute [local irreducible] aO bK cM bD
theorem aSi:bB Tryz.prog 25 32 [.tmp 2] (aL Tryz.f25):=fq Tryz.f25
theorem aBT {x:jH}(hx:aKO x){i:Nat}{S:St}{e:TypeId}{fl:Fl}(hi:i < S.next)(hS:S.hs.get i=some (.cells (cellsOf x.l) e fl))(hn:S.next+1 < room){k:V->St->Prop}(hk:∀ S',Abv S.next S.next S S' 1->k (.bool true) S'):RC Tryz.prog 25 [.agg (SC (x,i))] S k:=by
 refine RC.run mixed aS (aG aSi ?_);refine enter ?_;refine go ?_;refine aD om fun S1 hS1=>?_;have n1:=aF hS1;have hb:S1.hs.get S.next=some (.cells (SC (x,i)) 49 .ex):=aJ hS1;have hl:LV S1 (.slice i 0 x.l.length x.l.length 2 false) x.l:=.inr ⟨i,_,_,[],_,_,rfl,af _,by rw [bf,aC hS1 om];exact hS⟩;have hA:Abv S.next S.next S S1 1:=(Abv.refl _ _ S 0).new hS1 (af _) om;refine go ?_;refine aA hb ?_;refine go ?_;refine cL hl hx.ok ?_;refine go ?_;refine aA hb ?_;refine go ?_;refine lX hl (by have:=hx.ok.few;omega) _ ?_;refine go ?_;refine aVX hx.met ?_;refine go ?_;refine aA hb ?_;refine go ?_;refine aGo hx.b ?_;refine go ?_;refine bO (fun h=>absurd h hx.num) (fun _=>?_);refine go ?_;refine aA hb ?_;refine go ?_;obtain ⟨l,b,st,t⟩:=x;have hst:=hx.st
 cases st with
 | true =>
   refine go ?_;exact hk S1 hA
 | false =>
   have ht:t=0:=hst rfl;subst ht;refine go ?_;refine aA hb ?_;refine go ?_;exact hk S1 hA
end
end Go.Am
