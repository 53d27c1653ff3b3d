/- Part 2 of the proof that BodyOwn returns true, and leaves its arguments as they were, for every input, over a start where the listed variables hold what the program lays: the statement Rows.BodyOwnCardSaid. -/
import Derived.Test.YtnfhhddmeikbpaaGreatDoorWAa
import Derived.Laws.MakeOwn
import Derived.Laws.AppendOwn
import Derived.Lib.UnsafeStr
set_option linter.unusedVariables false
set_option linter.unusedSimpArgs false
/- Slice expressions; aggregates out of their parts. -/
namespace Go.Am
variable {P:Program} {E:Env}

theorem none_spec {α:Type} {o:Option α} {k:Prop} (h:Option.rec (motive:=fun _=>Prop) k (fun _=>False) o):o=none∧k:=by
 cases o with
 | none=>exact ⟨rfl,h⟩
 | some a=>exact h.elim
theorem mem_slice {t:TypeId} {x:Operand} {lo hi mx:Option Operand}:x ∈ (Op.slice t x lo hi mx).operands.toList∧(∀ y,lo=some y→y ∈ (Op.slice t x lo hi mx).operands.toList)∧(∀ y,hi=some y→y ∈ (Op.slice t x lo hi mx).operands.toList)∧(∀ y,mx=some y→y ∈ (Op.slice t x lo hi mx).operands.toList):=by
 refine ⟨by simp [Op.operands],fun y h=>?_,fun y h=>?_,fun y h=>?_⟩ <;> subst h <;> simp [Op.operands]
theorem aSlice_spec {t:TypeId} {x:Operand} {lo hi mx:Option Operand} {k:V→Prop} (h:aSlice P t x lo hi mx E k):∃ v,k v∧PureS P (.slice t x lo hi mx) E v:=by
 obtain ⟨a,h1,h2⟩:=opK_spec (show opK E x _ from h)
 obtain ⟨d,hd,h3⟩:=wj h2
 obtain ⟨mx0,mlo,mhi,mmx⟩:=@mem_slice t x lo hi mx
 split at h3
 ·rename_i s
  obtain ⟨rfl,h4⟩:=none_spec h3
  obtain ⟨hb,h5,e1,f1⟩:=optNat_spec (show optNat E hi (len' s) _ from h4)
  obtain ⟨lb,h6,e2,f2⟩:=optNat_spec h5
  obtain ⟨g1,h7⟩:=vY h6
  obtain ⟨g2,h8⟩:=vY h7
  obtain ⟨g3,h9⟩:=dropK_spec h8
  obtain ⟨g4,h10⟩:=takeK_spec h9
  rw [len'_eq] at g1 e1
  have g1':=Nat.le_of_ble_eq_true g1
  have g2':=Nat.le_of_ble_eq_true g2
  refine ⟨_,h10,fun ρ ev o w ho hev=>?_⟩
  have hc:=hev.one mx0 h1
  generalize hce:ev x=cv at hc
  cases hc
  refine ⟨_,?_,.str _⟩
  have hsz:(⟨⟨s⟩⟩:ByteArray).size=s.length:=rfl
  have hb2:=run_sliceBounds2 (P:=P) (isS:=false) (len:=s.length) (cap:=s.length) (bnd e2 (f2 ρ ev fun y hy v hv=>hev.one (mlo y hy) hv)) (bnd e1 (f1 ρ ev fun y hy v hv=>hev.one (mhi y hy) hv)) g2' g1' w
  have hbe:=bytes_extract s lb hb g2' g1'
  have hm:Nat.sub hb lb=hb - lb:=rfl
  simp only [execOp,ho,hce,Instr.sliceAt,Instr.slice,Sem.run_bind,run_underlying hd,Result.andThen_ok,hsz,hb2,Option.map_none,Option.isSome_none,Bool.false_eq_true,if_false,Sem.run_pure,hbe,hm]
 ·rename_i e id off n c es ex
  obtain ⟨ei,hei,h4⟩:=szK_spec h3
  obtain ⟨g0,h5⟩:=vY h4
  obtain ⟨hb,h6,e1,f1⟩:=optNat_spec (show optNat E hi n _ from h5)
  obtain ⟨lb,h7,e2,f2⟩:=optNat_spec h6
  obtain ⟨g2,h8⟩:=vY h7
  have g0':=Nat.eq_of_beq_eq_true g0
  have g2':=Nat.le_of_ble_eq_true g2
  have hm:Nat.mul lb es=lb * es:=rfl
  cases mx with
  | none =>
    obtain ⟨g1,h9⟩:=vY (show ifK (Nat.ble hb c) _ from h8)
    have g1':=Nat.le_of_ble_eq_true g1
    refine ⟨_,fN_spec (k:=fun c=>k (.slice id _ _ c es ex)) (fN_spec (k:=fun m=>fN (Nat.sub c lb) fun c=>k (.slice id _ m c es ex)) (fN_spec (k:=fun o=>fN (Nat.sub hb lb) fun m=>fN (Nat.sub c lb) fun c=>k (.slice id o m c es ex)) h9)),fun ρ ev o w ho hev=>?_⟩
    have hc:=hev.one mx0 h1
    generalize hce:ev x=cv at hc
    cases hc with
    | slice _ _ _ _ _ off' cap' hl hoff hcap hx hlen hr =>
      rename_i l
      have hb2:=run_sliceBounds2 (P:=P) (isS:=true) (len:=n) (cap:=cap') (bnd e2 (f2 ρ ev fun y hy v hv=>hev.one (mlo y hy) hv)) (bnd e1 (f1 ρ ev fun y hy v hv=>hev.one (mhi y hy) hv)) g2' (by omega) w
      have ha:(if cap'=lb then some (⟨l.blk,l.base+off',none⟩:Addr) else (some (⟨l.blk,l.base+off',none⟩:Addr)).map (·.add (lb * ei.size)))=some ⟨l.blk,l.base+(if cap'=lb then off' else off'+lb * es),none⟩:=by
       split
       ·rfl
       ·simp [Addr.add_mk,Nat.add_assoc,g0']
      refine ⟨.slice (some ⟨l.blk,l.base+(if cap'=lb then off' else off'+lb * es),none⟩) (hb - lb) (cap' - lb),?_,?_⟩
      ·simp only [execOp,ho,hce,Instr.sliceAt,Instr.slice,Sem.run_bind,run_underlying hd,Result.andThen_ok,hb2,Option.map_none,run_sizeOf' hei,Sem.run_pure,ha]
      ·refine .slice _ (hb - lb) (c - lb) es ex _ (cap' - lb) hl (fun hcc=>?_) (by omega) (fun he=>by rw [hx he]) (by omega) (fun hrw=>?_)
       ·rw [if_neg (by omega),hoff (by omega)];rfl
       ·have:=hr hrw
        split
        ·rename_i e;subst e;simp;omega
        ·have e2:cap' * es=lb * es+(cap' - lb) * es:=by rw [← Nat.add_mul];congr 1;omega
         omega
  | some y =>
    obtain ⟨vm,h9,h10⟩:=opK_spec (show opK E y _ from h8)
    obtain ⟨am,m,rfl,h11⟩:=vNat_spec h10
    obtain ⟨gh,h12⟩:=vY h11
    obtain ⟨g3,h13⟩:=vY h12
    obtain ⟨g4,h14⟩:=vY h13
    have g3':=Nat.le_of_ble_eq_true g3
    have g4':=Nat.le_of_ble_eq_true g4
    refine ⟨_,fN_spec (k:=fun c=>k (.slice id _ _ c es true)) (fN_spec (k:=fun q=>fN (Nat.sub m lb) fun c=>k (.slice id _ q c es true)) (fN_spec (k:=fun o=>fN (Nat.sub hb lb) fun q=>fN (Nat.sub m lb) fun c=>k (.slice id o q c es true)) h14)),fun ρ ev o w ho hev=>?_⟩
    have hc:=hev.one mx0 h1
    have hmv:=hev.one (mmx y rfl) h9
    generalize hce:ev x=cv at hc
    generalize hme:ev y=mv at hmv
    cases hmv
    cases hc with
    | slice _ _ _ _ _ off' cap' hl hoff hcap hx hlen hr =>
      rename_i l
      obtain ⟨yh,rfl⟩:=Option.isSome_iff_exists.1 gh
      obtain ⟨ah,hah⟩:=f1 ρ ev (fun y hy v hv=>hev.one (mhi y hy) hv) yh rfl
      have hb2:=run_sliceBounds3 (P:=P) (isS:=true) (len:=n) (cap:=cap') (lo:=lo.map ev) (hi:=some (ev yh)) (mx:=some (.int am (Int.ofNat m))) (bnd e2 (f2 ρ ev fun y hy v hv=>hev.one (mlo y hy) hv)) ⟨ah,by rw [hah]⟩ ⟨am,rfl⟩ g2' g3' (by omega) w
      have ha:(if m=lb then some (⟨l.blk,l.base+off',none⟩:Addr) else some ((⟨l.blk,l.base+off',none⟩:Addr).add (lb * ei.size)))=some ⟨l.blk,l.base+(if m=lb then off' else off'+lb * es),none⟩:=by
       split
       ·rfl
       ·simp [Addr.add_mk,Nat.add_assoc,g0']
      refine ⟨.slice (some ⟨l.blk,l.base+(if m=lb then off' else off'+lb * es),none⟩) (hb - lb) (m - lb),?_,?_⟩
      ·simp only [execOp,ho,hce,hme,Instr.sliceAt,Instr.slice,Sem.run_bind,run_underlying hd,Result.andThen_ok,hb2,Option.map_some,run_sizeOf' hei,Sem.run_pure,ha]
      ·refine .slice _ (hb - lb) (m - lb) es true _ (m - lb) hl (fun hcc=>?_) (Nat.le_refl _) (fun _=>rfl) (by omega) (fun hrw=>?_)
       ·have hcc':0 < m - lb:=hcc
        rw [if_neg (by omega),hoff (by omega)];rfl
       ·have:=hr hrw
        have hmc:m * es ≤ cap' * es:=Nat.mul_le_mul_right _ (by omega)
        split
        ·rename_i e;subst e;simp;omega
        ·have e2:m * es=lb * es+(m - lb) * es:=by rw [← Nat.add_mul];congr 1;omega
         omega
 ·rename_i e
  obtain ⟨ei,hei,h4⟩:=szK_spec h3
  obtain ⟨rfl,h5⟩:=none_spec h4
  obtain ⟨hb,h6,e1,f1⟩:=optNat_spec (show optNat E hi 0 _ from h5)
  obtain ⟨lb,h7,e2,f2⟩:=optNat_spec h6
  obtain ⟨g1,h8⟩:=vY h7
  obtain ⟨g2,h9⟩:=vY h8
  have g1':=Nat.eq_of_beq_eq_true g1
  have g2':=Nat.eq_of_beq_eq_true g2
  subst g1';subst g2'
  refine ⟨_,h9,fun ρ ev o w ho hev=>?_⟩
  have hc:=hev.one mx0 h1
  generalize hce:ev x=cv at hc
  cases hc
  have hb2:=run_sliceBounds2 (P:=P) (isS:=true) (len:=0) (cap:=0) (bnd e2 (f2 ρ ev fun y hy v hv=>hev.one (mlo y hy) hv)) (bnd e1 (f1 ρ ev fun y hy v hv=>hev.one (mhi y hy) hv)) (Nat.le_refl _) (Nat.le_refl _) w
  refine ⟨.slice none 0 0,?_,.nilSlice⟩
  simp only [execOp,ho,hce,Instr.sliceAt,Instr.slice,Sem.run_bind,run_underlying hd,Result.andThen_ok,hb2,Option.map_none,run_sizeOf' hei,Sem.run_pure]
  simp
 ·exact h3.elim

/-! Aggregates. -/
theorem VRs.set {ρ:Rho} {v:V} {v':Value} (hv:VR ρ v v'):∀ {a:List V} {b:List Value} (i:Nat),VRs ρ a b→VRs ρ (a.set i v) (b.set i v')
 | _,_,_,.nil=>.nil
 | _,_,0,.cons _ hs=>.cons hv hs
 | _,_,i+1,.cons h hs=>.cons h (hs.set hv i)
theorem VRs.over {ρ:Rho}:∀ {a:List V} {b:List Value} {c:List V} {d:List Value} (off:Nat),VRs ρ a b→VRs ρ c d→VRs ρ (Am.over a off c) (Am.over b off d)
 | _,_,_,_,_,.nil,k=>k
 | _,_,_,_,off,.cons h hs,k=>hs.over (off+1) (k.set h off)
theorem foldl_over (cells:List Value):∀ (vs:List Value) (off j:Nat) (cs:Array Value),cs.toList=cells →
  (((vs.zipIdx j).foldl (fun (cs:Array Value) (p:Value × Nat)=>cs.setIfInBounds (off+p.2) p.1) cs).toList=Am.over vs (off+j) cells):=by
 intro vs
 induction vs generalizing cells with
 | nil=>intro off j cs h;simpa [Am.over] using h
 | cons v vs ih =>
   intro off j cs h
   simp only [List.zipIdx_cons,List.foldl_cons]
   rw [ih (cells.set (off+j) v) off (j+1) (cs.setIfInBounds (off+j) v) (by simp [h])]
   simp [Am.over,Nat.add_assoc]
theorem fill_step {place:Nat→Option (Nat × Nat)} {i off n:Nat} {v:Value} {rest:List (Nat × Value)} {cells:List Value} (hp:place i=some (off,n)) (hn:v.cells.toList.length=n) (hle:off+n ≤ cells.length) :
  Instr.fill place ⟨cells⟩ ((i,v) :: rest)=Instr.fill place ⟨Am.over v.cells.toList off cells⟩ rest:=by
 have e1:v.cells.size=n:=by simpa using hn
 have e2:¬ (off+v.cells.size > (⟨cells⟩:Array Value).size):=by simp [e1];omega
 have e3:(v.cells.size ≠ n || off+v.cells.size > (⟨cells⟩:Array Value).size)=false:=by simp [e1];omega
 have e4:v.cells.zipIdx.foldl (fun (cs:Array Value) (p:Value × Nat)=>cs.setIfInBounds (off+p.2) p.1) ⟨cells⟩=⟨Am.over v.cells.toList off cells⟩:=by
  apply Array.ext'
  rw [← Array.foldl_toList,Array.toList_zipIdx]
  have:=foldl_over cells v.cells.toList off 0 ⟨cells⟩ rfl
  simpa using this
 simp only [Instr.fill,hp]
 rw [show (decide (v.cells.size ≠ n) || decide (off+v.cells.size > (⟨cells⟩:Array Value).size))=false by simpa using e3]
 simp only [Bool.false_eq_true,if_false]
 exact congrArg (fun c=>Instr.fill place c rest) e4
theorem fillK_spec {place:Nat→Option (Nat × Nat)}:∀ {l:List (Nat × Operand)} {cs:List V} {k:List V→Prop},fillK E place l cs k →
  ∃ r,k r∧∀ (ρ:Rho) (ev:Operand→Value) (cs':List Value),(∀ p ∈ l,∀ v,OpV E p.2 v→VR ρ v (ev p.2))→VRs ρ cs cs'→∃ r',VRs ρ r r'∧Instr.fill place ⟨cs'⟩ (l.map fun p=>(p.1,ev p.2))=some ⟨r'⟩
 | [],cs,k,h=>⟨cs,h,fun ρ ev cs' _ hc=>⟨cs',hc,rfl⟩⟩
 | p :: l,cs,k,h=>by
   obtain ⟨q,h1,h2⟩:=wj (show Option.rec (motive:=fun _=>Prop) False _ (place p.1) from h)
   obtain ⟨v,h3,h4⟩:=opK_spec h2
   obtain ⟨h5,h6'⟩:=vY h4
   obtain ⟨hpos,h6⟩:=vY h6'
   obtain ⟨h7,h8⟩:=over_spec h6
   obtain ⟨r,h9,h10⟩:=fillK_spec (l:=l) h8
   refine ⟨r,h9,fun ρ ev cs' hev hc=>?_⟩
   have hv:=hev p (by simp) v h3
   have hvc:=hv.cells
   rw [len'_eq] at h5
   have h5':=Nat.eq_of_beq_eq_true h5
   obtain ⟨r',h11,h12⟩:=h10 ρ ev (Am.over (ev p.2).cells.toList q.1 cs') (fun p' hp'=>hev p' (by simp [hp'])) (hvc.over q.1 hc)
   refine ⟨r',h11,?_⟩
   rw [← h12]
   have hlen:cs.length=cs'.length:=hc.length
   have hvl:=hvc.length
   have hz:v.cells ≠ []:=fun hz=>by
    have hp':0 < q.2:=by simpa using hpos
    rw [hz] at h5';simp at h5';omega
   simp only [hz,if_false,Nat.add_zero] at h7
   exact fill_step (by rw [h1]) (by rw [← hvl];exact h5') (by omega)
theorem placesL_spec:∀ {fs:List Field} {l:List (Nat × Nat)},placesL P fs=some l→∀ w,(fs.mapM (fun f=>do pure (f.offset,← sizeOf f.type):Field→Sem (Nat × Nat))).run P w=.ok l w
 | [],l,h,w=>by simp [placesL] at h;subst h;simp
 | f :: fs,l,h,w=>by
   simp only [placesL] at h
   split at h
   ·cases h
   ·rename_i i hi
    split at h
    ·cases h
    ·rename_i r hr
     cases h
     have:=placesL_spec hr w
     simp only [List.mapM_cons,Sem.run_bind,run_sizeOf' hi,Result.andThen_ok,Sem.run_pure]
     rw [this]
     simp only [Result.andThen_ok]
theorem aBuild_spec {t:TypeId} {ps:Array (Nat × Operand)} {k:V→Prop} (h:aBuild P t ps E k):∃ v,k v∧PureS P (.build t ps) E v:=by
 obtain ⟨z,hz,h1⟩:=wj (show Option.rec (motive:=fun _=>Prop) False _ (zeroP P t) from h)
 obtain ⟨pl,hpl,h2⟩:=wj h1
 obtain ⟨r,h3,h4⟩:=fillK_spec h2
 obtain ⟨i,zv,hi,hzv,hok,rfl⟩:=zeroP_spec hz
 refine ⟨_,h3,fun ρ ev o w ho hev=>?_⟩
 obtain ⟨r',h5,h6⟩:=h4 ρ ev zv.cells.toList (fun p hp v hv=>hev p.2 (by simp [Op.operands];exact ⟨p.1,by simpa using hp⟩) v hv) (VR.ofV hok).cells
 refine ⟨.agg ⟨r'⟩,?_,.agg h5⟩
 have hmap:(ps.map fun p=>(p.1,ev p.2)).toList=ps.toList.map fun p=>(p.1,ev p.2):=by simp
 have hz':zv.cells=⟨zv.cells.toList⟩:=by cases zv.cells;rfl
 have h6':Instr.fill pl zv.cells (ps.toList.map fun p=>(p.1,ev p.2))=some ⟨r'⟩:=by rw [hz'];exact h6
 unfold placeP at hpl
 split at hpl
 ·rename_i fs hu
  split at hpl
  ·rename_i l hl
   cases hpl
   have hm:(fs.mapM (fun f=>do pure (f.offset,← sizeOf f.type):Field→Sem (Nat × Nat))).run P w=.ok ⟨l⟩ w:=by
    have:=placesL_spec hl w
    rw [Array.mapM_eq_mapM_toList,Sem.run_map,this]
    rfl
   have h6'':Instr.fill (fun i:Nat=>(⟨l⟩:Array (Nat × Nat))[i]?) zv.cells (ps.toList.map fun p=>(p.1,ev p.2))=some ⟨r'⟩:=by
    have hg:(fun i:Nat=>(⟨l⟩:Array (Nat × Nat))[i]?)=fun i:Nat=>l[i]?:=by funext i;simp
    rw [hg];exact h6'
   simp only [execOp,ho,Instr.build,Sem.run_bind,run_zeroValue' hi hzv,Result.andThen_ok,run_underlying hu]
   rw [hm]
   simp only [Result.andThen_ok,hmap,h6'']
   rfl
  ·cases hpl
 ·rename_i n e hu
  split at hpl
  ·rename_i ei hei
   cases hpl
   simp only [execOp,ho,Instr.build,Sem.run_bind,run_zeroValue' hi hzv,Result.andThen_ok,run_underlying hu,run_sizeOf' hei,hmap,h6']
   rfl
  ·cases hpl
 ·cases hpl
end Go.Am
/- The evaluator, second part: the operations that read or make memory, and those that write it. Definitions alone. -/
namespace Go.Am

noncomputable def rowK (S:St) (id:Nat) (k:List V→TypeId→Fl→Prop):Prop :=
 Option.rec (motive:=fun _=>Prop) False (fun o=>O.rec (motive:=fun _=>Prop) (fun cs e fl=>k cs e fl) (fun _ _=>False) (fun _ _=>False) (fun _ _ _ _=>False) (fun _ _ _ _ _ _ _=>False) False o) (T.get deep id S.hp)
noncomputable def mapK (S:St) (id:Nat) (k:List (V × V × Nat)→Nat→Prop):Prop :=
 Option.rec (motive:=fun _=>Prop) False (fun o=>O.rec (motive:=fun _=>Prop) (fun _ _ _=>False) (fun es c=>k es c) (fun _ _=>False) (fun _ _ _ _=>False) (fun _ _ _ _ _ _ _=>False) False o) (T.get deep id S.hp)
def wrK (fl:Fl) (k:Prop):Prop:=match fl with|.ro=>False|_=>k
noncomputable def allOne (l:List V):Bool:=List.rec (motive:=fun _=>Bool) true (fun v _ ih=>Bool.rec false ih v.one) l

/-! Readers: 'k' takes the value. -/
abbrev ReadT:=Env→St→(V→Prop)→Prop
noncomputable def loadK (P:Program) (t:TypeId) (a:V) (S:St) (k:V→Prop):Prop :=
 vPtr a fun id off=>rowK S id fun cs _ _=>yZ P t off cs k
noncomputable def aLoad (P:Program) (t:TypeId) (a:Operand):ReadT:=fun E S k=>opK E a fun v=>loadK P t v S k
def mapP (P:Program) (t:TypeId):Option (TypeId × TypeId):=match P.underlying t with|some (.map a b)=>some (a,b)|_=>none
/-- Keys that are numbers (0), strings (1) or Bools (2). -/
def keyP (P:Program) (t:TypeId):Option Nat:=match P.underlying t with|some (.int _)=>some 0|some .string=>some 1|some .bool=>some 2|_=>none
noncomputable def eqKey (c:Nat) (a b:V):Option Bool:=match c,a,b with
 | 0,.int j x,.int k y=>Bool.rec none (some (eqI x y)) (kEq j k)
 | 1,.str s,.str t=>some (eqS s t)
 | 2,.bool a,.bool b=>some (a == b)
 | _,_,_=>none
noncomputable def findK (c:Nat) (key:V) (es:List (V × V × Nat)):Nat→Option (Option (Nat × V)) :=
 List.rec (motive:=fun _=>Nat→Option (Option (Nat × V))) (fun _=>some none)
  (fun e _ ih n=>Option.rec (motive:=fun _=>Option (Option (Nat × V))) none (fun b=>Bool.rec (ih (Nat.succ n)) (some (some (n,e.2.1))) b) (eqKey c key e.1)) es
noncomputable def foundK (P:Program) (t:TypeId) (ok:Bool) (r:Option (Nat × V)) (k:V→Prop):Prop :=
 Option.casesOn r (Option.casesOn (zeroV P t) False fun z=>Bool.rec (k z) (k (.tup [z,.bool false])) ok) fun r=>Bool.rec (k r.2) (k (.tup [r.2,.bool true])) ok
noncomputable def aLookup (P:Program) (t:TypeId) (m key:Operand) (ok:Bool):ReadT:=fun E S k=>opK E m fun m=>opK E key fun key=>Option.casesOn (mapP P t) False fun q=>Option.casesOn (keyP P q.1) False fun c=>match m with
 | .nilMap=>foundK P q.2 ok none k
 | .map id=>mapK S id fun es _=>Option.casesOn (findK c key es 0) False fun r=>foundK P q.2 ok r k
 | _=>False
noncomputable def bLen (P:Program) (t:TypeId) (v:V) (S:St) (k:V→Prop):Prop:=Option.casesOn (P.underlying t) False fun d=>match d,v with
 | .string,.str s=>fN (len' s) fun n=>k (.int .i64 (Int.ofNat n))
 | .array n _,_=>k (.int .i64 (Int.ofNat n))
 | .pointer a,_=>Option.casesOn (arrP P a) False fun q=>k (.int .i64 (Int.ofNat q.1))
 | .slice _,.slice _ _ n _ _ _=>k (.int .i64 (Int.ofNat n))
 | .slice _,.nilSlice=>k (.int .i64 0)
 | .map _ _,.nilMap=>k (.int .i64 0)
 | .map _ _,.map id=>mapK S id fun es _=>fN (len' es) fun n=>k (.int .i64 (Int.ofNat n))
 | _,_=>False
noncomputable def bCap (P:Program) (t:TypeId) (v:V) (k:V→Prop):Prop:=Option.casesOn (P.underlying t) False fun d=>match d,v with
 | .slice _,.nilSlice=>k (.int .i64 0)
 | .slice _,.slice _ _ _ c _ true=>k (.int .i64 (Int.ofNat c))
 | _,_=>False
/-- 'arr[lo:hi]' behind an address. -/
noncomputable def aSliceArr (P:Program) (t:TypeId) (x:Operand) (lo hi mx:Option Operand):ReadT:=fun E S k=>opK E x fun v=>vPtr v fun id off=>rowK S id fun cs _ _ =>
 Option.casesOn (P.underlying t) False fun d=>Option.casesOn mx (match d with
 | .pointer a=>Option.casesOn (arrP P a) False fun q=>szK P q.2 fun es=>ifK (Nat.ble (Nat.add off (Nat.mul q.1 es)) (len' cs)) (cutArr q.1 es id off E lo hi k)
 | .array n e=>szK P e fun es=>ifK (Nat.ble (Nat.add off (Nat.mul n es)) (len' cs)) (cutArr n es id off E lo hi k)
 | _=>False) fun _=>False
/-- A pointer turned into an unsafe one, and back at a variable of its own type. -/
noncomputable def aConvPtr (P:Program) (s d:TypeId) (x:Operand):ReadT:=fun E S k=>opK E x fun v=>vPtr v fun id off=>rowK S id fun cs e fl =>
 Option.casesOn (P.underlying s) False fun s'=>Option.casesOn (P.underlying d) False fun d'=>match s',d' with
 | .pointer t,.unsafePointer=>szK P t fun n=>Nat.casesOn n False fun _=>ifK (Nat.blt off (len' cs)) (k (.ptr id off))
 | .unsafePointer,.pointer u=>match fl with
   | .ex=>szK P u fun _=>ifK (liesAt P P.depth e (len' cs / P.cellsOf e) off u 1) (k (.ptr id off))
   | _=>False
 | _,_=>False

/-! Objects out of operands: 'k' takes the object, and the value once the object has a number. -/
abbrev AllocT:=Env→(O→(Nat→V)→Prop)→Prop
noncomputable def aAlloc (P:Program) (t:TypeId):AllocT:=fun _ k=>Option.casesOn (zeroP P t) False fun z=>k (.cells z t .ex) fun id=>.ptr id 0
noncomputable def aBox (t:TypeId) (x:Operand):AllocT:=fun E k=>opK E x fun v=>k (.cells v.cells t .ex) fun id=>.ptr id 0
/-- n copies of a list behind each other. -/
def repl {α:Type} (z:List α):Nat→List α
 | 0=>[]
 | n+1=>z ++ repl z n
noncomputable def aBuildSlice (P:Program) (t:TypeId) (n:Nat) (ps:Array (Nat × Operand)):AllocT:=fun E k =>
 Option.casesOn (elemP P t) False fun e=>Option.casesOn (zeroP P e) False fun z=>szK P e fun es=>ifK (Nat.beq (len' z) es) (ifK (Nat.ble (Nat.mul n es) 16777216)
  (fillK E (fun i=>some (i * es,es)) ps.toList (repl z n) fun cs=>k (.cells cs e .ex) fun id=>.slice id 0 n n es true))
noncomputable def aMakeMap (P:Program) (t:TypeId) (r:Option Operand):AllocT:=fun E k=>Option.casesOn r (k (.map [] 0) fun id=>.map id) fun r=>Option.casesOn (mapP P t) False fun _=>opK E r fun v=>vInt v fun _ _=>k (.map [] 0) fun id=>.map id
noncomputable def aMakeSlice (P:Program) (t:TypeId) (l c:Operand):AllocT:=fun E k=>opK E l fun l=>vNat l fun l=>opK E c fun c=>vNat c fun c =>
 Option.casesOn (elemP P t) False fun e=>Option.casesOn (zeroP P e) False fun z=>Option.casesOn (P.info? e) False fun i=>ifK (Nat.beq (len' z) i.size) (ifK (Nat.ble l c) (ifK (Nat.ble c 281474976710656) (ifK (Nat.ble (Nat.mul i.bytes c) 281474976710656)
  (k (.cells (repl z c) e .ex) fun id=>.slice id 0 l c i.size true))))

/-! Writers: 'k' takes the value and the heap. -/
abbrev OpT:=Env→St→(V→St→Prop)→Prop
noncomputable def storeK (P:Program) (t:TypeId) (a x:V) (S:St) (k:St→Prop):Prop :=
 vPtr a fun id off=>rowK S id fun cs e fl=>wrK fl (szK P t fun n=>ifK (Nat.beq (len' x.cells) n) (ifK (Nat.blt 0 n) (ifK (allOne x.cells) (overK x.cells off cs fun cs=>putK id (some (.cells cs e fl)) S k))))
noncomputable def aStore (P:Program) (t:TypeId) (a x:Operand):OpT:=fun E S k=>opK E a fun v=>opK E x fun x=>storeK P t v x S fun S=>k undefV S
noncomputable def aMapUpdate (P:Program) (t:TypeId) (m key x:Operand):OpT:=fun E S k=>opK E m fun m=>opK E key fun key=>opK E x fun x=>Option.casesOn (mapP P t) False fun q=>Option.casesOn (keyP P q.1) False fun c=>match m with
 | .map id=>mapK S id fun es n=>Option.casesOn (findK c key es 0) False fun r=>Option.casesOn r (appK es [(key,x,n)] fun es=>putK id (some (.map es (Nat.succ n))) S fun S=>k undefV S)
   fun r=>Option.casesOn (nth es r.1) False fun e=>upd (key,x,e.2.2) es r.1 fun es=>putK id (some (.map es n)) S fun S=>k undefV S
 | _=>False
noncomputable def aRange (P:Program) (t:TypeId) (x:Operand):OpT:=fun E S k=>opK E x fun v=>Option.casesOn (P.underlying t) False fun d=>match d,v with
 | .string,.str s=>newK (.strIter s 0) S fun id S=>k (.ptr id 0) S
 | .map _ _,.nilMap=>newK (.mapIter none 0 [] 0) S fun id S=>k (.ptr id 0) S
 | .map _ _,.map m=>mapK S m fun _ c=>newK (.mapIter (some m) c [] c) S fun id S=>k (.ptr id 0) S
 | _,_=>False
noncomputable def aNext (x:Operand) (isS:Bool):OpT:=fun E S k=>opK E x fun v=>vPtr v fun id off=>Nat.casesOn off (Option.casesOn (T.get deep id S.hp) False fun o=>match o,isS with
 | .strIter s pos,true=>Bool.rec (k (.tup [.bool false]) S)
   (Prod.casesOn (Utf8.decode ⟨⟨s⟩⟩ pos) fun c w=>fN c fun c=>fN (Nat.add pos w) fun p=>putK id (some (.strIter s p)) S fun S=>k (.tup [.bool true,.int .i64 (Int.ofNat pos),.int .i32 (Int.ofNat c)]) S) (Nat.blt pos (len' s))
 | .mapIter none _ _ _,false=>k (.tup [.bool false]) S
 | _,_=>False) fun _=>False
/-- The entry that the last step has come to. -/
noncomputable def aEntry (x:Operand):ReadT:=fun E S k=>opK E x fun v=>vPtr v fun id off=>Nat.rec (motive:=fun _=>Prop)
 (Option.rec (motive:=fun _=>Prop) False (fun o=>match o with
  | .mapIter (some m) _ seen stepped=>Option.rec (motive:=fun _=>Prop) False (fun b=>mapK S m fun es c=>ifK (Nat.beq c stepped)
    (Option.rec (motive:=fun _=>Prop) False (fun e=>k (.tup [e.1,e.2.1])) (es.find? fun e=>e.2.2 == b))) seen.getLast?
  | _=>False) (T.get deep id S.hp)) (fun _ _=>False) off
noncomputable def strCells (s:List UInt8):(List V→Prop)→Prop :=
 List.rec (motive:=fun _=>(List V→Prop)→Prop) (fun k=>k []) (fun b _ ih k=>fN b.toNat fun n=>ih fun r=>k (.int .u8 (Int.ofNat n) :: r)) s
/-- The cells of what is appended or copied, and how many elements they are. -/
noncomputable def srcK (es:Nat) (S:St) (x:V) (k:List V→Nat→Prop):Prop:=match x with
 | .nilSlice=>k [] 0
 | .str s=>ifK (Nat.beq es 1) (strCells s fun cs=>k cs (len' s))
 | .slice id off n _ es' _=>ifK (Nat.beq es es') (rowK S id fun cs _ _=>dropK off cs fun r=>takeK (Nat.mul n es) r fun r=>k r n)
 | _=>False
def notInt (P:Program) (ts:Array TypeId):Bool:=match ts[1]? with|none=>true|some t=>match P.underlying t with|none=>false|some (.int _)=>false|some _=>true
noncomputable def bAppend (P:Program) (ts:Array TypeId) (s x:V) (S:St) (k:V→St→Prop):Prop :=
 ifK (notInt P ts) (Option.casesOn (ts[0]?) False fun t=>Option.casesOn (elemP P t) False fun e=>Option.casesOn (P.info? e) False fun i=>Option.casesOn (zeroP P e) False fun z=>ifK (Nat.beq (len' z) i.size) (srcK i.size S x fun xs m=>match s with
 | .nilSlice=>match m with
   | 0=>k .nilSlice S
   | m=>ifK (Nat.ble (Nat.mul m (Nat.succ i.bytes)) 70368744177664) (newK (.cells xs e .rw) S fun id S=>k (.slice id 0 m m i.size false) S)
 | .slice id off n c es ex=>ifK (Nat.beq es i.size) (fN (Nat.add n m) fun need=>Bool.rec
   (ifK (Nat.ble (Nat.mul need (Nat.succ i.bytes)) 70368744177664) (rowK S id fun cs e' fl=>dropK off cs fun r=>takeK (Nat.mul n es) r fun old=>appK old xs fun all =>
    Bool.rec (wrK fl (ifK (Nat.beq e e') (ifK (allOne xs) (putK id none S fun S=>newK (.cells all e .rw) S fun id S=>k (.slice id 0 need need es false) S))))
     (newK (.cells all e .rw) S fun id S=>k (.slice id 0 need need es false) S) ex))
   (match m with
    | 0=>k (.slice id off n c es ex) S
    | _=>ifK (Nat.blt 0 es) (rowK S id fun cs e fl=>wrK fl (ifK (allOne xs) (overK xs (Nat.add off (Nat.mul n es)) cs fun cs=>putK id (some (.cells cs e fl)) S fun S=>k (.slice id off need c es ex) S))))
   (Nat.ble need c))
 | _=>False))
noncomputable def bCopy (P:Program) (ts:Array TypeId) (d x:V) (S:St) (k:V→St→Prop):Prop :=
 Option.casesOn (ts[0]?) False fun t=>Option.casesOn (elemP P t) False fun e=>szK P e fun sz=>ifK (Nat.blt 0 sz) (srcK sz S x fun xs m=>match d with
 | .nilSlice=>k (.int .i64 0) S
 | .slice id off n _ es _=>ifK (Nat.beq es sz) (fN (Nat.min m n) fun q=>takeK (Nat.mul q es) xs fun xs=>match q with
   | 0=>k (.int .i64 0) S
   | q=>rowK S id fun cs e fl=>wrK fl (ifK (allOne xs) (overK xs off cs fun cs=>putK id (some (.cells cs e fl)) S fun S=>k (.int .i64 (Int.ofNat q)) S)))
 | _=>False)
end Go.Am
/- Reading memory. -/
namespace Go.Am
variable {P:Program} {E:Env}

def ReadS (P:Program) (o:Op) (E:Env) (H:Hs) (v:V):Prop :=
 ∀ (ρ:Rho) (ev:Operand→Value) (x:Oper) (w:World),x.op=o→EvR ρ E ev o.operands.toList→Sim ρ H w→∃ v',(execOp ev x).run P w=.ok (.value v') w∧VR ρ v v'
theorem PureS.read {o:Op} {v:V} (h:PureS P o E v) (H:Hs):ReadS P o E H v:=fun ρ ev x w hx he _=>h ρ ev x w hx he

theorem rowK_spec {S:St} {id:Nat} {k:List V→TypeId→Fl→Prop} (h:rowK S id k):∃ cs e fl,S.hs.get id=some (.cells cs e fl)∧k cs e fl:=by
 obtain ⟨o,h1,h2⟩:=wj (show Option.rec (motive:=fun _=>Prop) False _ (T.get deep id S.hp) from h)
 cases o <;> first|exact h2.elim|exact ⟨_,_,_,h1,h2⟩
theorem mapK_spec {S:St} {id:Nat} {k:List (V × V × Nat)→Nat→Prop} (h:mapK S id k):∃ es n,S.hs.get id=some (.map es n)∧k es n:=by
 obtain ⟨o,h1,h2⟩:=wj (show Option.rec (motive:=fun _=>Prop) False _ (T.get deep id S.hp) from h)
 cases o <;> first|exact h2.elim|exact ⟨_,_,h1,h2⟩
theorem wrK_spec {fl:Fl} {k:Prop} (h:wrK fl k):fl ≠ .ro∧k:=by cases fl <;> first|exact h.elim|exact ⟨by simp,h⟩
theorem allOne_spec:∀ {l:List V},allOne l=true→∀ v ∈ l,v.one=true
 | [],_,v,hv=>by cases hv
 | u :: l,h,v,hv=>by
   have h':Bool.rec (motive:=fun _=>Bool) false (allOne l) u.one=true:=h
   cases hu:u.one with
   | false=>rw [hu] at h';cases h'
   | true =>
     rw [hu] at h'
     rcases List.mem_cons.1 hv with rfl|hv
     ·exact hu
     ·exact allOne_spec h' v hv

/-- Reading a variable. -/
theorem loadVar_spec {t:TypeId} {id off:Nat} {cs:List V} {e:TypeId} {fl:Fl} {H:Hs} {k:V→Prop} (hg:H.get id=some (.cells cs e fl)) (h:yZ P t off cs k) :
  ∃ v,k v∧∀ (ρ:Rho) (w:World) (l:Loc),Sim ρ H w→ρ id=some l→∃ v',(loadVar t ⟨l.blk,l.base+off,none⟩).run P w=.ok v' w∧VR ρ v v':=by
 obtain ⟨g,hag,h1⟩:=wj (show Option.rec (motive:=fun _=>Prop) False _ (aggP P t) from h)
 cases g with
 | false =>
   obtain ⟨v,h2,h3⟩:=wj (show Option.rec (motive:=fun _=>Prop) False k (nth cs off) from h1)
   rw [nth_eq] at h2
   refine ⟨v,h3,fun ρ w l hs hl=>?_⟩
   obtain ⟨v',h4,h5⟩:=hs.cell hg hl h2
   exact ⟨v',by simp [loadVar,run_isAgg' hag,h4],h5⟩
 | true =>
   obtain ⟨i,hi,h2⟩:=szK_spec (show szK P t _ from h1)
   obtain ⟨h3,h4⟩:=dropK_spec h2
   obtain ⟨h5,h6⟩:=takeK_spec h4
   refine ⟨_,h6,fun ρ w l hs hl=>?_⟩
   obtain ⟨c',h7,h8⟩:=hs.loadCells (P:=P) hg hl (off:=off) (n:=i.size) (by simp at h5;omega)
   exact ⟨.agg ⟨c'⟩,by simp [loadVar,run_isAgg' hag,run_sizeOf' hi,h7],.agg h8⟩
theorem loadK_spec {t:TypeId} {a:V} {S:St} {k:V→Prop} (h:loadK P t a S k) :
  ∃ v,k v∧∀ (ρ:Rho) (w:World) (a':Value),Sim ρ S.hs w→VR ρ a a'→∃ ad v',a'=.pointer (some ad)∧(loadVar t ad).run P w=.ok v' w∧VR ρ v v':=by
 obtain ⟨id,off,rfl,h1⟩:=vPtr_spec h
 obtain ⟨cs,e,fl,hg,h2⟩:=rowK_spec h1
 obtain ⟨v,h3,h4⟩:=loadVar_spec hg h2
 refine ⟨v,h3,fun ρ w a' hs ha=>?_⟩
 cases ha with
 | ptr _ hl =>
   obtain ⟨v',h5,h6⟩:=h4 ρ w _ hs hl
   exact ⟨_,v',rfl,h5,h6⟩
theorem aLoad_spec {t:TypeId} {a:Operand} {S:St} {k:V→Prop} (h:aLoad P t a E S k):∃ v,k v∧ReadS P (.load t a) E S.hs v:=by
 obtain ⟨va,h1,h2⟩:=opK_spec (show opK E a _ from h)
 obtain ⟨v,h3,h4⟩:=loadK_spec h2
 refine ⟨v,h3,fun ρ ev o w ho hev hs=>?_⟩
 obtain ⟨ad,v',h5,h6,h7⟩:=h4 ρ w _ hs (hev.one (x:=a) (by simp [Op.operands]) h1)
 exact ⟨v',by simp [execOp,ho,h5,Instr.loadAt,Instr.sureAddr,h6],h7⟩

/-! Maps. -/
theorem mapP_spec {t:TypeId} {q:TypeId × TypeId} (h:mapP P t=some q):P.underlying t=some (.map q.1 q.2):=by
 unfold mapP at h;split at h
 ·cases h;assumption
 ·cases h
theorem keyP_spec {t:TypeId} {c:Nat} (h:keyP P t=some c):∃ d,P.underlying t=some d∧((c=0∧∃ k,d=.int k) ∨ (c=1∧d=.string) ∨ (c=2∧d=.bool)):=by
 unfold keyP at h;split at h <;> first|(cases h;done)|(cases h;exact ⟨_,by assumption,by simp⟩)
theorem run_checkKey {t:TypeId} {c:Nat} (h:keyP P t=some c) (emp:Bool) (v:Value) (w:World):(Instr.checkKey emp 10000 t v).run P w=.ok () w:=by
 obtain ⟨d,hd,hc⟩:=keyP_spec h
 have:∀ n,(Instr.checkKey emp (n+1) t v).run P w=.ok () w:=fun n=>by
  rcases hc with ⟨_,k,rfl⟩|⟨_,rfl⟩|⟨_,rfl⟩ <;> (cases v <;> simp [Instr.checkKey,run_underlying hd])
 exact this 9999
theorem eqKey_spec {t:TypeId} {c:Nat} {d:TypeDesc} (hd:P.underlying t=some d) (h:keyP P t=some c) {a b:V} {r:Bool} (he:eqKey c a b=some r) {ρ:Rho} {a' b':Value} (ha:VR ρ a a') (hb:VR ρ b b'):Instr.sameNow d a' b'=some r:=by
 obtain ⟨d',hd',hc⟩:=keyP_spec h
 rw [hd] at hd';cases hd'
 unfold eqKey at he
 split at he
 ·rename_i j x k y
  rcases hc with ⟨_,kd,rfl⟩|⟨hc,_⟩|⟨hc,_⟩ <;> first|cases hc|skip
  have he':Bool.rec (motive:=fun _=>Option Bool) none (some (eqI x y)) (kEq j k)=some r:=he
  cases hk:kEq j k with
  | false=>rw [hk] at he';cases he'
  | true =>
    rw [hk] at he'
    have:=kEq_eq hk;subst this
    cases he'
    cases ha;cases hb
    simp [Instr.sameNow,eqI_eq]
 ·rename_i s u
  rcases hc with ⟨hc,_⟩|⟨_,rfl⟩|⟨hc,_⟩ <;> first|cases hc|skip
  cases he
  cases ha;cases hb
  simp only [Instr.sameNow,eqS_eq]
  rw [beq_toListBytes,ByteArray.toList_eq,ByteArray.toList_eq]
 ·rename_i x y
  rcases hc with ⟨hc,_⟩|⟨hc,_⟩|⟨_,rfl⟩ <;> first|cases hc|skip
  cases he
  cases ha;cases hb
  simp [Instr.sameNow]
 ·cases he
def Found (r:Option (Nat × V)) (ρ:Rho) (r':Option (Nat × Value)):Prop:=match r,r' with|none,none=>True|some (i,v),some (i',v')=>i=i'∧VR ρ v v'|_,_=>False
theorem findK_spec {t:TypeId} {c:Nat} {d:TypeDesc} (hd:P.underlying t=some d) (h:keyP P t=some c) {key:V} {ρ:Rho} {key':Value} (hk:VR ρ key key') :
  ∀ {es:List (V × V × Nat)} {es':List MapEntry} {n:Nat} {r:Option (Nat × V)},findK c key es n=some r→EsR ρ es es' →
    ∃ r',Instr.findNow d key' es' n=some r'∧Found r ρ r'
 | [],[],n,r,he,_=>by
   have:some none=some r:=he
   cases this
   exact ⟨none,rfl,trivial⟩
 | (k1,v1,b1) :: es,e :: es',n,r,he,hE=>by
   obtain ⟨h1,h2,h3,h4⟩:=hE
   have he':Option.rec (motive:=fun _=>Option (Option (Nat × V))) none (fun b=>Bool.rec (findK c key es (Nat.succ n)) (some (some (n,v1))) b) (eqKey c key k1)=some r:=he
   cases hq:eqKey c key k1 with
   | none=>rw [hq] at he';cases he'
   | some b =>
     rw [hq] at he'
     have hsn:=eqKey_spec hd h hq hk h1
     cases b with
     | true =>
       have:some (some (n,v1))=some r:=he'
       cases this
       exact ⟨some (n,e.val),by simp [Instr.findNow,hsn],rfl,h2⟩
     | false =>
       obtain ⟨r',h5,h6⟩:=findK_spec hd h hk (show findK c key es (n+1)=some r from he') h4
       exact ⟨r',by simp [Instr.findNow,hsn,h5],h6⟩
 | [],_ :: _,_,_,_,hE=>hE.elim
 | _ :: _,[],_,_,_,hE=>by cases hE
theorem run_findKey {t:TypeId} {d:TypeDesc} (hd:P.underlying t=some d) {key:Value} {es:List MapEntry} {r:Option (Nat × Value)} (h:Instr.findNow d key es 0=some r) (w:World):(Instr.findKey t key es).run P w=.ok r w:=by
 simp [Instr.findKey,run_underlying hd,h]
theorem Sim.map {ρ:Rho} {H:Hs} {w:World} (hs:Sim ρ H w) {id:Nat} {es:List (V × V × Nat)} {n:Nat} (h:H.get id=some (.map es n)) {l:Loc} (hl:ρ id=some l) :
  ∃ es',w.heap[l.blk]?=some (.map es' n)∧EsR ρ es es'.toList:=by
 obtain ⟨l',co,a,b,_,es',rfl,c⟩:=hs.obj id _ h
 rw [hl] at a;cases a
 exact ⟨es',b,c⟩
theorem run_getObj_map {w:World} {b:Nat} {es:Array MapEntry} {n:Nat} (h:w.heap[b]?=some (.map es n)):(getObj b).run P w=.ok (.map es n) w:=by
 simp [getObj,Sem.run,h]
def foundV (ok:Bool) (v:Value) (b:Bool):Value:=if ok then .tuple #[v,.bool b] else v
theorem foundK_spec {t:TypeId} {ok:Bool} {r:Option (Nat × V)} {k:V→Prop} (h:foundK P t ok r k) :
  ∃ v,k v∧∀ (ρ:Rho) (r':Option (Nat × Value)),Found r ρ r'→∃ v',VR ρ v v' ∧
    (r'=none→∃ z,(∀ w,(zeroValue t).run P w=.ok z w)∧v'=foundV ok z false)∧(∀ p,r'=some p→v'=foundV ok p.2 true):=by
 cases r with
 | none =>
   obtain ⟨z,hz,h1⟩:=wj (show Option.rec (motive:=fun _=>Prop) False _ (zeroV P t) from h)
   obtain ⟨i,zv,hi,hzv,hok,rfl⟩:=zeroV_spec hz
   cases ok with
   | false =>
     refine ⟨_,h1,fun ρ r' hr=>?_⟩
     cases r' with
     | none=>exact ⟨zv,VR.ofV hok,fun _=>⟨zv,run_zeroValue' hi hzv,rfl⟩,fun p hp=>by cases hp⟩
     | some _=>exact hr.elim
   | true =>
     refine ⟨_,h1,fun ρ r' hr=>?_⟩
     cases r' with
     | none=>exact ⟨.tuple #[zv,.bool false],.tup (.cons (VR.ofV hok) (.cons (.bool _) .nil)),fun _=>⟨zv,run_zeroValue' hi hzv,rfl⟩,fun p hp=>by cases hp⟩
     | some _=>exact hr.elim
 | some p =>
   cases ok with
   | false =>
     refine ⟨_,h,fun ρ r' hr=>?_⟩
     cases r' with
     | none=>exact hr.elim
     | some p'=>exact ⟨p'.2,hr.2,(fun h=>by cases h),fun p hp=>by cases hp;rfl⟩
   | true =>
     refine ⟨_,h,fun ρ r' hr=>?_⟩
     cases r' with
     | none=>exact hr.elim
     | some p'=>exact ⟨.tuple #[p'.2,.bool true],.tup (.cons hr.2 (.cons (.bool _) .nil)),(fun h=>by cases h),fun p hp=>by cases hp;rfl⟩
theorem aLookup_spec {t:TypeId} {m key:Operand} {ok:Bool} {S:St} {k:V→Prop} (h:aLookup P t m key ok E S k):∃ v,k v∧ReadS P (.lookup t m key ok) E S.hs v:=by
 obtain ⟨vm,h1,h2⟩:=opK_spec (show opK E m _ from h)
 obtain ⟨vk,h3,h4⟩:=opK_spec h2
 obtain ⟨q,hq,h5⟩:=wj h4
 obtain ⟨c,hc,h6⟩:=wj h5
 have hu:=mapP_spec hq
 obtain ⟨d,hd,_⟩:=keyP_spec hc
 split at h6
 ·obtain ⟨v,h7,h8⟩:=foundK_spec h6
  refine ⟨v,h7,fun ρ ev o w ho hev hs=>?_⟩
  have hm:=hev.one (x:=m) (by simp [Op.operands]) h1
  generalize hme:ev m=mv at hm
  cases hm
  obtain ⟨v',h9,h10,_⟩:=h8 ρ none trivial
  obtain ⟨z,hz,rfl⟩:=h10 rfl
  refine ⟨_,?_,h9⟩
  simp only [execOp,ho,hme,Instr.lookup,Sem.run_bind,run_underlying hu,Result.andThen_ok,Sem.run_pure,run_checkKey hc]
  rw [run_findKey hd (r:=none) (by simp [Instr.findNow])]
  simp [hz,foundV]
 ·rename_i id
  obtain ⟨es,n,hg,h7⟩:=mapK_spec h6
  obtain ⟨r,hr,h8⟩:=wj h7
  obtain ⟨v,h9,h10⟩:=foundK_spec h8
  refine ⟨v,h9,fun ρ ev o w ho hev hs=>?_⟩
  have hm:=hev.one (x:=m) (by simp [Op.operands]) h1
  have hk:=hev.one (x:=key) (by simp [Op.operands]) h3
  generalize hme:ev m=mv at hm
  cases hm with
  | map hl =>
    obtain ⟨es',hb,hE⟩:=hs.map hg hl
    obtain ⟨r',hf,hrr⟩:=findK_spec hd hc hk hr hE
    obtain ⟨v',h11,h12,h13⟩:=h10 ρ r' hrr
    refine ⟨v',?_,h11⟩
    simp only [execOp,ho,hme,Instr.lookup,Sem.run_bind,run_underlying hu,Result.andThen_ok,Sem.run_pure,run_checkKey hc,run_getObj_map hb]
    rw [run_findKey hd hf]
    cases r' with
    | none=>obtain ⟨z,hz,rfl⟩:=h12 rfl;simp [hz,foundV]
    | some p=>rw [h13 p rfl];simp [foundV]
 ·exact h6.elim
end Go.Am
/- The last readers; objects out of operands. -/
namespace Go.Am
variable {P:Program} {E:Env}

theorem arg1 {l:List Value} {v:V} {ρ:Rho} (h:VRs ρ [v] l):∃ v',l=[v']∧VR ρ v v':=by
 cases h with
 | cons h hs=>cases hs;exact ⟨_,rfl,h⟩
theorem arg2 {l:List Value} {v u:V} {ρ:Rho} (h:VRs ρ [v,u] l):∃ v' u',l=[v',u']∧VR ρ v v'∧VR ρ u u':=by
 cases h with
 | cons h hs =>
   obtain ⟨u',rfl,hu⟩:=Am.arg1 hs
   exact ⟨_,u',rfl,h,hu⟩
/-- A builtin's call. -/
theorem exec_builtin {x:Oper} {c:Call} {b:Builtin} (hx:x.op=.call c) (hb:c.callee=.builtin b) (ev:Operand→Value) (w:World) :
  (execOp ev x).run P w=(builtin b c.argTypes x.type (c.args.map fun|.const _=>true|_=>false) (c.args.map ev)).run P w:=by
 simp [execOp,hx,resolve,hb,invoke]
 rfl
theorem call_operands {c:Call} {b:Builtin} (hb:c.callee=.builtin b):(Op.call c).operands.toList=c.args.toList:=by
 simp [Op.operands,Call.operands,hb]
theorem map_toList (ev:Operand→Value) (a:Array Operand):a.map ev=⟨a.toList.map ev⟩:=by cases a;simp

theorem bLen_spec {t:TypeId} {v:V} {S:St} {k:V→Prop} (h:bLen P t v S k) :
  ∃ r,k r∧∀ (ρ:Rho) (w:World) (v':Value) (ts:Array TypeId) (ty:TypeId),ts[0]?=some t→Sim ρ S.hs w→VR ρ v v'→∃ r',(Builtin.len_ ts ty #[v']).run P w=.ok r' w∧VR ρ r r':=by
 obtain ⟨d,hd,h1⟩:=wj (show Option.rec (motive:=fun _=>Prop) False _ (P.underlying t) from h)
 split at h1
 ·refine ⟨_,fN_spec (k:=fun n=>k (.int .i64 (Int.ofNat n))) h1,fun ρ w v' ts ty hts hs hv=>?_⟩
  cases hv
  rename_i s
  refine ⟨_,?_,.int .i64 _⟩
  have:(⟨⟨s⟩⟩:ByteArray).size=len' s:=by rw [len'_eq];rfl
  simp [Builtin.len_,hts,run_underlying hd,goInt,this]
 ·refine ⟨_,h1,fun ρ w v' ts ty hts hs hv=>⟨_,?_,.int .i64 _⟩⟩
  simp [Builtin.len_,hts,run_underlying hd,goInt]
 ·obtain ⟨q,hq,h2⟩:=wj h1
  unfold arrP at hq
  split at hq
  ·rename_i n e hu
   cases hq
   refine ⟨_,h2,fun ρ w v' ts ty hts hs hv=>⟨_,?_,.int .i64 _⟩⟩
   simp [Builtin.len_,hts,run_underlying hd,run_underlying hu,goInt]
  ·cases hq
 ·refine ⟨_,h1,fun ρ w v' ts ty hts hs hv=>?_⟩
  cases hv
  refine ⟨_,?_,.int .i64 _⟩
  simp [Builtin.len_,hts,run_underlying hd,goInt]
 ·refine ⟨_,h1,fun ρ w v' ts ty hts hs hv=>?_⟩
  cases hv
  refine ⟨_,?_,.int .i64 _⟩
  simp [Builtin.len_,hts,run_underlying hd,goInt]
 ·refine ⟨_,h1,fun ρ w v' ts ty hts hs hv=>?_⟩
  cases hv
  refine ⟨_,?_,.int .i64 _⟩
  simp [Builtin.len_,hts,run_underlying hd,goInt]
 ·obtain ⟨es,n,hg,h2⟩:=mapK_spec h1
  refine ⟨_,fN_spec (k:=fun n=>k (.int .i64 (Int.ofNat n))) h2,fun ρ w v' ts ty hts hs hv=>?_⟩
  cases hv with
  | map hl =>
    obtain ⟨es',hb,hE⟩:=hs.map hg hl
    have hlen:∀ {a:List (V × V × Nat)} {b:List MapEntry},EsR ρ a b→a.length=b.length:=by
     intro a
     induction a with
     | nil=>intro b hb;cases b with|nil=>rfl|cons=>exact hb.elim
     | cons x a ih=>intro b hb;cases b with|nil=>cases hb|cons y b=>simp [ih hb.2.2.2]
    refine ⟨_,?_,.int .i64 _⟩
    have:es'.size=len' es:=by rw [len'_eq,hlen hE];simp
    simp [Builtin.len_,hts,run_underlying hd,goInt,run_getObj_map hb,this]
 ·exact h1.elim
theorem bCap_spec {t:TypeId} {v:V} {k:V→Prop} (h:bCap P t v k) :
  ∃ r,k r∧∀ (ρ:Rho) (w:World) (v':Value) (ts:Array TypeId) (ty:TypeId),ts[0]?=some t→VR ρ v v'→∃ r',(Builtin.cap_ ts ty #[v']).run P w=.ok r' w∧VR ρ r r':=by
 obtain ⟨d,hd,h1⟩:=wj (show Option.rec (motive:=fun _=>Prop) False _ (P.underlying t) from h)
 split at h1
 ·refine ⟨_,h1,fun ρ w v' ts ty hts hv=>?_⟩
  cases hv
  refine ⟨_,?_,.int .i64 _⟩
  simp [Builtin.cap_,hts,run_underlying hd,goInt]
 ·refine ⟨_,h1,fun ρ w v' ts ty hts hv=>?_⟩
  cases hv with
  | slice _ _ _ _ _ off' cap' hl hoff hcap hx hlen hr =>
    refine ⟨_,?_,.int .i64 _⟩
    simp [Builtin.cap_,hts,run_underlying hd,goInt,hx rfl]
 ·exact h1.elim
theorem mem_slice' {t:TypeId} {x:Operand} {lo hi mx:Option Operand}:x ∈ (Op.slice t x lo hi mx).operands.toList:=by simp [Op.operands]
theorem aSliceArr_spec {t:TypeId} {x:Operand} {lo hi mx:Option Operand} {S:St} {k:V→Prop} (h:aSliceArr P t x lo hi mx E S k):∃ v,k v∧ReadS P (.slice t x lo hi mx) E S.hs v:=by
 obtain ⟨a,h1,h2⟩:=opK_spec (show opK E x _ from h)
 obtain ⟨id,off,rfl,h3⟩:=vPtr_spec h2
 obtain ⟨cs,e,fl,hg,h4⟩:=rowK_spec h3
 obtain ⟨d,hd,h5⟩:=wj h4
 obtain ⟨rfl,h6⟩:=none_spec h5
 obtain ⟨mx0,mlo,mhi,_⟩:=@mem_slice t x lo hi none
 have fin:∀ (n es:Nat),Nat.ble (Nat.add off (Nat.mul n es)) (len' cs)=true→cutArr n es id off E lo hi k →
   ∃ v,k v∧∀ (ρ:Rho) (ev:Operand→Value) (w:World) (l:Loc),EvR ρ E ev (Op.slice t x lo hi none).operands.toList→Sim ρ S.hs w→ρ id=some l →
     ∃ lb hb:Nat,(∀ w,(Instr.sliceBounds false n n (lo.map ev) (hi.map ev) none).run P w=.ok (lb,hb,n) w) ∧
       VR ρ v (.slice (some (if n=lb then ⟨l.blk,l.base+off,none⟩ else (⟨l.blk,l.base+off,none⟩:Addr).add (lb * es))) (hb - lb) (n - lb)):=by
  intro n es hle hc
  obtain ⟨v,h7,h8⟩:=cutArr_spec (P:=P) hc
  refine ⟨v,h7,fun ρ ev w l hev hs hl=>h8 ρ ev l (fun y hy v hv=>hev.one (mlo y hy) hv) (fun y hy v hv=>hev.one (mhi y hy) hv) hl fun _=>?_⟩
  obtain ⟨l',co,a,b,c,f,rfl,hsz,hlec,_,_,_⟩:=hs.obj id _ hg
  rw [hl] at a;cases a
  have:=Nat.le_of_ble_eq_true hle
  rw [len'_eq] at this
  have h2:off+n * es ≤ cs.length:=this
  omega
 split at h6
 ·rename_i a
  obtain ⟨q,hq,h7⟩:=wj h6
  obtain ⟨ei,hei,h8⟩:=szK_spec h7
  obtain ⟨h9,h10⟩:=vY h8
  unfold arrP at hq
  split at hq
  ·rename_i n el hu
   cases hq
   obtain ⟨v,h11,h12⟩:=fin n ei.size h9 h10
   refine ⟨v,h11,fun ρ ev o w ho hev hs=>?_⟩
   have hc:=hev.one mx0 h1
   generalize hce:ev x=cv at hc
   cases hc with
   | ptr _ hl =>
     obtain ⟨lb,hb,hrun,hv⟩:=h12 ρ ev w _ hev hs hl
     refine ⟨_,?_,hv⟩
     simp [execOp,ho,hce,Instr.sliceAt,Instr.slice,run_underlying hd,run_underlying hu,asAddr,hrun,run_sizeOf' hei]
  ·cases hq
 ·rename_i n el
  obtain ⟨ei,hei,h8⟩:=szK_spec h6
  obtain ⟨h9,h10⟩:=vY h8
  obtain ⟨v,h11,h12⟩:=fin n ei.size h9 h10
  refine ⟨v,h11,fun ρ ev o w ho hev hs=>?_⟩
  have hc:=hev.one mx0 h1
  generalize hce:ev x=cv at hc
  cases hc with
  | ptr _ hl =>
    obtain ⟨lb,hb,hrun,hv⟩:=h12 ρ ev w _ hev hs hl
    refine ⟨_,?_,hv⟩
    simp [execOp,ho,hce,Instr.sliceAt,run_underlying hd,Instr.sureAddr,hrun,run_sizeOf' hei]
 ·exact h6.elim
theorem Sim.shape {ρ:Rho} {H:Hs} {w:World} (hs:Sim ρ H w) {id:Nat} {cs:List V} {e:TypeId} {fl:Fl} (h:H.get id=some (.cells cs e fl)) {l:Loc} (hl:ρ id=some l) :
  w.shape? l.blk=some (e,l.csz)∧l.base+cs.length ≤ l.csz∧(fl=.ex→l.base=0∧cs.length=l.csz):=by
 obtain ⟨l',co,a,b,c,f,rfl,hsz,hle,_,_,hx⟩:=hs.obj id _ h
 rw [hl] at a;cases a
 exact ⟨by simp [World.shape?,b,hsz],by omega,fun hfl=>⟨(hx hfl).1,by rw [hsz];exact (hx hfl).2⟩⟩
theorem run_viewAt {w:World} {b:Nat} {q:TypeId × Nat} (h:w.shape? b=some q):(viewAt b).run P w=.ok none w:=by
 simp [viewAt,h]
theorem run_cellsIn {w:World} {b:Nat} {q:TypeId × Nat} (h:w.shape? b=some q):(cellsIn b).run P w=.ok (some q.2) w:=by
 simp [cellsIn,h]
theorem aConvPtr_spec {s d:TypeId} {x:Operand} {S:St} {k:V→Prop} (h:aConvPtr P s d x E S k):∃ v,k v∧ReadS P (.convert s d x) E S.hs v:=by
 obtain ⟨a,h1,h2⟩:=opK_spec (show opK E x _ from h)
 obtain ⟨id,off,rfl,h3⟩:=vPtr_spec h2
 obtain ⟨cs,e,fl,hg,h4⟩:=rowK_spec h3
 obtain ⟨s',hs',h5⟩:=wj h4
 obtain ⟨d',hd',h6⟩:=wj h5
 split at h6
 ·rename_i t
  obtain ⟨ti,hti,h7⟩:=szK_spec h6
  have h8:ti.size ≠ 0∧ifK (Nat.blt off (len' cs)) (k (.ptr id off)):=by
   cases hz:ti.size with
   | zero=>rw [hz] at h7;exact h7.elim
   | succ n=>rw [hz] at h7;exact ⟨by simp,h7⟩
  obtain ⟨hn,h9⟩:=h8
  obtain ⟨hlt,h10⟩:=vY h9
  have hlt':off < cs.length:=by rw [len'_eq] at hlt;simpa using hlt
  refine ⟨_,h10,fun ρ ev o w ho hev hs=>?_⟩
  have hc:=hev.one (x:=x) (by simp [Op.operands]) h1
  generalize hce:ev x=cv at hc
  cases hc with
  | ptr _ hl =>
    rename_i l
    obtain ⟨hsh,hle,_⟩:=hs.shape hg hl
    refine ⟨_,?_,.ptr off hl⟩
    have hge:¬ (l.csz ≤ l.base+off):=by omega
    simp [execOp,ho,hce,convert,run_underlying hs',run_underlying hd',Conv.unsafePointer,Conv.seenAt,run_viewAt hsh,run_cellsIn hsh,run_sizeOf' hti,hn,hge]
 ·rename_i u
  cases fl with
  | ro=>exact h6.elim
  | rw=>exact h6.elim
  | ex =>
    obtain ⟨ui,hui,h7⟩:=szK_spec h6
    obtain ⟨hlie,h8⟩:=vY h7
    rw [len'_eq] at hlie
    refine ⟨_,h8,fun ρ ev o w ho hev hs=>?_⟩
    have hc:=hev.one (x:=x) (by simp [Op.operands]) h1
    generalize hce:ev x=cv at hc
    cases hc with
    | ptr _ hl =>
      rename_i l
      obtain ⟨hsh,hle,hx⟩:=hs.shape hg hl
      obtain ⟨hb0,hcl⟩:=hx rfl
      refine ⟨_,?_,.ptr off hl⟩
      have hva:(variablesAt ⟨l.blk,l.base+off,none⟩ u 1).run P w=.ok true w:=by
       simp [variablesAt,hsh,← hcl,hb0,hlie]
      simp [execOp,ho,hce,convert,run_underlying hs',run_underlying hd',Conv.unsafePointer,Conv.seenAt,run_viewAt hsh,run_sizeOf' hui,hva]
 ·exact h6.elim

/-! Objects out of operands. -/
def AllocS (P:Program) (op:Op) (E:Env) (o:O) (mk:Nat→V):Prop :=
 ∀ (ρ:Rho) (ev:Operand→Value) (x:Oper) (w:World) (id0:Nat),x.op=op→EvR ρ E ev op.operands.toList→ρ id0=none →
   ∃ v' co csz,(execOp ev x).run P w=.ok (.value v') (w.alloc co)∧VR (ρ.put id0 ⟨w.heap.size,0,csz,true⟩) (mk id0) v'∧OR (ρ.put id0 ⟨w.heap.size,0,csz,true⟩) ⟨w.heap.size,0,csz,true⟩ o co
theorem OR.cells_new {ρ:Rho} {cs:List V} {cs':List Value} (h:VRs ρ cs cs') (b:Nat) (t:TypeId) (fl:Fl):OR ρ ⟨b,0,cs'.length,true⟩ (.cells cs t fl) (.cells ⟨cs'⟩ t):=by
 refine ⟨⟨cs'⟩,(0,0),rfl,by simp,by simp [h.length],fun i v hi=>?_,fun _=>⟨rfl,fun off _=>by simp⟩,fun _=>⟨rfl,by simp [h.length]⟩⟩
 obtain ⟨v',a,b⟩:=h.get hi
 exact ⟨v',by simpa using a,b⟩
theorem VR.ptr_new {ρ:Rho} {id b csz:Nat}:VR (ρ.put id ⟨b,0,csz,true⟩) (.ptr id 0) (.pointer (some ⟨b,0,none⟩)):=by
 have:=VR.ptr (ρ:=ρ.put id ⟨b,0,csz,true⟩) 0 (Rho.put_self _ _ _)
 simpa using this
theorem aAlloc_spec {t:TypeId} {k:O→(Nat→V)→Prop} (h:aAlloc P t E k):∃ o mk,k o mk∧AllocS P (.alloc t) E o mk:=by
 obtain ⟨z,hz,h1⟩:=wj (show Option.rec (motive:=fun _=>Prop) False _ (zeroP P t) from h)
 obtain ⟨i,zv,hi,hzv,hok,rfl⟩:=zeroP_spec hz
 refine ⟨_,_,h1,fun ρ ev x w id0 hx hev h0=>⟨.pointer (some ⟨w.heap.size,0,none⟩),.cells zv.cells t,zv.cells.toList.length,?_,VR.ptr_new,?_⟩⟩
 ·simp [execOp,hx,Instr.alloc,run_zeroValue' hi hzv,newVar,newRow]
 ·have:=OR.cells_new (VR.ofV (ρ:=ρ.put id0 ⟨w.heap.size,0,zv.cells.toList.length,true⟩) hok).cells w.heap.size t .ex
  simpa using this
theorem aBox_spec {t:TypeId} {x:Operand} {k:O→(Nat→V)→Prop} (h:aBox t x E k):∃ o mk,k o mk∧AllocS P (.box t x) E o mk:=by
 obtain ⟨v,h1,h2⟩:=opK_spec (show opK E x _ from h)
 refine ⟨_,_,h2,fun ρ ev y w id0 hy hev h0=>⟨.pointer (some ⟨w.heap.size,0,none⟩),.cells (ev x).cells t,(ev x).cells.toList.length,?_,VR.ptr_new,?_⟩⟩
 ·simp [execOp,hy,Instr.box,newVar,newRow]
 ·have hv:=(hev.one (x:=x) (by simp [Op.operands]) h1).cells.mono (Rho.le_put h0 ⟨w.heap.size,0,(ev x).cells.toList.length,true⟩)
  have:=OR.cells_new hv w.heap.size t .ex
  simpa using this
theorem aMakeMap_spec {t:TypeId} {r:Option Operand} {k:O→(Nat→V)→Prop} (h:aMakeMap P t r E k):∃ o mk,k o mk∧AllocS P (.makeMap t r) E o mk:=by
 have fin:∀ (hrun:∀ ρ (ev:Operand→Value) (w:World),EvR ρ E ev (Op.makeMap t r).operands.toList→(Instr.makeMap t (r.map ev)).run P w=.ok (.map (some w.heap.size)) (w.alloc (.map #[] 0))),
   AllocS P (.makeMap t r) E (.map [] 0) fun id=>.map id:=fun hrun ρ ev x w id0 hx hev h0 =>
  ⟨.map (some w.heap.size),.map #[] 0,0,by simp [execOp,hx,hrun ρ ev w hev],.map (Rho.put_self _ _ _),⟨rfl,#[],rfl,trivial⟩⟩
 cases r with
 | none=>exact ⟨_,_,h,fin fun ρ ev w _=>by simp [Instr.makeMap]⟩
 | some y =>
   obtain ⟨q,hq,h1⟩:=wj (show Option.rec (motive:=fun _=>Prop) False _ (mapP P t) from h)
   obtain ⟨v,h2,h3⟩:=opK_spec h1
   obtain ⟨a,n,rfl,h4⟩:=vInt_spec h3
   refine ⟨_,_,h4,fin fun ρ ev w hev=>?_⟩
   have hc:=hev.one (x:=y) (by simp [Op.operands]) h2
   generalize hce:ev y=cv at hc
   cases hc
   simp [Instr.makeMap,hce,run_underlying (mapP_spec hq),asInt,asIntOf]
theorem VRs.repl {ρ:Rho} {a:List V} {b:List Value} (h:VRs ρ a b):∀ n,VRs ρ (Am.repl a n) (Am.repl b n)
 | 0=>.nil
 | n+1=>h.append (h.repl n)
theorem repl_length {α:Type} (z:List α):∀ n,(repl z n).length=n * z.length
 | 0=>by simp [repl]
 | n+1=>by simp [repl,repl_length z n,Nat.add_mul];omega
theorem repl_get {α:Type} (z:List α) (hz:z ≠ []):∀ (n i:Nat),i < n * z.length→(repl z n)[i]?=z[i % z.length]?
 | 0,i,h=>by simp at h
 | n+1,i,h=>by
   have hp:0 < z.length:=List.length_pos_iff.2 hz
   simp only [repl]
   by_cases hi:i < z.length
   ·rw [List.getElem?_append_left hi,Nat.mod_eq_of_lt hi]
   ·rw [List.getElem?_append_right (by omega),repl_get z hz n (i - z.length) (by rw [Nat.add_mul] at h;omega)]
    have:i % z.length=(i - z.length) % z.length:=by rw [Nat.mod_eq_sub_mod (by omega)]
    rw [this]
/-- The model's way to fill a row with zero values. -/
theorem fill_zero (z:Array Value) (n m:Nat) (hz:z.size=m) :
  ((Array.range (n * m)).map (z[· % z.size]!))=⟨repl z.toList n⟩:=by
 apply Array.ext'
 apply List.ext_getElem?
 intro i
 have hl:(repl z.toList n).length=n * m:=by rw [repl_length];simp [hz]
 by_cases hi:i < n * m
 ·have hm:0 < m:=Nat.pos_of_ne_zero fun h=>by subst h;simp at hi
  have hne:z.toList ≠ []:=by intro h;have h2:=congrArg List.length h;simp [hz] at h2;omega
  have:=repl_get z.toList hne n i (by simpa [hz] using hi)
  show _=(repl z.toList n)[i]?
  rw [this]
  have hmod:i % z.size < z.size:=Nat.mod_lt _ (by omega)
  simp [hi,hmod]
 ·show _=(repl z.toList n)[i]?
  have h1:((Array.range (n * m)).map (z[· % z.size]!)).toList.length=n * m:=by simp
  rw [List.getElem?_eq_none (by omega),List.getElem?_eq_none (by omega)]
theorem aBuildSlice_spec {t:TypeId} {n:Nat} {ps:Array (Nat × Operand)} {k:O→(Nat→V)→Prop} (h:aBuildSlice P t n ps E k):∃ o mk,k o mk∧AllocS P (.buildSlice t n ps) E o mk:=by
 obtain ⟨e,he,h1⟩:=wj (show Option.rec (motive:=fun _=>Prop) False _ (elemP P t) from h)
 obtain ⟨z,hz,h2⟩:=wj h1
 obtain ⟨ei,hei,h3⟩:=szK_spec h2
 obtain ⟨h4,h5⟩:=vY h3
 obtain ⟨h6,h7⟩:=vY h5
 obtain ⟨r,h8,h9⟩:=fillK_spec h7
 obtain ⟨i,zv,hi,hzv,hok,rfl⟩:=zeroP_spec hz
 rw [hei] at hi;cases hi
 have hu:P.underlying t=some (.slice e):=by
  unfold elemP at he;split at he
  ·cases he;assumption
  ·cases he
 refine ⟨_,_,h8,fun ρ ev x w id0 hx hev h0=>?_⟩
 have hzl:=(VR.ofV (ρ:=ρ) hok).cells
 have hsz:zv.cells.size=ei.size:=by
  rw [len'_eq] at h4
  have:=Nat.eq_of_beq_eq_true h4
  have h2:=hzl.length
  simp at h2;omega
 obtain ⟨r',h10,h11⟩:=h9 ρ ev (repl zv.cells.toList n) (fun p hp v hv=>hev p.2 (by simp [Op.operands];exact ⟨p.1,by simpa using hp⟩) v hv) (hzl.repl n)
 have hmap:(ps.map fun p=>(p.1,ev p.2)).toList=ps.toList.map fun p=>(p.1,ev p.2):=by simp
 have hle:n * ei.size ≤ 16777216:=Nat.le_of_ble_eq_true h6
 refine ⟨.slice (some ⟨w.heap.size,0,none⟩) n n,.cells ⟨r'⟩ e,r'.length,?_,?_,OR.cells_new (h10.mono (Rho.le_put h0 _)) _ _ _⟩
 ·have hng:¬ (n * ei.size > 2 ^ 24):=by omega
  have h11':Instr.fill (fun i=>some (i * ei.size,ei.size)) ⟨repl zv.cells.toList n⟩ (ps.map fun p=>(p.1,ev p.2)).toList=some ⟨r'⟩:=by rw [hmap];exact h11
  simp only [execOp,hx,Instr.buildSlice,Sem.run_bind,run_underlying hu,Result.andThen_ok,run_sizeOf' hei,if_neg hng,Sem.run_pure]
  by_cases h0:n * ei.size=0
  ·have hcells:((Array.range (n * ei.size)).map ((#[]:Array Value)[· % (#[]:Array Value).size]!))=⟨repl zv.cells.toList n⟩:=by
    rw [h0]
    apply Array.ext'
    have:(repl zv.cells.toList n).length=0:=by rw [repl_length];simp [hsz,h0]
    simp [List.length_eq_zero_iff.1 this]
   rw [if_pos h0]
   simp only [pure_bind,hcells,h11']
   simp [newRow]
  ·have hcells:=fill_zero zv.cells n ei.size hsz
   rw [if_neg h0]
   simp only [Sem.run_bind,run_zeroValue' hei hzv,Result.andThen_ok,Sem.run_pure,hcells,h11']
   simp [newRow]
 ·have hlen:n * ei.size=r'.length:=by
   have a1:=h10.length
   have a2:∀ (l:List (Nat × Value)) (c c':Array Value),Instr.fill (fun i=>some (i * ei.size,ei.size)) c l=some c'→c'.size=c.size:=by
    intro l
    induction l with
    | nil=>intro c c' h;simp [Instr.fill] at h;rw [h]
    | cons p l ih =>
      intro c c' h
      simp only [Instr.fill] at h
      split at h
      ·cases h
      ·rw [ih _ _ h]
       have:∀ (vs:List (Value × Nat)) (c:Array Value),(vs.foldl (fun cs (p':Value × Nat)=>cs.setIfInBounds (p.1 * ei.size+p'.2) p'.1) c).size=c.size:=by
        intro vs
        induction vs with
        | nil=>intro c;rfl
        | cons q vs ih=>intro c;simp [ih]
       rw [← Array.foldl_toList]
       exact this _ _
   have a3:=a2 _ _ _ h11
   have a4:(repl zv.cells.toList n).length=n * ei.size:=by rw [repl_length];simp [hsz]
   simp at a3
   omega
  have:=VR.slice (ρ:=ρ.put id0 ⟨w.heap.size,0,r'.length,true⟩) 0 n n ei.size true 0 n (Rho.put_self _ _ _) (fun _=>rfl) (Nat.le_refl _) (fun _=>rfl) (Nat.le_refl _) (fun _=>by simp;omega)
  simpa using this
theorem aMakeSlice_spec {t:TypeId} {l c:Operand} {k:O→(Nat→V)→Prop} (h:aMakeSlice P t l c E k):∃ o mk,k o mk∧AllocS P (.makeSlice t l c) E o mk:=by
 obtain ⟨vl,h1,h2⟩:=opK_spec (show opK E l _ from h)
 obtain ⟨al,ln,rfl,h3⟩:=vNat_spec h2
 obtain ⟨vc,h4,h5⟩:=opK_spec h3
 obtain ⟨ac,cn,rfl,h6⟩:=vNat_spec h5
 obtain ⟨e,he,h7⟩:=wj h6
 obtain ⟨z,hz,h8⟩:=wj h7
 obtain ⟨ei,hei,h9⟩:=wj h8
 obtain ⟨g1,h10⟩:=vY h9
 obtain ⟨g2,h11⟩:=vY h10
 obtain ⟨g3,h12⟩:=vY h11
 obtain ⟨g4,h13⟩:=vY h12
 obtain ⟨i,zv,hi,hzv,hok,rfl⟩:=zeroP_spec hz
 rw [hei] at hi;cases hi
 have hu:P.underlying t=some (.slice e):=by
  unfold elemP at he;split at he
  ·cases he;assumption
  ·cases he
 refine ⟨_,_,h13,fun ρ ev x w id0 hx hev h0=>?_⟩
 have hzl:=(VR.ofV (ρ:=ρ) hok).cells
 have hsz:zv.cells.size=ei.size:=by
  rw [len'_eq] at g1
  have:=Nat.eq_of_beq_eq_true g1
  have h2:=hzl.length
  simp at h2;omega
 have g2':=Nat.le_of_ble_eq_true g2
 have g3':=Nat.le_of_ble_eq_true g3
 have g4':ei.bytes * cn ≤ 281474976710656:=Nat.le_of_ble_eq_true g4
 have hlv:=hev.one (x:=l) (by simp [Op.operands]) h1
 have hcv:=hev.one (x:=c) (by simp [Op.operands]) h4
 generalize hle:ev l=lv at hlv
 generalize hce:ev c=cv at hcv
 cases hlv;cases hcv
 have hrl:(repl zv.cells.toList cn).length=cn * ei.size:=by rw [repl_length];simp [hsz]
 refine ⟨.slice (some ⟨w.heap.size,0,none⟩) ln cn,.cells ⟨repl zv.cells.toList cn⟩ e,(repl zv.cells.toList cn).length,?_,?_,OR.cells_new ((hzl.repl cn).mono (Rho.le_put h0 _)) _ _ _⟩
 ·have hb:(ei.bytes:Int) * (Int.ofNat cn) ≤ 281474976710656:=by
   have:((ei.bytes * cn:Nat):Int) ≤ ((281474976710656:Nat):Int):=Int.ofNat_le.2 g4'
   rwa [Int.natCast_mul] at this
  have hm:=run_make w t e ei zv hu hei hzv al ac (Int.ofNat ln) (Int.ofNat cn) (Int.natCast_nonneg ln) (Int.ofNat_le.2 g2') hb (Int.le_trans (Int.ofNat_le.2 g3') (by decide))
  have hc:madeCells zv.cells (cn * ei.size)=⟨repl zv.cells.toList cn⟩:=fill_zero zv.cells cn ei.size hsz
  have t1:(Int.ofNat ln).toNat=ln:=rfl
  have t2:(Int.ofNat cn).toNat=cn:=rfl
  rw [t1,t2,hc] at hm
  simp only [execOp,hx,hle,hce,Sem.run_bind,hm,Result.andThen_ok,Sem.run_pure]
 ·have:=VR.slice (ρ:=ρ.put id0 ⟨w.heap.size,0,(repl zv.cells.toList cn).length,true⟩) 0 ln cn ei.size true 0 cn (Rho.put_self _ _ _) (fun _=>rfl) (Nat.le_refl _) (fun _=>rfl) g2' (fun _=>by simp;omega)
  simpa using this
end Go.Am
/- Writing memory: stores, maps, iterators. -/
namespace Go.Am
variable {P:Program} {E:Env}

/-- What an operation that is no call does. -/
def OpS (P:Program) (o:Op) (E:Env) (H:Hs) (v:V) (H':Hs):Prop :=
 ∀ (ρ:Rho) (ev:Operand→Value) (x:Oper) (w:World),x.op=o→EvR ρ E ev o.operands.toList→Sim ρ H w →
   ∃ v' w' ρ',((execOp ev x).run P w=.ok (.value v') w' ∨ (v'=undef∧(execOp ev x).run P w=.ok .skip w'))∧VR ρ' v v'∧Sim ρ' H' w'∧Ext ρ H w ρ' H' w'
theorem ReadS.op {o:Op} {H:Hs} {v:V} (h:ReadS P o E H v):OpS P o E H v H:=fun ρ ev x w hx he hs =>
 let ⟨v',h1,h2⟩:=h ρ ev x w hx he hs
 ⟨v',w,ρ,.inl h1,h2,hs,Ext.refl _ _ _⟩
theorem AllocS.op {o:Op} {ob:O} {mk:Nat→V} {H:Hs} (h:AllocS P o E ob mk):OpS P o E H (mk H.next) (H.new ob):=fun ρ ev x w hx he hs =>
 let ⟨v',co,csz,h1,h2,h3⟩:=h ρ ev x w H.next hx he (hs.fresh _ (Nat.le_refl _))
 let ⟨h4,h5⟩:=hs.alloc h3
 ⟨v',w.alloc co,_,.inl h1,h2,h4,h5⟩

theorem aStore_spec {t:TypeId} {a x:Operand} {S:St} {k:V→St→Prop} (h:aStore P t a x E S k):∃ v S',k v S'∧OpS P (.store t a x) E S.hs v S'.hs:=by
 obtain ⟨va,h1,h2⟩:=opK_spec (show opK E a _ from h)
 obtain ⟨vx,h3,h4⟩:=opK_spec h2
 obtain ⟨id,off,rfl,h5⟩:=vPtr_spec h4
 obtain ⟨cs,e,fl,hg,h6⟩:=rowK_spec h5
 obtain ⟨hfl,h7⟩:=wrK_spec h6
 obtain ⟨i,hi,h8⟩:=szK_spec h7
 obtain ⟨g1,h9⟩:=vY h8
 obtain ⟨g0,h9'⟩:=vY h9
 obtain ⟨g2,h10⟩:=vY h9'
 obtain ⟨g3,h11⟩:=over_spec h10
 obtain ⟨S',h12,hS'⟩:=put_spec h11
 refine ⟨_,S',h12,fun ρ ev o w ho hev hs=>?_⟩
 rw [len'_eq] at g1
 have g1':=Nat.eq_of_beq_eq_true g1
 have hp:=hev.one (x:=a) (by simp [Op.operands]) h1
 have hx:=hev.one (x:=x) (by simp [Op.operands]) h3
 generalize hpe:ev a=pv at hp
 generalize hxe:ev x=xv at hx
 have hne:vx.cells ≠ []:=fun hz=>by
  have:0 < i.size:=by simpa using g0
  rw [hz] at g1';simp at g1';omega
 simp only [hne,if_false,Nat.add_zero] at g3
 cases hp with
 | ptr _ hl =>
   rename_i l
   obtain ⟨w',hr,hs',he⟩:=Sim.storeCells (P:=P) hfl hl (off:=off) hx.cells (allOne_spec g2) (i:=0) hs hg (by simpa using g3)
   refine ⟨undef,w',ρ,.inr ⟨rfl,?_⟩,VR.undef ρ,?_,?_⟩
   ·have hsz:xv.cells.size=i.size:=by
     have:=hx.cells.length
     simp at this;omega
    simp [execOp,ho,hpe,hxe,Instr.storeAt,Instr.sureAddr,storeVar,run_sizeOf' hi,hsz,hr]
   ·rw [hS'];exact hs'
   ·rw [hS'];exact he

/-! Objects that are no cells. -/
theorem Sim.put_obj {ρ:Rho} {H:Hs} {w w':World} (hs:Sim ρ H w) {id:Nat} {o o':O} (h:H.get id=some o)
  {l:Loc} (hl:ρ id=some l) (hrw:l.rw=true) {co':Obj} (hb:w'.heap[l.blk]?=some co') (hoth:∀ b,b ≠ l.blk→w'.heap[b]?=w.heap[b]?)
  (hsz:w'.heap.size=w.heap.size) (ht:w'.tape=w.tape) (hos:w'.os=w.os) (hout:w'.output=w.output) (ho:OR ρ l o' co') (hdr:w.drawn ≤ w'.drawn:=by exact Nat.le_refl _) :
  Sim ρ (H.put id (some o')) w'∧Ext ρ H w ρ (H.put id (some o')) w':=by
 have hsome:(H.get id).isSome:=by rw [h];rfl
 have hget:∀ i,((H.put id (some o')).get i).isSome→(H.get i).isSome:=fun i hi=>by
  by_cases e:i=id
  ·subst e;exact hsome
  ·simpa [Hs.put,e] using hi
 refine ⟨⟨fun i oi hi=>?_,fun i j li lj hi hj=>hs.sep i j li lj (hget i hi) (hget j hj),hs.fresh⟩,?_⟩
 ·by_cases e:i=id
  ·subst e
   simp [Hs.put] at hi;subst hi
   exact ⟨l,co',hl,hb,ho⟩
  ·simp [Hs.put,e] at hi
   obtain ⟨li,co,a,b,c⟩:=hs.obj i oi hi
   refine ⟨li,co,a,?_,c⟩
   rw [hoth _ (fun hbe=>hs.sep id i l li hsome (by rw [hi];rfl) hl a hrw (Ne.symm e) hbe.symm)]
   exact b
 ·exact {
   rho:=fun _ _=>rfl
   next:=Nat.le_refl _
   size:=Nat.le_of_eq hsz.symm
   keep:=fun b _ hn=>hoth b fun hbe=>hn ⟨id,l,hsome,hl,hrw,hbe.symm⟩
   own:=fun b ⟨i,li,hi,hli,hr,hb⟩=>.inr ⟨i,li,hget i hi,hli,hr,hb⟩
   has:=fun b ⟨i,li,hi,hli,hb⟩=>.inr ⟨i,li,hget i hi,hli,hb⟩
   tape:=ht,os:=hos,output:=hout,drawn:=hdr }
end Go.Am
/- Maps written, iterators. -/
namespace Go.Am
variable {P:Program} {E:Env}

theorem run_setObj {w:World} {b:Nat} {o o':Obj} (h:w.heap[b]?=some o) (hc:∀ c e f,o ≠ .cells c e f):(setObj b o').run P w=.ok () { w with heap:=w.heap.setIfInBounds b o' }:=by
 cases o <;> first|exact absurd rfl (hc _ _ _)|simp [setObj,Sem.run,h]
theorem run_getObj {w:World} {b:Nat} {o:Obj} (h:w.heap[b]?=some o) (hc:∀ c e f,o ≠ .cells c e f):(getObj b).run P w=.ok o w:=by
 cases o <;> first|exact absurd rfl (hc _ _ _)|simp [getObj,Sem.run,h]
theorem putObj_spec {ρ:Rho} {H:Hs} {w:World} (hs:Sim ρ H w) {id:Nat} {o o':O} (h:H.get id=some o) {l:Loc} (hl:ρ id=some l) (hrw:l.rw=true) {co co':Obj} (hb:w.heap[l.blk]?=some co) (ho:OR ρ l o' co') :
  Sim ρ (H.put id (some o')) { w with heap:=w.heap.setIfInBounds l.blk co' }∧Ext ρ H w ρ (H.put id (some o')) { w with heap:=w.heap.setIfInBounds l.blk co' }:=by
 have hlt:l.blk < w.heap.size:=by
  rcases Nat.lt_or_ge l.blk w.heap.size with h'|h'
  ·exact h'
  ·simp [Array.getElem?_eq_none h'] at hb
 refine hs.put_obj h hl hrw (co':=co') ?_ (fun b hb'=>?_) (by simp) rfl rfl rfl ho
 ·simp [hlt]
 ·exact Array.getElem?_setIfInBounds_ne (Ne.symm hb')
theorem EsR.append {ρ:Rho}:∀ {a:List (V × V × Nat)} {b:List MapEntry} {c:List (V × V × Nat)} {d:List MapEntry},EsR ρ a b→EsR ρ c d→EsR ρ (a ++ c) (b ++ d)
 | [],[],_,_,_,h=>h
 | (_,_,_) :: _,_ :: _,_,_,⟨x,y,z,t⟩,h=>⟨x,y,z,t.append h⟩
 | [],_ :: _,_,_,h,_=>h.elim
 | _ :: _,[],_,_,h,_=>by cases h
theorem EsR.set {ρ:Rho} {k v:V} {n:Nat}:∀ {a:List (V × V × Nat)} {b:List MapEntry} (i:Nat) {e:V × V × Nat},EsR ρ a b→a[i]?=some e→∀ (f:MapEntry→MapEntry),(∀ e',b[i]?=some e'→e.2.2=e'.born→VR ρ k (f e').key∧VR ρ v (f e').val∧n=(f e').born)→EsR ρ (a.set i (k,v,n)) (b.modify i f)
 | (_,_,_) :: as,e' :: bs,0,_,⟨x,y,z,t⟩,he,f,hf=>by
   simp at he
   have:=hf e' (by simp) (by rw [← he];exact z)
   simp only [List.set_cons_zero,List.modify_zero_cons]
   exact ⟨this.1,this.2.1,this.2.2,t⟩
 | (_,_,_) :: as,e' :: bs,i+1,e,⟨x,y,z,t⟩,he,f,hf=>by
   simp only [List.set_cons_succ,List.modify_succ_cons]
   exact ⟨x,y,z,t.set i (by simpa using he) f (by simpa using hf)⟩
 | [],_,_,_,_,he,_,_=>by simp at he
 | _ :: _,[],_,_,h,_,_,_=>by cases h
theorem findNow_lt {d:TypeDesc} {k:Value}:∀ {es:List MapEntry} {n:Nat} {i:Nat} {v:Value},Instr.findNow d k es n=some (some (i,v))→∃ e,n ≤ i∧es[i - n]?=some e∧Instr.sameNow d k e.key=some true
 | [],n,i,v,h=>by simp [Instr.findNow] at h
 | e :: es,n,i,v,h=>by
   simp only [Instr.findNow] at h
   split at h
   ·rename_i hs
    simp at h
    obtain ⟨rfl,rfl⟩:=h
    exact ⟨e,Nat.le_refl _,by simp,hs⟩
   ·obtain ⟨e',h1,h2,h3⟩:=findNow_lt h
    refine ⟨e',by omega,?_,h3⟩
    have:i - n=(i - (n+1))+1:=by omega
    rw [this];simpa using h2
   ·cases h
theorem keyStays {d:TypeDesc} {a b:Value} (h:Instr.sameNow d a b=some true) (w:World):(Instr.keyThatStays b a).run P w=.ok a w:=by
 have:Instr.sameBits 10000 b a=true:=by
  unfold Instr.sameNow at h
  split at h
  ·split at h
   ·rename_i hk;subst hk
    simp at h;subst h;simp [Instr.sameBits]
   ·cases h
  ·rename_i x y
   simp only [Option.some.injEq] at h
   have:x=y:=by
    rw [beq_toListBytes] at h
    rw [ByteArray.toList_eq,ByteArray.toList_eq] at h
    have:=eq_of_beq h
    apply ByteArray.ext
    apply Array.ext'
    exact this
   subst this;simp [Instr.sameBits];exact h
  ·simp at h;subst h;simp [Instr.sameBits]
  ·cases h
 simp [Instr.keyThatStays,this]
theorem upd_store {t:TypeId} {m key x:Operand} {S:St} {k:V→St→Prop} (h:aMapUpdate P t m key x E S k) :
  ∃ v S',k v S'∧∀ (ρ:Rho) (w:World) (ev:Operand→Value),(∀ y ∈ [m,key,x],∀ v,OpV E y v→VR ρ v (ev y))→Sim ρ S.hs w →
    ∃ w',(Instr.mapUpdate t (ev m) (ev key) (ev x)).run P w=.ok () w'∧v=undefV∧Sim ρ S'.hs w'∧Ext ρ S.hs w ρ S'.hs w':=by
 obtain ⟨vm,h1,h2⟩:=opK_spec (show opK E m _ from h)
 obtain ⟨vk,h3,h4⟩:=opK_spec h2
 obtain ⟨vx,h5,h6⟩:=opK_spec h4
 obtain ⟨q,hq,h7⟩:=wj h6
 obtain ⟨c,hc,h8⟩:=wj h7
 have hu:=mapP_spec hq
 obtain ⟨d,hd,_⟩:=keyP_spec hc
 split at h8
 ·rename_i id
  obtain ⟨es,n,hg,h9⟩:=mapK_spec h8
  obtain ⟨r,hr,h10⟩:=wj h9
  cases r with
  | none =>
    have h11:=appK_spec (show appK es [(vk,vx,n)] _ from h10)
    obtain ⟨S',h12,hS'⟩:=put_spec h11
    refine ⟨_,S',h12,fun ρ w ev hev hs=>?_⟩
    have hm:=hev m (by simp) _ h1
    have hk:=hev key (by simp) _ h3
    have hx:=hev x (by simp) _ h5
    generalize hme:ev m=mv at hm
    cases hm with
    | map hl =>
      rename_i l
      obtain ⟨es',hb,hE⟩:=hs.map hg hl
      obtain ⟨r',hf,hrr⟩:=findK_spec hd hc hk hr hE
      cases r' with
      | some _=>exact hrr.elim
      | none =>
        have hrw:l.rw=true:=by
         obtain ⟨l',co,a,b,hr,_⟩:=hs.obj id _ hg
         rw [hl] at a;cases a;exact hr
        have ho:OR ρ l (.map (es ++ [(vk,vx,n)]) (n+1)) (.map (es'.push { key:=ev key,val:=ev x,born:=n }) (n+1)):=by
         refine ⟨hrw,_,rfl,?_⟩
         rw [Array.toList_push]
         exact hE.append ⟨hk,hx,rfl,trivial⟩
        have hp:=putObj_spec hs hg hl hrw hb ho
        refine ⟨_,?_,rfl,by rw [hS'];exact hp.1,by rw [hS'];exact hp.2⟩
        simp only [Instr.mapUpdate,Sem.run_bind,run_underlying hu,Result.andThen_ok,run_getObj_map hb,run_checkKey hc]
        rw [run_findKey hd hf]
        simp only [Result.andThen_ok]
        exact run_setObj hb (by simp)
  | some p =>
    obtain ⟨e,he,h11⟩:=wj (show Option.rec (motive:=fun _=>Prop) False _ (nth es p.1) from h10)
    rw [nth_eq] at he
    obtain ⟨hlt,h12⟩:=upd_spec h11
    obtain ⟨S',h13,hS'⟩:=put_spec h12
    refine ⟨_,S',h13,fun ρ w ev hev hs=>?_⟩
    have hm:=hev m (by simp) _ h1
    have hk:=hev key (by simp) _ h3
    have hx:=hev x (by simp) _ h5
    generalize hme:ev m=mv at hm
    cases hm with
    | map hl =>
      rename_i l
      obtain ⟨es',hb,hE⟩:=hs.map hg hl
      obtain ⟨r',hf,hrr⟩:=findK_spec hd hc hk hr hE
      cases r' with
      | none=>exact hrr.elim
      | some p' =>
        obtain ⟨i',v'⟩:=p'
        obtain ⟨i,v⟩:=p
        obtain ⟨hii,_⟩:=hrr
        have hii':i=i':=hii
        subst hii'
        obtain ⟨e',_,he',hsn⟩:=findNow_lt hf
        rw [Nat.sub_zero] at he'
        have hrw:l.rw=true:=by
         obtain ⟨l',co,a,b,hr,_⟩:=hs.obj id _ hg
         rw [hl] at a;cases a;exact hr
        have he2:es'[i]?=some e':=by simpa using he'
        have ho:OR ρ l (.map (es.set i (vk,vx,e.2.2)) n) (.map (es'.modify i fun e=>{ e with key:=ev key,val:=ev x }) n):=by
         refine ⟨hrw,_,rfl,?_⟩
         rw [Array.toList_modify]
         exact hE.set i he _ fun e'' _ hb''=>⟨hk,hx,hb''⟩
        have hp:=putObj_spec hs hg hl hrw hb ho
        refine ⟨_,?_,rfl,by rw [hS'];exact hp.1,by rw [hS'];exact hp.2⟩
        simp only [Instr.mapUpdate,Sem.run_bind,run_underlying hu,Result.andThen_ok,run_getObj_map hb,run_checkKey hc]
        rw [run_findKey hd hf]
        simp only [Result.andThen_ok,he2,Option.map_some,Option.getD_some,Sem.run_bind,keyStays hsn]
        exact run_setObj hb (by simp)
 ·exact h8.elim
theorem aMapUpdate_spec {t:TypeId} {m key x:Operand} {S:St} {k:V→St→Prop} (h:aMapUpdate P t m key x E S k) :
  ∃ v S',k v S'∧OpS P (.mapUpdate t m key x) E S.hs v S'.hs:=by
 obtain ⟨v,S',h1,h2⟩:=upd_store h
 refine ⟨v,S',h1,fun ρ ev o w ho hev hs=>?_⟩
 obtain ⟨w',h3,rfl,h4,h5⟩:=h2 ρ w ev (fun y hy=>hev y (by simpa [Op.operands] using hy)) hs
 exact ⟨undef,w',ρ,.inr ⟨rfl,by simp [execOp,ho,h3]⟩,VR.undef ρ,h4,h5⟩
theorem aInsert_spec {t:TypeId} {m key x:Operand} {S:St} {k:V→St→Prop} (h:aMapUpdate P t m key x E S k) :
  ∃ v S',k v S'∧OpS P (.insert t m key x) E S.hs v S'.hs:=by
 obtain ⟨v,S',h1,h2⟩:=upd_store h
 refine ⟨v,S',h1,fun ρ ev o w ho hev hs=>?_⟩
 obtain ⟨w',h3,rfl,h4,h5⟩:=h2 ρ w ev (fun y hy=>hev y (by simpa [Op.operands] using hy)) hs
 exact ⟨undef,w',ρ,.inr ⟨rfl,by simp [execOp,ho,h3]⟩,VR.undef ρ,h4,h5⟩
end Go.Am
/- Iterators over strings; append and copy. -/
namespace Go.Am
variable {P:Program} {E:Env}

theorem aRange_spec {t:TypeId} {x:Operand} {S:St} {k:V→St→Prop} (h:aRange P t x E S k):∃ v S',k v S'∧OpS P (.range t x) E S.hs v S'.hs:=by
 obtain ⟨vx,h1,h2⟩:=opK_spec (show opK E x _ from h)
 obtain ⟨d,hd,h3⟩:=wj h2
 have fin:∀ {o:O} {S':St} {w:World} {ρ:Rho} {co:Obj},S'.hs=S.hs.new o→Sim ρ S.hs w→OR (ρ.put S.next ⟨w.heap.size,0,0,true⟩) ⟨w.heap.size,0,0,true⟩ o co →
   ∃ ρ',VR ρ' (.ptr S.next 0) (.pointer (some ⟨w.heap.size,0,none⟩))∧Sim ρ' S'.hs (w.alloc co)∧Ext ρ S.hs w ρ' S'.hs (w.alloc co):=by
  intro o S' w ρ co hS hs ho
  obtain ⟨h4,h5⟩:=hs.alloc (csz:=0) ho
  exact ⟨_,VR.ptr_new,by rw [hS];exact h4,by rw [hS];exact h5⟩
 split at h3
 ·rename_i s
  obtain ⟨S',h4,hS⟩:=new_spec h3
  refine ⟨_,S',h4,fun ρ ev o w ho hev hs=>?_⟩
  have hc:=hev.one (x:=x) (by simp [Op.operands]) h1
  generalize hce:ev x=cv at hc
  cases hc
  obtain ⟨ρ',h5,h6,h7⟩:=fin (co:=.stringIter ⟨⟨s⟩⟩ 0) hS hs ⟨⟨rfl,rfl⟩,rfl⟩
  exact ⟨_,_,ρ',.inl (by simp [execOp,ho,hce,Instr.range,run_underlying hd]),h5,h6,h7⟩
 ·obtain ⟨S',h4,hS⟩:=new_spec h3
  refine ⟨_,S',h4,fun ρ ev o w ho hev hs=>?_⟩
  have hc:=hev.one (x:=x) (by simp [Op.operands]) h1
  generalize hce:ev x=cv at hc
  cases hc
  obtain ⟨ρ',h5,h6,h7⟩:=fin (co:=.mapIter none 0 #[] 0) hS hs ⟨⟨rfl,rfl⟩,_,rfl,rfl⟩
  exact ⟨_,_,ρ',.inl (by simp [execOp,ho,hce,Instr.range,run_underlying hd]),h5,h6,h7⟩
 ·rename_i m
  obtain ⟨es,c,hg,h4'⟩:=mapK_spec h3
  obtain ⟨S',h4,hS⟩:=new_spec h4'
  refine ⟨_,S',h4,fun ρ ev o w ho hev hs=>?_⟩
  have hc:=hev.one (x:=x) (by simp [Op.operands]) h1
  generalize hce:ev x=cv at hc
  cases hc with
  | map hl =>
    rename_i l
    obtain ⟨es',hb,_⟩:=hs.map hg hl
    obtain ⟨ρ',h5,h6,h7⟩:=fin (co:=.mapIter (some l.blk) c #[] c) hS hs ⟨⟨rfl,rfl⟩,_,rfl,l,Rho.le_put (hs.fresh _ (Nat.le_refl _)) _ _ _ hl,rfl⟩
    exact ⟨_,_,ρ',.inl (by simp [execOp,ho,hce,Instr.range,run_underlying hd,run_getObj_map hb]),h5,h6,h7⟩
 ·exact h3.elim
theorem nat0_spec {n:Nat} {k:Prop} (h:Nat.rec (motive:=fun _=>Prop) k (fun _ _=>False) n):n=0∧k:=by
 cases n with
 | zero=>exact ⟨rfl,h⟩
 | succ n=>exact h.elim
theorem aNext_spec {x:Operand} {isS:Bool} {S:St} {k:V→St→Prop} (h:aNext x isS E S k):∃ v S',k v S'∧OpS P (.next x isS) E S.hs v S'.hs:=by
 obtain ⟨vx,h1,h2⟩:=opK_spec (show opK E x _ from h)
 obtain ⟨id,off,rfl,h3⟩:=vPtr_spec h2
 obtain ⟨rfl,h4⟩:=nat0_spec h3
 obtain ⟨o,hg,h5⟩:=wj h4
 have hg':S.hs.get id=some o:=hg
 have base:∀ {ρ:Rho} {w:World} {ev:Operand→Value},EvR ρ E ev (Op.next x isS).operands.toList→Sim ρ S.hs w→∃ l co,ρ id=some l∧ev x=.pointer (some ⟨l.blk,l.base,none⟩)∧w.heap[l.blk]?=some co∧OR ρ l o co:=by
  intro ρ w ev hev hs
  have hc:=hev.one (x:=x) (by simp [Op.operands]) h1
  generalize hce:ev x=cv at hc
  cases hc with
  | ptr _ hl =>
    obtain ⟨l',co,a,b,c⟩:=hs.obj id _ hg'
    rw [hl] at a;cases a
    exact ⟨_,co,hl,by simp,b,c⟩
 split at h5
 ·rename_i s pos
  cases hb:Nat.blt pos (len' s) with
  | false =>
    rw [hb] at h5
    refine ⟨_,S,h5,fun ρ ev o w ho hev hs=>?_⟩
    obtain ⟨l,co,hl,he,hw,⟨hrw,h0⟩,rfl⟩:=base hev hs
    rw [h0] at he
    have hlt:¬ pos < (⟨⟨s⟩⟩:ByteArray).size:=by
     rw [len'_eq] at hb
     have e:(⟨⟨s⟩⟩:ByteArray).size=s.length:=rfl
     rw [e];intro hlt
     have:Nat.blt pos s.length=true:=by simpa using hlt
     rw [hb] at this;cases this
    refine ⟨_,w,ρ,.inl ?_,.tup (.cons (.bool false) .nil),hs,Ext.refl _ _ _⟩
    simp [execOp,ho,he,Instr.next,run_getObj hw,hlt]
  | true =>
    rw [hb] at h5
    have hlt:pos < (⟨⟨s⟩⟩:ByteArray).size:=by
     rw [len'_eq] at hb
     have e:(⟨⟨s⟩⟩:ByteArray).size=s.length:=rfl
     rw [e];simpa using hb
    generalize hdc:Utf8.decode ⟨⟨s⟩⟩ pos=cw at h5
    obtain ⟨c,wd⟩:=cw
    have h6:=fN_spec (fN_spec (k:=fun c=>fN (Nat.add pos wd) fun p=>putK id (some (.strIter s p)) S fun S=>k (.tup [.bool true,.int .i64 (Int.ofNat pos),.int .i32 (Int.ofNat c)]) S) h5)
    obtain ⟨S',h7,hS⟩:=put_spec h6
    refine ⟨_,S',h7,fun ρ ev o w ho hev hs=>?_⟩
    obtain ⟨l,co,hl,he,hw,⟨hrw,h0⟩,rfl⟩:=base hev hs
    have hp:=putObj_spec hs hg' hl hrw hw (o':=.strIter s (pos+wd)) (co':=.stringIter ⟨⟨s⟩⟩ (pos+wd)) ⟨⟨hrw,h0⟩,rfl⟩
    rw [h0] at he
    refine ⟨_,_,ρ,.inl ?_,.tup (.cons (.bool true) (.cons (.int _ _) (.cons (.int _ _) .nil))),by rw [hS];exact hp.1,by rw [hS];exact hp.2⟩
    simp only [execOp,ho,he,Instr.next,Sem.run_bind,run_getObj hw (by simp),Result.andThen_ok,if_pos hlt,hdc,run_setObj hw (by simp),Sem.run_pure]
    rfl
 ·refine ⟨_,S,h5,fun ρ ev o w ho hev hs=>?_⟩
  obtain ⟨l,co,hl,he,hw,⟨hrw,h0⟩,m',rfl,hm⟩:=base hev hs
  have hm':m'=none:=hm
  subst hm'
  rw [h0] at he
  refine ⟨_,w,ρ,.inl ?_,.tup (.cons (.bool false) .nil),hs,Ext.refl _ _ _⟩
  simp [execOp,ho,he,Instr.next,run_getObj hw]
 ·exact h5.elim
theorem EsR.find {ρ:Rho} {b:Nat}:∀ {es:List (V × V × Nat)} {es':List MapEntry} {e:V × V × Nat},EsR ρ es es'→es.find? (fun e=>e.2.2 == b)=some e→∃ e',es'.find? (fun e=>e.born == b)=some e'∧VR ρ e.1 e'.key∧VR ρ e.2.1 e'.val
 | [],[],e,_,h=>by simp at h
 | (k,v,c) :: es,e' :: es',e,⟨h1,h2,h3,h4⟩,h=>by
   rw [List.find?_cons] at h
   rw [List.find?_cons,← h3]
   cases hb:c == b with
   | true =>
     rw [hb] at h
     cases h
     exact ⟨e',rfl,h1,h2⟩
   | false =>
     rw [hb] at h
     exact h4.find h
 | [],_ :: _,_,h,_=>h.elim
 | _ :: _,[],_,h,_=>h.elim
theorem aEntry_spec {x:Operand} {S:St} {k:V→Prop} (h:aEntry x E S k):∃ v,k v∧ReadS P (.entry x) E S.hs v:=by
 obtain ⟨vx,h1,h2⟩:=opK_spec (show opK E x _ from h)
 obtain ⟨id,off,rfl,h3⟩:=vPtr_spec h2
 cases off with
 | succ n=>exact h3.elim
 | zero =>
 obtain ⟨o,hg,h5⟩:=wj (show Option.rec (motive:=fun _=>Prop) False _ (T.get deep id S.hp) from h3)
 have hg':S.hs.get id=some o:=hg
 split at h5
 ·rename_i m since seen stepped
  obtain ⟨b,hb,h6⟩:=wj h5
  obtain ⟨es,c,hm,h7⟩:=mapK_spec h6
  obtain ⟨hc,h8⟩:=vY h7
  have hc':=Nat.eq_of_beq_eq_true hc
  obtain ⟨e,he,h9⟩:=wj h8
  refine ⟨_,h9,fun ρ ev o w ho hev hs=>?_⟩
  have hx:=hev.one (x:=x) (by simp [Op.operands]) h1
  generalize hxe:ev x=xv at hx
  cases hx with
  | ptr _ hl =>
  rename_i l
  obtain ⟨l1,co,a1,b1,⟨_,h0⟩,m',rfl,hm2⟩:=hs.obj id _ hg'
  rw [hl] at a1;cases a1
  obtain ⟨lm,hlm,rfl⟩:=hm2
  obtain ⟨l2,co2,a2,b2,_,es',rfl,hes⟩:=hs.obj m _ hm
  rw [hlm] at a2;cases a2
  obtain ⟨e',hf,hk,hv⟩:=hes.find he
  refine ⟨.tuple #[e'.key,e'.val],?_,.tup (.cons hk (.cons hv .nil))⟩
  have hback:(⟨seen⟩:Array Nat).back?=some b:=by rw [← Array.getLast?_toList];exact hb
  have hfind:es'.find? (fun x=>x.born == b)=some e':=by rw [← Array.find?_toList];exact hf
  simp [execOp,ho,hxe,h0,Instr.entry,run_getObj b1,run_getObj b2,hback,hc',hfind]
 ·exact h5.elim
end Go.Am
/- Append and copy. -/
namespace Go.Am
variable {P:Program} {E:Env}

/-! Writing a row of the world itself. -/
theorem run_storeRow (g o:Nat) (t:TypeId) (f:Nat × Nat):∀ (vs:List Value) (i:Nat) (cur:Array Value) (w:World),w.heap[g]?=some (.cells cur t f)→o+i+vs.length ≤ cur.size →
  (∀ off,off < cur.size→¬ (f.1 ≤ off∧off < f.2))→(∀ v ∈ vs,v.oneCell'=true) →
  ∃ w' cur',(storeCells ⟨g,o,none⟩ vs i).run P w=.ok () w'∧w'.heap[g]?=some (.cells cur' t f)∧cur'.size=cur.size∧(∀ j v,vs[j]?=some v→cur'[o+i+j]?=some v) ∧
    (∀ j,j < o+i→cur'[j]?=cur[j]?)∧(∀ b,b ≠ g→w'.heap[b]?=w.heap[b]?)∧w'.heap.size=w.heap.size∧w'.tape=w.tape∧w'.os=w.os∧w'.output=w.output∧w'.drawn=w.drawn
 | [],i,cur,w,hg,_,_,_=>⟨w,cur,by simp [storeCells],hg,rfl,by simp,by simp,by simp,rfl,rfl,rfl,rfl,rfl⟩
 | v :: rest,i,cur,w,hg,hl,hf,h1=>by
   have hi:o+i < cur.size:=by simp at hl;omega
   have hadd:(⟨g,o,none⟩:Addr).add i=⟨g,o+i,none⟩:=by unfold Addr.add;split <;> simp_all
   have hcell:w.cell? ⟨g,o+i,none⟩=some cur[o+i]:=by simp [World.cell?,hg,hi]
   have hfr:w.frozen? ⟨g,o+i,none⟩=false:=by
    have:=hf (o+i) hi
    simp [World.frozen?,hg];omega
   have hw1:(w.setCell ⟨g,o+i,none⟩ v).heap[g]?=some (.cells (cur.setIfInBounds (o+i) v) t f):=by
    simp only [World.setCell,Array.getElem?_modify,if_true,hg,Option.map_some];rfl
   obtain ⟨w',cur',a,b,c,d,e,k,l,m,n,p,pd⟩:=run_storeRow g o t f rest (i+1) _ (w.setCell ⟨g,o+i,none⟩ v) hw1 (by simp at hl ⊢;omega) (by simpa using hf) (fun x hx=>h1 x (by simp [hx]))
   refine ⟨w',cur',?_,b,by simpa using c,fun j u hu=>?_,fun j hj=>?_,fun b' hb'=>?_,by simpa using l,m,n,p,pd⟩
   ·simp only [storeCells,Sem.run_bind,hadd]
    rw [run_store _ _ _ _ _ (h1 v (by simp)),hcell,hfr]
    exact a
   ·cases j with
    | zero =>
      simp at hu;subst hu
      rw [Nat.add_zero,e (o+i) (by omega)]
      simp [hi]
    | succ j =>
      have:=d j u (by simpa using hu)
      rwa [show o+(i+1)+j=o+i+(j+1) by omega] at this
   ·rw [e j (by omega),Array.getElem?_setIfInBounds_ne (by omega)]
   ·rw [k b' hb'];exact heap_setCell_other _ _ _ _ hb'

/-! Dropping an object. -/
theorem Sim.forget {ρ:Rho} {H:Hs} {w:World} (hs:Sim ρ H w) (id:Nat):Sim ρ (H.put id none) w where
 obj i o h:=by
  by_cases e:i=id
  ·subst e;simp [Hs.put] at h
  ·simp [Hs.put,e] at h;exact hs.obj i o h
 sep i j li lj hi hj:=by
  have hget:∀ i,((H.put id none).get i).isSome→(H.get i).isSome:=fun i hi=>by
   by_cases e:i=id
   ·subst e;simp [Hs.put] at hi
   ·simpa [Hs.put,e] using hi
  exact hs.sep i j li lj (hget i hi) (hget j hj)
 fresh:=hs.fresh
theorem Ext.forget (ρ:Rho) (H:Hs) (w:World) (id:Nat):Ext ρ H w ρ (H.put id none) w where
 rho _ _:=rfl
 next:=Nat.le_refl _
 size:=Nat.le_refl _
 keep _ _ _:=rfl
 own b:=fun ⟨i,l,hi,hl,hr,hb⟩=>.inr ⟨i,l,by
  by_cases e:i=id
  ·subst e;simp [Hs.put] at hi
  ·simpa [Hs.put,e] using hi,hl,hr,hb⟩
 has b:=fun ⟨i,l,hi,hl,hb⟩=>.inr ⟨i,l,by
  by_cases e:i=id
  ·subst e;simp [Hs.put] at hi
  ·simpa [Hs.put,e] using hi,hl,hb⟩
 tape:=rfl
 os:=rfl
 output:=rfl
 drawn:=Nat.le_refl _

/-- A row that has a new number and place: what stood behind the old number is not known any more. -/
theorem Sim.rename {ρ:Rho} {H:Hs} {w w':World} (hs:Sim ρ H w) {id:Nat} {o:O} (h:H.get id=some o)
  {l:Loc} (hl:ρ id=some l) (hrw:l.rw=true) {l':Loc} (hbl:l'.blk=l.blk) (hrw':l'.rw=true) {o':O} {co':Obj} (hb:w'.heap[l.blk]?=some co') (hoth:∀ b,b ≠ l.blk→w'.heap[b]?=w.heap[b]?)
  (hsz:w'.heap.size=w.heap.size) (ht:w'.tape=w.tape) (hos:w'.os=w.os) (hout:w'.output=w.output) (ho:OR (ρ.put H.next l') l' o' co') (hdr:w.drawn ≤ w'.drawn:=by exact Nat.le_refl _) :
  Sim (ρ.put H.next l') ((H.put id none).new o') w'∧Ext ρ H w (ρ.put H.next l') ((H.put id none).new o') w':=by
 have hsome:(H.get id).isSome:=by rw [h];rfl
 have h0:ρ H.next=none:=hs.fresh _ (Nat.le_refl _)
 have hidlt:id < H.next:=hs.lt hl
 have hget:∀ i,i ≠ H.next→∀ x,((H.put id none).new o').get i=some x→i ≠ id∧H.get i=some x:=fun i hi x hx=>by
  have h1:((H.put id none).new o').get i=if i=H.next then some o' else if i=id then none else H.get i:=rfl
  rw [h1,if_neg hi] at hx
  by_cases e:i=id
  ·rw [if_pos e] at hx;cases hx
  ·rw [if_neg e] at hx;exact ⟨e,hx⟩
 have hnew:((H.put id none).new o').get H.next=some o':=by
  show (if H.next=H.next then some o' else _)=_
  rw [if_pos rfl]
 refine ⟨⟨fun i x hx=>?_,fun i j li lj hi hj hli hlj hr hne=>?_,fun i hi=>?_⟩,?_⟩
 ·by_cases e:i=H.next
  ·subst e
   rw [hnew] at hx;cases hx
   exact ⟨l',co',Rho.put_self _ _ _,by rw [hbl];exact hb,ho⟩
  ·obtain ⟨e',hx'⟩:=hget i e x hx
   obtain ⟨li,co,a,b,c⟩:=hs.obj i x hx'
   refine ⟨li,co,by rw [Rho.put_ne _ _ e];exact a,?_,c.mono (Rho.le_put h0 _)⟩
   rw [hoth _ (fun hbe=>hs.sep id i l li hsome (by rw [hx'];rfl) hl a hrw (Ne.symm e') hbe.symm)]
   exact b
 ·obtain ⟨xi,hxi⟩:=Option.isSome_iff_exists.1 hi
  obtain ⟨xj,hxj⟩:=Option.isSome_iff_exists.1 hj
  by_cases e:i=H.next
  ·subst e
   rw [Rho.put_self] at hli;cases hli
   obtain ⟨e',hx'⟩:=hget j (Ne.symm hne) xj hxj
   rw [Rho.put_ne _ _ (Ne.symm hne)] at hlj
   rw [hbl]
   exact hs.sep id j l lj hsome (by rw [hx'];rfl) hl hlj hrw (Ne.symm e')
  ·obtain ⟨ei,hx'⟩:=hget i e xi hxi
   rw [Rho.put_ne _ _ e] at hli
   by_cases e2:j=H.next
   ·subst e2
    rw [Rho.put_self] at hlj;cases hlj
    rw [hbl]
    exact hs.sep i id li l (by rw [hx'];rfl) hsome hli hl hr ei
   ·obtain ⟨ej,hxj'⟩:=hget j e2 xj hxj
    rw [Rho.put_ne _ _ e2] at hlj
    exact hs.sep i j li lj (by rw [hx'];rfl) (by rw [hxj'];rfl) hli hlj hr hne
 ·have:H.next+1 ≤ i:=hi
  rw [Rho.put_ne _ _ (by omega)]
  exact hs.fresh i (by omega)
 ·exact {
   rho:=fun i hi=>Rho.put_ne _ _ (by omega)
   next:=Nat.le_succ _
   size:=Nat.le_of_eq hsz.symm
   keep:=fun b _ hn=>hoth b fun hbe=>hn ⟨id,l,hsome,hl,hrw,hbe.symm⟩
   own:=fun b ⟨i,li,hi,hli,hr,hbb⟩=>by
    by_cases e:i=H.next
    ·subst e
     rw [Rho.put_self] at hli;cases hli
     exact .inr ⟨id,l,hsome,hl,hrw,by rw [← hbb,hbl]⟩
    ·obtain ⟨xi,hxi⟩:=Option.isSome_iff_exists.1 hi
     obtain ⟨_,hx'⟩:=hget i e xi hxi
     rw [Rho.put_ne _ _ e] at hli
     exact .inr ⟨i,li,by rw [hx'];rfl,hli,hr,hbb⟩
   has:=fun b ⟨i,li,hi,hli,hbb⟩=>by
    by_cases e:i=H.next
    ·subst e
     rw [Rho.put_self] at hli;cases hli
     exact .inr ⟨id,l,hsome,hl,by rw [← hbb,hbl]⟩
    ·obtain ⟨xi,hxi⟩:=Option.isSome_iff_exists.1 hi
     obtain ⟨_,hx'⟩:=hget i e xi hxi
     rw [Rho.put_ne _ _ e] at hli
     exact .inr ⟨i,li,by rw [hx'];rfl,hli,hbb⟩
   tape:=ht,os:=hos,output:=hout,drawn:=hdr }

/-! What is appended or copied. -/
theorem strCells_spec:∀ {s:List UInt8} {k:List V→Prop},strCells s k→k (s.map fun b=>.int .u8 b.toNat)
 | [],_,h=>h
 | b :: s,k,h=>by
   have h1:=fN_spec (n:=b.toNat) (k:=fun n=>strCells s fun r=>k (.int .u8 (Int.ofNat n) :: r)) h
   exact strCells_spec (k:=fun r=>k (.int .u8 (Int.ofNat b.toNat) :: r)) h1
theorem VRs.bytes {ρ:Rho}:∀ (s:List UInt8),VRs ρ (s.map fun b=>.int .u8 b.toNat) (s.map fun b=>Value.int .u8 b.toNat)
 | []=>.nil
 | b :: s=>.cons (.int .u8 _) (VRs.bytes s)
theorem run_loadCells_zero (a:Addr) (w:World):(loadCells a 0).run P w=.ok #[] w:=by simp [loadCells,loadCellsFrom]
theorem srcK_spec {es:Nat} {S:St} {x:V} {k:List V→Nat→Prop} (h:srcK es S x k) :
  ∃ xs m,k xs m∧xs.length=m * es∧∀ (ρ:Rho) (w:World) (x':Value),Sim ρ S.hs w→VR ρ x x'→(Builtin.lenOf x').run P w=.ok m w ∧
    ∀ q,q ≤ m→∃ xs',(Builtin.firstCells es q x').run P w=.ok ⟨xs'⟩ w∧VRs ρ (xs.take (q * es)) xs':=by
 unfold srcK at h
 split at h
 ·refine ⟨_,_,h,by simp,fun ρ w x' hs hx=>?_⟩
  cases hx
  exact ⟨by simp [Builtin.lenOf],fun q hq=>⟨[],by simp [Builtin.firstCells],by simp;exact .nil⟩⟩
 ·rename_i s
  obtain ⟨he,h1⟩:=vY h
  have he:=Nat.eq_of_beq_eq_true he
  subst he
  have h2:=strCells_spec h1
  refine ⟨_,_,h2,by rw [len'_eq];simp,fun ρ w x' hs hx=>?_⟩
  cases hx
  refine ⟨by rw [len'_eq];simp [Builtin.lenOf];rfl,fun q hq=>⟨(s.take q).map fun b=>Value.int .u8 b.toNat,?_,?_⟩⟩
  ·have:((⟨⟨s⟩⟩:ByteArray).extract 0 q).data=⟨s.take q⟩:=by
    simp [ByteArray.data_extract]
   simp [Builtin.firstCells,this]
  ·rw [Nat.mul_one,← List.map_take];exact VRs.bytes _
 ·rename_i id off n c es' ex
  obtain ⟨he,h1⟩:=vY h
  have he:=Nat.eq_of_beq_eq_true he
  subst he
  obtain ⟨cs,e,fl,hg,h2⟩:=rowK_spec h1
  obtain ⟨h3,h4⟩:=dropK_spec h2
  obtain ⟨h5,h6⟩:=takeK_spec h4
  refine ⟨_,_,h6,by simp at h5 ⊢;omega,fun ρ w x' hs hx=>?_⟩
  cases hx with
  | slice _ _ _ _ _ off' cap' hl ho hc hx hlen hr =>
    refine ⟨by simp [Builtin.lenOf],fun q hq=>?_⟩
    by_cases hz:0 < c
    ·rw [ho hz]
     have hqe:q * es ≤ n * es:=Nat.mul_le_mul_right _ hq
     obtain ⟨c',h7,h8⟩:=hs.loadCells (P:=P) hg hl (off:=off) (n:=q * es) (by simp at h5;omega)
     refine ⟨c',by simp [Builtin.firstCells,h7],?_⟩
     have e1:n.mul es=n * es:=rfl
     rw [e1,List.take_take,Nat.min_eq_left hqe]
     exact h8
    ·have:q=0:=by omega
     subst this
     exact ⟨[],by simp [Builtin.firstCells,run_loadCells_zero],by simp;exact .nil⟩
 ·exact h.elim

theorem elemP_spec {t e:TypeId} (h:elemP P t=some e):P.underlying t=some (.slice e):=by
 unfold elemP at h;split at h
 ·cases h;assumption
 ·cases h
theorem notInt_spec {ts:Array TypeId} (h:notInt P ts=true):ts[1]?=none ∨ ∃ t d,ts[1]?=some t∧P.underlying t=some d∧∀ k,d ≠ .int k:=by
 unfold notInt at h
 split at h
 ·exact .inl (by assumption)
 ·rename_i t ht
  split at h
  ·cases h
  ·cases h
  ·rename_i d hk hd
   exact .inr ⟨t,d,ht,hd,fun k e=>hk k e⟩
/-- Append, up to where it writes. -/
theorem run_append_pre {ts:Array TypeId} {ty t e:TypeId} {i:TypeInfo} (hn:notInt P ts=true) (ht:ts[0]?=some t) (hu:P.underlying t=some (.slice e)) (hi:P.info? e=some i)
  {base:Option Addr} {n c m:Nat} {x:Value} {w:World} (hm:(Builtin.lenOf x).run P w=.ok m w) :
  (Builtin.append_ ts ty #[.slice base n c,x]).run P w=(if n+m ≤ c then (do
    let new ← Builtin.firstCells i.size m x
    if let some a:=base then storeCells (a.add (n * i.size)) new.toList
    pure (.slice base (n+m) c))
   else (do
    if ((n+m:Nat):Int) > IntKind.i64.max∧(false=true ∨ (← typeInfo e).bytes=0) then runtimePanic (.error "growslice: len out of range")
    if Builtin.nextslicecap (n+m) c * (← typeInfo e).bytes > 2 ^ 48 then (if false=true then runtimePanic (.error "growslice: len out of range") else do
     if !(← Builtin.mayShare i.size n m base x) then mark .noRoom
     unsupported (.resourceLimit "append: a slice or a string whose bytes no memory bears"))
    let newCap ← choose (.appendCap (n+m) c e)
    askRoom (newCap * (← typeInfo e).bytes)
    let old ← Builtin.firstCells i.size n (.slice base n c)
    let new ← Builtin.firstCells i.size m x
    let rest:=Builtin.zeroCells (← zeroValue e).cells (newCap - (n+m))
    pure (.slice (some (← newRow e (old ++ new ++ rest))) (n+m) newCap)):Sem Value).run P w:=by
 rcases notInt_spec hn with h1|⟨t1,d1,h1,h2,h3⟩
 ·simp only [Builtin.append_,ht,h1,Sem.run_bind,run_underlying hu,Result.andThen_ok,run_sizeOf' hi,Sem.run_pure,hm,Bool.false_eq_true,if_false,Bool.not_false,if_true,List.getElem?_toArray,List.getElem?_cons_zero,List.getElem?_cons_succ]
  split <;> simp [Sem.run_bind] <;> rfl
 ·cases d1 <;> first
   | exact absurd rfl (h3 _)
   | (simp only [Builtin.append_,ht,h1,Sem.run_bind,run_underlying hu,run_underlying h2,Result.andThen_ok,run_sizeOf' hi,Sem.run_pure,hm,Bool.false_eq_true,if_false,Bool.not_false,if_true,List.getElem?_toArray,List.getElem?_cons_zero,List.getElem?_cons_succ]
      split <;> simp [Sem.run_bind] <;> rfl)
end Go.Am
/- Append and copy, joined. -/
namespace Go.Am
variable {P:Program} {E:Env}

theorem addr_add (b o i:Nat):(⟨b,o,none⟩:Addr).add i=⟨b,o+i,none⟩:=by
 unfold Addr.add;by_cases h0:i=0
 ·subst h0;simp
 ·simp [h0]
theorem run_append_new {ts:Array TypeId} {ty t e:TypeId} {i:TypeInfo} {zv:Value} (hn:notInt P ts=true) (ht:ts[0]?=some t) (hu:P.underlying t=some (.slice e)) (hi:P.info? e=some i) (hz:i.zero=some zv)
  {base:Option Addr} {n c m:Nat} {x:Value} {w:World} (hm:(Builtin.lenOf x).run P w=.ok m w) (hc:c < n+m) (hb:(n+m) * (i.bytes+1) ≤ 70368744177664)
  {os ns:List Value} (ho:(Builtin.firstCells i.size n (.slice base n c)).run P w.drew=.ok ⟨os⟩ w.drew) (hx:(Builtin.firstCells i.size m x).run P w.drew=.ok ⟨ns⟩ w.drew) :
  (Builtin.append_ ts ty #[.slice base n c,x]).run P w=.ok (.slice (some ⟨w.heap.size,0,none⟩) (n+m) (grownCap w (n+m) c e))
   (w.drew.alloc (.cells (⟨os ++ ns⟩ ++ Builtin.zeroCells zv.cells (grownCap w (n+m) c e - (n+m))) e)):=by
 rw [run_append_pre hn ht hu hi hm,if_neg (by omega)]
 rw [Nat.mul_add] at hb
 have h63:¬ (9223372036854775807 < ((n:Int)+(m:Int))):=by omega
 have h2:∀ r:Array Value,(⟨os⟩:Array Value) ++ (⟨ns⟩ ++ r)=⟨os ++ ns⟩ ++ r:=fun r=>by apply Array.ext';simp
 have h48:=growslice_fits (bytes:=i.bytes) hc (by omega)
 have h48':¬ (281474976710656 < Builtin.nextslicecap (n+m) c * i.bytes):=by omega
 simp [h63,h48',run_typeInfo' hi,Question.forced,ho,hx,run_zeroValue' hi hz,newRow,grownCap,h2]
theorem OR.cells_row {ρ:Rho} {cs:List V} {cs' rest:List Value} (h:VRs ρ cs cs') (b:Nat) (t:TypeId):OR ρ ⟨b,0,cs'.length+rest.length,true⟩ (.cells cs t .rw) (.cells ⟨cs' ++ rest⟩ t):=by
 refine ⟨⟨cs' ++ rest⟩,(0,0),rfl,by simp,by simp [h.length],fun i v hi=>?_,fun _=>⟨rfl,fun off _=>by simp⟩,fun h=>by cases h⟩
 obtain ⟨v',a,b⟩:=h.get hi
 refine ⟨v',?_,b⟩
 have:i < cs'.length:=by
  rcases Nat.lt_or_ge i cs'.length with h'|h'
  ·exact h'
  ·simp [List.getElem?_eq_none h'] at a
 simp [List.getElem?_append_left this,a]
/-- A slice's own cells. -/
theorem Sim.firstCells {ρ:Rho} {H:Hs} {w:World} (hs:Sim ρ H w) {id off n c es:Nat} {ex:Bool} {s':Value} (hv:VR ρ (.slice id off n c es ex) s') {cs:List V} {e:TypeId} {fl:Fl} (hg:H.get id=some (.cells cs e fl))
  (h1:off ≤ cs.length) (h2:n * es ≤ (cs.drop off).length) :
  ∃ os,(Builtin.firstCells es n s').run P w=.ok ⟨os⟩ w∧VRs ρ ((cs.drop off).take (n * es)) os:=by
 cases hv with
 | slice _ _ _ _ _ off' cap' hl ho hc hx hlen hr =>
   by_cases hz:0 < c
   ·rw [ho hz]
    obtain ⟨c',h7,h8⟩:=hs.loadCells (P:=P) hg hl (off:=off) (n:=n * es) (by simp at h2;omega)
    exact ⟨c',by simp [Builtin.firstCells,h7],h8⟩
   ·have:n=0:=by omega
    subst this
    exact ⟨[],by simp [Builtin.firstCells,run_loadCells_zero],by simp;exact .nil⟩
theorem one_of {ρ:Rho}:∀ {vs:List V} {vs':List Value},VRs ρ vs vs'→allOne vs=true→∀ v ∈ vs',v.oneCell'=true
 | _,_,.nil,_,v,hv=>by cases hv
 | u :: l,_,.cons h hs,ha,v,hv=>by
   rcases List.mem_cons.1 hv with rfl|hv
   ·rw [h.one];exact allOne_spec ha u (by simp)
   ·refine one_of hs ?_ v hv
    have h':Bool.rec (motive:=fun _=>Bool) false (allOne l) u.one=true:=ha
    cases hu:u.one with
    | false=>rw [hu] at h';cases h'
    | true=>rw [hu] at h';exact h'

/-- What append's or copy's answer is. -/
def Ap (P:Program) (f:World→Value→Value→Result Value) (S:Hs) (s x:V) (v:V) (S':Hs):Prop :=
 ∀ (ρ:Rho) (w:World) (s' x':Value),Sim ρ S w→VR ρ s s'→VR ρ x x'→∃ v' w' ρ',f w s' x'=.ok v' w'∧VR ρ' v v'∧Sim ρ' S' w'∧Ext ρ S w ρ' S' w'

/-- A new row of old and new cells. -/
theorem append_new {ts:Array TypeId} {ty t e:TypeId} {i:TypeInfo} {zv:Value} (hn:notInt P ts=true) (ht:ts[0]?=some t) (hu:P.underlying t=some (.slice e)) (hi:P.info? e=some i) (hz:i.zero=some zv) (hzs:zv.cells.size=i.size)
  {base:Option Addr} {n c m:Nat} {x:Value} {w:World} (hm:(Builtin.lenOf x).run P w=.ok m w) (hc:c < n+m) (hb:(n+m) * (i.bytes+1) ≤ 70368744177664)
  {ρ:Rho} {H H':Hs} (hs:Sim ρ H w) {os:List V} {os':List Value} (hos:VRs ρ os os') (hol:os.length=n * i.size) (hor:(Builtin.firstCells i.size n (.slice base n c)).run P w.drew=.ok ⟨os'⟩ w.drew)
  {xs:List V} {xs':List Value} (hxs:VRs ρ xs xs') (hxl:xs.length=m * i.size) (hxr:(Builtin.firstCells i.size m x).run P w.drew=.ok ⟨xs'⟩ w.drew) (hH:H'=H.new (.cells (os ++ xs) e .rw)) :
  ∃ v' w' ρ',(Builtin.append_ ts ty #[.slice base n c,x]).run P w=.ok v' w'∧VR ρ' (.slice H.next 0 (n+m) (n+m) i.size false) v'∧Sim ρ' H' w'∧Ext ρ H w ρ' H' w':=by
 have hr:=run_append_new (ty:=ty) hn ht hu hi hz hm hc hb hor hxr
 have hge:=grownCap_ge w (n+m) c e
 generalize grownCap w (n+m) c e=cap at hr hge
 generalize hrest:(Builtin.zeroCells zv.cells (cap - (n+m)))=rest at hr
 have hrs:rest.size=(cap - (n+m)) * i.size:=by rw [← hrest];simp [Builtin.zeroCells,hzs]
 have e1:(⟨os' ++ xs'⟩ ++ rest:Array Value)=⟨(os' ++ xs') ++ rest.toList⟩:=by apply Array.ext';simp
 rw [e1] at hr
 have hsd:=hs.drew
 have h0:ρ H.next=none:=hs.fresh _ (Nat.le_refl _)
 have ho:=OR.cells_row (ρ:=ρ.put H.next ⟨w.heap.size,0,(os' ++ xs').length+rest.toList.length,true⟩) (rest:=rest.toList) ((hos.append hxs).mono (Rho.le_put h0 _)) w.heap.size e
 obtain ⟨h1,h2⟩:=hsd.alloc (csz:=(os' ++ xs').length+rest.toList.length) ho
 refine ⟨_,_,_,hr,?_,by rw [hH];exact h1,by rw [hH];exact (Ext.drew ρ H w).trans h2⟩
 have hlen:(os' ++ xs').length+rest.toList.length=cap * i.size:=by
  have a:=hos.length
  have b:=hxs.length
  simp [hrs]
  rw [← a,← b,hol,hxl,← Nat.add_mul,← Nat.add_mul]
  congr 1;omega
 have:=VR.slice (ρ:=ρ.put H.next ⟨w.heap.size,0,(os' ++ xs').length+rest.toList.length,true⟩) 0 (n+m) (n+m) i.size false 0 cap (Rho.put_self _ _ _) (fun _=>rfl) hge (fun h=>by cases h) (Nat.le_refl _) (fun _=>by
  show 0+0+cap * i.size ≤ (os' ++ xs').length+rest.toList.length
  omega)
 simpa using this

theorem bAppend_spec {ts:Array TypeId} {s x:V} {S:St} {k:V→St→Prop} (h:bAppend P ts s x S k) :
  ∃ v S',k v S'∧∀ ty,Ap P (fun w s' x'=>(Builtin.append_ ts ty #[s',x']).run P w) S.hs s x v S'.hs:=by
 obtain ⟨hn,h1⟩:=vY h
 obtain ⟨t,ht,h2⟩:=wj h1
 obtain ⟨e,he,h3⟩:=wj h2
 obtain ⟨i,hi,h4⟩:=wj h3
 obtain ⟨z,hz,h5⟩:=wj h4
 obtain ⟨hzl,h6⟩:=vY h5
 obtain ⟨xs,m,h7,hxl,hx⟩:=srcK_spec h6
 have hu:=elemP_spec he
 obtain ⟨i',zv,hi',hzv,hok,rfl⟩:=zeroP_spec hz
 rw [hi] at hi';cases hi'
 have hzs:zv.cells.size=i.size:=by
  rw [len'_eq] at hzl
  have:=Nat.eq_of_beq_eq_true hzl
  have h2:=(VR.ofV (ρ:=fun _=>none) hok).cells.length
  simp at h2;omega
 split at h7
 ·cases m with
  | zero =>
    refine ⟨_,S,h7,fun ty ρ w s' x' hs hsv hxv=>?_⟩
    cases hsv
    obtain ⟨hm,hf⟩:=hx ρ w x' hs hxv
    obtain ⟨xs',hf1,_⟩:=hf 0 (Nat.le_refl _)
    refine ⟨.slice none 0 0,w,ρ,?_,.nilSlice,hs,Ext.refl _ _ _⟩
    show (Builtin.append_ ts ty #[.slice none 0 0,x']).run P w=_
    rw [run_append_pre hn ht hu hi hm]
    simp [hf1]
  | succ m =>
    obtain ⟨hb,h8⟩:=vY h7
    obtain ⟨S',h9,hS⟩:=new_spec h8
    refine ⟨_,S',h9,fun ty ρ w s' x' hs hsv hxv=>?_⟩
    cases hsv
    obtain ⟨hm,_⟩:=hx ρ w x' hs hxv
    obtain ⟨xs',hf1,hf2⟩:=(hx ρ w.drew x' hs.drew hxv).2 (m+1) (Nat.le_refl _)
    rw [List.take_of_length_le (by omega)] at hf2
    have:=append_new (ty:=ty) hn ht hu hi hzv hzs hm (n:=0) (c:=0) (base:=none) (by omega) (by
     have:=Nat.le_of_ble_eq_true hb
     simpa using this) hs (os:=[]) .nil (by simp) (by simp [Builtin.firstCells]) hf2 hxl hf1 (H':=S'.hs) hS
    rw [Nat.zero_add] at this
    exact this
 ·rename_i id off n c es ex
  obtain ⟨hes,h8⟩:=vY h7
  have hes:=Nat.eq_of_beq_eq_true hes
  subst hes
  have h9:=fN_spec (k:=fun need=>Bool.rec (motive:=fun _=>Prop) _ _ (Nat.ble need c)) h8
  have eadd:Nat.add n m=n+m:=rfl
  rw [eadd] at h9
  cases hble:Nat.ble (n+m) c with
  | true =>
    rw [hble] at h9
    have hle:=Nat.le_of_ble_eq_true hble
    cases m with
    | zero =>
      refine ⟨_,S,h9,fun ty ρ w s' x' hs hsv hxv=>?_⟩
      obtain ⟨hm,hf⟩:=hx ρ w x' hs hxv
      obtain ⟨xs',hf1,hf2⟩:=hf 0 (Nat.le_refl _)
      have hsv':=hsv
      cases hsv with
      | slice _ _ _ _ _ off' cap' hl ho hc hxx hlen hr =>
        refine ⟨_,w,ρ,?_,hsv',hs,Ext.refl _ _ _⟩
        show (Builtin.append_ ts ty #[.slice _ n cap',x']).run P w=_
        rw [run_append_pre hn ht hu hi hm,if_pos (by omega)]
        have:xs'=[]:=by
         have:=hf2.length
         simp at this;exact List.eq_nil_of_length_eq_zero this.symm
        subst this
        simp [hf1,storeCells]
    | succ m =>
      obtain ⟨hpos,h10⟩:=vY h9
      obtain ⟨cs,e',fl,hg,h11⟩:=rowK_spec h10
      obtain ⟨hfl,h12⟩:=wrK_spec h11
      obtain ⟨hone,h13⟩:=vY h12
      obtain ⟨hov,h14⟩:=over_spec h13
      obtain ⟨S',h15,hS⟩:=put_spec h14
      refine ⟨_,S',h15,fun ty ρ w s' x' hs hsv hxv=>?_⟩
      obtain ⟨hm,hf⟩:=hx ρ w x' hs hxv
      obtain ⟨xs',hf1,hf2⟩:=hf (m+1) (Nat.le_refl _)
      rw [List.take_of_length_le (by omega)] at hf2
      have hpos':0 < i.size:=by simpa using hpos
      have hxne:xs ≠ []:=fun hz=>by
       rw [hz] at hxl
       have:0 < (m+1) * i.size:=Nat.mul_pos (Nat.succ_pos m) hpos'
       rw [← hxl] at this
       exact absurd this (Nat.lt_irrefl _)
      have emul:Nat.add off (Nat.mul n i.size)=off+n * i.size:=rfl
      rw [if_neg hxne,Nat.add_zero,emul] at hov
      cases hsv with
      | slice _ _ _ _ _ off' cap' hl ho hc hxx hlen hr =>
        rename_i l
        obtain ⟨w',hr1,hs1,he1⟩:=Sim.storeCells (P:=P) hfl hl (off:=off+n * i.size) hf2 (allOne_spec hone) (i:=0) hs hg (by omega)
        have hoff:=ho (by omega)
        subst hoff
        refine ⟨.slice (some ⟨l.blk,l.base+off',none⟩) (n+(m+1)) cap',w',ρ,?_,.slice off' (n+(m+1)) c i.size ex off' cap' hl ho hc hxx hle hr,by rw [hS];exact hs1,by rw [hS];exact he1⟩
        show (Builtin.append_ ts ty #[.slice _ n cap',x']).run P w=_
        rw [run_append_pre hn ht hu hi hm,if_pos (by omega)]
        have ha:(⟨l.blk,l.base+off',none⟩:Addr).add (n * i.size)=⟨l.blk,l.base+(off'+n * i.size),none⟩:=by
         rw [addr_add,Nat.add_assoc]
        simp [hf1,ha,hr1]
  | false =>
    rw [hble] at h9
    have hgt:c < n+m:=by
     rcases Nat.lt_or_ge c (n+m) with h'|h'
     ·exact h'
     ·rw [Nat.ble_eq_true_of_le h'] at hble;cases hble
    obtain ⟨hb,h10⟩:=vY h9
    obtain ⟨cs,e',fl,hg,h11⟩:=rowK_spec h10
    obtain ⟨h12,h13⟩:=dropK_spec h11
    obtain ⟨h14,h15⟩:=takeK_spec h13
    have h16:=appK_spec h15
    have emul:n.mul i.size=n * i.size:=rfl
    rw [emul] at h14 h16
    have hb':(n+m) * (i.bytes+1) ≤ 70368744177664:=Nat.le_of_ble_eq_true hb
    have hol:((cs.drop off).take (n * i.size)).length=n * i.size:=by rw [List.length_take];omega
    -- what a new row makes
    have fresh:∀ (ty:TypeId) (ρ:Rho) (w:World) (H H':Hs) (s' x':Value) (b:Option Addr) (cap:Nat),s'=.slice b n cap→cap < n+m→Sim ρ S.hs w→Sim ρ H w→H'=H.new (.cells ((cs.drop off).take (n * i.size) ++ xs) e .rw)→VR ρ (.slice id off n c i.size ex) s'→VR ρ x x' →
      ∃ v' w' ρ',(Builtin.append_ ts ty #[s',x']).run P w=.ok v' w'∧VR ρ' (.slice H.next 0 (n+m) (n+m) i.size false) v'∧Sim ρ' H' w'∧Ext ρ H w ρ' H' w':=by
     intro ty ρ w H H' s' x' b cap hs' hcap hs hsH hH' hsv hxv
     obtain ⟨hm,_⟩:=hx ρ w x' hs hxv
     obtain ⟨xs',hf1,hf2⟩:=(hx ρ w.drew x' hs.drew hxv).2 m (Nat.le_refl _)
     rw [List.take_of_length_le (by omega)] at hf2
     obtain ⟨os',ho1,ho2⟩:=hs.drew.firstCells (P:=P) hsv hg h12 h14
     subst hs'
     exact append_new (ty:=ty) hn ht hu hi hzv hzs hm hcap hb' hsH ho2 hol ho1 hf2 hxl hf1 hH'
    cases ex with
    | true =>
      obtain ⟨S',h17,hS⟩:=new_spec h16
      refine ⟨_,S',h17,fun ty ρ w s' x' hs hsv hxv=>?_⟩
      have hsv':=hsv
      cases hsv with
      | slice _ _ _ _ _ off' cap' hl ho hc hxx hlen hr =>
        have:=hxx rfl
        subst this
        exact fresh ty ρ w S.hs S'.hs _ x' _ _ rfl hgt hs hs hS hsv' hxv
    | false =>
      obtain ⟨hfl,h17⟩:=wrK_spec h16
      obtain ⟨hee,h18⟩:=vY h17
      have hee:=Nat.eq_of_beq_eq_true hee
      subst hee
      obtain ⟨hone,h19⟩:=vY h18
      obtain ⟨S1,h20,hS1⟩:=put_spec h19
      obtain ⟨S',h21,hS⟩:=new_spec h20
      have hnext:S1.next=S.next:=congrArg Hs.next hS1
      rw [hnext] at h21
      refine ⟨_,S',h21,fun ty ρ w s' x' hs hsv hxv=>?_⟩
      have hsv':=hsv
      cases hsv with
      | slice _ _ _ _ _ off' cap' hl ho hc hxx hlen hr =>
        rename_i l
        by_cases hin:n+m ≤ cap'
        ·-- there is room behind the cells that are known
         obtain ⟨hm,hf⟩:=hx ρ w x' hs hxv
         obtain ⟨xs',hf1,hf2⟩:=hf m (Nat.le_refl _)
         rw [List.take_of_length_le (by omega)] at hf2
         obtain ⟨l',co,a,b,cc,fr,rfl,hsz,hle,hcells,hfr,_⟩:=hs.obj id _ hg
         rw [hl] at a;cases a
         obtain ⟨hrw,hunf⟩:=hfr hfl
         have hroom:=hr hrw
         have hxl':xs'.length=m * i.size:=by rw [← hf2.length];exact hxl
         have hmm:(n+m) * i.size ≤ cap' * i.size:=Nat.mul_le_mul_right _ hin
         rw [Nat.add_mul] at hmm
         obtain ⟨w',cur',g1,g2,g3,g4,g5,g6,g7,g8,g9,g10,g11⟩:=run_storeRow (P:=P) l.blk (l.base+off'+n * i.size) e fr xs' 0 cc w b (by omega) hunf (one_of hf2 hone)
         have h0:ρ S.hs.next=none:=hs.fresh _ (Nat.le_refl _)
         obtain ⟨k1,k2⟩:=hs.rename hg hl hrw (l':=⟨l.blk,l.base+off',l.csz,true⟩) rfl rfl (o':=.cells ((cs.drop off).take (n * i.size) ++ xs) e .rw) (co':=.cells cur' e fr) (w':=w') (hdr:=Nat.le_of_eq g11.symm) g2 g6 g7 g8 g9 g10 (by
          refine ⟨cur',fr,rfl,by rw [g3];exact hsz,?_,fun j v hj=>?_,fun _=>⟨rfl,by rw [g3];exact hunf⟩,fun h=>by cases h⟩
          ·rw [List.length_append,hol,hxl,g3];show l.base+off'+_ ≤ _;omega
          ·by_cases hjn:j < n * i.size
           ·rw [List.getElem?_append_left (by omega),List.getElem?_take,if_pos hjn,List.getElem?_drop] at hj
            have hn0:0 < n:=Nat.pos_of_ne_zero fun hz=>by subst hz;simp at hjn
            have hoff:=ho (by omega)
            obtain ⟨v',c1,c2⟩:=hcells (off+j) v hj
            refine ⟨v',?_,c2.mono (Rho.le_put h0 _)⟩
            show cur'[l.base+off'+j]?=_
            rw [g5 _ (by omega),hoff,← c1]
            congr 1;omega
           ·rw [List.getElem?_append_right (by omega),hol] at hj
            obtain ⟨v',c1,c2⟩:=hf2.get hj
            refine ⟨v',?_,c2.mono (Rho.le_put h0 _)⟩
            show cur'[l.base+off'+j]?=_
            rw [← g4 _ _ c1]
            congr 1;omega)
         refine ⟨.slice (some ⟨l.blk,l.base+off',none⟩) (n+m) cap',w',_,?_,?_,by rw [hS,hS1];exact k1,by rw [hS,hS1];exact k2⟩
         ·show (Builtin.append_ ts ty #[.slice _ n cap',x']).run P w=_
          rw [run_append_pre hn ht hu hi hm,if_pos hin]
          have ha:(⟨l.blk,l.base+off',none⟩:Addr).add (n * i.size)=⟨l.blk,l.base+off'+n * i.size,none⟩:=by
           rw [addr_add]
          simp [hf1,ha,g1]
         ·have:=VR.slice (ρ:=ρ.put S.hs.next ⟨l.blk,l.base+off',l.csz,true⟩) 0 (n+m) (n+m) i.size false 0 cap' (Rho.put_self _ _ _) (fun _=>rfl) hin (fun h=>by cases h) (Nat.le_refl _) (fun _=>by
           show l.base+off'+0+cap' * i.size ≤ l.csz
           omega)
          have hn:S.hs.next=S.next:=rfl
          rw [hn] at this ⊢
          simpa using this
        ·obtain ⟨v',w',ρ',r1,r2,r3,r4⟩:=fresh ty ρ w (S.hs.put id none) S'.hs _ x' _ _ rfl (by omega) hs (hs.forget id) (by rw [hS,hS1]) hsv' hxv
         exact ⟨v',w',ρ',r1,r2,r3,(Ext.forget ρ S.hs w id).trans r4⟩
 ·exact h7.elim
end Go.Am
/- The evaluator, third part: the other builtins. Definitions alone. -/
namespace Go.Am

noncomputable def bClear (P:Program) (ts:Array TypeId) (v:V) (S:St) (k:V→St→Prop):Prop :=
 Option.casesOn (ts[0]?) False fun t=>Option.casesOn (P.underlying t) False fun d=>match v with
 | .nilSlice=>k (.tup []) S
 | .nilMap=>k (.tup []) S
 | .map id=>mapK S id fun _ c=>putK id (some (.map [] c)) S fun S=>k (.tup []) S
 | .slice id off n _ es _=>match d with
   | .slice e=>Option.casesOn (zeroP P e) False fun z=>ifK (Nat.beq (len' z) es) (ifK (Nat.blt 0 es) (ifK (allOne z) (Nat.casesOn n (k (.tup []) S) fun _=>rowK S id fun cs e' fl=>wrK fl (overK (repl z n) off cs fun cs=>putK id (some (.cells cs e' fl)) S fun S=>k (.tup []) S))))
   | _=>False
 | _=>False
noncomputable def bMin (v u:V) (k:V→Prop):Prop:=vInt v fun a x=>vInt u fun _ y=>Bool.rec (k (.int a x)) (k (.int a y)) (ltI y x)
noncomputable def bMax (v u:V) (k:V→Prop):Prop:=vInt v fun a x=>vInt u fun _ y=>Bool.rec (k (.int a x)) (k (.int a y)) (ltI x y)
noncomputable def bSliceData (v:V) (k:V→Prop):Prop:=match v with
 | .nilSlice=>k .nilPtr
 | .slice id off _ c _ _=>ifK (Nat.blt 0 c) (k (.ptr id off))
 | _=>False
/-- Cells that are bytes, as a text. -/
noncomputable def bytesK (cs:List V):(List UInt8→Prop)→Prop :=
 List.rec (motive:=fun _=>(List UInt8→Prop)→Prop) (fun k=>k []) (fun v _ ih k=>match v with
  | .int .u8 (.ofNat n)=>ifK (Nat.blt n 256) (ih fun r=>k (UInt8.ofNat n :: r))
  | _=>False) cs
def ptrP (P:Program) (t:TypeId):Option TypeId:=match P.underlying t with|some (.pointer e)=>some e|_=>none
noncomputable def bString (P:Program) (ts:Array TypeId) (p n:V) (S:St) (k:V→St→Prop):Prop:=vNat n fun n=>ifK (Nat.ble n 9223372036854775807)
 (Option.casesOn (ts[0]?) False fun t=>Option.casesOn (ptrP P t) False fun e=>match p with
 | .nilPtr=>Nat.casesOn n (k (.str []) S) fun _=>False
 | .ptr id off=>Nat.casesOn n (k (.str []) S) fun _=>rowK S id fun cs e' fl=>ifK (Nat.beq e e') (ifK (Nat.beq (P.cellsOf e) 1) (wrK fl (dropK off cs fun r=>takeK n r fun r=>bytesK r fun s=>putK id (some (.cells cs e' .ro)) S fun S=>k (.str s) S)))
 | _=>False)
noncomputable def arg1K (l:List V) (k:V→Prop):Prop:=match l with|[v]=>k v|_=>False
noncomputable def arg2K (l:List V) (k:V→V→Prop):Prop:=match l with|[v,u]=>k v u|_=>False
noncomputable def builtinK (P:Program) (b:Builtin) (ts:Array TypeId) (l:List V) (S:St) (k:V→St→Prop):Prop:=match b with
 | .append=>arg2K l fun s x=>bAppend P ts s x S k
 | .copy=>arg2K l fun d x=>bCopy P ts d x S k
 | .len=>arg1K l fun v=>Option.casesOn (ts[0]?) False fun t=>bLen P t v S fun v=>k v S
 | .cap=>arg1K l fun v=>Option.casesOn (ts[0]?) False fun t=>bCap P t v fun v=>k v S
 | .min=>arg2K l fun v u=>bMin v u fun v=>k v S
 | .max=>arg2K l fun v u=>bMax v u fun v=>k v S
 | .clear=>arg1K l fun v=>bClear P ts v S k
 | .unsafeSliceData=>arg1K l fun v=>bSliceData v fun v=>k v S
 | .unsafeString=>arg2K l fun p n=>bString P ts p n S k
 | _=>False
end Go.Am
/- The builtins. -/
namespace Go.Am
variable {P:Program} {E:Env}

theorem fN_ex {n:Nat} {k:Nat→Prop} (h:fN n k):∃ q,n=q∧k q:=⟨n,rfl,fN_spec h⟩
theorem bCopy_spec {ts:Array TypeId} {d x:V} {S:St} {k:V→St→Prop} (h:bCopy P ts d x S k) :
  ∃ v S',k v S'∧∀ ty,Ap P (fun w d' x'=>(Builtin.copy_ ts ty #[d',x']).run P w) S.hs d x v S'.hs:=by
 obtain ⟨t,ht,h1⟩:=wj h
 obtain ⟨e,he,h2⟩:=wj h1
 obtain ⟨i,hi,h3⟩:=szK_spec h2
 obtain ⟨hpos,h4⟩:=vY h3
 obtain ⟨xs,m,h5,hxl,hx⟩:=srcK_spec (P:=P) h4
 have hu:=elemP_spec he
 have hpos':0 < i.size:=by simpa using hpos
 split at h5
 ·refine ⟨_,S,h5,fun ty ρ w d' x' hs hd hxv=>?_⟩
  cases hd
  obtain ⟨hm,hf⟩:=hx ρ w x' hs hxv
  obtain ⟨xs',hf1,hf2⟩:=hf 0 (Nat.zero_le _)
  refine ⟨_,w,ρ,?_,.int .i64 0,hs,Ext.refl _ _ _⟩
  simp [Builtin.copy_,ht,run_underlying hu,hm,run_sizeOf' hi,hf1,goInt]
 ·rename_i id off n c es ex
  obtain ⟨hes,h6⟩:=vY h5
  have hes:=Nat.eq_of_beq_eq_true hes
  subst hes
  obtain ⟨q,hq,h7⟩:=fN_ex h6
  have hqm:q ≤ m:=by rw [← hq];exact Nat.min_le_left _ _
  have hqn:q ≤ n:=by rw [← hq];exact Nat.min_le_right _ _
  obtain ⟨h8,h9⟩:=takeK_spec h7
  have emul:Nat.mul q i.size=q * i.size:=rfl
  rw [emul] at h8 h9
  cases q with
  | zero =>
    refine ⟨_,S,h9,fun ty ρ w d' x' hs hd hxv=>?_⟩
    obtain ⟨hm,hf⟩:=hx ρ w x' hs hxv
    obtain ⟨xs',hf1,hf2⟩:=hf 0 (Nat.zero_le _)
    have:xs'=[]:=by
     have:=hf2.length
     simp at this;exact List.eq_nil_of_length_eq_zero this.symm
    subst this
    cases hd with
    | slice _ _ _ _ _ off' cap' hl ho hc hxx hlen hr =>
      refine ⟨_,w,ρ,?_,.int .i64 0,hs,Ext.refl _ _ _⟩
      simp [Builtin.copy_,ht,run_underlying hu,hm,run_sizeOf' hi,hq,hf1,goInt,storeCells]
  | succ q =>
    obtain ⟨cs,e',fl,hg,h10⟩:=rowK_spec h9
    obtain ⟨hfl,h11⟩:=wrK_spec h10
    obtain ⟨hone,h12⟩:=vY h11
    obtain ⟨hov,h13⟩:=over_spec h12
    obtain ⟨S',h14,hS⟩:=put_spec h13
    refine ⟨_,S',h14,fun ty ρ w d' x' hs hd hxv=>?_⟩
    obtain ⟨hm,hf⟩:=hx ρ w x' hs hxv
    obtain ⟨xs',hf1,hf2⟩:=hf (q+1) hqm
    have hlen1:(xs.take ((q+1) * i.size)).length=(q+1) * i.size:=by rw [List.length_take];omega
    have hne:xs.take ((q+1) * i.size) ≠ []:=fun hz=>by
     have:0 < (q+1) * i.size:=Nat.mul_pos (Nat.succ_pos q) hpos'
     rw [← hlen1,hz] at this
     exact absurd this (Nat.lt_irrefl _)
    rw [if_neg hne,Nat.add_zero] at hov
    cases hd with
    | slice _ _ _ _ _ off' cap' hl ho hc hxx hlen hr =>
      rename_i l
      obtain ⟨w',hr1,hs1,he1⟩:=Sim.storeCells (P:=P) hfl hl (off:=off) hf2 (allOne_spec hone) (i:=0) hs hg (by omega)
      have hoff:=ho (by omega)
      subst hoff
      refine ⟨_,w',ρ,?_,.int .i64 _,by rw [hS];exact hs1,by rw [hS];exact he1⟩
      simp [Builtin.copy_,ht,run_underlying hu,hm,run_sizeOf' hi,hq,hf1,goInt,hr1]
 ·exact h5.elim

/-- What a builtin's call is. -/
def BuS (P:Program) (b:Builtin) (ts:Array TypeId) (l:List V) (S:Hs) (v:V) (S':Hs):Prop :=
 ∀ (ρ:Rho) (w:World) (l':List Value) (ty:TypeId) (cs:Array Bool),Sim ρ S w→VRs ρ l l'→∃ v' w' ρ',(builtin b ts ty cs ⟨l'⟩).run P w=.ok (.value v') w'∧VR ρ' v v'∧Sim ρ' S' w'∧Ext ρ S w ρ' S' w'
theorem VRs.one {ρ:Rho} {v:V} {l':List Value} (h:VRs ρ [v] l'):∃ v',l'=[v']∧VR ρ v v':=Am.arg1 h

theorem storeCells_row {ρ:Rho} {H:Hs} {w:World} (hs:Sim ρ H w) {id:Nat} {cs:List V} {e:TypeId} {fl:Fl} (hfl:fl ≠ .ro) (hg:H.get id=some (.cells cs e fl)) {l:Loc} (hl:ρ id=some l) {off:Nat} {vs:List V} {vs':List Value}
  (hv:VRs ρ vs vs') (ho:allOne vs=true) (hle:off+vs.length ≤ cs.length) :
  ∃ w',(storeCells ⟨l.blk,l.base+off,none⟩ vs').run P w=.ok () w'∧Sim ρ (H.put id (some (.cells (over vs off cs) e fl))) w'∧Ext ρ H w ρ (H.put id (some (.cells (over vs off cs) e fl))) w':=by
 obtain ⟨w',a,b,c⟩:=Sim.storeCells (P:=P) hfl hl (off:=off) hv (allOne_spec ho) (i:=0) hs hg (by omega)
 exact ⟨w',a,b,c⟩
theorem zeroCells_eq {z:Array Value} {n m:Nat} (h:z.size=m):Builtin.zeroCells z n=⟨repl z.toList n⟩:=by
 rw [← fill_zero z n m h];simp [Builtin.zeroCells,h]
theorem allOne_repl {z:List V} (h:allOne z=true):∀ n,allOne (repl z n)=true:=by
 have app:∀ {a b:List V},allOne a=true→allOne b=true→allOne (a ++ b)=true:=by
  intro a
  induction a with
  | nil=>intro b _ hb;exact hb
  | cons v a ih =>
    intro b ha hb
    have h':Bool.rec (motive:=fun _=>Bool) false (allOne a) v.one=true:=ha
    show Bool.rec (motive:=fun _=>Bool) false (allOne (a ++ b)) v.one=true
    cases hu:v.one with
    | false=>rw [hu] at h';cases h'
    | true=>rw [hu] at h';exact ih h' hb
 intro n
 induction n with
 | zero=>rfl
 | succ n ih=>exact app h ih
theorem bClear_spec {ts:Array TypeId} {v:V} {S:St} {k:V→St→Prop} (h:bClear P ts v S k):∃ r S',k r S'∧BuS P .clear ts [v] S.hs r S'.hs:=by
 obtain ⟨t,ht,h1⟩:=wj h
 obtain ⟨d,hd,h2⟩:=wj h1
 split at h2
 ·refine ⟨_,S,h2,fun ρ w l' ty cs hs hL=>?_⟩
  obtain ⟨v',rfl,hv⟩:=hL.one
  cases hv
  exact ⟨.tuple #[],w,ρ,by simp [builtin,Builtin.clear_,ht,run_underlying hd],.tup .nil,hs,Ext.refl _ _ _⟩
 ·refine ⟨_,S,h2,fun ρ w l' ty cs hs hL=>?_⟩
  obtain ⟨v',rfl,hv⟩:=hL.one
  cases hv
  exact ⟨.tuple #[],w,ρ,by simp [builtin,Builtin.clear_,ht,run_underlying hd],.tup .nil,hs,Ext.refl _ _ _⟩
 ·obtain ⟨es,n,hg,h3⟩:=mapK_spec h2
  obtain ⟨S',h4,hS⟩:=put_spec h3
  refine ⟨_,S',h4,fun ρ w l' ty cs hs hL=>?_⟩
  obtain ⟨v',rfl,hv⟩:=hL.one
  cases hv with
  | map hl =>
    rename_i l
    obtain ⟨es',hb,hE⟩:=hs.map hg hl
    have hrw:l.rw=true:=by
     obtain ⟨l',co,a,b,hr,_⟩:=hs.obj _ _ hg
     rw [hl] at a;cases a;exact hr
    have hp:=putObj_spec hs hg hl hrw hb (o':=.map [] n) (co':=.map #[] n) ⟨hrw,#[],rfl,trivial⟩
    refine ⟨.tuple #[],_,ρ,?_,.tup .nil,by rw [hS];exact hp.1,by rw [hS];exact hp.2⟩
    simp [builtin,Builtin.clear_,ht,run_underlying hd,run_getObj_map hb,run_setObj hb]
 ·rename_i id off n c es ex
  split at h2
  ·rename_i e
   obtain ⟨z,hz,h3⟩:=wj h2
   obtain ⟨i,zv,hi,hzv,hok,rfl⟩:=zeroP_spec hz
   obtain ⟨hzl,h4⟩:=vY h3
   obtain ⟨hpos,h5⟩:=vY h4
   obtain ⟨hone,h6⟩:=vY h5
   rw [len'_eq] at hzl
   have hzl:=Nat.eq_of_beq_eq_true hzl
   have hpos':0 < es:=by simpa using hpos
   cases n with
   | zero =>
     refine ⟨_,S,h6,fun ρ w l' ty cs hs hL=>?_⟩
     obtain ⟨v',rfl,hv⟩:=hL.one
     cases hv
     exact ⟨.tuple #[],w,ρ,by simp [builtin,Builtin.clear_,ht,run_underlying hd],.tup .nil,hs,Ext.refl _ _ _⟩
   | succ n =>
     obtain ⟨cs,e',fl,hg,h7⟩:=rowK_spec h6
     obtain ⟨hfl,h8⟩:=wrK_spec h7
     obtain ⟨hov,h9⟩:=over_spec h8
     obtain ⟨S',h10,hS⟩:=put_spec h9
     refine ⟨_,S',h10,fun ρ w l' ty _ hs hL=>?_⟩
     obtain ⟨v',rfl,hv⟩:=hL.one
     have hlen1:(repl (ofV zv).cells (n+1)).length=(n+1) * es:=by rw [repl_length,hzl]
     have hne:repl (ofV zv).cells (n+1) ≠ []:=fun hz=>by
      have:0 < (n+1) * es:=Nat.mul_pos (Nat.succ_pos n) hpos'
      rw [← hlen1,hz] at this
      exact absurd this (Nat.lt_irrefl _)
     rw [if_neg hne,Nat.add_zero] at hov
     cases hv with
     | slice _ _ _ _ _ off' cap' hl ho hc hxx hlen hr =>
       rename_i l
       have hoff:=ho (by omega)
       subst hoff
       have hzr:=(VR.ofV (ρ:=ρ) hok).cells
       obtain ⟨w',r1,r2,r3⟩:=storeCells_row (P:=P) hs hfl hg hl (hzr.repl (n+1)) (allOne_repl hone _) hov
       refine ⟨.tuple #[],w',ρ,?_,.tup .nil,by rw [hS];exact r2,by rw [hS];exact r3⟩
       have hz2:=zeroCells_eq (z:=zv.cells) (n:=n+1) rfl
       simp [builtin,Builtin.clear_,ht,run_underlying hd,run_zeroValue' hi hzv,hz2,r1]
  ·exact h2.elim
 ·exact h2.elim

theorem bMin_spec {ts:Array TypeId} {v u:V} {k:V→Prop} (h:bMin v u k):∃ r,k r∧∀ H,BuS P .min ts [v,u] H r H:=by
 obtain ⟨a,x,rfl,h1⟩:=vInt_spec h
 obtain ⟨b,y,rfl,h2⟩:=vInt_spec h1
 have fin:∀ H,BuS P .min ts [.int a x,.int b y] H (.int a (if y < x then y else x)) H:=fun H ρ w l' ty cs hs hL=>by
  obtain ⟨v',u',rfl,hv,hu⟩:=Am.arg2 hL
  cases hv;cases hu
  exact ⟨_,w,ρ,by simp [builtin,Builtin.min_,Builtin.min2],.int _ _,hs,Ext.refl _ _ _⟩
 rw [ltI_eq] at h2
 by_cases hlt:y < x
 ·rw [decide_eq_true hlt] at h2
  rw [if_pos hlt] at fin
  exact ⟨_,h2,fin⟩
 ·rw [decide_eq_false hlt] at h2
  rw [if_neg hlt] at fin
  exact ⟨_,h2,fin⟩
theorem bMax_spec {ts:Array TypeId} {v u:V} {k:V→Prop} (h:bMax v u k):∃ r,k r∧∀ H,BuS P .max ts [v,u] H r H:=by
 obtain ⟨a,x,rfl,h1⟩:=vInt_spec h
 obtain ⟨b,y,rfl,h2⟩:=vInt_spec h1
 have fin:∀ H,BuS P .max ts [.int a x,.int b y] H (.int a (if y > x then y else x)) H:=fun H ρ w l' ty cs hs hL=>by
  obtain ⟨v',u',rfl,hv,hu⟩:=Am.arg2 hL
  cases hv;cases hu
  exact ⟨_,w,ρ,by simp [builtin,Builtin.max_,Builtin.max2],.int _ _,hs,Ext.refl _ _ _⟩
 rw [ltI_eq] at h2
 by_cases hlt:x < y
 ·rw [decide_eq_true hlt] at h2
  rw [if_pos hlt] at fin
  exact ⟨_,h2,fin⟩
 ·rw [decide_eq_false hlt] at h2
  rw [if_neg hlt] at fin
  exact ⟨_,h2,fin⟩
theorem bSliceData_spec {ts:Array TypeId} {v:V} {k:V→Prop} (h:bSliceData v k):∃ r,k r∧∀ H,BuS P .unsafeSliceData ts [v] H r H:=by
 unfold bSliceData at h
 split at h
 ·refine ⟨_,h,fun H ρ w l' ty cs hs hL=>?_⟩
  obtain ⟨v',rfl,hv⟩:=hL.one
  cases hv
  exact ⟨_,w,ρ,by simp only [builtin,Sem.run_bind];rw [Lib.run_unsafeSliceData_nil w ts ty 0 0];rfl,.nilPtr,hs,Ext.refl _ _ _⟩
 ·rename_i id off n c es ex
  obtain ⟨hc0,h1⟩:=vY h
  have hc0':0 < c:=by simpa using hc0
  refine ⟨_,h1,fun H ρ w l' ty cs hs hL=>?_⟩
  obtain ⟨v',rfl,hv⟩:=hL.one
  cases hv with
  | slice _ _ _ _ _ off' cap' hl ho hc hxx hlen hr =>
    have hoff:=ho hc0'
    subst hoff
    have hne:cap' ≠ 0:=by omega
    exact ⟨_,w,ρ,by simp only [builtin,Sem.run_bind];rw [Lib.run_unsafeSliceData_row w ts ty _ _ _ hne];rfl,.ptr off' hl,hs,Ext.refl _ _ _⟩
 ·exact h.elim

theorem bytesK_spec {ρ:Rho}:∀ {cs:List V} {k:List UInt8→Prop},bytesK cs k→∃ s,k s∧cs=s.map fun b=>.int .u8 b.toNat
 | [],k,h=>⟨[],h,rfl⟩
 | v :: cs,k,h=>by
   change (match (generalizing:=false) v with
    | .int .u8 (.ofNat n)=>ifK (Nat.blt n 256) (bytesK cs fun r=>k (UInt8.ofNat n :: r))
    | _=>False) at h
   split at h
   ·rename_i n
    obtain ⟨hn,h1⟩:=vY h
    obtain ⟨s,h2,h3⟩:=bytesK_spec (ρ:=ρ) h1
    refine ⟨_,h2,?_⟩
    have hn':n < 256:=by simpa using hn
    have:(UInt8.ofNat n).toNat=n:=by simp [Nat.mod_eq_of_lt hn']
    simp [h3,this]
   ·exact h.elim
theorem ptrP_spec {t e:TypeId} (h:ptrP P t=some e):P.underlying t=some (.pointer e):=by
 unfold ptrP at h;split at h
 ·cases h;assumption
 ·cases h
theorem liesAt_row {e:TypeId} (hc:P.cellsOf e=1) (count off n:Nat) (hn:off+n ≤ count):liesAt P P.depth e count off e n=true:=by
 have hd:P.depth=(2 * (P.types.size+Made.depth)+1)+1:=rfl
 rw [hd]
 simp only [liesAt,Bool.or_eq_true]
 left
 rw [hd]
 simp [rowAt,hc,hn,sameLayout,Nat.mod_one]
theorem VRs.of_bytes {ρ:Rho}:∀ {s:List UInt8} {l':List Value},VRs ρ (s.map fun b=>.int .u8 b.toNat) l'→l'=s.map fun b=>Value.int .u8 b.toNat
 | [],_,h=>by cases h;rfl
 | b :: s,_,h=>by
   cases h with
   | cons hv hs =>
     cases hv
     rw [VRs.of_bytes hs];rfl
theorem unsafeString_eq (ts:Array TypeId) (ty:TypeId) (p:Option Addr) (len_:Value):Builtin.unsafeString_ ts ty #[.pointer p,len_]=(do
  let n ← asInt len_
  let some pt:=ts[0]?|stuck "unsafe.String: no argument types"
  if n < 0 then runtimePanic (.error "unsafe.String: len out of range")
  if n > IntKind.i64.max then unsupported (.unsafePointer "String: a length above the largest int")
  match p with
  | none =>
    if n=0 then pure (.string .empty)
    else runtimePanic (.error "unsafe.String: ptr is nil and len is not zero")
  | some a =>
    if n=0 then pure (.string .empty)
    else if ← variablesAt a (← elemOf pt) n.toNat then do
     let s ← loadBytes a .empty n.toNat
     freeze a n.toNat
     pure (.string s)
    else unsupported (.unsafePointer "String: not so many bytes at ptr")):=rfl
theorem bString_spec {ts:Array TypeId} {p n:V} {S:St} {k:V→St→Prop} (h:bString P ts p n S k):∃ r S',k r S'∧BuS P .unsafeString ts [p,n] S.hs r S'.hs:=by
 obtain ⟨a,n,rfl,h1⟩:=vNat_spec h
 obtain ⟨hmax,h2⟩:=vY h1
 obtain ⟨t,ht,h3⟩:=wj h2
 obtain ⟨e,he,h4⟩:=wj h3
 have hu:=ptrP_spec he
 have hmax':n ≤ 9223372036854775807:=Nat.le_of_ble_eq_true hmax
 have hnm:¬ (9223372036854775807 < (n:Int)):=by omega
 have hnn:¬ ((n:Int) < 0):=by omega
 have hm:IntKind.i64.max=9223372036854775807:=rfl
 split at h4
 ·cases n with
  | succ n=>exact h4.elim
  | zero =>
    refine ⟨_,S,h4,fun ρ w l' ty cs hs hL=>?_⟩
    obtain ⟨v',u',rfl,hv,hu'⟩:=Am.arg2 hL
    cases hv;cases hu'
    refine ⟨.string .empty,w,ρ,?_,.str [],hs,Ext.refl _ _ _⟩
    simp [builtin,unsafeString_eq,asInt,asIntOf,ht,hm]
 ·rename_i id off
  cases n with
  | zero =>
    refine ⟨_,S,h4,fun ρ w l' ty cs hs hL=>?_⟩
    obtain ⟨v',u',rfl,hv,hu'⟩:=Am.arg2 hL
    cases hv;cases hu'
    refine ⟨.string .empty,w,ρ,?_,.str [],hs,Ext.refl _ _ _⟩
    simp [builtin,unsafeString_eq,asInt,asIntOf,ht,hm]
  | succ n =>
    obtain ⟨cs,e',fl,hg,h5⟩:=rowK_spec h4
    obtain ⟨hee,h6⟩:=vY h5
    have hee:=Nat.eq_of_beq_eq_true hee
    subst hee
    obtain ⟨hce,h7⟩:=vY h6
    have hce:=Nat.eq_of_beq_eq_true hce
    obtain ⟨hfl,h8⟩:=wrK_spec h7
    obtain ⟨h9,h10⟩:=dropK_spec h8
    obtain ⟨h11,h12⟩:=takeK_spec h10
    obtain ⟨s,h13,hs'⟩:=bytesK_spec (ρ:=fun _=>none) h12
    obtain ⟨S',h14,hS⟩:=put_spec h13
    refine ⟨_,S',h14,fun ρ w l' ty _ hs hL=>?_⟩
    obtain ⟨v',u',rfl,hv,hu'⟩:=Am.arg2 hL
    cases hu'
    cases hv with
    | ptr _ hl =>
      rename_i l
      obtain ⟨l',co,x1,x2,cc,fr,rfl,hsz,hle,hcells,hfr,_⟩:=hs.obj id _ hg
      rw [hl] at x1;cases x1
      obtain ⟨hrw,hunf⟩:=hfr hfl
      obtain ⟨c',y1,y2⟩:=hs.loadCells (P:=P) hg hl (off:=off) (n:=n+1) (by simp at h11;omega)
      rw [hs'] at y2
      have hc':=y2.of_bytes
      have hslen:s.length=n+1:=by
       have h1:=congrArg List.length hs'
       rw [List.length_take,List.length_map] at h1
       omega
      have hcell:∀ j x,s[j]?=some x→w.cell? ((⟨l.blk,l.base+off,none⟩:Addr).add j)=some (.int .u8 x.toNat):=fun j x hj=>by
       rw [addr_add]
       have hjl:j < n+1:=by
        rcases Nat.lt_or_ge j s.length with h'|h'
        ·omega
        ·simp [List.getElem?_eq_none h'] at hj
       have h2:cs[off+j]?=some (.int .u8 x.toNat):=by
        have h3:((cs.drop off).take (n+1))[j]?=some (.int .u8 x.toNat):=by rw [hs'];simp [hj]
        rw [List.getElem?_take,if_pos hjl,List.getElem?_drop] at h3
        exact h3
       obtain ⟨v',z1,z2⟩:=hs.cell hg hl h2
       cases z2
       rw [Nat.add_assoc];exact z1
      have hlb:=Lib.run_loadBytes (P:=P) w s ⟨l.blk,l.base+off,none⟩ .empty hcell
      rw [hslen] at hlb
      have hsh:w.shape? l.blk=some (e,cc.size):=by simp [World.shape?,x2]
      have hva:(variablesAt ⟨l.blk,l.base+off,none⟩ e (n+1)).run P w=.ok true w:=by
       have:liesAt P P.depth e (cc.size / P.cellsOf e) (l.base+off) e (n+1)=true:=by
        rw [hce,Nat.div_one]
        have hce':P.cellsOf e=1:=hce
        have:=h11
        simp at this
        exact liesAt_row hce' _ _ _ (by omega)
       simp [variablesAt,hsh,this]
      have hfz:(w.freeze ⟨l.blk,l.base+off,none⟩ (n+1)).heap[l.blk]?=some (.cells cc e (if fr.1 == fr.2 then (l.base+off,l.base+off+(n+1)) else (min fr.1 (l.base+off),max fr.2 (l.base+off+(n+1))))):=by
       simp [World.freeze,Array.getElem?_modify,x2]
      obtain ⟨k1,k2⟩:=hs.put_cells hg hl hrw (cs':=cs) (fl':=.ro) (w':=w.freeze ⟨l.blk,l.base+off,none⟩ (n+1)) hfz (fun b hb=>by
        simp only [World.freeze,Nat.succ_ne_zero,if_false]
        rw [Array.getElem?_modify,if_neg (Ne.symm hb)]) (by simp [World.freeze]) (by simp [World.freeze]) (by simp [World.freeze]) (by simp [World.freeze])
        ⟨cc,_,rfl,hsz,hle,hcells,fun h=>absurd rfl h,fun h=>by cases h⟩
      refine ⟨_,_,ρ,?_,.str s,by rw [hS];exact k1,by rw [hS];exact k2⟩
      have e1:((n:Int)+1).toNat=n+1:=by omega
      have e2:¬ (9223372036854775807 < ((n:Int)+1)):=by omega
      have e3:¬ (((n:Int)+1) < 0):=by omega
      have e4:¬ (((n:Int)+1)=0):=by omega
      have e5:(⟨(ByteArray.empty).data ++ s.toArray⟩:ByteArray)=⟨⟨s⟩⟩:=by
       apply ByteArray.ext
       simp
      rw [e5] at hlb
      simp [builtin,unsafeString_eq,asInt,asIntOf,ht,hm,e1,e2,e3,e4,elemOf,run_underlying hu,hva,hlb]
 ·exact h4.elim

theorem arg1K_spec {l:List V} {k:V→Prop} (h:arg1K l k):∃ v,l=[v]∧k v:=by
 unfold arg1K at h;split at h
 ·exact ⟨_,rfl,h⟩
 ·exact h.elim
theorem arg2K_spec {l:List V} {k:V→V→Prop} (h:arg2K l k):∃ v u,l=[v,u]∧k v u:=by
 unfold arg2K at h;split at h
 ·exact ⟨_,_,rfl,h⟩
 ·exact h.elim
theorem Ap.bu {b:Builtin} {ts:Array TypeId} {f:TypeId→World→Value→Value→Result Value} {s x v:V} {H H':Hs} (h:∀ ty,Ap P (f ty) H s x v H')
  (hb:∀ ty w s' x' cs,(builtin b ts ty cs #[s',x']).run P w=(f ty w s' x').andThen fun v w=>.ok (.value v) w):BuS P b ts [s,x] H v H':=fun ρ w l' ty cs hs hL=>by
 obtain ⟨v',u',rfl,hv,hu⟩:=Am.arg2 hL
 obtain ⟨r,w',ρ',h1,h2,h3,h4⟩:=h ty ρ w v' u' hs hv hu
 exact ⟨r,w',ρ',by show (builtin b ts ty cs #[v',u']).run P w=_;rw [hb,h1];rfl,h2,h3,h4⟩
theorem builtinK_spec {b:Builtin} {ts:Array TypeId} {l:List V} {S:St} {k:V→St→Prop} (h:builtinK P b ts l S k) :
  ∃ v S',k v S'∧BuS P b ts l S.hs v S'.hs:=by
 unfold builtinK at h
 split at h
 ·obtain ⟨s,x,rfl,h1⟩:=arg2K_spec h
  obtain ⟨v,S',h2,h3⟩:=bAppend_spec h1
  exact ⟨v,S',h2,Ap.bu h3 fun ty w s' x' cs=>by simp [builtin,Sem.run_bind]⟩
 ·obtain ⟨s,x,rfl,h1⟩:=arg2K_spec h
  obtain ⟨v,S',h2,h3⟩:=bCopy_spec h1
  exact ⟨v,S',h2,Ap.bu h3 fun ty w s' x' cs=>by simp [builtin,Sem.run_bind]⟩
 ·obtain ⟨s,rfl,h1⟩:=arg1K_spec h
  obtain ⟨t,ht,h2⟩:=wj h1
  obtain ⟨r,h3,h4⟩:=bLen_spec h2
  refine ⟨r,S,h3,fun ρ w l' ty cs hs hL=>?_⟩
  obtain ⟨v',rfl,hv⟩:=hL.one
  obtain ⟨r',h5,h6⟩:=h4 ρ w v' ts ty ht hs hv
  exact ⟨r',w,ρ,by simp [builtin,Sem.run_bind,h5],h6,hs,Ext.refl _ _ _⟩
 ·obtain ⟨s,rfl,h1⟩:=arg1K_spec h
  obtain ⟨t,ht,h2⟩:=wj h1
  obtain ⟨r,h3,h4⟩:=bCap_spec h2
  refine ⟨r,S,h3,fun ρ w l' ty cs hs hL=>?_⟩
  obtain ⟨v',rfl,hv⟩:=hL.one
  obtain ⟨r',h5,h6⟩:=h4 ρ w v' ts ty ht hv
  exact ⟨r',w,ρ,by simp [builtin,Sem.run_bind,h5],h6,hs,Ext.refl _ _ _⟩
 ·obtain ⟨s,x,rfl,h1⟩:=arg2K_spec h
  obtain ⟨r,h2,h3⟩:=bMin_spec (P:=P) (ts:=ts) h1
  exact ⟨r,S,h2,h3 _⟩
 ·obtain ⟨s,x,rfl,h1⟩:=arg2K_spec h
  obtain ⟨r,h2,h3⟩:=bMax_spec (P:=P) (ts:=ts) h1
  exact ⟨r,S,h2,h3 _⟩
 ·obtain ⟨s,rfl,h1⟩:=arg1K_spec h
  exact bClear_spec h1
 ·obtain ⟨s,rfl,h1⟩:=arg1K_spec h
  obtain ⟨r,h2,h3⟩:=bSliceData_spec (P:=P) (ts:=ts) h1
  exact ⟨r,S,h2,h3 _⟩
 ·obtain ⟨s,x,rfl,h1⟩:=arg2K_spec h
  exact bString_spec h1
 ·exact h.elim
end Go.Am
/- The evaluator: functions without a body. Definitions alone. -/
namespace Go.Am

noncomputable def idxByte (n:Nat) (s:List UInt8):Nat→Option Nat :=
 List.rec (motive:=fun _=>Nat→Option Nat) (fun _=>none) (fun x _ ih i=>Bool.rec (ih (Nat.succ i)) (some i) (Nat.beq x.toNat n)) s
noncomputable def cntByte (n:Nat) (s:List UInt8):Nat→Nat :=
 List.rec (motive:=fun _=>Nat→Nat) (fun c=>c) (fun x _ ih c=>Bool.rec (ih c) (ih (Nat.succ c)) (Nat.beq x.toNat n)) s
/-- A byte's number. -/
noncomputable def vByte (v:V) (k:Nat→Prop):Prop:=match v with|.int .u8 (.ofNat n)=>ifK (Nat.blt n 256) (k n)|_=>False
/-- The functions without a body that the evaluator knows: which function, which entry, which type it makes. -/
abbrev Exts:=List (FuncId × Nat × TypeId)
noncomputable def extK (X:Exts) (f:FuncId):Option (Nat × TypeId) :=
 List.rec (motive:=fun _=>Option (Nat × TypeId)) none (fun q _ ih=>Bool.rec ih (some q.2) (Nat.beq q.1 f)) X
noncomputable def externK (P:Program) (X:Exts) (f:FuncId) (l:List V) (S:St) (k:V→St→Prop):Prop:=Option.casesOn (extK X f) False fun q=>match q.1 with
 | 1=>arg2K l fun s c=>vStr s fun s=>vByte c fun c=>Option.casesOn (idxByte c s 0) (k (.int .i64 (Int.negSucc 0)) S) fun n=>fN n fun n=>k (.int .i64 (Int.ofNat n)) S
 | 2=>arg2K l fun a b=>vStr a fun a=>vStr b fun b=>Bool.rec (Bool.rec (k (.int .i64 1) S) (k (.int .i64 0) S) (eqS a b)) (k (.int .i64 (Int.negSucc 0)) S) (ltS a b)
 | 3=>arg1K l fun v=>k v S
 | 4=>arg1K l fun v=>match v with|.float .f64 b=>k (.int .u64 (Int.ofNat b)) S|_=>False
 | 5=>arg2K l fun s c=>vStr s fun s=>vByte c fun c=>fN (cntByte c s 0) fun n=>k (.int .i64 (Int.ofNat n)) S
 | 6=>arg1K l fun v=>match v with
   | .int .i64 (.ofNat n)=>ifK (Nat.ble n 281474976710656) (Option.casesOn (elemP P q.2) False fun e=>newK (.cells (List.replicate n .any) e .rw) S fun id S=>k (.slice id 0 n n 1 false) S)
   | _=>False
 | _=>False
def extOf (n:Nat) (t:TypeId):Array Value→Sem Value:=match n with
 | 1=>Extern.BytealgIndexByte.indexByte
 | 2=>Extern.BytealgCompare.compare
 | 3=>Extern.AbiNoEscape.same
 | 4=>Extern.MathFloatBits.float64bits
 | 5=>Extern.BytealgCount.count
 | 6=>Extern.BytealgMakeNoZero.makeNoZero #[] #[t]
 | _=>fun _=>stuck ""
/-- That a function is the entry. -/
def ExtIs (P:Program) (q:FuncId × Nat × TypeId):Prop:=∃ fn,P.funcs[q.1]?=some fn∧(fn.name == "runtime.NumGoroutine")=false∧fn.body.isNone=true∧Extern.findNext fn=none∧Extern.find fn=some (extOf q.2.1 q.2.2)
def ExtsOk (P:Program) (X:Exts):Prop:=∀ q ∈ X,ExtIs P q
end Go.Am
