/- Part 12 of the proof that BodyOwn returns true, and leaves its arguments as they were, for every input, over a start where the listed variables hold what the program lays: the statement Rows.BodyOwnCardSaid. -/
import Derived.Test.YtnfhhddmeikbpaaGreatDoorChecked
import Derived.Shelf.SlSortCmp.WholeK
import Derived.Shelf.SlSortCmp.NoneTotal
import Derived.Ground.SlsfProg
import Derived.Test.YtnfhhddmeikbpaaGreatDoorWAi
import Derived.Test.YtnfhhddmeikbpaaGreatDoorWAk
set_option linter.unusedVariables false
set_option linter.unusedSimpArgs false
/- slices.SortFunc on labels in the program. -/
namespace Go.Proofs
open Go.Shelf Go.RowKit Go.Lib Go.Sort
def Tryz.sort29_ren:Go.Shelf.Ren:=⟨fun|6=>29|15=>57|14=>56|28=>86|29=>87|20=>78|21=>79|22=>80|23=>81|24=>82|25=>83|26=>84|27=>85|46=>110|47=>111|48=>112|49=>113|50=>114|57=>148|n=>n,fun|22=>27|24=>40|25=>79|3=>3|39=>118|0=>0|53=>164|55=>23|4=>4|46=>158|45=>157|50=>112|5=>5|9=>9|66=>207|70=>211|76=>243|77=>244|n=>n,fun|n=>n⟩
theorem Tryz.sort29:Go.Proofs.SlLaysF0.n6 Tryz.prog Tryz.sort29_ren:={
 mixed:=by kernel_rfl
 f6:=⟨Tryz.f29.name,by decide,Tryz.func29.trans (congrArg some (by kernel_rfl))⟩
 f14:=⟨Tryz.f56.name,by decide,Tryz.func56.trans (congrArg some (by kernel_rfl))⟩
 f15:=Tryz.func57.trans (congrArg some (by kernel_rfl))
 f20:=⟨Tryz.f78.name,by decide,Tryz.func78.trans (congrArg some (by kernel_rfl))⟩
 f21:=⟨Tryz.f79.name,by decide,Tryz.func79.trans (congrArg some (by kernel_rfl))⟩
 f22:=⟨Tryz.f80.name,by decide,Tryz.func80.trans (congrArg some (by kernel_rfl))⟩
 f23:=⟨Tryz.f81.name,by decide,Tryz.func81.trans (congrArg some (by kernel_rfl))⟩
 f24:=⟨Tryz.f82.name,by decide,Tryz.func82.trans (congrArg some (by kernel_rfl))⟩
 f25:=⟨Tryz.f83.name,by decide,Tryz.func83.trans (congrArg some (by kernel_rfl))⟩
 f26:=⟨Tryz.f84.name,by decide,Tryz.func84.trans (congrArg some (by kernel_rfl))⟩
 f27:=⟨Tryz.f85.name,by decide,Tryz.func85.trans (congrArg some (by kernel_rfl))⟩
 f28:=Tryz.func86.trans (congrArg some (by kernel_rfl))
 f29:=Tryz.func87.trans (congrArg some (by kernel_rfl))
 f46:=⟨Tryz.f110.name,by decide,Tryz.func110.trans (congrArg some (by kernel_rfl))⟩
 f47:=Tryz.func111.trans (congrArg some (by kernel_rfl))
 f48:=Tryz.func112.trans (congrArg some (by kernel_rfl))
 f49:=⟨Tryz.f113.name,by decide,Tryz.func113.trans (congrArg some (by kernel_rfl))⟩
 f50:=⟨Tryz.f114.name,by decide,Tryz.func114.trans (congrArg some (by kernel_rfl))⟩
 f57:=⟨Tryz.f148.name,by decide,Tryz.func148.trans (congrArg some (by kernel_rfl))⟩
 t0:=Tryz.underlying0
 a0:=Tryz.isAgg0
 z0:=Tryz.sizeOf0
 v0:=Tryz.zeroValue0
 t3:=Tryz.underlying3
 a3:=Tryz.isAgg3
 z3:=Tryz.sizeOf3
 v3:=Tryz.zeroValue3
 t4:=Tryz.underlying4
 a4:=Tryz.isAgg4
 z4:=Tryz.sizeOf4
 v4:=Tryz.zeroValue4
 t5:=Tryz.underlying5
 a5:=Tryz.isAgg5
 z5:=Tryz.sizeOf5
 v5:=Tryz.zeroValue5
 t9:=Tryz.underlying9
 a9:=Tryz.isAgg9
 z9:=Tryz.sizeOf9
 v9:=Tryz.zeroValue9
 t22:=Tryz.underlying27
 a22:=Tryz.isAgg27
 z22:=Tryz.sizeOf27
 v22:=Tryz.zeroValue27
 t25:=Tryz.underlying79
 a25:=Tryz.isAgg79
 z25:=Tryz.sizeOf79
 v25:=Tryz.zeroValue79
 t39:=Tryz.underlying118
 a39:=Tryz.isAgg118
 z39:=Tryz.sizeOf118
 v39:=Tryz.zeroValue118
 t45:=Tryz.underlying157
 a45:=Tryz.isAgg157
 z45:=Tryz.sizeOf157
 v45:=Tryz.zeroValue157
 t46:=Tryz.underlying158
 a46:=Tryz.isAgg158
 z46:=Tryz.sizeOf158
 v46:=Tryz.zeroValue158
 t50:=Tryz.underlying112
 a50:=Tryz.isAgg112
 z50:=Tryz.sizeOf112
 v50:=Tryz.zeroValue112
 t53:=Tryz.underlying164
 a53:=Tryz.isAgg164
 z53:=Tryz.sizeOf164
 v53:=Tryz.zeroValue164
 t55:=Tryz.underlying23
 a55:=Tryz.isAgg23
 z55:=Tryz.sizeOf23
 v55:=Tryz.zeroValue23
 t66:=Tryz.underlying207
 a66:=Tryz.isAgg207
 z66:=Tryz.sizeOf207
 v66:=Tryz.zeroValue207
 t70:=Tryz.underlying211
 a70:=Tryz.isAgg211
 z70:=Tryz.sizeOf211
 v70:=Tryz.zeroValue211
 t76:=Tryz.underlying243
 a76:=Tryz.isAgg243
 z76:=Tryz.sizeOf243
 v76:=Tryz.zeroValue243
 t77:=Tryz.underlying244
 a77:=Tryz.isAgg244
 z77:=Tryz.sizeOf244
 v77:=Tryz.zeroValue244 }

theorem Tryz.agg40:∀ w,(isAgg (Tryz.sort29_ren.t 24)).run Tryz.prog w=.ok true w:=fun w=>Tryz.isAgg40 w
theorem Tryz.size40:∀ w,(Go.sizeOf (Tryz.sort29_ren.t 24)).run Tryz.prog w=.ok 2 w:=fun w=>Tryz.sizeOf40 w
open Go.Am
theorem Am.enc1:∀ (x:Lab),∀ v ∈ encL x,v.oneCell'=true:=fun x v hv=>by
 simp [encL] at hv
 rcases hv with rfl|rfl <;> rfl
theorem Am.enters30:∀ args w,(callFunc 30 args).run Tryz.prog w=.ok (.enter 30 args) w:=enters_of Tryz.func30 (by kernel_rfl) rfl
theorem Am.sort29 {cf:Lab→Lab→Int} (hO:SWO (ltOf cf)):SortC Tryz.prog 29 30 cf:=fun blk off cap d w hcmp hH hblk hsz =>
 AnyQ.slices_SortFunc Tryz.sort29 2 Tryz.agg40 Tryz.size40 encL (fun _=>rfl) Am.enc1 cf hO 30 #[] blk off cap d w Am.enters30 hcmp hH hblk hsz
set_option maxHeartbeats 2000000 in
set_option maxRecDepth 100000 in
theorem Am.sort61 {cf:Lab→Lab→Int} (hO:SWO (ltOf cf)):SortC Tryz.prog 61 30 cf:=fun blk off cap d w hcmp hH hblk hsz=>by
 have L:=Tryz.sort29
 have hlim:Lib.bitLen d.size < 4611686018427387904:=Nat.lt_of_le_of_lt (Lib.bitLen_le d.size 62 (by omega) (by omega)) (by omega)
 have hp:=AnyQ.pdqsortCmpFunc_all (P:=Tryz.prog) (ρ:=Tryz.sort29_ren) { L with } 2 Tryz.agg40 Tryz.size40 encL cf 30 #[] hO blk off cap d w Am.enters30 hcmp ⟨fun _=>rfl,Am.enc1,hH,hblk⟩ (d.size+1) 0 d.size (Lib.bitLen d.size) d w (by omega) rfl (SWK.start hH) (Nat.zero_le _) (Nat.le_refl _) hsz hlim (Or.inl rfl)
 have hl:Calls Tryz.prog 57 #[.int .u64 (d.size:Int)] w fun e w'=>e=.returned (.int .i64 (Lib.bitLen d.size:Nat))∧w'=w:=by
  have h:=Any.bits_Len (SlLaysF0.n15.bits (P:=Tryz.prog) (ρ:=Tryz.sort29_ren) { L with }) (d.size:Int) w (by omega) (by omega)
  rwa [Int.toNat_natCast] at h
 change Calls Tryz.prog 56 _ _ _ at hp
 have wr:IntKind.u64.wrap (d.size:Int)=d.size:=by simp [IntKind.wrap,IntKind.bits,IntKind.signed];omega
 have hsorts:=pdq_sorts (ltOf cf) hO d 0 d.size (Lib.bitLen d.size) true true (Nat.zero_le _) (Nat.le_refl _) (Or.inl rfl)
 clear hH hcmp L
 generalize pdq (ltOf cf) d 0 d.size (Lib.bitLen d.size) true true=rr at hp hsorts
 generalize Lib.bitLen d.size=bl at hp hl hlim
 go_enter Tryz.func61,Tryz.ntmps61
 go_wp2_with (first|(go_at_call 57;refine hl.mono ?_;rintro e w' ⟨rfl,rfl⟩)|(go_at_call 56;refine hp.mono ?_;rintro e w' ⟨rfl,n,os,rfl⟩))
 go_end0
 exact ⟨rfl,rr,n,os,hsorts.1,hsorts.2,rfl⟩
theorem Am.none29 (w:World):Calls Tryz.prog 29 #[.slice none 0 0,.func (.func 30) #[] #[]] w fun e w'=>e=.returned (.tuple #[])∧w'=w :=
 AnyF.slices_SortFunc_none Tryz.sort29 none 0 (.func (.func 30) #[] #[]) w
set_option maxHeartbeats 2000000 in
set_option maxRecDepth 100000 in
theorem Am.none61 (w:World):Calls Tryz.prog 61 #[.slice none 0 0,.func (.func 30) #[] #[]] w fun e w'=>e=.returned (.tuple #[])∧w'=w:=by
 have L:=Tryz.sort29
 have hp:=fun lim W=>AnyF.pdqsortCmpFunc_none (P:=Tryz.prog) (ρ:=Tryz.sort29_ren) { L with } none 0 lim (.func (.func 30) #[] #[]) W
 have hl:∀ W,Calls Tryz.prog 57 #[.int .u64 0] W fun e w'=>e=.returned (.int .i64 (Lib.bitLen 0:Nat))∧w'=W:=fun W=>by
  have h:=Any.bits_Len (SlLaysF0.n15.bits (P:=Tryz.prog) (ρ:=Tryz.sort29_ren) { L with }) 0 W (by omega) (by omega)
  exact h
 change ∀ lim W,Calls Tryz.prog 56 _ _ _ at hp
 clear L
 generalize (Lib.bitLen 0:Nat)=bl at hl
 go_enter Tryz.func61,Tryz.ntmps61
 go_wp2_with (first|(go_at_call 57;refine (hl _).mono ?_;rintro e w' ⟨rfl,rfl⟩)|(go_at_call 56;refine (hp _ _).mono ?_;rintro e w' ⟨rfl,rfl⟩))
 go_end0
 exact ⟨rfl,rfl⟩
end Go.Proofs
namespace Go.Am
open Go.Proofs Go.Sort
noncomputable def cfL (x y:Lab):Int:=cmpS x.1 y.1
theorem cfL_lt (x y:Lab):ltOf cfL x y=ltS x.1 y.1:=by
 unfold ltOf cfL cmpS
 cases h:ltS x.1 y.1 with
 | true=>simp
 | false =>
   simp
   split <;> simp
theorem cfL_swo:SWO (ltOf cfL) where
 irrefl x:=by rw [cfL_lt];exact ltS_irrefl _
 trans x y z h1 h2:=by rw [cfL_lt] at *;exact ltS_trans h1 h2
 ntrans x y z h1 h2:=by
  rw [cfL_lt] at *
  cases h:ltS x.1 z.1 with
  | false=>rfl
  | true =>
    cases h3:ltS y.1 x.1 with
    | true=>rw [ltS_trans h3 h] at h2;cases h2
    | false=>rw [ltS_total h1 h3,h2] at h;cases h
theorem sort29_run {l:List Lab} (hp:l.Pairwise fun p q=>p.1 ≠ q.1) (hne:l ≠ []) (hlen:l.length ≤ 4096) {S:St} {id cap:Nat} {ex:Bool} {e:TypeId} {fl:Fl} (hfl:fl ≠ .ro) (hg:S.hs.get id=some (.cells (cellsOf l) e fl)) {k:V→St→Prop}
  (hk:putK id (some (.cells (cellsOf (sortL l [])) e fl)) S fun S'=>k (.tup []) S'):RC Tryz.prog 29 [.slice id 0 l.length cap 2 ex,.func (.func 30) [] []] S k :=
 sort_ok (Am.sort29 cfL_swo) (fn:=Tryz.f30) (fg:=Tryz.f29) (by kernel_rfl) (by decide) rfl (by kernel_rfl) (by decide) rfl (fun x y n=>byName_run x y rfl) cfL_lt hp hne (by omega) hfl hg hk
theorem sort61_run {l:List Lab} (hp:l.Pairwise fun p q=>p.1 ≠ q.1) (hne:l ≠ []) (hlen:l.length ≤ 4096) {S:St} {id cap:Nat} {ex:Bool} {e:TypeId} {fl:Fl} (hfl:fl ≠ .ro) (hg:S.hs.get id=some (.cells (cellsOf l) e fl)) {k:V→St→Prop}
  (hk:putK id (some (.cells (cellsOf (sortL l [])) e fl)) S fun S'=>k (.tup []) S'):RC Tryz.prog 61 [.slice id 0 l.length cap 2 ex,.func (.func 30) [] []] S k :=
 sort_ok (Am.sort61 cfL_swo) (fn:=Tryz.f30) (fg:=Tryz.f61) (by kernel_rfl) (by decide) rfl (by kernel_rfl) (by decide) rfl (fun x y n=>byName_run x y rfl) cfL_lt hp hne (by omega) hfl hg hk
theorem sortNone_ok {P:Program} {g:FuncId} {fg:Func} {bodyg:Code} (hS:∀ w,Calls P g #[.slice none 0 0,.func (.func 30) #[] #[]] w fun e w'=>e=.returned (.tuple #[])∧w'=w) (hfg:P.funcs[g]?=some fg) (h0g:¬ fg.name = "runtime.NumGoroutine") (hbg:fg.body=some bodyg)
  {S:St} {k:V→St→Prop} (hk:k (.tup []) S):RC P g [.nilSlice,.func (.func 30) [] []] S k:=by
 refine .mk (.tup []) S (fun ρ w l' hgl hs hl=>?_) hk
 cases hl with
 | cons h1 hl =>
 cases hl with
 | cons h2 hl =>
 cases hl
 cases h2 with
 | func _ ha hb2 =>
 cases ha
 cases hb2
 cases h1
 have hcall:(callFunc g ⟨[Value.slice none 0 0,.func (.func 30) ⟨[]⟩ ⟨[]⟩]⟩).run P w=.ok (.enter g ⟨[Value.slice none 0 0,.func (.func 30) ⟨[]⟩ ⟨[]⟩]⟩) w:=by
  simp [callFunc,hfg,h0g,hbg]
 rw [hcall]
 refine callsIn_any.2 ((hS w).mono fun e' w' ⟨he,hw⟩=>?_)
 subst hw
 exact ⟨.tuple #[],ρ,he,.tup .nil,hs,Ext.refl _ _ _⟩
theorem sort29_nil {S:St} {k:V→St→Prop} (hk:k (.tup []) S):RC Tryz.prog 29 [.nilSlice,.func (.func 30) [] []] S k:=sortNone_ok Am.none29 (fg:=Tryz.f29) (by kernel_rfl) (by decide) rfl hk
theorem sort61_nil {S:St} {k:V→St→Prop} (hk:k (.tup []) S):RC Tryz.prog 61 [.nilSlice,.func (.func 30) [] []] S k:=sortNone_ok Am.none61 (fg:=Tryz.f61) (by kernel_rfl) (by decide) rfl hk
end Go.Am
/- label.Of. -/
namespace Go.Am
open Go.Proofs
set_option maxRecDepth 100000
attribute [local irreducible] fN fI fB yZ wrapK bAppend evOps wk drOps rdsAll sl

theorem f13:FnAt Tryz.prog 13 48 [.tmp 2,.tmp 3] (codeOf Tryz.f13):=⟨Tryz.f13,by kernel_rfl,rfl,by kernel_rfl,by kernel_rfl,by kernel_rfl⟩

theorem delete_run' {l:List Lab} {n:Nat} (hn:n=l.length) (hlen:l.length ≤ 64) {S:St} {id:Nat} (hg:S.hs.get id=some (.cells (cellsOf l) 40 .rw)) {k:V→St→Prop}
  (hk:putK id (some (.cells (cellsOf (delL l)) 40 .rw)) S fun S=>k (.slice id 0 (fulls l).length n 2 false) S):RC Tryz.prog 32 [.slice id 0 n n 2 false,.func (.func 33) [] []] S k:=by subst hn;exact delete_run hlen hg hk
theorem delete_nil {S:St} {k:V→St→Prop} (hk:k .nilSlice S):RC Tryz.prog 32 [.nilSlice,.func (.func 33) [] []] S k:=by
 refine RC.read mixed f32 (l:=[.nilSlice,.func (.func 33) [] []]) [] [] [] [] (v2:=.nilSlice) (by simp) rfl rfl (by simp) (by simp) (.cons .nilSlice (.cons (.func _ .nil .nil) .nil)) (by simp) ?_ hk
 generalize hK:Post _ _ _ _ _ _ _=K
 apply wy
 ·intro Q hQ
  conv=>whnf
  exact hQ
 apply wx
 ·intro Q hQ
  conv=>whnf
  exact hQ
 intro K0 hK0
 unfold codeOf
 conv=>arg 7;whnf
 repeat(first|((first|refine yw ?_|refine zX ?_|refine yX ?_|refine zk ?_);intro _ _)|refine yz ?_|refine xz ?_|refine yj ‹_› ?_|refine zw ‹_› ?_|refine yx ‹_› ?_|refine yq ‹_› ?_|refine zZ ?_|refine yy ?_|refine yv ?_|refine zq ?_|refine zY (fun Q hQ=>by (conv=>whnf);exact hQ) ?_|refine zj (fun Q hQ=>by (conv=>whnf);exact hQ) ?_|(apply yk;(·intro _ _ hy;(conv=>whnf);exact hy);(·intro Q hQ;(conv=>whnf);repeat(first|exact hQ|((first|refine xw (by first|rfl|assumption) ?_|refine xx (by first|rfl|assumption) ?_|refine zy ?_|refine zx ?_|unfold yZ);(conv=>whnf))));(·intro Q hQ;(conv=>whnf);exact hQ))|(apply yY;(·intro _ _ hy;(conv=>whnf);exact hy);(·intro Q hQ;(conv=>whnf);exact hQ)))
 apply xq
 ·(intro _ _ hy;(conv=>whnf);exact hy)
 intro Q hQ
 conv=>whnf
 refine idx59_run (LV.nil _) (by simp) 0 (Nat.le_refl _) (by simp) (fun h=>absurd h (Nat.lt_irrefl _)) (r:=.negSucc 0) rfl ?_
 rw [hQ]
 conv=>whnf
 repeat(first|((first|refine yw ?_|refine zX ?_|refine yX ?_|refine zk ?_);intro _ _)|refine yz ?_|refine xz ?_|refine yj ‹_› ?_|refine zw ‹_› ?_|refine yx ‹_› ?_|refine yq ‹_› ?_|refine zZ ?_|refine yy ?_|refine yv ?_|refine zq ?_|refine zY (fun Q hQ=>by (conv=>whnf);exact hQ) ?_|refine zj (fun Q hQ=>by (conv=>whnf);exact hQ) ?_|(apply yk;(·intro _ _ hy;(conv=>whnf);exact hy);(·intro Q hQ;(conv=>whnf);repeat(first|exact hQ|((first|refine xw (by first|rfl|assumption) ?_|refine xx (by first|rfl|assumption) ?_|refine zy ?_|refine zx ?_|unfold yZ);(conv=>whnf))));(·intro Q hQ;(conv=>whnf);exact hQ))|(apply yY;(·intro _ _ hy;(conv=>whnf);exact hy);(·intro Q hQ;(conv=>whnf);exact hQ)))
 conv=>whnf
 rw [← hK]
 exact ⟨[],List.nodup_nil,by simp,.nilSlice,trivial,trivial⟩
theorem bound_nil {S:St} {k:V→St→Prop} (hk:k (.tup [.nilSlice,.int .i64 0]) S):RC Tryz.prog 31 [.nilSlice] S k:=by
 refine RC.read mixed f31 (l:=[.nilSlice]) [] [] [] [] (v2:=.tup [.nilSlice,.int .i64 0]) (by simp) rfl rfl (by simp) (by simp) (.cons .nilSlice .nil) (by simp) ?_ hk
 generalize hK:Post _ _ _ _ _ _ _=K
 apply wy
 ·intro Q hQ
  conv=>whnf
  exact hQ
 apply wx
 ·intro Q hQ
  conv=>whnf
  exact hQ
 intro K0 hK0
 unfold codeOf
 conv=>arg 7;whnf
 repeat(first|((first|refine yw ?_|refine zX ?_|refine yX ?_|refine zk ?_);intro _ _)|refine yz ?_|refine xz ?_|refine yj ‹_› ?_|refine zw ‹_› ?_|refine yx ‹_› ?_|refine yq ‹_› ?_|refine zZ ?_|refine yy ?_|refine yv ?_|refine zq ?_|refine zY (fun Q hQ=>by (conv=>whnf);exact hQ) ?_|refine zj (fun Q hQ=>by (conv=>whnf);exact hQ) ?_|(apply yk;(·intro _ _ hy;(conv=>whnf);exact hy);(·intro Q hQ;(conv=>whnf);repeat(first|exact hQ|((first|refine xw (by first|rfl|assumption) ?_|refine xx (by first|rfl|assumption) ?_|refine zy ?_|refine zx ?_|unfold yZ);(conv=>whnf))));(·intro Q hQ;(conv=>whnf);exact hQ))|(apply yY;(·intro _ _ hy;(conv=>whnf);exact hy);(·intro Q hQ;(conv=>whnf);exact hQ)))
 conv=>whnf
 rw [← hK]
 exact ⟨[],List.nodup_nil,by simp,.tup (.cons .nilSlice (.cons (.int _ _) .nil)),trivial,trivial⟩
set_option maxHeartbeats 2000000 in
theorem of_nil {S:St} {k:V→St→Prop} (hk:k (.tup [.nilSlice,.int .i64 0]) S):RC Tryz.prog 13 [.nilSlice] S k:=by
 refine RC.read mixed f13 (l:=[.nilSlice]) [] [] [] [] (v2:=.tup [.nilSlice,.int .i64 0]) (by simp) rfl rfl (by simp) (by simp) (.cons .nilSlice .nil) (by simp) ?_ hk
 generalize hK:Post _ _ _ _ _ _ _=K
 apply wy
 ·intro Q hQ
  conv=>whnf
  exact hQ
 apply wx
 ·intro Q hQ
  conv=>whnf
  exact hQ
 intro K0 hK0
 unfold codeOf
 conv=>arg 7;whnf
 repeat(first|((first|refine yw ?_|refine zX ?_|refine yX ?_|refine zk ?_);intro _ _)|refine yz ?_|refine xz ?_|refine yj ‹_› ?_|refine zw ‹_› ?_|refine yx ‹_› ?_|refine yq ‹_› ?_|refine zZ ?_|refine yy ?_|refine yv ?_|refine zq ?_|refine zY (fun Q hQ=>by (conv=>whnf);exact hQ) ?_|refine zj (fun Q hQ=>by (conv=>whnf);exact hQ) ?_|(apply yk;(·intro _ _ hy;(conv=>whnf);exact hy);(·intro Q hQ;(conv=>whnf);repeat(first|exact hQ|((first|refine xw (by first|rfl|assumption) ?_|refine xx (by first|rfl|assumption) ?_|refine zy ?_|refine zx ?_|unfold yZ);(conv=>whnf))));(·intro Q hQ;(conv=>whnf);exact hQ))|(apply yY;(·intro _ _ hy;(conv=>whnf);exact hy);(·intro Q hQ;(conv=>whnf);exact hQ)))
 refine LP.step' mixed fun _ _=>?_
 repeat(first|((first|refine yw ?_|refine zX ?_|refine yX ?_|refine zk ?_);intro _ _)|refine yz ?_|refine xz ?_|refine yj ‹_› ?_|refine zw ‹_› ?_|refine yx ‹_› ?_|refine yq ‹_› ?_|refine zZ ?_|refine yy ?_|refine yv ?_|refine zq ?_|refine zY (fun Q hQ=>by (conv=>whnf);exact hQ) ?_|refine zj (fun Q hQ=>by (conv=>whnf);exact hQ) ?_|(apply yk;(·intro _ _ hy;(conv=>whnf);exact hy);(·intro Q hQ;(conv=>whnf);repeat(first|exact hQ|((first|refine xw (by first|rfl|assumption) ?_|refine xx (by first|rfl|assumption) ?_|refine zy ?_|refine zx ?_|unfold yZ);(conv=>whnf))));(·intro Q hQ;(conv=>whnf);exact hQ))|(apply yY;(·intro _ _ hy;(conv=>whnf);exact hy);(·intro Q hQ;(conv=>whnf);exact hQ)))
 conv=>whnf
 repeat(first|((first|refine yw ?_|refine zX ?_|refine yX ?_|refine zk ?_);intro _ _)|refine yz ?_|refine xz ?_|refine yj ‹_› ?_|refine zw ‹_› ?_|refine yx ‹_› ?_|refine yq ‹_› ?_|refine zZ ?_|refine yy ?_|refine yv ?_|refine zq ?_|refine zY (fun Q hQ=>by (conv=>whnf);exact hQ) ?_|refine zj (fun Q hQ=>by (conv=>whnf);exact hQ) ?_|(apply yk;(·intro _ _ hy;(conv=>whnf);exact hy);(·intro Q hQ;(conv=>whnf);repeat(first|exact hQ|((first|refine xw (by first|rfl|assumption) ?_|refine xx (by first|rfl|assumption) ?_|refine zy ?_|refine zx ?_|unfold yZ);(conv=>whnf))));(·intro Q hQ;(conv=>whnf);exact hQ))|(apply yY;(·intro _ _ hy;(conv=>whnf);exact hy);(·intro Q hQ;(conv=>whnf);exact hQ)))
 apply xq
 ·(intro _ _ hy;(conv=>whnf);exact hy)
 intro Q hQ
 conv=>whnf
 refine clone28_run (l:=[]) (LV.nil _) (fun h=>absurd rfl h) (by simp) ?_
 conv=>whnf
 rw [hQ]
 conv=>whnf
 repeat(first|((first|refine yw ?_|refine zX ?_|refine yX ?_|refine zk ?_);intro _ _)|refine yz ?_|refine xz ?_|refine yj ‹_› ?_|refine zw ‹_› ?_|refine yx ‹_› ?_|refine yq ‹_› ?_|refine zZ ?_|refine yy ?_|refine yv ?_|refine zq ?_|refine zY (fun Q hQ=>by (conv=>whnf);exact hQ) ?_|refine zj (fun Q hQ=>by (conv=>whnf);exact hQ) ?_|(apply yk;(·intro _ _ hy;(conv=>whnf);exact hy);(·intro Q hQ;(conv=>whnf);repeat(first|exact hQ|((first|refine xw (by first|rfl|assumption) ?_|refine xx (by first|rfl|assumption) ?_|refine zy ?_|refine zx ?_|unfold yZ);(conv=>whnf))));(·intro Q hQ;(conv=>whnf);exact hQ))|(apply yY;(·intro _ _ hy;(conv=>whnf);exact hy);(·intro Q hQ;(conv=>whnf);exact hQ)))
 apply xq
 ·(intro _ _ hy;(conv=>whnf);exact hy)
 intro Q hQ
 conv=>whnf
 refine sort29_nil ?_
 rw [hQ]
 conv=>whnf
 repeat(first|((first|refine yw ?_|refine zX ?_|refine yX ?_|refine zk ?_);intro _ _)|refine yz ?_|refine xz ?_|refine yj ‹_› ?_|refine zw ‹_› ?_|refine yx ‹_› ?_|refine yq ‹_› ?_|refine zZ ?_|refine yy ?_|refine yv ?_|refine zq ?_|refine zY (fun Q hQ=>by (conv=>whnf);exact hQ) ?_|refine zj (fun Q hQ=>by (conv=>whnf);exact hQ) ?_|(apply yk;(·intro _ _ hy;(conv=>whnf);exact hy);(·intro Q hQ;(conv=>whnf);repeat(first|exact hQ|((first|refine xw (by first|rfl|assumption) ?_|refine xx (by first|rfl|assumption) ?_|refine zy ?_|refine zx ?_|unfold yZ);(conv=>whnf))));(·intro Q hQ;(conv=>whnf);exact hQ))|(apply yY;(·intro _ _ hy;(conv=>whnf);exact hy);(·intro Q hQ;(conv=>whnf);exact hQ)))
 refine LP.step' mixed fun _ _=>?_
 repeat(first|((first|refine yw ?_|refine zX ?_|refine yX ?_|refine zk ?_);intro _ _)|refine yz ?_|refine xz ?_|refine yj ‹_› ?_|refine zw ‹_› ?_|refine yx ‹_› ?_|refine yq ‹_› ?_|refine zZ ?_|refine yy ?_|refine yv ?_|refine zq ?_|refine zY (fun Q hQ=>by (conv=>whnf);exact hQ) ?_|refine zj (fun Q hQ=>by (conv=>whnf);exact hQ) ?_|(apply yk;(·intro _ _ hy;(conv=>whnf);exact hy);(·intro Q hQ;(conv=>whnf);repeat(first|exact hQ|((first|refine xw (by first|rfl|assumption) ?_|refine xx (by first|rfl|assumption) ?_|refine zy ?_|refine zx ?_|unfold yZ);(conv=>whnf))));(·intro Q hQ;(conv=>whnf);exact hQ))|(apply yY;(·intro _ _ hy;(conv=>whnf);exact hy);(·intro Q hQ;(conv=>whnf);exact hQ)))
 conv=>whnf
 repeat(first|((first|refine yw ?_|refine zX ?_|refine yX ?_|refine zk ?_);intro _ _)|refine yz ?_|refine xz ?_|refine yj ‹_› ?_|refine zw ‹_› ?_|refine yx ‹_› ?_|refine yq ‹_› ?_|refine zZ ?_|refine yy ?_|refine yv ?_|refine zq ?_|refine zY (fun Q hQ=>by (conv=>whnf);exact hQ) ?_|refine zj (fun Q hQ=>by (conv=>whnf);exact hQ) ?_|(apply yk;(·intro _ _ hy;(conv=>whnf);exact hy);(·intro Q hQ;(conv=>whnf);repeat(first|exact hQ|((first|refine xw (by first|rfl|assumption) ?_|refine xx (by first|rfl|assumption) ?_|refine zy ?_|refine zx ?_|unfold yZ);(conv=>whnf))));(·intro Q hQ;(conv=>whnf);exact hQ))|(apply yY;(·intro _ _ hy;(conv=>whnf);exact hy);(·intro Q hQ;(conv=>whnf);exact hQ)))
 apply xq
 ·(intro _ _ hy;(conv=>whnf);exact hy)
 intro Q hQ
 conv=>whnf
 refine delete_nil ?_
 rw [hQ]
 conv=>whnf
 repeat(first|((first|refine yw ?_|refine zX ?_|refine yX ?_|refine zk ?_);intro _ _)|refine yz ?_|refine xz ?_|refine yj ‹_› ?_|refine zw ‹_› ?_|refine yx ‹_› ?_|refine yq ‹_› ?_|refine zZ ?_|refine yy ?_|refine yv ?_|refine zq ?_|refine zY (fun Q hQ=>by (conv=>whnf);exact hQ) ?_|refine zj (fun Q hQ=>by (conv=>whnf);exact hQ) ?_|(apply yk;(·intro _ _ hy;(conv=>whnf);exact hy);(·intro Q hQ;(conv=>whnf);repeat(first|exact hQ|((first|refine xw (by first|rfl|assumption) ?_|refine xx (by first|rfl|assumption) ?_|refine zy ?_|refine zx ?_|unfold yZ);(conv=>whnf))));(·intro Q hQ;(conv=>whnf);exact hQ))|(apply yY;(·intro _ _ hy;(conv=>whnf);exact hy);(·intro Q hQ;(conv=>whnf);exact hQ)))
 apply xq
 ·(intro _ _ hy;(conv=>whnf);exact hy)
 intro Q hQ
 conv=>whnf
 refine bound_nil ?_
 rw [hQ]
 conv=>whnf
 repeat(first|((first|refine yw ?_|refine zX ?_|refine yX ?_|refine zk ?_);intro _ _)|refine yz ?_|refine xz ?_|refine yj ‹_› ?_|refine zw ‹_› ?_|refine yx ‹_› ?_|refine yq ‹_› ?_|refine zZ ?_|refine yy ?_|refine yv ?_|refine zq ?_|refine zY (fun Q hQ=>by (conv=>whnf);exact hQ) ?_|refine zj (fun Q hQ=>by (conv=>whnf);exact hQ) ?_|(apply yk;(·intro _ _ hy;(conv=>whnf);exact hy);(·intro Q hQ;(conv=>whnf);repeat(first|exact hQ|((first|refine xw (by first|rfl|assumption) ?_|refine xx (by first|rfl|assumption) ?_|refine zy ?_|refine zx ?_|unfold yZ);(conv=>whnf))));(·intro Q hQ;(conv=>whnf);exact hQ))|(apply yY;(·intro _ _ hy;(conv=>whnf);exact hy);(·intro Q hQ;(conv=>whnf);exact hQ)))
 conv=>whnf
 rw [← hK]
 exact ⟨[],List.nodup_nil,by simp,.tup (.cons .nilSlice (.cons (.int _ _) .nil)),trivial,trivial⟩
set_option maxHeartbeats 4000000 in
theorem of_run {l:List Lab} (hne:l ≠ []) (hlen:l.length ≤ 64) (hn':∀ q ∈ l,q.1 ∈ namesX) (hv':∀ q ∈ l,q.2 ∈ valsX) (hp:l.Pairwise fun p q=>p.1 ≠ q.1) {v:V} {S:St} (h:LS S v l) {k:V→St→Prop}
  (hk:newK (.cells (cellsOf (delL (sortL l []))) 40 .rw) S fun id S'=>k (.tup [.slice id 0 (fulls (sortL l [])).length l.length 2 false,.int .i64 0]) S'):RC Tryz.prog 13 [v] S k:=by
 obtain ⟨i40,hi40,hs40⟩:=info40
 have hsl:(sortL l []).length=l.length:=by rw [sortL_length];simp
 have hasc:(sortL l []).Pairwise fun p q=>ltS p.1 q.1=true:=sortL_asc .nil hp (by simp)
 obtain ⟨i,cap,ex,rest,e,fl,rfl,hc,hrow⟩:=h
 refine RC.read mixed f13 (l:=[.slice ngl 0 l.length l.length 2 false]) [i] [.cells (cellsOf l ++ rest) e fl] [.cells (cellsOf l) e .ro] [.cells (cellsOf (delL (sortL l []))) 40 .rw] (v2:=.tup [.slice S.next 0 (fulls (sortL l [])).length l.length 2 false,.int .i64 0]) ?_ rfl rfl ?_ ?_
  (.cons (.slice _ _ _ _ _ _ _ (Rin.at (a:=0) rfl (by simp)) (.inr (Nat.le_refl _)) hc (by simp)) .nil) ?_ ?_ (newsK_one hk)
 ·rintro (_|a) o h
  ·simp at h;subst h;rfl
  ·simp at h
 ·rintro (_|a) j o h1 h2
  ·simp at h1 h2;subst h1;subst h2;exact hrow
  ·simp at h1
 ·rintro (_|a) o1 o2 h1 h2
  ·simp at h1 h2;subst h1;subst h2;exact .part (wv l)
  ·simp at h1
 ·rintro (_|a) o h
  ·simp at h;subst h;rfl
  ·simp at h
 ·show buildK _ ⟨T.nil,ngl+1⟩ _
  generalize hK:Post _ _ _ _ _ _ _=K
  apply wy
  ·intro Q hQ
   conv=>whnf
   exact hQ
  apply wx
  ·intro Q hQ
   conv=>whnf
   exact hQ
  intro K0 hK0
  unfold codeOf
  conv=>arg 7;whnf
  repeat(first|((first|refine yw ?_|refine zX ?_|refine yX ?_|refine zk ?_);intro _ _)|refine yz ?_|refine xz ?_|refine yj ‹_› ?_|refine zw ‹_› ?_|refine yx ‹_› ?_|refine yq ‹_› ?_|refine zZ ?_|refine yy ?_|refine yv ?_|refine zq ?_|refine zY (fun Q hQ=>by (conv=>whnf);exact hQ) ?_|refine zj (fun Q hQ=>by (conv=>whnf);exact hQ) ?_|(apply yk;(·intro _ _ hy;(conv=>whnf);exact hy);(·intro Q hQ;(conv=>whnf);repeat(first|exact hQ|((first|refine xw (by first|rfl|assumption) ?_|refine xx (by first|rfl|assumption) ?_|refine zy ?_|refine zx ?_|unfold yZ);(conv=>whnf))));(·intro Q hQ;(conv=>whnf);exact hQ))|(apply yY;(·intro _ _ hy;(conv=>whnf);exact hy);(·intro Q hQ;(conv=>whnf);exact hQ)))
  refine LP.induct0 l.length (fun j E=>j ≤ l.length∧Fits E 0 [.slice ngl 0 l.length l.length 2 false,sl E 1,sl E 2,sl E 3,sl E 4,sl E 5,sl E 6,sl E 7,sl E 8,.slice ngl 0 l.length l.length 2 false,.int .i64 (.ofNat l.length),.int .i64 (.ofNat j),sl E 12,sl E 13,sl E 14,sl E 15,sl E 16,sl E 17,sl E 18,sl E 19,sl E 20,sl E 21,sl E 22,sl E 23,sl E 24,sl E 25,sl E 26,sl E 27,sl E 28,sl E 29,sl E 30,sl E 31,sl E 32,sl E 33,sl E 34,sl E 35,sl E 36,sl E 37,sl E 38,sl E 39,sl E 40,sl E 41,sl E 42,sl E 43,sl E 44,sl E 45,sl E 46,sl E 47]) ⟨Nat.zero_le _,⟨rfl,zz rfl,zz rfl,zz rfl,zz rfl,zz rfl,zz rfl,zz rfl,zz rfl,rfl,rfl,rfl,zz rfl,zz rfl,zz rfl,zz rfl,zz rfl,zz rfl,zz rfl,zz rfl,zz rfl,zz rfl,zz rfl,zz rfl,zz rfl,zz rfl,zz rfl,zz rfl,zz rfl,zz rfl,zz rfl,zz rfl,zz rfl,zz rfl,zz rfl,zz rfl,zz rfl,zz rfl,zz rfl,zz rfl,zz rfl,zz rfl,zz rfl,zz rfl,zz rfl,zz rfl,zz rfl,zz rfl,trivial⟩⟩ ?_
  intro j E ⟨hjl,hf⟩ ih
  refine LP.tree hf (⟨some (.slice ngl 0 l.length l.length 2 false),⟨some (sl E 1),⟨some (sl E 5),⟨some (sl E 21),z0,z0,z0,z0⟩,⟨some (sl E 37),z0,z0,z0,z0⟩,z1,z1⟩,⟨some (.slice ngl 0 l.length l.length 2 false),⟨some (sl E 25),z0,z0,z0,z0⟩,⟨some (sl E 41),z0,z0,z0,z0⟩,z1,z1⟩,⟨some (sl E 13),⟨some (sl E 29),z0,z0,z0,z0⟩,⟨some (sl E 45),z0,z0,z0,z0⟩,z1,z1⟩,⟨some (sl E 17),⟨some (sl E 33),z0,z0,z0,z0⟩,z1,z1,z1⟩⟩,⟨some (sl E 2),⟨some (sl E 6),⟨some (sl E 22),z0,z0,z0,z0⟩,⟨some (sl E 38),z0,z0,z0,z0⟩,z1,z1⟩,⟨some (.int .i64 (.ofNat l.length)),⟨some (sl E 26),z0,z0,z0,z0⟩,⟨some (sl E 42),z0,z0,z0,z0⟩,z1,z1⟩,⟨some (sl E 14),⟨some (sl E 30),z0,z0,z0,z0⟩,⟨some (sl E 46),z0,z0,z0,z0⟩,z1,z1⟩,⟨some (sl E 18),⟨some (sl E 34),z0,z0,z0,z0⟩,z1,z1,z1⟩⟩,⟨some (sl E 3),⟨some (sl E 7),⟨some (sl E 23),z0,z0,z0,z0⟩,⟨some (sl E 39),z0,z0,z0,z0⟩,z1,z1⟩,⟨some (.int .i64 (.ofNat j)),⟨some (sl E 27),z0,z0,z0,z0⟩,⟨some (sl E 43),z0,z0,z0,z0⟩,z1,z1⟩,⟨some (sl E 15),⟨some (sl E 31),z0,z0,z0,z0⟩,⟨some (sl E 47),z0,z0,z0,z0⟩,z1,z1⟩,⟨some (sl E 19),⟨some (sl E 35),z0,z0,z0,z0⟩,z1,z1,z1⟩⟩,⟨some (sl E 4),⟨some (sl E 8),⟨some (sl E 24),z0,z0,z0,z0⟩,⟨some (sl E 40),z0,z0,z0,z0⟩,z1,z1⟩,⟨some (sl E 12),⟨some (sl E 28),z0,z0,z0,z0⟩,⟨some (sl E 44),z0,z0,z0,z0⟩,z1,z1⟩,⟨some (sl E 16),⟨some (sl E 32),z0,z0,z0,z0⟩,z1,z1,z1⟩,⟨some (sl E 20),⟨some (sl E 36),z0,z0,z0,z0⟩,z1,z1,z1⟩⟩⟩) (by kernel_rfl) (LP.gc' mixed fun _ _=>?_)
  clear hf
  cases hb:ltI (.ofNat j) (.ofNat l.length)
  ·have hge:l.length ≤ j:=by rw [ltI_eq] at hb;simpa using hb
   clear ih
   repeat(first|((first|refine yw ?_|refine zX ?_|refine yX ?_|refine zk ?_);intro _ _)|refine yz ?_|refine xz ?_|refine yj ‹_› ?_|refine zw ‹_› ?_|refine yx ‹_› ?_|refine yq ‹_› ?_|refine zZ ?_|refine yy ?_|refine yv ?_|refine zq ?_|refine zY (fun Q hQ=>by (conv=>whnf);exact hQ) ?_|refine zj (fun Q hQ=>by (conv=>whnf);exact hQ) ?_|(apply yk;(·intro _ _ hy;(conv=>whnf);exact hy);(·intro Q hQ;(conv=>whnf);repeat(first|exact hQ|((first|refine xw (by first|rfl|assumption) ?_|refine xx (by first|rfl|assumption) ?_|refine zy ?_|refine zx ?_|unfold yZ);(conv=>whnf))));(·intro Q hQ;(conv=>whnf);exact hQ))|(apply yY;(·intro _ _ hy;(conv=>whnf);exact hy);(·intro Q hQ;(conv=>whnf);exact hQ)))
   apply xq
   ·(intro _ _ hy;(conv=>whnf);exact hy)
   intro Q hQ
   conv=>whnf
   refine clone28_run (LV.mk (e:=e) (fl:=.ro) rfl (Nat.le_refl _)) (fun _=>hne) (by omega) ?_
   rw [outN_ne hne,outV_ne hne]
   conv=>whnf
   rw [hQ]
   conv=>whnf
   repeat(first|((first|refine yw ?_|refine zX ?_|refine yX ?_|refine zk ?_);intro _ _)|refine yz ?_|refine xz ?_|refine yj ‹_› ?_|refine zw ‹_› ?_|refine yx ‹_› ?_|refine yq ‹_› ?_|refine zZ ?_|refine yy ?_|refine yv ?_|refine zq ?_|refine zY (fun Q hQ=>by (conv=>whnf);exact hQ) ?_|refine zj (fun Q hQ=>by (conv=>whnf);exact hQ) ?_|(apply yk;(·intro _ _ hy;(conv=>whnf);exact hy);(·intro Q hQ;(conv=>whnf);repeat(first|exact hQ|((first|refine xw (by first|rfl|assumption) ?_|refine xx (by first|rfl|assumption) ?_|refine zy ?_|refine zx ?_|unfold yZ);(conv=>whnf))));(·intro Q hQ;(conv=>whnf);exact hQ))|(apply yY;(·intro _ _ hy;(conv=>whnf);exact hy);(·intro Q hQ;(conv=>whnf);exact hQ)))
   apply xq
   ·(intro _ _ hy;(conv=>whnf);exact hy)
   intro Q hQ
   conv=>whnf
   refine sort29_run hp hne (by omega) (fl:=.rw) (by simp) rfl ?_
   conv=>whnf
   rw [hQ]
   conv=>whnf
   repeat(first|((first|refine yw ?_|refine zX ?_|refine yX ?_|refine zk ?_);intro _ _)|refine yz ?_|refine xz ?_|refine yj ‹_› ?_|refine zw ‹_› ?_|refine yx ‹_› ?_|refine yq ‹_› ?_|refine zZ ?_|refine yy ?_|refine yv ?_|refine zq ?_|refine zY (fun Q hQ=>by (conv=>whnf);exact hQ) ?_|refine zj (fun Q hQ=>by (conv=>whnf);exact hQ) ?_|(apply yk;(·intro _ _ hy;(conv=>whnf);exact hy);(·intro Q hQ;(conv=>whnf);repeat(first|exact hQ|((first|refine xw (by first|rfl|assumption) ?_|refine xx (by first|rfl|assumption) ?_|refine zy ?_|refine zx ?_|unfold yZ);(conv=>whnf))));(·intro Q hQ;(conv=>whnf);exact hQ))|(apply yY;(·intro _ _ hy;(conv=>whnf);exact hy);(·intro Q hQ;(conv=>whnf);exact hQ)))
   refine LP.induct0 l.length (fun m E=>m ≤ l.length∧Fits E 0 [.slice ngl 0 l.length l.length 2 false,sl E 1,sl E 2,sl E 3,sl E 4,sl E 5,sl E 6,.slice (ngl+1) 0 l.length l.length 2 false,.int .i64 (.ofNat (m+1)),sl E 9,sl E 10,sl E 11,sl E 12,sl E 13,sl E 14,sl E 15,sl E 16,sl E 17,sl E 18,sl E 19,sl E 20,sl E 21,sl E 22,sl E 23,sl E 24,sl E 25,sl E 26,sl E 27,sl E 28,sl E 29,sl E 30,sl E 31,sl E 32,sl E 33,sl E 34,sl E 35,sl E 36,sl E 37,sl E 38,sl E 39,sl E 40,sl E 41,sl E 42,sl E 43,sl E 44,sl E 45,sl E 46,sl E 47]) ⟨Nat.zero_le _,⟨rfl,zz rfl,zz rfl,zz rfl,zz rfl,zz rfl,zz rfl,rfl,rfl,zz rfl,zz rfl,zz rfl,zz rfl,zz rfl,zz rfl,zz rfl,zz rfl,zz rfl,zz rfl,zz rfl,zz rfl,zz rfl,zz rfl,zz rfl,zz rfl,zz rfl,zz rfl,zz rfl,zz rfl,zz rfl,zz rfl,zz rfl,zz rfl,zz rfl,zz rfl,zz rfl,zz rfl,zz rfl,zz rfl,zz rfl,zz rfl,zz rfl,zz rfl,zz rfl,zz rfl,zz rfl,zz rfl,zz rfl,trivial⟩⟩ ?_
   intro m E ⟨hml,hf⟩ ih
   refine LP.tree hf (⟨some (.slice ngl 0 l.length l.length 2 false),⟨some (sl E 1),⟨some (sl E 5),⟨some (sl E 21),z0,z0,z0,z0⟩,⟨some (sl E 37),z0,z0,z0,z0⟩,z1,z1⟩,⟨some (sl E 9),⟨some (sl E 25),z0,z0,z0,z0⟩,⟨some (sl E 41),z0,z0,z0,z0⟩,z1,z1⟩,⟨some (sl E 13),⟨some (sl E 29),z0,z0,z0,z0⟩,⟨some (sl E 45),z0,z0,z0,z0⟩,z1,z1⟩,⟨some (sl E 17),⟨some (sl E 33),z0,z0,z0,z0⟩,z1,z1,z1⟩⟩,⟨some (sl E 2),⟨some (sl E 6),⟨some (sl E 22),z0,z0,z0,z0⟩,⟨some (sl E 38),z0,z0,z0,z0⟩,z1,z1⟩,⟨some (sl E 10),⟨some (sl E 26),z0,z0,z0,z0⟩,⟨some (sl E 42),z0,z0,z0,z0⟩,z1,z1⟩,⟨some (sl E 14),⟨some (sl E 30),z0,z0,z0,z0⟩,⟨some (sl E 46),z0,z0,z0,z0⟩,z1,z1⟩,⟨some (sl E 18),⟨some (sl E 34),z0,z0,z0,z0⟩,z1,z1,z1⟩⟩,⟨some (sl E 3),⟨some (.slice (ngl+1) 0 l.length l.length 2 false),⟨some (sl E 23),z0,z0,z0,z0⟩,⟨some (sl E 39),z0,z0,z0,z0⟩,z1,z1⟩,⟨some (sl E 11),⟨some (sl E 27),z0,z0,z0,z0⟩,⟨some (sl E 43),z0,z0,z0,z0⟩,z1,z1⟩,⟨some (sl E 15),⟨some (sl E 31),z0,z0,z0,z0⟩,⟨some (sl E 47),z0,z0,z0,z0⟩,z1,z1⟩,⟨some (sl E 19),⟨some (sl E 35),z0,z0,z0,z0⟩,z1,z1,z1⟩⟩,⟨some (sl E 4),⟨some (.int .i64 (.ofNat (m+1))),⟨some (sl E 24),z0,z0,z0,z0⟩,⟨some (sl E 40),z0,z0,z0,z0⟩,z1,z1⟩,⟨some (sl E 12),⟨some (sl E 28),z0,z0,z0,z0⟩,⟨some (sl E 44),z0,z0,z0,z0⟩,z1,z1⟩,⟨some (sl E 16),⟨some (sl E 32),z0,z0,z0,z0⟩,z1,z1,z1⟩,⟨some (sl E 20),⟨some (sl E 36),z0,z0,z0,z0⟩,z1,z1,z1⟩⟩⟩) (by kernel_rfl) (LP.gc' mixed fun _ _=>?_)
   clear hf
   cases hb2:ltI (.ofNat (m+1)) (.ofNat l.length)
   ·have hge2:l.length ≤ m+1:=by rw [ltI_eq] at hb2;exact Nat.le_of_not_lt fun h=>of_decide_eq_false hb2 (Int.ofNat_lt.2 h)
    clear ih
    repeat(first|((first|refine yw ?_|refine zX ?_|refine yX ?_|refine zk ?_);intro _ _)|refine yz ?_|refine xz ?_|refine yj ‹_› ?_|refine zw ‹_› ?_|refine yx ‹_› ?_|refine yq ‹_› ?_|refine zZ ?_|refine yy ?_|refine yv ?_|refine zq ?_|refine zY (fun Q hQ=>by (conv=>whnf);exact hQ) ?_|refine zj (fun Q hQ=>by (conv=>whnf);exact hQ) ?_|(apply yk;(·intro _ _ hy;(conv=>whnf);exact hy);(·intro Q hQ;(conv=>whnf);repeat(first|exact hQ|((first|refine xw (by first|rfl|assumption) ?_|refine xx (by first|rfl|assumption) ?_|refine zy ?_|refine zx ?_|unfold yZ);(conv=>whnf))));(·intro Q hQ;(conv=>whnf);exact hQ))|(apply yY;(·intro _ _ hy;(conv=>whnf);exact hy);(·intro Q hQ;(conv=>whnf);exact hQ)))
    apply xq
    ·(intro _ _ hy;(conv=>whnf);exact hy)
    intro Q hQ
    conv=>whnf
    refine delete_run' hsl.symm (by omega) rfl ?_
    conv=>whnf
    rw [hQ]
    conv=>whnf
    repeat(first|((first|refine yw ?_|refine zX ?_|refine yX ?_|refine zk ?_);intro _ _)|refine yz ?_|refine xz ?_|refine yj ‹_› ?_|refine zw ‹_› ?_|refine yx ‹_› ?_|refine yq ‹_› ?_|refine zZ ?_|refine yy ?_|refine yv ?_|refine zq ?_|refine zY (fun Q hQ=>by (conv=>whnf);exact hQ) ?_|refine zj (fun Q hQ=>by (conv=>whnf);exact hQ) ?_|(apply yk;(·intro _ _ hy;(conv=>whnf);exact hy);(·intro Q hQ;(conv=>whnf);repeat(first|exact hQ|((first|refine xw (by first|rfl|assumption) ?_|refine xx (by first|rfl|assumption) ?_|refine zy ?_|refine zx ?_|unfold yZ);(conv=>whnf))));(·intro Q hQ;(conv=>whnf);exact hQ))|(apply yY;(·intro _ _ hy;(conv=>whnf);exact hy);(·intro Q hQ;(conv=>whnf);exact hQ)))
    apply xq
    ·(intro _ _ hy;(conv=>whnf);exact hy)
    intro Q hQ
    conv=>whnf
    refine bound_run _ _ _ _ _ _ (Nat.le_trans (List.length_filter_le _ _) (by omega)) ?_
    rw [hQ]
    conv=>whnf
    repeat(first|((first|refine yw ?_|refine zX ?_|refine yX ?_|refine zk ?_);intro _ _)|refine yz ?_|refine xz ?_|refine yj ‹_› ?_|refine zw ‹_› ?_|refine yx ‹_› ?_|refine yq ‹_› ?_|refine zZ ?_|refine yy ?_|refine yv ?_|refine zq ?_|refine zY (fun Q hQ=>by (conv=>whnf);exact hQ) ?_|refine zj (fun Q hQ=>by (conv=>whnf);exact hQ) ?_|(apply yk;(·intro _ _ hy;(conv=>whnf);exact hy);(·intro Q hQ;(conv=>whnf);repeat(first|exact hQ|((first|refine xw (by first|rfl|assumption) ?_|refine xx (by first|rfl|assumption) ?_|refine zy ?_|refine zx ?_|unfold yZ);(conv=>whnf))));(·intro Q hQ;(conv=>whnf);exact hQ))|(apply yY;(·intro _ _ hy;(conv=>whnf);exact hy);(·intro Q hQ;(conv=>whnf);exact hQ)))
    conv=>whnf
    rw [← hK]
    exact ⟨[_],nodup1 _,fun g hg=>by rw [List.mem_singleton] at hg;subst hg;exact Nat.le_of_ble_eq_true rfl,.tup (.cons (.slice _ _ _ _ _ _ _ (Rou.new (a:=0) rfl (Nat.le_of_ble_eq_true rfl) (by simp)) (.inl rfl) (Nat.le_refl _) (fun h=>⟨h,rfl⟩)) (.cons (.int _ _) .nil)),trivial,⟨⟨_,rfl,.cells (wv _) (.inl rfl)⟩,trivial⟩⟩
   ·have hlt2:m+1 < l.length:=by rw [ltI_eq] at hb2;exact Int.ofNat_lt.1 (of_decide_eq_true hb2)
    have hblt2:Nat.blt (m+1) l.length=true:=hb2
    have hm:Nat.blt m l.length=true:=Nat.ble_eq_true_of_le (show m+1 ≤ l.length by omega)
    have hlt3:eqS (sortL l [])[m+1].1 (sortL l [])[m].1=false:=eqS_ne (Ne.symm (ltS_ne (List.pairwise_iff_getElem.1 hasc m (m+1) (by omega) (by omega) (by omega))))
    repeat(first|((first|refine yw ?_|refine zX ?_|refine yX ?_|refine zk ?_);intro _ _)|refine yz ?_|refine xz ?_|refine yj ‹_› ?_|refine zw ‹_› ?_|refine yx ‹_› ?_|refine yq ‹_› ?_|refine zZ ?_|refine yy ?_|refine yv ?_|refine zq ?_|refine zY (fun Q hQ=>by (conv=>whnf);exact hQ) ?_|refine zj (fun Q hQ=>by (conv=>whnf);exact hQ) ?_|(apply yk;(·intro _ _ hy;(conv=>whnf);exact hy);(·intro Q hQ;(conv=>whnf);repeat(first|exact hQ|((first|refine xw (by first|rfl|assumption) ?_|refine xx (by first|rfl|assumption) ?_|refine zy ?_|refine zx ?_|unfold yZ);(conv=>whnf))));(·intro Q hQ;(conv=>whnf);exact hQ))|(apply yY;(·intro _ _ hy;(conv=>whnf);exact hy);(·intro Q hQ;(conv=>whnf);exact hQ)))
    repeat(first|(apply xk;(·exact rfl);(·exact rfl);(·intro _ _ hy;(conv=>whnf);exact hy);(·exact rfl);(·intro Q hQ;(conv=>whnf);repeat(first|exact hQ|((first|refine xw (by first|rfl|assumption) ?_|refine xx (by first|rfl|assumption) ?_|refine zy ?_|refine zx ?_|unfold yZ);(conv=>whnf))));(·intro Q hQ;(conv=>whnf);exact hQ))|(apply xX;(·exact rfl);(·exact rfl);(·intro _ _ hy;(conv=>whnf);exact hy);(·exact rfl);(·intro Q hQ;(conv=>whnf);repeat(first|exact hQ|((first|refine xw (by first|rfl|assumption) ?_|refine xx (by first|rfl|assumption) ?_|refine zy ?_|refine zx ?_|unfold yZ);(conv=>whnf))));(·intro Q hQ;(conv=>whnf);exact hQ);intro _)|(apply xY;(·exact rfl);(·exact rfl);(·intro _ _ hy;(conv=>whnf);exact hy);(·intro Q hQ;(conv=>whnf);exact hQ))|refine xZ ?_)
    apply xk
    ·exact rfl
    ·exact rfl
    ·(intro _ _ hy;(conv=>whnf);exact hy)
    ·exact rfl
    ·intro Q hQ
     conv=>whnf
     refine bcase (fun _=>?_) (fun h=>absurd (h.symm.trans hblt2) (by simp))
     conv=>whnf
     repeat(first|exact hQ|((first|refine xw (by first|rfl|assumption) ?_|refine xx (by first|rfl|assumption) ?_|refine zy ?_|refine zx ?_);(conv=>whnf)))
    ·(intro Q hQ;(conv=>whnf);exact hQ)
    repeat(first|(apply xk;(·exact rfl);(·exact rfl);(·intro _ _ hy;(conv=>whnf);exact hy);(·exact rfl);(·intro Q hQ;(conv=>whnf);repeat(first|exact hQ|((first|refine xw (by first|rfl|assumption) ?_|refine xx (by first|rfl|assumption) ?_|refine zy ?_|refine zx ?_|unfold yZ);(conv=>whnf))));(·intro Q hQ;(conv=>whnf);exact hQ))|(apply xX;(·exact rfl);(·exact rfl);(·intro _ _ hy;(conv=>whnf);exact hy);(·exact rfl);(·intro Q hQ;(conv=>whnf);repeat(first|exact hQ|((first|refine xw (by first|rfl|assumption) ?_|refine xx (by first|rfl|assumption) ?_|refine zy ?_|refine zx ?_|unfold yZ);(conv=>whnf))));(·intro Q hQ;(conv=>whnf);exact hQ);intro _)|(apply xY;(·exact rfl);(·exact rfl);(·intro _ _ hy;(conv=>whnf);exact hy);(·intro Q hQ;(conv=>whnf);exact hQ))|refine xZ ?_)
    apply xX
    ·exact rfl
    ·exact rfl
    ·(intro _ _ hy;(conv=>whnf);exact hy)
    ·exact rfl
    ·intro Q hQ
     conv=>whnf
     refine vX agg9 (2 * (m+1)) (show 0+(m+1) * 2+0=2 * (m+1) by omega) (cellsOf_at (l:=sortL l []) (by omega)).1 ?_
     exact hQ
    ·(intro Q hQ;(conv=>whnf);exact hQ)
    intro _
    repeat(first|(apply xk;(·exact rfl);(·exact rfl);(·intro _ _ hy;(conv=>whnf);exact hy);(·exact rfl);(·intro Q hQ;(conv=>whnf);repeat(first|exact hQ|((first|refine xw (by first|rfl|assumption) ?_|refine xx (by first|rfl|assumption) ?_|refine zy ?_|refine zx ?_|unfold yZ);(conv=>whnf))));(·intro Q hQ;(conv=>whnf);exact hQ))|(apply xX;(·exact rfl);(·exact rfl);(·intro _ _ hy;(conv=>whnf);exact hy);(·exact rfl);(·intro Q hQ;(conv=>whnf);repeat(first|exact hQ|((first|refine xw (by first|rfl|assumption) ?_|refine xx (by first|rfl|assumption) ?_|refine zy ?_|refine zx ?_|unfold yZ);(conv=>whnf))));(·intro Q hQ;(conv=>whnf);exact hQ);intro _)|(apply xY;(·exact rfl);(·exact rfl);(·intro _ _ hy;(conv=>whnf);exact hy);(·intro Q hQ;(conv=>whnf);exact hQ))|refine xZ ?_)
    apply xk
    ·exact rfl
    ·exact rfl
    ·(intro _ _ hy;(conv=>whnf);exact hy)
    ·exact rfl
    ·intro Q hQ
     conv=>whnf
     refine wq m (by show Int.subNatNat (m+1) 1=_;rw [Int.subNatNat_of_le (by omega)];rfl) (by show m ≤ 9223372036854775807;omega) ?_
     exact hQ
    ·(intro Q hQ;(conv=>whnf);exact hQ)
    repeat(first|(apply xk;(·exact rfl);(·exact rfl);(·intro _ _ hy;(conv=>whnf);exact hy);(·exact rfl);(·intro Q hQ;(conv=>whnf);repeat(first|exact hQ|((first|refine xw (by first|rfl|assumption) ?_|refine xx (by first|rfl|assumption) ?_|refine zy ?_|refine zx ?_|unfold yZ);(conv=>whnf))));(·intro Q hQ;(conv=>whnf);exact hQ))|(apply xX;(·exact rfl);(·exact rfl);(·intro _ _ hy;(conv=>whnf);exact hy);(·exact rfl);(·intro Q hQ;(conv=>whnf);repeat(first|exact hQ|((first|refine xw (by first|rfl|assumption) ?_|refine xx (by first|rfl|assumption) ?_|refine zy ?_|refine zx ?_|unfold yZ);(conv=>whnf))));(·intro Q hQ;(conv=>whnf);exact hQ);intro _)|(apply xY;(·exact rfl);(·exact rfl);(·intro _ _ hy;(conv=>whnf);exact hy);(·intro Q hQ;(conv=>whnf);exact hQ))|refine xZ ?_)
    apply xk
    ·exact rfl
    ·exact rfl
    ·(intro _ _ hy;(conv=>whnf);exact hy)
    ·exact rfl
    ·intro Q hQ
     conv=>whnf
     refine bcase (fun _=>?_) (fun h=>absurd (h.symm.trans hm) (by simp))
     conv=>whnf
     repeat(first|exact hQ|((first|refine xw (by first|rfl|assumption) ?_|refine xx (by first|rfl|assumption) ?_|refine zy ?_|refine zx ?_);(conv=>whnf)))
    ·(intro Q hQ;(conv=>whnf);exact hQ)
    repeat(first|(apply xk;(·exact rfl);(·exact rfl);(·intro _ _ hy;(conv=>whnf);exact hy);(·exact rfl);(·intro Q hQ;(conv=>whnf);repeat(first|exact hQ|((first|refine xw (by first|rfl|assumption) ?_|refine xx (by first|rfl|assumption) ?_|refine zy ?_|refine zx ?_|unfold yZ);(conv=>whnf))));(·intro Q hQ;(conv=>whnf);exact hQ))|(apply xX;(·exact rfl);(·exact rfl);(·intro _ _ hy;(conv=>whnf);exact hy);(·exact rfl);(·intro Q hQ;(conv=>whnf);repeat(first|exact hQ|((first|refine xw (by first|rfl|assumption) ?_|refine xx (by first|rfl|assumption) ?_|refine zy ?_|refine zx ?_|unfold yZ);(conv=>whnf))));(·intro Q hQ;(conv=>whnf);exact hQ);intro _)|(apply xY;(·exact rfl);(·exact rfl);(·intro _ _ hy;(conv=>whnf);exact hy);(·intro Q hQ;(conv=>whnf);exact hQ))|refine xZ ?_)
    apply xX
    ·exact rfl
    ·exact rfl
    ·(intro _ _ hy;(conv=>whnf);exact hy)
    ·exact rfl
    ·intro Q hQ
     conv=>whnf
     refine vX agg9 (2 * m) (show 0+m * 2+0=2 * m by omega) (cellsOf_at (l:=sortL l []) (by omega)).1 ?_
     exact hQ
    ·(intro Q hQ;(conv=>whnf);exact hQ)
    intro _
    repeat(first|(apply xk;(·exact rfl);(·exact rfl);(·intro _ _ hy;(conv=>whnf);exact hy);(·exact rfl);(·intro Q hQ;(conv=>whnf);repeat(first|exact hQ|((first|refine xw (by first|rfl|assumption) ?_|refine xx (by first|rfl|assumption) ?_|refine zy ?_|refine zx ?_|unfold yZ);(conv=>whnf))));(·intro Q hQ;(conv=>whnf);exact hQ))|(apply xX;(·exact rfl);(·exact rfl);(·intro _ _ hy;(conv=>whnf);exact hy);(·exact rfl);(·intro Q hQ;(conv=>whnf);repeat(first|exact hQ|((first|refine xw (by first|rfl|assumption) ?_|refine xx (by first|rfl|assumption) ?_|refine zy ?_|refine zx ?_|unfold yZ);(conv=>whnf))));(·intro Q hQ;(conv=>whnf);exact hQ);intro _)|(apply xY;(·exact rfl);(·exact rfl);(·intro _ _ hy;(conv=>whnf);exact hy);(·intro Q hQ;(conv=>whnf);exact hQ))|refine xZ ?_)
    refine ww ‹_› ?_
    repeat (first
     | refine wY (by first|(simp;done)|(intro c hc;simp at hc;rcases hc with rfl|rfl|rfl <;> exact ⟨rfl,rfl⟩)|(intro c hc;simp at hc;rcases hc with rfl|rfl <;> exact ⟨rfl,rfl⟩)|(intro c hc;simp at hc;rcases hc with rfl;exact ⟨rfl,rfl⟩)) ‹_› (by first|exact vq _|exact vj _ _|exact vy _ _|exact vw _|rfl) (by first|exact .inl rfl|exact .inr rfl) ?_
     | refine wZ (.inl (by first|rfl|kernel_rfl)) (.inr ‹_›) (by first|exact vq _|exact vj _ _|exact vv _ _ _ _ _ _|exact vy _ _|exact vw _|rfl) ?_
     | refine vz ?_)
    conv=>whnf
    repeat(first|((first|refine yw ?_|refine zX ?_|refine yX ?_|refine zk ?_);intro _ _)|refine yz ?_|refine xz ?_|refine yj ‹_› ?_|refine zw ‹_› ?_|refine yx ‹_› ?_|refine yq ‹_› ?_|refine zZ ?_|refine yy ?_|refine yv ?_|refine zq ?_|refine zY (fun Q hQ=>by (conv=>whnf);exact hQ) ?_|refine zj (fun Q hQ=>by (conv=>whnf);exact hQ) ?_|(apply yk;(·intro _ _ hy;(conv=>whnf);exact hy);(·intro Q hQ;(conv=>whnf);repeat(first|exact hQ|((first|refine xw (by first|rfl|assumption) ?_|refine xx (by first|rfl|assumption) ?_|refine zy ?_|refine zx ?_|unfold yZ);(conv=>whnf))));(·intro Q hQ;(conv=>whnf);exact hQ))|(apply yY;(·intro _ _ hy;(conv=>whnf);exact hy);(·intro Q hQ;(conv=>whnf);exact hQ)))
    apply yk
    ·(intro _ _ hy;(conv=>whnf);exact hy)
    ·intro Q hQ
     conv=>whnf
     refine wq (m+1+1) rfl (by show m+1+1 ≤ 9223372036854775807;omega) ?_
     exact hQ
    ·(intro Q hQ;(conv=>whnf);exact hQ)
    repeat(first|((first|refine yw ?_|refine zX ?_|refine yX ?_|refine zk ?_);intro _ _)|refine yz ?_|refine xz ?_|refine yj ‹_› ?_|refine zw ‹_› ?_|refine yx ‹_› ?_|refine yq ‹_› ?_|refine zZ ?_|refine yy ?_|refine yv ?_|refine zq ?_|refine zY (fun Q hQ=>by (conv=>whnf);exact hQ) ?_|refine zj (fun Q hQ=>by (conv=>whnf);exact hQ) ?_|(apply yk;(·intro _ _ hy;(conv=>whnf);exact hy);(·intro Q hQ;(conv=>whnf);repeat(first|exact hQ|((first|refine xw (by first|rfl|assumption) ?_|refine xx (by first|rfl|assumption) ?_|refine zy ?_|refine zx ?_|unfold yZ);(conv=>whnf))));(·intro Q hQ;(conv=>whnf);exact hQ))|(apply yY;(·intro _ _ hy;(conv=>whnf);exact hy);(·intro Q hQ;(conv=>whnf);exact hQ)))
    refine ⟨_,⟨Nat.le_of_ble_eq_true (by kernel_rfl),?_⟩,rfl,ih _ (by omega) ⟨by omega,?_⟩⟩
    ·
     repeat' (first
      | exact trivial
      | exact Nat.le_of_ble_eq_true rfl
      | exact ⟨_,rfl,.cells (wv _) (.inl rfl)⟩
      | apply And.intro)
    ·exact ⟨rfl,zz rfl,zz rfl,zz rfl,zz rfl,zz rfl,zz rfl,rfl,rfl,zz rfl,zz rfl,zz rfl,zz rfl,zz rfl,zz rfl,zz rfl,zz rfl,zz rfl,zz rfl,zz rfl,zz rfl,zz rfl,zz rfl,zz rfl,zz rfl,zz rfl,zz rfl,zz rfl,zz rfl,zz rfl,zz rfl,zz rfl,zz rfl,zz rfl,zz rfl,zz rfl,zz rfl,zz rfl,zz rfl,zz rfl,zz rfl,zz rfl,zz rfl,zz rfl,zz rfl,zz rfl,zz rfl,zz rfl,trivial⟩
  ·have hlt:j < l.length:=by rw [ltI_eq] at hb;simpa using hb
   have hblt:Nat.blt j l.length=true:=hb
   repeat(first|((first|refine yw ?_|refine zX ?_|refine yX ?_|refine zk ?_);intro _ _)|refine yz ?_|refine xz ?_|refine yj ‹_› ?_|refine zw ‹_› ?_|refine yx ‹_› ?_|refine yq ‹_› ?_|refine zZ ?_|refine yy ?_|refine yv ?_|refine zq ?_|refine zY (fun Q hQ=>by (conv=>whnf);exact hQ) ?_|refine zj (fun Q hQ=>by (conv=>whnf);exact hQ) ?_|(apply yk;(·intro _ _ hy;(conv=>whnf);exact hy);(·intro Q hQ;(conv=>whnf);repeat(first|exact hQ|((first|refine xw (by first|rfl|assumption) ?_|refine xx (by first|rfl|assumption) ?_|refine zy ?_|refine zx ?_|unfold yZ);(conv=>whnf))));(·intro Q hQ;(conv=>whnf);exact hQ))|(apply yY;(·intro _ _ hy;(conv=>whnf);exact hy);(·intro Q hQ;(conv=>whnf);exact hQ)))
   apply yk
   ·(intro _ _ hy;(conv=>whnf);exact hy)
   ·intro Q hQ
    conv=>whnf
    refine bcase (fun _=>?_) (fun h=>absurd (h.symm.trans hblt) (by simp))
    conv=>whnf
    repeat(first|exact hQ|((first|refine xw (by first|rfl|assumption) ?_|refine xx (by first|rfl|assumption) ?_|refine zy ?_|refine zx ?_);(conv=>whnf)))
   ·(intro Q hQ;(conv=>whnf);exact hQ)
   repeat(first|((first|refine yw ?_|refine zX ?_|refine yX ?_|refine zk ?_);intro _ _)|refine yz ?_|refine xz ?_|refine yj ‹_› ?_|refine zw ‹_› ?_|refine yx ‹_› ?_|refine yq ‹_› ?_|refine zZ ?_|refine yy ?_|refine yv ?_|refine zq ?_|refine zY (fun Q hQ=>by (conv=>whnf);exact hQ) ?_|refine zj (fun Q hQ=>by (conv=>whnf);exact hQ) ?_|(apply yk;(·intro _ _ hy;(conv=>whnf);exact hy);(·intro Q hQ;(conv=>whnf);repeat(first|exact hQ|((first|refine xw (by first|rfl|assumption) ?_|refine xx (by first|rfl|assumption) ?_|refine zy ?_|refine zx ?_|unfold yZ);(conv=>whnf))));(·intro Q hQ;(conv=>whnf);exact hQ))|(apply yY;(·intro _ _ hy;(conv=>whnf);exact hy);(·intro Q hQ;(conv=>whnf);exact hQ)))
   apply yk
   ·(intro _ _ hy;(conv=>whnf);exact hy)
   ·intro Q hQ
    conv=>whnf
    refine partK_lab agg40 hi40 hs40 (j:=j) (List.getElem?_eq_getElem hlt) (show 0+j * 2=2 * j by omega) ?_
    exact hQ
   ·(intro Q hQ;(conv=>whnf);exact hQ)
   repeat(first|((first|refine yw ?_|refine zX ?_|refine yX ?_|refine zk ?_);intro _ _)|refine yz ?_|refine xz ?_|refine yj ‹_› ?_|refine zw ‹_› ?_|refine yx ‹_› ?_|refine yq ‹_› ?_|refine zZ ?_|refine yy ?_|refine yv ?_|refine zq ?_|refine zY (fun Q hQ=>by (conv=>whnf);exact hQ) ?_|refine zj (fun Q hQ=>by (conv=>whnf);exact hQ) ?_|(apply yk;(·intro _ _ hy;(conv=>whnf);exact hy);(·intro Q hQ;(conv=>whnf);repeat(first|exact hQ|((first|refine xw (by first|rfl|assumption) ?_|refine xx (by first|rfl|assumption) ?_|refine zy ?_|refine zx ?_|unfold yZ);(conv=>whnf))));(·intro Q hQ;(conv=>whnf);exact hQ))|(apply yY;(·intro _ _ hy;(conv=>whnf);exact hy);(·intro Q hQ;(conv=>whnf);exact hQ)))
   apply xq
   ·(intro _ _ hy;(conv=>whnf);exact hy)
   intro Q hQ
   conv=>whnf
   refine one_run (q:=l[j]) (hn' _ (List.getElem_mem hlt)) (hv' _ (List.getElem_mem hlt)) ?_
   rw [hQ]
   conv=>whnf
   repeat(first|((first|refine yw ?_|refine zX ?_|refine yX ?_|refine zk ?_);intro _ _)|refine yz ?_|refine xz ?_|refine yj ‹_› ?_|refine zw ‹_› ?_|refine yx ‹_› ?_|refine yq ‹_› ?_|refine zZ ?_|refine yy ?_|refine yv ?_|refine zq ?_|refine zY (fun Q hQ=>by (conv=>whnf);exact hQ) ?_|refine zj (fun Q hQ=>by (conv=>whnf);exact hQ) ?_|(apply yk;(·intro _ _ hy;(conv=>whnf);exact hy);(·intro Q hQ;(conv=>whnf);repeat(first|exact hQ|((first|refine xw (by first|rfl|assumption) ?_|refine xx (by first|rfl|assumption) ?_|refine zy ?_|refine zx ?_|unfold yZ);(conv=>whnf))));(·intro Q hQ;(conv=>whnf);exact hQ))|(apply yY;(·intro _ _ hy;(conv=>whnf);exact hy);(·intro Q hQ;(conv=>whnf);exact hQ)))
   apply yk
   ·(intro _ _ hy;(conv=>whnf);exact hy)
   ·intro Q hQ
    conv=>whnf
    refine wq (j+1) rfl (by show j+1 ≤ 9223372036854775807;omega) ?_
    exact hQ
   ·(intro Q hQ;(conv=>whnf);exact hQ)
   repeat(first|((first|refine yw ?_|refine zX ?_|refine yX ?_|refine zk ?_);intro _ _)|refine yz ?_|refine xz ?_|refine yj ‹_› ?_|refine zw ‹_› ?_|refine yx ‹_› ?_|refine yq ‹_› ?_|refine zZ ?_|refine yy ?_|refine yv ?_|refine zq ?_|refine zY (fun Q hQ=>by (conv=>whnf);exact hQ) ?_|refine zj (fun Q hQ=>by (conv=>whnf);exact hQ) ?_|(apply yk;(·intro _ _ hy;(conv=>whnf);exact hy);(·intro Q hQ;(conv=>whnf);repeat(first|exact hQ|((first|refine xw (by first|rfl|assumption) ?_|refine xx (by first|rfl|assumption) ?_|refine zy ?_|refine zx ?_|unfold yZ);(conv=>whnf))));(·intro Q hQ;(conv=>whnf);exact hQ))|(apply yY;(·intro _ _ hy;(conv=>whnf);exact hy);(·intro Q hQ;(conv=>whnf);exact hQ)))
   refine ⟨_,⟨Nat.le_refl _,?_⟩,rfl,ih _ hlt ⟨by omega,⟨rfl,zz rfl,zz rfl,zz rfl,zz rfl,zz rfl,zz rfl,zz rfl,zz rfl,rfl,rfl,rfl,zz rfl,zz rfl,zz rfl,zz rfl,zz rfl,zz rfl,zz rfl,zz rfl,zz rfl,zz rfl,zz rfl,zz rfl,zz rfl,zz rfl,zz rfl,zz rfl,zz rfl,zz rfl,zz rfl,zz rfl,zz rfl,zz rfl,zz rfl,zz rfl,zz rfl,zz rfl,zz rfl,zz rfl,zz rfl,zz rfl,zz rfl,zz rfl,zz rfl,zz rfl,zz rfl,zz rfl,trivial⟩⟩⟩
   repeat' (first
    | exact trivial
    | exact Nat.le_of_ble_eq_true rfl
    | exact ⟨_,rfl,.cells (wv _) (.inl rfl)⟩
    | apply And.intro)
end Go.Am
/- The plain law: what becomes of a sample's labels without rules. -/
namespace Go.Am
theorem expTs_mem {tg sm:List Lab}:∀ {l:List Lab} {x:Tab × Nat},TabOk x→∀ y:Lab,y ∈ (l.foldl (expT tg sm) x).1.map (·.1)→y ∈ x.1.map (·.1) ∨ (y ∈ l∧getL y.1 tg=[]) ∨ ∃ q ∈ l,y=(expN q.1,q.2)
 | [],x,_,y,h=>.inl h
 | q :: l,x,hx,y,h=>by
   rcases expTs_mem (l:=l) (expT_ok hx) y h with h1|⟨h1,h2⟩|⟨z,hz,h1⟩
   ·unfold expT at h1
    by_cases hg:getL q.1 tg=[]
    ·rw [if_pos hg,putT_mem hx.dist] at h1
     rcases h1 with rfl|⟨_,h1⟩
     ·exact .inr (.inl ⟨by simp,hg⟩)
     ·exact .inl h1
    ·rw [if_neg hg] at h1
     by_cases hc:getL (expN q.1) tg ++ getL (expN q.1) sm=[]
     ·rw [if_pos hc,putT_mem hx.dist] at h1
      rcases h1 with rfl|⟨_,h1⟩
      ·exact .inr (.inr ⟨q,by simp,rfl⟩)
      ·exact .inl h1
     ·rw [if_neg hc] at h1;exact .inl h1
   ·exact .inr (.inl ⟨List.mem_cons_of_mem _ h1,h2⟩)
   ·exact .inr (.inr ⟨z,List.mem_cons_of_mem _ hz,h1⟩)
theorem expTs_keep {tg sm:List Lab} {y:Lab} (hy:getL y.1 sm ≠ []):∀ {l:List Lab} {x:Tab × Nat},TabOk x→(∀ q ∈ l,q.1 ≠ y.1)→y ∈ x.1.map (·.1)→y ∈ (l.foldl (expT tg sm) x).1.map (·.1)
 | [],_,_,_,h=>h
 | q :: l,x,hx,hn,h=>by
   refine expTs_keep hy (l:=l) (expT_ok hx) (fun z hz=>hn z (by simp [hz])) ?_
   unfold expT
   by_cases hg:getL q.1 tg=[]
   ·rw [if_pos hg,putT_mem hx.dist]
    exact .inr ⟨Ne.symm (hn q (by simp)),h⟩
   ·rw [if_neg hg]
    by_cases hc:getL (expN q.1) tg ++ getL (expN q.1) sm=[]
    ·rw [if_pos hc,putT_mem hx.dist]
     refine .inr ⟨fun e=>hy ?_,h⟩
     have e':y.1=expN q.1:=e
     rw [e']
     exact (List.append_eq_nil_iff.1 hc).2
    ·rw [if_neg hc];exact h
theorem expTs_put {tg sm:List Lab} {y:Lab} (hy:getL y.1 sm ≠ []) (hg:getL y.1 tg=[]):∀ {l:List Lab} {x:Tab × Nat},TabOk x→l.Pairwise (fun p q=>p.1 ≠ q.1)→y ∈ l→y ∈ (l.foldl (expT tg sm) x).1.map (·.1)
 | [],_,_,_,h=>by simp at h
 | q :: l,x,hx,hp,h=>by
   have hp':=List.pairwise_cons.1 hp
   rcases List.mem_cons.1 h with rfl|h
   ·refine expTs_keep hy (l:=l) (expT_ok hx) (fun z hz=>Ne.symm (hp'.1 z hz)) ?_
    unfold expT
    rw [if_pos hg,putT_mem hx.dist]
    exact .inl rfl
   ·exact expTs_put hy hg (l:=l) (expT_ok hx) hp'.2 h
section
variable {tg sm:List Lab} (okT:OkL tg) (hT:∀ q ∈ tg,hid q.1=false) (okS:OkL sm) (hS:∀ q ∈ sm,q.1 ∈ names04) {met:List UInt8} (hmet:met ∈ mets) (hin:(nameN,met) ∈ sm)
include okT in
theorem expL_mem (y:Lab):y ∈ expL tg sm ↔ y ∈ tg ∨ ((∀ q ∈ tg,y.1 ≠ q.1)∧y ∈ (sm.foldl (expT tg sm) ([],0)).1.map (·.1)):=by
 unfold expL
 rw [tabL_mem,puts_mem (expTs_ok _ .nil) (asc_ne okT.asc)]
include okS in
theorem getS {y:Lab} (hy:y ∈ sm):getL y.1 sm ≠ []:=by
 rw [getL_mem (asc_ne okS.asc) hy];exact okS.full y hy
include okT in
theorem noT {s:List UInt8} (h:getL s tg=[]):∀ q ∈ tg,s ≠ q.1:=fun q hq e=>by
 rw [e,getL_mem (asc_ne okT.asc) hq] at h
 exact okT.full q hq h
include okT okS in
theorem expL_keep {y:Lab} (hy:y ∈ sm) (hg:getL y.1 tg=[]):y ∈ expL tg sm :=
 (expL_mem okT y).2 (.inr ⟨noT okT hg,expTs_put (getS okS hy) hg .nil (asc_ne okS.asc) hy⟩)
include hT in
theorem nameT:getL nameN tg=[]:=getL_none fun q hq e=>by
 have:=hT q hq
 rw [e] at this
 exact absurd this (by decide)
include okT hT okS hin in
theorem nameX_in:(nameN,met) ∈ expL tg sm:=expL_keep okT okS hin (nameT hT)
include okT okS hS in
theorem expL_ok:OkL (expL tg sm):=by
 have key:∀ y ∈ expL tg sm,(y.1 ∈ namesX∧y.2 ∈ valsX)∧y.2 ≠ []:=fun y hy=>by
  rcases (expL_mem okT y).1 hy with h|⟨_,h⟩
  ·exact ⟨⟨okT.name y h,okT.val y h⟩,okT.full y h⟩
  ·rcases expTs_mem .nil y h with h|⟨h,_⟩|⟨q,hq,rfl⟩
   ·simp at h
   ·exact ⟨⟨okS.name y h,okS.val y h⟩,okS.full y h⟩
   ·exact ⟨⟨expX (hS q hq),okS.val q hq⟩,okS.full q hq⟩
 exact ⟨fun y hy=>(key y hy).1.1,fun y hy=>(key y hy).1.2,fun y hy=>(key y hy).2,tabL_asc (.puts _ (expTs_ok _ .nil))⟩
include okT hT okS hS hin in
theorem expL_name:getL nameN (expL tg sm)=met:=getL_mem (q:=(nameN,met)) (asc_ne (expL_ok okT okS hS).asc) (nameX_in okT hT okS hin)
include okT hT okS hS hin in
theorem made_mem (y:Lab):y ∈ tabL (madeX tg sm) ↔ y=(nameN,met) ∨ (y.1 ≠ nameN∧hid y.1=false∧y ∈ expL tg sm):=by
 have hF:((expL tg sm).filter fun q=>!hid q.1).Pairwise fun p q=>p.1 ≠ q.1:=asc_ne ((expL_ok okT okS hS).asc.filter _)
 rw [tabL_mem]
 unfold madeX
 rw [puts_mem (.puts _ .nil) (List.pairwise_singleton _ _),puts_mem .nil hF,expL_name okT hT okS hS hin]
 simp
 rw [and_comm (a:=y ∈ expL tg sm)]
include okT hT okS hS hin in
theorem made_ne:(madeX tg sm).1 ≠ []:=fun h=>by
 have h1:=(made_mem okT hT okS hS hin (nameN,met)).2 (.inl rfl)
 rw [tabL_mem,h] at h1
 simp at h1
theorem made_asc:(tabL (madeX tg sm)).Pairwise fun p q=>ltS p.1 q.1=true:=tabL_asc (.puts _ (.puts _ .nil))
include okT hT okS hS hmet hin in
theorem made_ok:OkL (tabL (madeX tg sm)):=by
 have hX:=expL_ok okT okS hS
 have key:∀ y ∈ tabL (madeX tg sm),(y.1 ∈ namesX∧y.2 ∈ valsX)∧y.2 ≠ []:=fun y hy=>by
  rcases (made_mem okT hT okS hS hin y).1 hy with rfl|⟨_,_,h⟩
  ·exact ⟨⟨nameN_in,mets_vals hmet⟩,mets_ne hmet⟩
  ·exact ⟨⟨hX.name y h,hX.val y h⟩,hX.full y h⟩
 exact ⟨fun y hy=>(key y hy).1.1,fun y hy=>(key y hy).1.2,fun y hy=>(key y hy).2,made_asc⟩
include okT hT okS hS hin in
theorem made_name:getL nameN (tabL (madeX tg sm))=met:=getL_mem (q:=(nameN,met)) (asc_ne made_asc) ((made_mem okT hT okS hS hin _).2 (.inl rfl))
include okT hT okS hS hin in
theorem made_own {y:Lab} (hy:y ∈ tg):getL y.1 (tabL (madeX tg sm))=y.2:=by
 have hn:y.1 ≠ nameN:=fun e=>by
  have:=hT y hy
  rw [e] at this
  exact absurd this (by decide)
 exact getL_mem (asc_ne made_asc) ((made_mem okT hT okS hS hin y).2 (.inr ⟨hn,hT y hy,(expL_mem okT y).2 (.inl hy)⟩))
include okT hT okS hS hin in
theorem made_sample {y:Lab} (hy:y ∈ sm) (hg:getL y.1 tg=[]) (hh:hid y.1=false ∨ y.1=nameN):getL y.1 (tabL (madeX tg sm))=y.2:=by
 by_cases hn:y.1=nameN
 ·rw [hn,made_name okT hT okS hS hin]
  have h1:=getL_mem (asc_ne okS.asc) hy
  have h2:=getL_mem (q:=(nameN,met)) (asc_ne okS.asc) hin
  rw [hn] at h1
  exact h2.symm.trans h1
 ·have hh':hid y.1=false:=hh.resolve_right hn
  exact getL_mem (asc_ne made_asc) ((made_mem okT hT okS hS hin y).2 (.inr ⟨hn,hh',expL_keep okT okS hy hg⟩))
include okT hT okS hS hin in
theorem made_hidden {s:List UInt8} (hh:hid s=true) (hn:s ≠ nameN):getL s (tabL (madeX tg sm))=[]:=getL_none fun z hz e=>by
 rcases (made_mem okT hT okS hS hin z).1 hz with rfl|⟨_,h2,_⟩
 ·exact hn e.symm
 ·rw [e,hh] at h2;cases h2
end
/-! What the makers make. -/
theorem dropN_mem {n:List UInt8} {x:Lab}:∀ {l:List Lab},x ∈ dropN n l→x ∈ l
 | [],h=>h
 | y :: l,h=>by
   unfold dropN at h
   split at h
   ·exact List.mem_cons_of_mem _ h
   ·rcases List.mem_cons.1 h with rfl|h
    ·simp
    ·exact List.mem_cons_of_mem _ (dropN_mem h)
theorem dropN_ne {n:List UInt8}:∀ {l:List Lab},l.Pairwise (fun p q=>p.1 ≠ q.1)→(dropN n l).Pairwise (fun p q=>p.1 ≠ q.1)∧∀ x ∈ dropN n l,x.1 ≠ n
 | [],_=>⟨.nil,by simp [dropN]⟩
 | y :: l,h=>by
   have h':=List.pairwise_cons.1 h
   unfold dropN
   split
   ·rename_i e
    exact ⟨h'.2,fun x hx he=>h'.1 x hx (e.trans he.symm)⟩
   ·rename_i e
    obtain ⟨h1,h2⟩:=dropN_ne (n:=n) h'.2
    refine ⟨List.pairwise_cons.2 ⟨fun x hx=>h'.1 x (dropN_mem hx),h1⟩,fun x hx=>?_⟩
    rcases List.mem_cons.1 hx with rfl|hx
    ·exact e
    ·exact h2 x hx
theorem made_dist:∀ (s:List (Nat × Nat)) {o:List Lab},o.Pairwise (fun p q=>p.1 ≠ q.1)→(s.foldl madeS o).Pairwise fun p q=>p.1 ≠ q.1
 | [],_,h=>h
 | x :: s,o,h=>by
   refine made_dist s ?_
   unfold madeS
   obtain ⟨h1,h2⟩:=dropN_ne (n:=(labS x).1) h
   refine List.pairwise_append.2 ⟨h1,List.pairwise_singleton _ _,fun a ha b hb=>?_⟩
   rw [List.mem_singleton] at hb
   subst hb
   exact h2 a ha
theorem getD_in {l:List (List UInt8)} {i:Nat} (h:i < l.length):l.getD i [] ∈ l:=by
 simp [List.getD,h]
theorem labS_in (x:Nat × Nat):(labS x).1 ∈ names04∧(labS x).2 ∈ vals04:=⟨getD_in (Nat.mod_lt _ (by decide)),getD_in (Nat.mod_lt _ (by decide))⟩
theorem made_in:∀ (s:List (Nat × Nat)) {o:List Lab},(∀ q ∈ o,q.1 ∈ names04∧q.2 ∈ vals04)→∀ q ∈ s.foldl madeS o,q.1 ∈ names04∧q.2 ∈ vals04
 | [],_,h=>h
 | x :: s,o,h=>by
   refine made_in s fun q hq=>?_
   unfold madeS at hq
   rcases List.mem_append.1 hq with hq|hq
   ·exact h q (dropN_mem hq)
   ·rw [List.mem_singleton] at hq;subst hq;exact labS_in x
theorem made_few (s:List (Nat × Nat)):(made s).length ≤ 40:=by
 unfold made
 have:=made_len (s.take 40) []
 rw [List.length_take] at this
 simp at this
 omega
theorem made_names (s:List (Nat × Nat)):∀ q ∈ made s,q.1 ∈ names04∧q.2 ∈ vals04:=made_in _ (by simp)
theorem made_pair (s:List (Nat × Nat)):(made s).Pairwise fun p q=>p.1 ≠ q.1:=made_dist _ .nil
theorem names_X {s:List UInt8} (h:s ∈ names04):s ∈ namesX:=List.mem_append.2 (.inl h)
theorem vals_X {s:List UInt8} (h:s ∈ vals04):s ∈ valsX:=List.mem_append.2 (.inl h)
/-- What label.Of makes of what layer 4's Made makes. -/
noncomputable def ofS (s:List (Nat × Nat)):List Lab:=fulls (sortL (made s) [])
theorem ofS_mem {s:List (Nat × Nat)} {q:Lab} (h:q ∈ ofS s):q ∈ made s∧q.2 ≠ []:=by
 obtain ⟨h1,h2⟩:=List.mem_filter.1 h
 rw [sortL_mem] at h1
 refine ⟨h1.resolve_right (by simp),fun e=>?_⟩
 rw [e] at h2
 simp [eqS_self] at h2
theorem ofS_ok (s:List (Nat × Nat)):OkL (ofS s) :=
 ⟨fun q hq=>names_X (made_names s q (ofS_mem hq).1).1,fun q hq=>vals_X (made_names s q (ofS_mem hq).1).2,fun q hq=>(ofS_mem hq).2,(sortL_asc .nil (made_pair s) (by simp)).filter _⟩
theorem ofS_names (s:List (Nat × Nat)):∀ q ∈ ofS s,q.1 ∈ names04:=fun q hq=>(made_names s q (ofS_mem hq).1).1
/-- The own labels. -/
noncomputable def ownS (s:List (Nat × Nat)):List Lab:=(ofS s).filter fun q=>!hid q.1
theorem ownS_ok (s:List (Nat × Nat)):OkL (ownS s):=(ofS_ok s).filt
theorem ownS_hid (s:List (Nat × Nat)):∀ q ∈ ownS s,hid q.1=false:=fun q hq=>by simpa using (List.mem_filter.1 hq).2
/-- The sample's labels. -/
noncomputable def smpT (met:List UInt8) (s:List (Nat × Nat)):Tab × Nat:=[(nameN,met)].foldl putT ((ofS s).foldl putT ([],0))
theorem smp_mem {met:List UInt8} {s:List (Nat × Nat)} (y:Lab):y ∈ tabL (smpT met s) ↔ y=(nameN,met) ∨ (y.1 ≠ nameN∧y ∈ ofS s):=by
 rw [tabL_mem]
 unfold smpT
 rw [puts_mem (.puts _ .nil) (List.pairwise_singleton _ _),puts_mem .nil (asc_ne (ofS_ok s).asc)]
 simp
theorem nameN_04:nameN ∈ names04:=by decide
theorem smp_ok {met:List UInt8} (hmet:met ∈ mets) (s:List (Nat × Nat)):OkL (tabL (smpT met s)):=by
 have key:∀ y ∈ tabL (smpT met s),(y.1 ∈ namesX∧y.2 ∈ valsX)∧y.2 ≠ []:=fun y hy=>by
  rcases (smp_mem y).1 hy with rfl|⟨_,h⟩
  ·exact ⟨⟨nameN_in,mets_vals hmet⟩,mets_ne hmet⟩
  ·exact ⟨⟨(ofS_ok s).name y h,(ofS_ok s).val y h⟩,(ofS_ok s).full y h⟩
 exact ⟨fun y hy=>(key y hy).1.1,fun y hy=>(key y hy).1.2,fun y hy=>(key y hy).2,tabL_asc (.puts _ (.puts _ .nil))⟩
theorem smp_names {met:List UInt8} (s:List (Nat × Nat)):∀ q ∈ tabL (smpT met s),q.1 ∈ names04:=fun y hy=>by
 rcases (smp_mem y).1 hy with rfl|⟨_,h⟩
 ·exact nameN_04
 ·exact ofS_names s y h
theorem smp_ne {met:List UInt8} (s:List (Nat × Nat)):(smpT met s).1 ≠ []:=fun h=>by
 have h1:=(smp_mem (met:=met) (s:=s) (nameN,met)).2 (.inl rfl)
 rw [tabL_mem,h] at h1
 simp at h1
end Go.Am
