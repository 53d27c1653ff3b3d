/- Part 9 of the proof that BodyOwn returns true, and leaves its arguments as they were, for every input, over a start where the listed variables hold what the program lays: the statement Rows.BodyOwnCardSaid. -/
import Derived.Test.YtnfhhddmeikbpaaGreatDoorWAh
import Derived.KernelRfl
set_option linter.unusedVariables false
set_option linter.unusedSimpArgs false
/- body.ready, slices.Clone. -/
namespace Go.Am
open Go.Proofs
set_option maxRecDepth 100000
attribute [local irreducible] fN fI fB yZ wrapK bAppend evOps wk drOps rdsAll sl

theorem f18:FnAt Tryz.prog 18 29 [.tmp 4,.tmp 5] (codeOf Tryz.f18):=⟨Tryz.f18,by kernel_rfl,rfl,by kernel_rfl,by kernel_rfl,by kernel_rfl⟩
theorem f28:FnAt Tryz.prog 28 8 [.tmp 2] (codeOf Tryz.f28):=⟨Tryz.f28,by kernel_rfl,rfl,by kernel_rfl,by kernel_rfl,by kernel_rfl⟩
theorem f52:FnAt Tryz.prog 52 8 [.tmp 2] (codeOf Tryz.f52):=⟨Tryz.f52,by kernel_rfl,rfl,by kernel_rfl,by kernel_rfl,by kernel_rfl⟩

/-- The same small run, where objects may be written, but stay as they are. -/
theorem RC.keep {P:Program} (hm:P.follows .mixedOrders=true) {c:FuncId} {n:Nat} {rs:List ResultVar} {code:Code} (hf:FnAt P c n rs code) {l l2:List V} (ids:List Nat) (ks os news:List O) {S:St} {v2:V} {k:V→St→Prop}
  (hids:∀ a b i:Nat,0 ≤ a→ids[a]?=some i→ids[b]?=some i→a=b) (hlen:ids.length=os.length) (hlen1:ks.length=os.length) (hat:∀ (a i:Nat) (o:O),ids[a]?=some i→ks[a]?=some o→S.hs.get i=some o)
  (hin:∀ (a:Nat) (o' o:O),ks[a]?=some o'→os[a]?=some o→OI (Rin ids (ngl+os.length)) o' o) (hl:VIs (Rin ids (ngl+os.length)) l2 l) (hw:∀ (a:Nat) (o:O),ks[a]?=some o→o.wr=true) (hwn:∀ (a:Nat) (o:O),news[a]?=some o→o.wr=true)
  (hrun:buildK (numb ngl os) ⟨.nil,ngl+os.length⟩ (runF P n rs code l (Post 0 ids (ngl+os.length) S.next ks news v2)))
  (hk:newsK news S (k v2)):RC P c l2 S k:=by
 obtain ⟨S0,h1,h0⟩:=buildK_spec hrun
 have hX:ExtsOk P []:=fun q h=>by cases h
 obtain ⟨v,S',h2,h3⟩:=evCall_spec hX RC_ok RD_ok LP_ok (evDraw_ok hm RC_ok RD_ok) c l S0 _ (evCall_at hf h1)
 obtain ⟨S2,h6,h7⟩:=newsK_spec hk
 have:=h3.small 0 h0 hids (by simp) hlen hlen1 (by simpa using hlen1) hat hin hl hw hwn h2
 rw [upd_same (fun q hq=>by
  obtain ⟨a,ha⟩:=List.getElem?_of_mem hq
  rw [List.getElem?_zip_eq_some] at ha
  exact hat a _ _ (by simpa using ha.1) ha.2),← h7] at this
 exact .mk v2 S2 this h6
/-- A value that is a row of labels of its own, or nil. -/
def LW (S:St) (v:V) (l:List Lab):Prop:=(v=.nilSlice∧l=[]) ∨ ∃ i c ex,v=.slice i 0 l.length c 2 ex∧l.length ≤ c∧S.hs.get i=some (.cells (cellsOf l) 40 .rw)
theorem LW.lv {S:St} {v:V} {l:List Lab} (h:LW S v l):LV S v l:=by
 rcases h with h|⟨i,c,ex,rfl,hc,h⟩
 ·exact .inl h
 ·exact LV.mk h hc
theorem newsK_two {o:O} {S:St} {o2:Nat→O} {K:Nat→Nat→St→Prop} (h:newK o S fun r S1=>newK (o2 r) S1 fun p S2=>K r p S2):newsK [o,o2 S.next] S (K S.next (S.next+1)):=by cases S;exact h
set_option maxHeartbeats 2000000 in
theorem ready_run {l:List Lab} {v:V} {S:St} (h:LW S v l) (ok:OkL l) (hh:∀ q ∈ l,hid q.1=false) {k:V→St→Prop}
  (hk:newK (.cells [.nilSlice,.bool true] 128 .ex) S fun r S1=>newK (.cells [v,.ptr r 0] 100 .ex) S1 fun p S2=>k (.tup [.ptr p 0,.int .i64 0]) S2):RC Tryz.prog 18 [v,.nilSlice] S k:=by
 have hk2:=newsK_two (o2:=fun r=>.cells [v,.ptr r 0] 100 .ex) (K:=fun _ p S2=>k (.tup [.ptr p 0,.int .i64 0]) S2) hk
 have hwn:∀ (a:Nat) (o:O),[O.cells [.nilSlice,.bool true] 128 .ex,.cells [v,.ptr S.next 0] 100 .ex][a]?=some o→o.wr=true:=by
  rintro (_|_|a) o h
  ·simp at h;subst h;rfl
  ·simp at h;subst h;rfl
  ·simp at h
 rcases h with ⟨rfl,rfl⟩|⟨i,c,ex,rfl,hc,hrow⟩
 ·refine RC.keep mixed f18 (l:=[.nilSlice,.nilSlice]) [] [] [] _ (by simp) rfl rfl (by simp) (by simp) (.cons .nilSlice (.cons .nilSlice .nil)) (by simp) hwn ?_ hk2
  generalize hK:Post _ _ _ _ _ _ _=K
  apply wy
  ·intro Q hQ
   conv=>whnf
   exact hQ
  apply wx
  ·intro Q hQ
   conv=>whnf
   exact hQ
  intro K0 hK0
  unfold codeOf
  conv=>arg 7;whnf
  repeat(first|((first|refine yw ?_|refine zX ?_|refine yX ?_|refine zk ?_);intro _ _)|refine yz ?_|refine xz ?_|refine yj ‹_› ?_|refine zw ‹_› ?_|refine yx ‹_› ?_|refine yq ‹_› ?_|refine zZ ?_|refine yy ?_|refine yv ?_|refine zq ?_|refine zY (fun Q hQ=>by (conv=>whnf);exact hQ) ?_|refine zj (fun Q hQ=>by (conv=>whnf);exact hQ) ?_|(apply yk;(·intro _ _ hy;(conv=>whnf);exact hy);(·intro Q hQ;(conv=>whnf);repeat(first|exact hQ|((first|refine xw (by first|rfl|assumption) ?_|refine xx (by first|rfl|assumption) ?_|refine zy ?_|refine zx ?_|unfold yZ);(conv=>whnf))));(·intro Q hQ;(conv=>whnf);exact hQ))|(apply yY;(·intro _ _ hy;(conv=>whnf);exact hy);(·intro Q hQ;(conv=>whnf);exact hQ)))
  apply xq
  ·(intro _ _ hy;(conv=>whnf);exact hy)
  intro Q hQ
  conv=>whnf
  refine right_run (LV.nil _) ok ?_
  rw [hQ]
  conv=>whnf
  repeat(first|((first|refine yw ?_|refine zX ?_|refine yX ?_|refine zk ?_);intro _ _)|refine yz ?_|refine xz ?_|refine yj ‹_› ?_|refine zw ‹_› ?_|refine yx ‹_› ?_|refine yq ‹_› ?_|refine zZ ?_|refine yy ?_|refine yv ?_|refine zq ?_|refine zY (fun Q hQ=>by (conv=>whnf);exact hQ) ?_|refine zj (fun Q hQ=>by (conv=>whnf);exact hQ) ?_|(apply yk;(·intro _ _ hy;(conv=>whnf);exact hy);(·intro Q hQ;(conv=>whnf);repeat(first|exact hQ|((first|refine xw (by first|rfl|assumption) ?_|refine xx (by first|rfl|assumption) ?_|refine zy ?_|refine zx ?_|unfold yZ);(conv=>whnf))));(·intro Q hQ;(conv=>whnf);exact hQ))|(apply yY;(·intro _ _ hy;(conv=>whnf);exact hy);(·intro Q hQ;(conv=>whnf);exact hQ)))
  apply xq
  ·(intro _ _ hy;(conv=>whnf);exact hy)
  intro Q hQ
  conv=>whnf
  refine has41_run (LV.nil _) ok hh ?_
  rw [hQ]
  conv=>whnf
  repeat(first|((first|refine yw ?_|refine zX ?_|refine yX ?_|refine zk ?_);intro _ _)|refine yz ?_|refine xz ?_|refine yj ‹_› ?_|refine zw ‹_› ?_|refine yx ‹_› ?_|refine yq ‹_› ?_|refine zZ ?_|refine yy ?_|refine yv ?_|refine zq ?_|refine zY (fun Q hQ=>by (conv=>whnf);exact hQ) ?_|refine zj (fun Q hQ=>by (conv=>whnf);exact hQ) ?_|(apply yk;(·intro _ _ hy;(conv=>whnf);exact hy);(·intro Q hQ;(conv=>whnf);repeat(first|exact hQ|((first|refine xw (by first|rfl|assumption) ?_|refine xx (by first|rfl|assumption) ?_|refine zy ?_|refine zx ?_|unfold yZ);(conv=>whnf))));(·intro Q hQ;(conv=>whnf);exact hQ))|(apply yY;(·intro _ _ hy;(conv=>whnf);exact hy);(·intro Q hQ;(conv=>whnf);exact hQ)))
  apply xq
  ·(intro _ _ hy;(conv=>whnf);exact hy)
  intro Q hQ
  conv=>whnf
  refine new43_run ?_
  conv=>whnf
  rw [hQ]
  conv=>whnf
  repeat(first|((first|refine yw ?_|refine zX ?_|refine yX ?_|refine zk ?_);intro _ _)|refine yz ?_|refine xz ?_|refine yj ‹_› ?_|refine zw ‹_› ?_|refine yx ‹_› ?_|refine yq ‹_› ?_|refine zZ ?_|refine yy ?_|refine yv ?_|refine zq ?_|refine zY (fun Q hQ=>by (conv=>whnf);exact hQ) ?_|refine zj (fun Q hQ=>by (conv=>whnf);exact hQ) ?_|(apply yk;(·intro _ _ hy;(conv=>whnf);exact hy);(·intro Q hQ;(conv=>whnf);repeat(first|exact hQ|((first|refine xw (by first|rfl|assumption) ?_|refine xx (by first|rfl|assumption) ?_|refine zy ?_|refine zx ?_|unfold yZ);(conv=>whnf))));(·intro Q hQ;(conv=>whnf);exact hQ))|(apply yY;(·intro _ _ hy;(conv=>whnf);exact hy);(·intro Q hQ;(conv=>whnf);exact hQ)))
  conv=>whnf
  rw [← hK]
  refine ⟨[ngl,ngl+1],by decide,?_,.tup (.cons (.ptr _ (Rou.new (a:=1) rfl (Nat.le_of_ble_eq_true rfl) (by simp))) (.cons (.int _ _) .nil)),trivial,
   ⟨⟨_,rfl,.cells (.cons .nilSlice (.cons (.bool _) .nil)) (.inl rfl)⟩,⟨_,rfl,.cells (.cons (.nilSlice) (.cons (.ptr _ (Rou.new (a:=0) rfl (Nat.le_of_ble_eq_true rfl) (by simp))) .nil)) (.inl rfl)⟩,trivial⟩⟩
  intro g hg
  simp only [List.mem_cons,List.mem_nil_iff,or_false] at hg
  rcases hg with rfl|rfl <;> exact Nat.le_of_ble_eq_true rfl
 ·refine RC.keep mixed f18 (l:=[.slice ngl 0 l.length c 2 ex,.nilSlice]) [i] [.cells (cellsOf l) 40 .rw] [.cells (cellsOf l) 40 .rw] _ ?_ rfl rfl ?_ ?_ (.cons (.slice _ _ _ _ _ _ _ (Rin.at (a:=0) rfl (by simp)) (.inl rfl) (Nat.le_refl _) (fun h=>⟨h,rfl⟩)) (.cons .nilSlice .nil)) ?_ hwn ?_ hk2
  ·rintro (_|a) (_|b) x _ h1 h2 <;> simp at h1 h2 ⊢
  ·rintro (_|a) j o h1 h2
   ·simp at h1 h2;subst h1;subst h2;exact hrow
   ·simp at h1
  ·rintro (_|a) o1 o2 h1 h2
   ·simp at h1 h2;subst h1;subst h2;exact .cells (wv l) (.inl rfl)
   ·simp at h1
  ·rintro (_|a) o h
   ·simp at h;subst h;rfl
   ·simp at h
  ·show buildK _ ⟨T.nil,ngl+1⟩ _
   generalize hK:Post _ _ _ _ _ _ _=K
   apply wy
   ·intro Q hQ
    conv=>whnf
    exact hQ
   apply wx
   ·intro Q hQ
    conv=>whnf
    exact hQ
   intro K0 hK0
   unfold codeOf
   conv=>arg 7;whnf
   repeat(first|((first|refine yw ?_|refine zX ?_|refine yX ?_|refine zk ?_);intro _ _)|refine yz ?_|refine xz ?_|refine yj ‹_› ?_|refine zw ‹_› ?_|refine yx ‹_› ?_|refine yq ‹_› ?_|refine zZ ?_|refine yy ?_|refine yv ?_|refine zq ?_|refine zY (fun Q hQ=>by (conv=>whnf);exact hQ) ?_|refine zj (fun Q hQ=>by (conv=>whnf);exact hQ) ?_|(apply yk;(·intro _ _ hy;(conv=>whnf);exact hy);(·intro Q hQ;(conv=>whnf);repeat(first|exact hQ|((first|refine xw (by first|rfl|assumption) ?_|refine xx (by first|rfl|assumption) ?_|refine zy ?_|refine zx ?_|unfold yZ);(conv=>whnf))));(·intro Q hQ;(conv=>whnf);exact hQ))|(apply yY;(·intro _ _ hy;(conv=>whnf);exact hy);(·intro Q hQ;(conv=>whnf);exact hQ)))
   apply xq
   ·(intro _ _ hy;(conv=>whnf);exact hy)
   intro Q hQ
   conv=>whnf
   refine right_run (LV.mk (e:=40) (fl:=.rw) rfl hc) ok ?_
   rw [hQ]
   conv=>whnf
   repeat(first|((first|refine yw ?_|refine zX ?_|refine yX ?_|refine zk ?_);intro _ _)|refine yz ?_|refine xz ?_|refine yj ‹_› ?_|refine zw ‹_› ?_|refine yx ‹_› ?_|refine yq ‹_› ?_|refine zZ ?_|refine yy ?_|refine yv ?_|refine zq ?_|refine zY (fun Q hQ=>by (conv=>whnf);exact hQ) ?_|refine zj (fun Q hQ=>by (conv=>whnf);exact hQ) ?_|(apply yk;(·intro _ _ hy;(conv=>whnf);exact hy);(·intro Q hQ;(conv=>whnf);repeat(first|exact hQ|((first|refine xw (by first|rfl|assumption) ?_|refine xx (by first|rfl|assumption) ?_|refine zy ?_|refine zx ?_|unfold yZ);(conv=>whnf))));(·intro Q hQ;(conv=>whnf);exact hQ))|(apply yY;(·intro _ _ hy;(conv=>whnf);exact hy);(·intro Q hQ;(conv=>whnf);exact hQ)))
   apply xq
   ·(intro _ _ hy;(conv=>whnf);exact hy)
   intro Q hQ
   conv=>whnf
   refine has41_run (LV.mk (e:=40) (fl:=.rw) rfl hc) ok hh ?_
   rw [hQ]
   conv=>whnf
   repeat(first|((first|refine yw ?_|refine zX ?_|refine yX ?_|refine zk ?_);intro _ _)|refine yz ?_|refine xz ?_|refine yj ‹_› ?_|refine zw ‹_› ?_|refine yx ‹_› ?_|refine yq ‹_› ?_|refine zZ ?_|refine yy ?_|refine yv ?_|refine zq ?_|refine zY (fun Q hQ=>by (conv=>whnf);exact hQ) ?_|refine zj (fun Q hQ=>by (conv=>whnf);exact hQ) ?_|(apply yk;(·intro _ _ hy;(conv=>whnf);exact hy);(·intro Q hQ;(conv=>whnf);repeat(first|exact hQ|((first|refine xw (by first|rfl|assumption) ?_|refine xx (by first|rfl|assumption) ?_|refine zy ?_|refine zx ?_|unfold yZ);(conv=>whnf))));(·intro Q hQ;(conv=>whnf);exact hQ))|(apply yY;(·intro _ _ hy;(conv=>whnf);exact hy);(·intro Q hQ;(conv=>whnf);exact hQ)))
   apply xq
   ·(intro _ _ hy;(conv=>whnf);exact hy)
   intro Q hQ
   conv=>whnf
   refine new43_run ?_
   conv=>whnf
   rw [hQ]
   conv=>whnf
   repeat(first|((first|refine yw ?_|refine zX ?_|refine yX ?_|refine zk ?_);intro _ _)|refine yz ?_|refine xz ?_|refine yj ‹_› ?_|refine zw ‹_› ?_|refine yx ‹_› ?_|refine yq ‹_› ?_|refine zZ ?_|refine yy ?_|refine yv ?_|refine zq ?_|refine zY (fun Q hQ=>by (conv=>whnf);exact hQ) ?_|refine zj (fun Q hQ=>by (conv=>whnf);exact hQ) ?_|(apply yk;(·intro _ _ hy;(conv=>whnf);exact hy);(·intro Q hQ;(conv=>whnf);repeat(first|exact hQ|((first|refine xw (by first|rfl|assumption) ?_|refine xx (by first|rfl|assumption) ?_|refine zy ?_|refine zx ?_|unfold yZ);(conv=>whnf))));(·intro Q hQ;(conv=>whnf);exact hQ))|(apply yY;(·intro _ _ hy;(conv=>whnf);exact hy);(·intro Q hQ;(conv=>whnf);exact hQ)))
   conv=>whnf
   rw [← hK]
   refine ⟨[ngl+1,ngl+2],by decide,?_,.tup (.cons (.ptr _ (Rou.new (a:=1) rfl (Nat.le_of_ble_eq_true rfl) (by simp))) (.cons (.int _ _) .nil)),⟨⟨_,rfl,.cells (wv _) (.inl rfl)⟩,trivial⟩,
    ⟨⟨_,rfl,.cells (.cons .nilSlice (.cons (.bool _) .nil)) (.inl rfl)⟩,⟨_,rfl,.cells (.cons (.slice _ _ _ _ _ _ _ (Rou.at (a:=0) rfl (by simp) (Nat.le_refl _)) (.inl rfl) (Nat.le_refl _) (fun h=>⟨h,rfl⟩)) (.cons (.ptr _ (Rou.new (a:=0) rfl (Nat.le_of_ble_eq_true rfl) (by simp))) .nil)) (.inl rfl)⟩,trivial⟩⟩
   intro g hg
   simp only [List.mem_cons,List.mem_nil_iff,or_false] at hg
   rcases hg with rfl|rfl <;> exact Nat.le_of_ble_eq_true rfl
attribute [local irreducible] takeK appK rowK newK putK
set_option maxHeartbeats 1000000 in
theorem app_all27 {S:St} {id id2:Nat} {l:List Lab} {e' e2:TypeId} {fl2:Fl} (ho:S.hs.get id=some (.cells [] e' .ex)) (hx:S.hs.get id2=some (.cells (cellsOf l) e2 fl2)) (hne:l ≠ []) (hlen:l.length < 4096) {k:V→St→Prop}
  (hk:newK (.cells (cellsOf l) 40 .rw) S fun id S=>k (.slice id 0 l.length l.length 2 false) S):bAppend Tryz.prog #[27,27] (.slice id 0 0 0 2 true) (.slice id2 0 l.length l.length 2 false) S k:=by
 unfold bAppend
 conv=>whnf
 refine rowK_intro hx ?_
 conv=>whnf
 refine takeK_intro (by rw [cellsOf_length];show l.length * 2 ≤ 2 * l.length;omega) ?_
 conv=>whnf
 refine zy ?_
 conv=>whnf
 refine bcase (fun h=>?_) (fun _=>?_)
 ·have h1:0+l.length ≤ 0:=Nat.le_of_ble_eq_true h
  exact absurd (List.length_eq_zero_iff.1 (by omega)) hne
 conv=>whnf
 refine bcase (fun _=>?_) (fun h=>?_)
 ·refine rowK_intro ho ?_
  conv=>whnf
  rw [List.take_of_length_le (by rw [cellsOf_length];show 2 * l.length ≤ l.length * 2;omega)]
  refine takeK_intro (n:=0) (Nat.zero_le _) ?_
  refine appK_intro ?_
  have e0:Nat.add 0 l.length=l.length:=Nat.zero_add _
  conv=>whnf
  rw [e0]
  exact hk
 ·have h1:Nat.ble ((0+l.length) * 33) 70368744177664=true:=Nat.ble_eq_true_of_le (by omega)
  exact absurd (h.symm.trans h1) (by simp)
set_option maxHeartbeats 1000000 in
theorem app_all28 {S:St} {id id2:Nat} {l:List Lab} {e' e2:TypeId} {fl2:Fl} (ho:S.hs.get id=some (.cells [] e' .ex)) (hx:S.hs.get id2=some (.cells (cellsOf l) e2 fl2)) (hne:l ≠ []) (hlen:l.length < 4096) {k:V→St→Prop}
  (hk:newK (.cells (cellsOf l) 40 .rw) S fun id S=>k (.slice id 0 l.length l.length 2 false) S):bAppend Tryz.prog #[28,28] (.slice id 0 0 0 2 true) (.slice id2 0 l.length l.length 2 false) S k:=by
 unfold bAppend
 conv=>whnf
 refine rowK_intro hx ?_
 conv=>whnf
 refine takeK_intro (by rw [cellsOf_length];show l.length * 2 ≤ 2 * l.length;omega) ?_
 conv=>whnf
 refine zy ?_
 conv=>whnf
 refine bcase (fun h=>?_) (fun _=>?_)
 ·have h1:0+l.length ≤ 0:=Nat.le_of_ble_eq_true h
  exact absurd (List.length_eq_zero_iff.1 (by omega)) hne
 conv=>whnf
 refine bcase (fun _=>?_) (fun h=>?_)
 ·refine rowK_intro ho ?_
  conv=>whnf
  rw [List.take_of_length_le (by rw [cellsOf_length];show 2 * l.length ≤ l.length * 2;omega)]
  refine takeK_intro (n:=0) (Nat.zero_le _) ?_
  refine appK_intro ?_
  have e0:Nat.add 0 l.length=l.length:=Nat.zero_add _
  conv=>whnf
  rw [e0]
  exact hk
 ·have h1:Nat.ble ((0+l.length) * 33) 70368744177664=true:=Nat.ble_eq_true_of_le (by omega)
  exact absurd (h.symm.trans h1) (by simp)

end Go.Am
/- slices.Clone. -/
namespace Go.Am
open Go.Proofs
set_option maxRecDepth 100000
attribute [local irreducible] fN fI fB yZ wrapK bAppend evOps wk drOps rdsAll sl

set_option maxHeartbeats 2000000 in
theorem clone28_run {l:List Lab} {v:V} {S:St} (h:LV S v l) (hne:v ≠ .nilSlice→l ≠ []) (hl:l.length < 4096) {k:V→St→Prop} (hk:newsK (outN l) S (k (outV l S.next))):RC Tryz.prog 28 [v] S k:=by
 by_cases hv:v=.nilSlice
 ·subst hv
  rcases h with ⟨_,rfl⟩|⟨i,c,ex,rest,e,fl,h,_⟩
  ·refine RC.read mixed f28 (l:=[.nilSlice]) [] [] [] [] (v2:=.nilSlice) (by simp) rfl rfl (by simp) (by simp) (.cons .nilSlice .nil) (by simp) ?_ hk
   generalize hK:Post _ _ _ _ _ _ _=K
   apply wy
   ·intro Q hQ
    conv=>whnf
    exact hQ
   apply wx
   ·intro Q hQ
    conv=>whnf
    exact hQ
   intro K0 hK0
   unfold codeOf
   conv=>arg 7;whnf
   repeat(first|((first|refine yw ?_|refine zX ?_|refine yX ?_|refine zk ?_);intro _ _)|refine yz ?_|refine xz ?_|refine yj ‹_› ?_|refine zw ‹_› ?_|refine yx ‹_› ?_|refine yq ‹_› ?_|refine zZ ?_|refine yy ?_|refine yv ?_|refine zq ?_|refine zY (fun Q hQ=>by (conv=>whnf);exact hQ) ?_|refine zj (fun Q hQ=>by (conv=>whnf);exact hQ) ?_|(apply yk;(·intro _ _ hy;(conv=>whnf);exact hy);(·intro Q hQ;(conv=>whnf);repeat(first|exact hQ|((first|refine xw (by first|rfl|assumption) ?_|refine xx (by first|rfl|assumption) ?_|refine zy ?_|refine zx ?_|unfold yZ);(conv=>whnf))));(·intro Q hQ;(conv=>whnf);exact hQ))|(apply yY;(·intro _ _ hy;(conv=>whnf);exact hy);(·intro Q hQ;(conv=>whnf);exact hQ)))
   conv=>whnf
   rw [← hK]
   exact ⟨[],List.nodup_nil,by simp,.nilSlice,trivial,trivial⟩
  ·cases h
 ·have hl0:=hne hv
  cases l with
  | nil=>exact absurd rfl hl0
  | cons q0 o0 =>
    refine RC.lab mixed f28 h (fun _=>.nil) (outN (q0 :: o0)) outN_wr (v2:=outV (q0 :: o0) S.next) (fun h=>by cases h) ?_ hk
    intro e i
    generalize hK:Post _ _ _ _ _ _ _=K
    apply wy
    ·intro Q hQ
     conv=>whnf
     exact hQ
    apply wx
    ·intro Q hQ
     conv=>whnf
     exact hQ
    intro K0 hK0
    unfold codeOf
    conv=>arg 7;whnf
    repeat(first|((first|refine yw ?_|refine zX ?_|refine yX ?_|refine zk ?_);intro _ _)|refine yz ?_|refine xz ?_|refine yj ‹_› ?_|refine zw ‹_› ?_|refine yx ‹_› ?_|refine yq ‹_› ?_|refine zZ ?_|refine yy ?_|refine yv ?_|refine zq ?_|refine zY (fun Q hQ=>by (conv=>whnf);exact hQ) ?_|refine zj (fun Q hQ=>by (conv=>whnf);exact hQ) ?_|(apply yk;(·intro _ _ hy;(conv=>whnf);exact hy);(·intro Q hQ;(conv=>whnf);repeat(first|exact hQ|((first|refine xw (by first|rfl|assumption) ?_|refine xx (by first|rfl|assumption) ?_|refine zy ?_|refine zx ?_|unfold yZ);(conv=>whnf))));(·intro Q hQ;(conv=>whnf);exact hQ))|(apply yY;(·intro _ _ hy;(conv=>whnf);exact hy);(·intro Q hQ;(conv=>whnf);exact hQ)))
    apply xq
    ·(intro _ _ hy;(conv=>whnf);exact hy)
    intro Q hQ
    conv=>whnf
    refine app_all27 (l:=q0 :: o0) rfl rfl (by simp) hl ?_
    conv=>whnf
    rw [hQ]
    conv=>whnf
    repeat(first|((first|refine yw ?_|refine zX ?_|refine yX ?_|refine zk ?_);intro _ _)|refine yz ?_|refine xz ?_|refine yj ‹_› ?_|refine zw ‹_› ?_|refine yx ‹_› ?_|refine yq ‹_› ?_|refine zZ ?_|refine yy ?_|refine yv ?_|refine zq ?_|refine zY (fun Q hQ=>by (conv=>whnf);exact hQ) ?_|refine zj (fun Q hQ=>by (conv=>whnf);exact hQ) ?_|(apply yk;(·intro _ _ hy;(conv=>whnf);exact hy);(·intro Q hQ;(conv=>whnf);repeat(first|exact hQ|((first|refine xw (by first|rfl|assumption) ?_|refine xx (by first|rfl|assumption) ?_|refine zy ?_|refine zx ?_|unfold yZ);(conv=>whnf))));(·intro Q hQ;(conv=>whnf);exact hQ))|(apply yY;(·intro _ _ hy;(conv=>whnf);exact hy);(·intro Q hQ;(conv=>whnf);exact hQ)))
    conv=>whnf
    rw [← hK]
    exact ⟨[_],nodup1 _,fun g hg=>by rw [List.mem_singleton] at hg;subst hg;exact Nat.le_of_ble_eq_true rfl,.slice _ _ _ _ _ _ _ (Rou.new (a:=0) rfl (Nat.le_of_ble_eq_true rfl) (by simp [outN])) (.inl rfl) (Nat.le_refl _) (fun h=>⟨h,rfl⟩),trivial,⟨⟨_,rfl,.cells (wv _) (.inl rfl)⟩,trivial⟩⟩
set_option maxHeartbeats 2000000 in
theorem clone52_run {l:List Lab} {v:V} {S:St} (h:LV S v l) (hne:v ≠ .nilSlice→l ≠ []) (hl:l.length < 4096) {k:V→St→Prop} (hk:newsK (outN l) S (k (outV l S.next))):RC Tryz.prog 52 [v] S k:=by
 by_cases hv:v=.nilSlice
 ·subst hv
  rcases h with ⟨_,rfl⟩|⟨i,c,ex,rest,e,fl,h,_⟩
  ·refine RC.read mixed f52 (l:=[.nilSlice]) [] [] [] [] (v2:=.nilSlice) (by simp) rfl rfl (by simp) (by simp) (.cons .nilSlice .nil) (by simp) ?_ hk
   generalize hK:Post _ _ _ _ _ _ _=K
   apply wy
   ·intro Q hQ
    conv=>whnf
    exact hQ
   apply wx
   ·intro Q hQ
    conv=>whnf
    exact hQ
   intro K0 hK0
   unfold codeOf
   conv=>arg 7;whnf
   repeat(first|((first|refine yw ?_|refine zX ?_|refine yX ?_|refine zk ?_);intro _ _)|refine yz ?_|refine xz ?_|refine yj ‹_› ?_|refine zw ‹_› ?_|refine yx ‹_› ?_|refine yq ‹_› ?_|refine zZ ?_|refine yy ?_|refine yv ?_|refine zq ?_|refine zY (fun Q hQ=>by (conv=>whnf);exact hQ) ?_|refine zj (fun Q hQ=>by (conv=>whnf);exact hQ) ?_|(apply yk;(·intro _ _ hy;(conv=>whnf);exact hy);(·intro Q hQ;(conv=>whnf);repeat(first|exact hQ|((first|refine xw (by first|rfl|assumption) ?_|refine xx (by first|rfl|assumption) ?_|refine zy ?_|refine zx ?_|unfold yZ);(conv=>whnf))));(·intro Q hQ;(conv=>whnf);exact hQ))|(apply yY;(·intro _ _ hy;(conv=>whnf);exact hy);(·intro Q hQ;(conv=>whnf);exact hQ)))
   conv=>whnf
   rw [← hK]
   exact ⟨[],List.nodup_nil,by simp,.nilSlice,trivial,trivial⟩
  ·cases h
 ·have hl0:=hne hv
  cases l with
  | nil=>exact absurd rfl hl0
  | cons q0 o0 =>
    refine RC.lab mixed f52 h (fun _=>.nil) (outN (q0 :: o0)) outN_wr (v2:=outV (q0 :: o0) S.next) (fun h=>by cases h) ?_ hk
    intro e i
    generalize hK:Post _ _ _ _ _ _ _=K
    apply wy
    ·intro Q hQ
     conv=>whnf
     exact hQ
    apply wx
    ·intro Q hQ
     conv=>whnf
     exact hQ
    intro K0 hK0
    unfold codeOf
    conv=>arg 7;whnf
    repeat(first|((first|refine yw ?_|refine zX ?_|refine yX ?_|refine zk ?_);intro _ _)|refine yz ?_|refine xz ?_|refine yj ‹_› ?_|refine zw ‹_› ?_|refine yx ‹_› ?_|refine yq ‹_› ?_|refine zZ ?_|refine yy ?_|refine yv ?_|refine zq ?_|refine zY (fun Q hQ=>by (conv=>whnf);exact hQ) ?_|refine zj (fun Q hQ=>by (conv=>whnf);exact hQ) ?_|(apply yk;(·intro _ _ hy;(conv=>whnf);exact hy);(·intro Q hQ;(conv=>whnf);repeat(first|exact hQ|((first|refine xw (by first|rfl|assumption) ?_|refine xx (by first|rfl|assumption) ?_|refine zy ?_|refine zx ?_|unfold yZ);(conv=>whnf))));(·intro Q hQ;(conv=>whnf);exact hQ))|(apply yY;(·intro _ _ hy;(conv=>whnf);exact hy);(·intro Q hQ;(conv=>whnf);exact hQ)))
    apply xq
    ·(intro _ _ hy;(conv=>whnf);exact hy)
    intro Q hQ
    conv=>whnf
    refine app_all28 (l:=q0 :: o0) rfl rfl (by simp) hl ?_
    conv=>whnf
    rw [hQ]
    conv=>whnf
    repeat(first|((first|refine yw ?_|refine zX ?_|refine yX ?_|refine zk ?_);intro _ _)|refine yz ?_|refine xz ?_|refine yj ‹_› ?_|refine zw ‹_› ?_|refine yx ‹_› ?_|refine yq ‹_› ?_|refine zZ ?_|refine yy ?_|refine yv ?_|refine zq ?_|refine zY (fun Q hQ=>by (conv=>whnf);exact hQ) ?_|refine zj (fun Q hQ=>by (conv=>whnf);exact hQ) ?_|(apply yk;(·intro _ _ hy;(conv=>whnf);exact hy);(·intro Q hQ;(conv=>whnf);repeat(first|exact hQ|((first|refine xw (by first|rfl|assumption) ?_|refine xx (by first|rfl|assumption) ?_|refine zy ?_|refine zx ?_|unfold yZ);(conv=>whnf))));(·intro Q hQ;(conv=>whnf);exact hQ))|(apply yY;(·intro _ _ hy;(conv=>whnf);exact hy);(·intro Q hQ;(conv=>whnf);exact hQ)))
    conv=>whnf
    rw [← hK]
    exact ⟨[_],nodup1 _,fun g hg=>by rw [List.mem_singleton] at hg;subst hg;exact Nat.le_of_ble_eq_true rfl,.slice _ _ _ _ _ _ _ (Rou.new (a:=0) rfl (Nat.le_of_ble_eq_true rfl) (by simp [outN])) (.inl rfl) (Nat.le_refl _) (fun h=>⟨h,rfl⟩),trivial,⟨⟨_,rfl,.cells (wv _) (.inl rfl)⟩,trivial⟩⟩

end Go.Am
/- Wrapped numbers, whatever they are. -/
namespace Go.Am
theorem wrapK_any {a:IntKind} {n:Int} {k:Int→Prop} (h:k (a.wrap n)):wrapK a n k:=by
 by_cases hw:wrapK a n (fun m=>m=a.wrap n)
 ·-- the same run
  cases n with
  | ofNat m =>
    show Bool.rec (motive:=fun _=>Prop) (fI (a.wrap (Int.ofNat m)) k) (fN m fun m=>k (Int.ofNat m)) (Nat.ble m (topN a))
    have hw':Bool.rec (motive:=fun _=>Prop) (fI (a.wrap (Int.ofNat m)) fun x=>x=a.wrap (Int.ofNat m)) (fN m fun y=>Int.ofNat y=a.wrap (Int.ofNat m)) (Nat.ble m (topN a)):=hw
    cases hb:Nat.ble m (topN a) with
    | false=>exact zx h
    | true =>
      rw [hb] at hw'
      have e:Int.ofNat m=a.wrap (Int.ofNat m):=by cases m <;> exact hw'
      exact zy (k:=fun m=>k (Int.ofNat m)) (by rw [e];exact h)
  | negSucc m =>
    show Option.rec (motive:=fun _=>Prop) (fI (a.wrap (Int.negSucc m)) k) (fun t=>Bool.rec (motive:=fun _=>Prop) (fI (a.wrap (Int.negSucc m)) k) (fN m fun m=>k (Int.negSucc m)) (Nat.ble m t)) (lowN a)
    have hw':Option.rec (motive:=fun _=>Prop) (fI (a.wrap (Int.negSucc m)) fun x=>x=a.wrap (Int.negSucc m)) (fun t=>Bool.rec (motive:=fun _=>Prop) (fI (a.wrap (Int.negSucc m)) fun x=>x=a.wrap (Int.negSucc m)) (fN m fun y=>Int.negSucc y=a.wrap (Int.negSucc m)) (Nat.ble m t)) (lowN a):=hw
    cases hl:lowN a with
    | none=>exact zx h
    | some t =>
      rw [hl] at hw'
      show Bool.rec (motive:=fun _=>Prop) _ _ (Nat.ble m t)
      have hw2:Bool.rec (motive:=fun _=>Prop) (fI (a.wrap (Int.negSucc m)) fun x=>x=a.wrap (Int.negSucc m)) (fN m fun y=>Int.negSucc y=a.wrap (Int.negSucc m)) (Nat.ble m t):=hw'
      cases hb:Nat.ble m t with
      | false=>exact zx h
      | true =>
        rw [hb] at hw2
        have e:Int.negSucc m=a.wrap (Int.negSucc m):=by cases m <;> exact hw2
        exact zy (k:=fun m=>k (Int.negSucc m)) (by rw [e];exact h)
 ·exfalso
  apply hw
  cases n with
  | ofNat m =>
    show Bool.rec (motive:=fun _=>Prop) (fI (a.wrap (Int.ofNat m)) fun x=>x=a.wrap (Int.ofNat m)) (fN m fun y=>Int.ofNat y=a.wrap (Int.ofNat m)) (Nat.ble m (topN a))
    cases hb:Nat.ble m (topN a) with
    | false=>exact zx rfl
    | true =>
      refine zy (k:=fun y=>Int.ofNat y=a.wrap (Int.ofNat m)) ?_
      have hm:=Nat.le_of_ble_eq_true hb
      exact (wrap_in a (Int.ofNat m) (by cases a <;> simp [IntKind.min,IntKind.signed,IntKind.bits] <;> omega) (by
       cases a <;> simp [IntKind.max,IntKind.signed,IntKind.bits,topN] at * <;> omega)).symm
  | negSucc m =>
    show Option.rec (motive:=fun _=>Prop) (fI (a.wrap (Int.negSucc m)) fun x=>x=a.wrap (Int.negSucc m)) (fun t=>Bool.rec (motive:=fun _=>Prop) (fI (a.wrap (Int.negSucc m)) fun x=>x=a.wrap (Int.negSucc m)) (fN m fun y=>Int.negSucc y=a.wrap (Int.negSucc m)) (Nat.ble m t)) (lowN a)
    cases hl:lowN a with
    | none=>exact zx rfl
    | some t =>
      show Bool.rec (motive:=fun _=>Prop) _ _ (Nat.ble m t)
      cases hb:Nat.ble m t with
      | false=>exact zx rfl
      | true =>
        refine zy (k:=fun y=>Int.negSucc y=a.wrap (Int.negSucc m)) ?_
        have hm:=Nat.le_of_ble_eq_true hb
        exact (wrap_in a (Int.negSucc m) (by
         cases a <;> simp [lowN] at hl <;> subst hl <;> simp [IntKind.min,IntKind.signed,IntKind.bits] <;> omega) (by
         cases a <;> simp [IntKind.max,IntKind.signed,IntKind.bits] <;> omega)).symm
/-- A loop over a function, in a function's own frame. -/
theorem seg_rangeFunc {P:Program} {rc:CallT} {rd:RoundT} {lp:LoopT} {dr:DrawT} {E:Env} {D:List Nat} {S:St} {k:KT} {f:Operand} {ps:Array Tmp} {a b:Code} (h:newK .deferred S fun d S=>goLoop P rc rd f ps.toList a b d E (d :: D) S k):wk P rc rd lp dr none (.rangeFunc f ps a b) E D S k:=h
end Go.Am
/- decimal.Kind. -/
namespace Go.Am
open Go.Proofs
set_option maxRecDepth 100000
attribute [local irreducible] fN fI fB yZ wrapK bAppend evOps wk drOps rdsAll sl

theorem f38:FnAt Tryz.prog 38 10 [.tmp 2,.tmp 3] (codeOf Tryz.f38):=⟨Tryz.f38,by kernel_rfl,rfl,by kernel_rfl,by kernel_rfl,by kernel_rfl⟩
theorem f16:FnAt Tryz.prog 16 26 [.tmp 2] (codeOf Tryz.f16):=⟨Tryz.f16,by kernel_rfl,rfl,by kernel_rfl,by kernel_rfl,by kernel_rfl⟩

def expI (b:Int):Int:=(IntKind.i64.wrap (IntKind.u64.wrap ↑(BitVec.ofInt IntKind.u64.bits (b.fdiv (2 ^ min 52 IntKind.u64.bits)) &&& BitVec.ofInt IntKind.u64.bits 2047).toNat))
def fracI (b:Int):Int:=(IntKind.u64.wrap ↑(BitVec.ofInt IntKind.u64.bits b &&& BitVec.ofInt IntKind.u64.bits 4503599627370495).toNat)
/-- The kind of a value's bits. -/
noncomputable def kindI (b:Int):Int:=if eqI (expI b) 2047=true then (if eqI (fracI b) 0=true then 3 else 4) else if ltI 0 (expI b)=true then 2 else if ltI 0 (fracI b)=true then 1 else 0
set_option maxHeartbeats 2000000 in
theorem parts_run (b:Int) {S:St} {k:V→St→Prop} (hk:k (.tup [.int .i64 (expI b),.int .u64 (fracI b)]) S):RC Tryz.prog 38 [.int .u64 b] S k:=by
 refine RC.read mixed f38 (l:=[.int .u64 b]) [] [] [] [] (v2:=.tup [.int .i64 (expI b),.int .u64 (fracI b)]) (by simp) rfl rfl (by simp) (by simp) (.cons (.int _ _) .nil) (by simp) ?_ hk
 generalize hK:Post _ _ _ _ _ _ _=K
 apply wy
 ·intro Q hQ
  conv=>whnf
  exact hQ
 apply wx
 ·intro Q hQ
  conv=>whnf
  exact hQ
 intro K0 hK0
 unfold codeOf
 conv=>arg 7;whnf
 repeat(first|((first|refine yw ?_|refine zX ?_|refine yX ?_|refine zk ?_);intro _ _)|refine yz ?_|refine xz ?_|refine yj ‹_› ?_|refine zw ‹_› ?_|refine yx ‹_› ?_|refine yq ‹_› ?_|refine zZ ?_|refine yy ?_|refine yv ?_|refine zq ?_|refine zY (fun Q hQ=>by (conv=>whnf);exact hQ) ?_|refine zj (fun Q hQ=>by (conv=>whnf);exact hQ) ?_|(apply yk;(·intro _ _ hy;(conv=>whnf);exact hy);(·intro Q hQ;(conv=>whnf);repeat(first|exact hQ|((first|refine xw (by first|rfl|assumption) ?_|refine xx (by first|rfl|assumption) ?_|refine zy ?_|refine zx ?_|unfold yZ);(conv=>whnf))));(·intro Q hQ;(conv=>whnf);exact hQ))|(apply yY;(·intro _ _ hy;(conv=>whnf);exact hy);(·intro Q hQ;(conv=>whnf);exact hQ)))
 apply yk
 ·(intro _ _ hy;(conv=>whnf);exact hy)
 ·intro Q hQ
  conv=>whnf
  refine wrapK_any ?_
  exact hQ
 ·(intro Q hQ;(conv=>whnf);exact hQ)
 repeat(first|((first|refine yw ?_|refine zX ?_|refine yX ?_|refine zk ?_);intro _ _)|refine yz ?_|refine xz ?_|refine yj ‹_› ?_|refine zw ‹_› ?_|refine yx ‹_› ?_|refine yq ‹_› ?_|refine zZ ?_|refine yy ?_|refine yv ?_|refine zq ?_|refine zY (fun Q hQ=>by (conv=>whnf);exact hQ) ?_|refine zj (fun Q hQ=>by (conv=>whnf);exact hQ) ?_|(apply yk;(·intro _ _ hy;(conv=>whnf);exact hy);(·intro Q hQ;(conv=>whnf);repeat(first|exact hQ|((first|refine xw (by first|rfl|assumption) ?_|refine xx (by first|rfl|assumption) ?_|refine zy ?_|refine zx ?_|unfold yZ);(conv=>whnf))));(·intro Q hQ;(conv=>whnf);exact hQ))|(apply yY;(·intro _ _ hy;(conv=>whnf);exact hy);(·intro Q hQ;(conv=>whnf);exact hQ)))
 conv=>whnf
 rw [← hK]
 exact ⟨[],List.nodup_nil,by simp,.tup (.cons (.int _ _) (.cons (.int _ _) .nil)),trivial,trivial⟩
set_option maxHeartbeats 2000000 in
theorem kind_run (b:Int) {S:St} {k:V→St→Prop} (hk:k (.int .u8 (kindI b)) S):RC Tryz.prog 16 [.int .u64 b] S k:=by
 refine RC.read mixed f16 (l:=[.int .u64 b]) [] [] [] [] (v2:=.int .u8 (kindI b)) (by simp) rfl rfl (by simp) (by simp) (.cons (.int _ _) .nil) (by simp) ?_ hk
 generalize hK:Post _ _ _ _ _ _ _=K
 apply wy
 ·intro Q hQ
  conv=>whnf
  exact hQ
 apply wx
 ·intro Q hQ
  conv=>whnf
  exact hQ
 intro K0 hK0
 unfold codeOf
 conv=>arg 7;whnf
 repeat(first|((first|refine yw ?_|refine zX ?_|refine yX ?_|refine zk ?_);intro _ _)|refine yz ?_|refine xz ?_|refine yj ‹_› ?_|refine zw ‹_› ?_|refine yx ‹_› ?_|refine yq ‹_› ?_|refine zZ ?_|refine yy ?_|refine yv ?_|refine zq ?_|refine zY (fun Q hQ=>by (conv=>whnf);exact hQ) ?_|refine zj (fun Q hQ=>by (conv=>whnf);exact hQ) ?_|(apply yk;(·intro _ _ hy;(conv=>whnf);exact hy);(·intro Q hQ;(conv=>whnf);repeat(first|exact hQ|((first|refine xw (by first|rfl|assumption) ?_|refine xx (by first|rfl|assumption) ?_|refine zy ?_|refine zx ?_|unfold yZ);(conv=>whnf))));(·intro Q hQ;(conv=>whnf);exact hQ))|(apply yY;(·intro _ _ hy;(conv=>whnf);exact hy);(·intro Q hQ;(conv=>whnf);exact hQ)))
 apply xq
 ·(intro _ _ hy;(conv=>whnf);exact hy)
 intro Q hQ
 conv=>whnf
 refine parts_run b ?_
 rw [hQ]
 conv=>whnf
 generalize he:expI b=e
 generalize hf:fracI b=f
 have hk:kindI b=if eqI e 2047=true then (if eqI f 0=true then 3 else 4) else if ltI 0 e=true then 2 else if ltI 0 f=true then 1 else 0:=by unfold kindI;rw [he,hf]
 cases h1:eqI e 2047 with
 | true =>
   cases h2:eqI f 0 with
   | true =>
     repeat(first|((first|refine yw ?_|refine zX ?_|refine yX ?_|refine zk ?_);intro _ _)|refine yz ?_|refine xz ?_|refine yj ‹_› ?_|refine zw ‹_› ?_|refine yx ‹_› ?_|refine yq ‹_› ?_|refine zZ ?_|refine yy ?_|refine yv ?_|refine zq ?_|refine zY (fun Q hQ=>by (conv=>whnf);exact hQ) ?_|refine zj (fun Q hQ=>by (conv=>whnf);exact hQ) ?_|(apply yk;(·intro _ _ hy;(conv=>whnf);exact hy);(·intro Q hQ;(conv=>whnf);repeat(first|exact hQ|((first|refine xw (by first|rfl|assumption) ?_|refine xx (by first|rfl|assumption) ?_|refine zy ?_|refine zx ?_|unfold yZ);(conv=>whnf))));(·intro Q hQ;(conv=>whnf);exact hQ))|(apply yY;(·intro _ _ hy;(conv=>whnf);exact hy);(·intro Q hQ;(conv=>whnf);exact hQ)))
     conv=>whnf
     rw [← hK,hk,h1,h2]
     exact ⟨[],List.nodup_nil,by simp,.int _ _,trivial,trivial⟩
   | false =>
     repeat(first|((first|refine yw ?_|refine zX ?_|refine yX ?_|refine zk ?_);intro _ _)|refine yz ?_|refine xz ?_|refine yj ‹_› ?_|refine zw ‹_› ?_|refine yx ‹_› ?_|refine yq ‹_› ?_|refine zZ ?_|refine yy ?_|refine yv ?_|refine zq ?_|refine zY (fun Q hQ=>by (conv=>whnf);exact hQ) ?_|refine zj (fun Q hQ=>by (conv=>whnf);exact hQ) ?_|(apply yk;(·intro _ _ hy;(conv=>whnf);exact hy);(·intro Q hQ;(conv=>whnf);repeat(first|exact hQ|((first|refine xw (by first|rfl|assumption) ?_|refine xx (by first|rfl|assumption) ?_|refine zy ?_|refine zx ?_|unfold yZ);(conv=>whnf))));(·intro Q hQ;(conv=>whnf);exact hQ))|(apply yY;(·intro _ _ hy;(conv=>whnf);exact hy);(·intro Q hQ;(conv=>whnf);exact hQ)))
     conv=>whnf
     rw [← hK,hk,h1,h2]
     exact ⟨[],List.nodup_nil,by simp,.int _ _,trivial,trivial⟩
 | false =>
   cases h2:ltI 0 e with
   | true =>
     repeat(first|((first|refine yw ?_|refine zX ?_|refine yX ?_|refine zk ?_);intro _ _)|refine yz ?_|refine xz ?_|refine yj ‹_› ?_|refine zw ‹_› ?_|refine yx ‹_› ?_|refine yq ‹_› ?_|refine zZ ?_|refine yy ?_|refine yv ?_|refine zq ?_|refine zY (fun Q hQ=>by (conv=>whnf);exact hQ) ?_|refine zj (fun Q hQ=>by (conv=>whnf);exact hQ) ?_|(apply yk;(·intro _ _ hy;(conv=>whnf);exact hy);(·intro Q hQ;(conv=>whnf);repeat(first|exact hQ|((first|refine xw (by first|rfl|assumption) ?_|refine xx (by first|rfl|assumption) ?_|refine zy ?_|refine zx ?_|unfold yZ);(conv=>whnf))));(·intro Q hQ;(conv=>whnf);exact hQ))|(apply yY;(·intro _ _ hy;(conv=>whnf);exact hy);(·intro Q hQ;(conv=>whnf);exact hQ)))
     conv=>whnf
     rw [← hK,hk,h1,h2]
     exact ⟨[],List.nodup_nil,by simp,.int _ _,trivial,trivial⟩
   | false =>
     cases h3:ltI 0 f with
     | true =>
       repeat(first|((first|refine yw ?_|refine zX ?_|refine yX ?_|refine zk ?_);intro _ _)|refine yz ?_|refine xz ?_|refine yj ‹_› ?_|refine zw ‹_› ?_|refine yx ‹_› ?_|refine yq ‹_› ?_|refine zZ ?_|refine yy ?_|refine yv ?_|refine zq ?_|refine zY (fun Q hQ=>by (conv=>whnf);exact hQ) ?_|refine zj (fun Q hQ=>by (conv=>whnf);exact hQ) ?_|(apply yk;(·intro _ _ hy;(conv=>whnf);exact hy);(·intro Q hQ;(conv=>whnf);repeat(first|exact hQ|((first|refine xw (by first|rfl|assumption) ?_|refine xx (by first|rfl|assumption) ?_|refine zy ?_|refine zx ?_|unfold yZ);(conv=>whnf))));(·intro Q hQ;(conv=>whnf);exact hQ))|(apply yY;(·intro _ _ hy;(conv=>whnf);exact hy);(·intro Q hQ;(conv=>whnf);exact hQ)))
       conv=>whnf
       rw [← hK,hk,h1,h2,h3]
       exact ⟨[],List.nodup_nil,by simp,.int _ _,trivial,trivial⟩
     | false =>
       repeat(first|((first|refine yw ?_|refine zX ?_|refine yX ?_|refine zk ?_);intro _ _)|refine yz ?_|refine xz ?_|refine yj ‹_› ?_|refine zw ‹_› ?_|refine yx ‹_› ?_|refine yq ‹_› ?_|refine zZ ?_|refine yy ?_|refine yv ?_|refine zq ?_|refine zY (fun Q hQ=>by (conv=>whnf);exact hQ) ?_|refine zj (fun Q hQ=>by (conv=>whnf);exact hQ) ?_|(apply yk;(·intro _ _ hy;(conv=>whnf);exact hy);(·intro Q hQ;(conv=>whnf);repeat(first|exact hQ|((first|refine xw (by first|rfl|assumption) ?_|refine xx (by first|rfl|assumption) ?_|refine zy ?_|refine zx ?_|unfold yZ);(conv=>whnf))));(·intro Q hQ;(conv=>whnf);exact hQ))|(apply yY;(·intro _ _ hy;(conv=>whnf);exact hy);(·intro Q hQ;(conv=>whnf);exact hQ)))
       conv=>whnf
       rw [← hK,hk,h1,h2,h3]
       exact ⟨[],List.nodup_nil,by simp,.int _ _,trivial,trivial⟩
end Go.Am
/- expo.Right. -/
namespace Go.Am
open Go.Proofs
set_option maxRecDepth 100000
attribute [local irreducible] fN fI fB yZ wrapK bAppend evOps wk drOps rdsAll sl

theorem f19:FnAt Tryz.prog 19 32 [.tmp 2] (codeOf Tryz.f19):=⟨Tryz.f19,by kernel_rfl,rfl,by kernel_rfl,by kernel_rfl,by kernel_rfl⟩

/-- The name's name. -/
def nameN:List UInt8:=[95,95,110,97,109,101,95,95]
set_option maxHeartbeats 2000000 in
theorem right19_run {l:List Lab} {v:V} {S:St} (h:LS S v l) (ok:OkL l) (hmet:getL nameN l ∈ mets) {b t:Int} {st:Bool} (hk0:eqI (kindI b) 4=false) (hst:st=false→t=0) {k:V→St→Prop} (hk:k (.bool true) S):RC Tryz.prog 19 [.agg [v,.int .u64 b,.bool st,.int .i64 t]] S k:=by
 obtain ⟨i,cap,ex,rest,e,fl,rfl,hc,hrow⟩:=h
 refine RC.read mixed f19 (l:=[.agg [.slice ngl 0 l.length l.length 2 false,.int .u64 b,.bool st,.int .i64 t]]) [i] [.cells (cellsOf l ++ rest) e fl] [.cells (cellsOf l) e .ro] [] (v2:=.bool true) ?_ rfl rfl ?_ ?_
  (.cons (.agg (.cons (.slice _ _ _ _ _ _ _ (Rin.at (a:=0) rfl (by simp)) (.inr (Nat.le_refl _)) hc (by simp)) (.cons (.int _ _) (.cons (.bool _) (.cons (.int _ _) .nil))))) .nil) (by simp) ?_ hk
 ·rintro (_|a) o h
  ·simp at h;subst h;rfl
  ·simp at h
 ·rintro (_|a) j o h1 h2
  ·simp at h1 h2;subst h1;subst h2;exact hrow
  ·simp at h1
 ·rintro (_|a) o1 o2 h1 h2
  ·simp at h1 h2;subst h1;subst h2;exact .part (wv l)
  ·simp at h1
 ·show buildK _ ⟨T.nil,ngl+1⟩ _
  cases st with
  | true =>
    generalize hK:Post _ _ _ _ _ _ _=K
    apply wy
    ·intro Q hQ
     conv=>whnf
     exact hQ
    apply wx
    ·intro Q hQ
     conv=>whnf
     exact hQ
    intro K0 hK0
    unfold codeOf
    conv=>arg 7;whnf
    repeat(first|((first|refine yw ?_|refine zX ?_|refine yX ?_|refine zk ?_);intro _ _)|refine yz ?_|refine xz ?_|refine yj ‹_› ?_|refine zw ‹_› ?_|refine yx ‹_› ?_|refine yq ‹_› ?_|refine zZ ?_|refine yy ?_|refine yv ?_|refine zq ?_|refine zY (fun Q hQ=>by (conv=>whnf);exact hQ) ?_|refine zj (fun Q hQ=>by (conv=>whnf);exact hQ) ?_|(apply yk;(·intro _ _ hy;(conv=>whnf);exact hy);(·intro Q hQ;(conv=>whnf);repeat(first|exact hQ|((first|refine xw (by first|rfl|assumption) ?_|refine xx (by first|rfl|assumption) ?_|refine zy ?_|refine zx ?_|unfold yZ);(conv=>whnf))));(·intro Q hQ;(conv=>whnf);exact hQ))|(apply yY;(·intro _ _ hy;(conv=>whnf);exact hy);(·intro Q hQ;(conv=>whnf);exact hQ)))
    apply xq
    ·(intro _ _ hy;(conv=>whnf);exact hy)
    intro Q hQ
    conv=>whnf
    refine right_run (LV.mk (e:=e) (fl:=.ro) rfl (Nat.le_refl _)) ok ?_
    rw [hQ]
    conv=>whnf
    repeat(first|((first|refine yw ?_|refine zX ?_|refine yX ?_|refine zk ?_);intro _ _)|refine yz ?_|refine xz ?_|refine yj ‹_› ?_|refine zw ‹_› ?_|refine yx ‹_› ?_|refine yq ‹_› ?_|refine zZ ?_|refine yy ?_|refine yv ?_|refine zq ?_|refine zY (fun Q hQ=>by (conv=>whnf);exact hQ) ?_|refine zj (fun Q hQ=>by (conv=>whnf);exact hQ) ?_|(apply yk;(·intro _ _ hy;(conv=>whnf);exact hy);(·intro Q hQ;(conv=>whnf);repeat(first|exact hQ|((first|refine xw (by first|rfl|assumption) ?_|refine xx (by first|rfl|assumption) ?_|refine zy ?_|refine zx ?_|unfold yZ);(conv=>whnf))));(·intro Q hQ;(conv=>whnf);exact hQ))|(apply yY;(·intro _ _ hy;(conv=>whnf);exact hy);(·intro Q hQ;(conv=>whnf);exact hQ)))
    apply xq
    ·(intro _ _ hy;(conv=>whnf);exact hy)
    intro Q hQ
    conv=>whnf
    refine get_run (LV.mk (e:=e) (fl:=.ro) rfl (Nat.le_refl _)) ok.lt _ ?_
    rw [hQ]
    conv=>whnf
    repeat(first|((first|refine yw ?_|refine zX ?_|refine yX ?_|refine zk ?_);intro _ _)|refine yz ?_|refine xz ?_|refine yj ‹_› ?_|refine zw ‹_› ?_|refine yx ‹_› ?_|refine yq ‹_› ?_|refine zZ ?_|refine yy ?_|refine yv ?_|refine zq ?_|refine zY (fun Q hQ=>by (conv=>whnf);exact hQ) ?_|refine zj (fun Q hQ=>by (conv=>whnf);exact hQ) ?_|(apply yk;(·intro _ _ hy;(conv=>whnf);exact hy);(·intro Q hQ;(conv=>whnf);repeat(first|exact hQ|((first|refine xw (by first|rfl|assumption) ?_|refine xx (by first|rfl|assumption) ?_|refine zy ?_|refine zx ?_|unfold yZ);(conv=>whnf))));(·intro Q hQ;(conv=>whnf);exact hQ))|(apply yY;(·intro _ _ hy;(conv=>whnf);exact hy);(·intro Q hQ;(conv=>whnf);exact hQ)))
    apply xq
    ·(intro _ _ hy;(conv=>whnf);exact hy)
    intro Q hQ
    conv=>whnf
    refine metX hmet ?_
    rw [hQ]
    conv=>whnf
    repeat(first|((first|refine yw ?_|refine zX ?_|refine yX ?_|refine zk ?_);intro _ _)|refine yz ?_|refine xz ?_|refine yj ‹_› ?_|refine zw ‹_› ?_|refine yx ‹_› ?_|refine yq ‹_› ?_|refine zZ ?_|refine yy ?_|refine yv ?_|refine zq ?_|refine zY (fun Q hQ=>by (conv=>whnf);exact hQ) ?_|refine zj (fun Q hQ=>by (conv=>whnf);exact hQ) ?_|(apply yk;(·intro _ _ hy;(conv=>whnf);exact hy);(·intro Q hQ;(conv=>whnf);repeat(first|exact hQ|((first|refine xw (by first|rfl|assumption) ?_|refine xx (by first|rfl|assumption) ?_|refine zy ?_|refine zx ?_|unfold yZ);(conv=>whnf))));(·intro Q hQ;(conv=>whnf);exact hQ))|(apply yY;(·intro _ _ hy;(conv=>whnf);exact hy);(·intro Q hQ;(conv=>whnf);exact hQ)))
    apply xq
    ·(intro _ _ hy;(conv=>whnf);exact hy)
    intro Q hQ
    conv=>whnf
    refine kind_run b ?_
    rw [hQ]
    conv=>whnf
    repeat(first|((first|refine yw ?_|refine zX ?_|refine yX ?_|refine zk ?_);intro _ _)|refine yz ?_|refine xz ?_|refine yj ‹_› ?_|refine zw ‹_› ?_|refine yx ‹_› ?_|refine yq ‹_› ?_|refine zZ ?_|refine yy ?_|refine yv ?_|refine zq ?_|refine zY (fun Q hQ=>by (conv=>whnf);exact hQ) ?_|refine zj (fun Q hQ=>by (conv=>whnf);exact hQ) ?_|(apply yk;(·intro _ _ hy;(conv=>whnf);exact hy);(·intro Q hQ;(conv=>whnf);repeat(first|exact hQ|((first|refine xw (by first|rfl|assumption) ?_|refine xx (by first|rfl|assumption) ?_|refine zy ?_|refine zx ?_|unfold yZ);(conv=>whnf))));(·intro Q hQ;(conv=>whnf);exact hQ))|(apply yY;(·intro _ _ hy;(conv=>whnf);exact hy);(·intro Q hQ;(conv=>whnf);exact hQ)))
    conv=>whnf
    rw [← hK]
    exact ⟨[],List.nodup_nil,by simp,.bool _,trivial,trivial⟩
  | false =>
    have ht:=hst rfl
    subst ht
    generalize hK:Post _ _ _ _ _ _ _=K
    apply wy
    ·intro Q hQ
     conv=>whnf
     exact hQ
    apply wx
    ·intro Q hQ
     conv=>whnf
     exact hQ
    intro K0 hK0
    unfold codeOf
    conv=>arg 7;whnf
    repeat(first|((first|refine yw ?_|refine zX ?_|refine yX ?_|refine zk ?_);intro _ _)|refine yz ?_|refine xz ?_|refine yj ‹_› ?_|refine zw ‹_› ?_|refine yx ‹_› ?_|refine yq ‹_› ?_|refine zZ ?_|refine yy ?_|refine yv ?_|refine zq ?_|refine zY (fun Q hQ=>by (conv=>whnf);exact hQ) ?_|refine zj (fun Q hQ=>by (conv=>whnf);exact hQ) ?_|(apply yk;(·intro _ _ hy;(conv=>whnf);exact hy);(·intro Q hQ;(conv=>whnf);repeat(first|exact hQ|((first|refine xw (by first|rfl|assumption) ?_|refine xx (by first|rfl|assumption) ?_|refine zy ?_|refine zx ?_|unfold yZ);(conv=>whnf))));(·intro Q hQ;(conv=>whnf);exact hQ))|(apply yY;(·intro _ _ hy;(conv=>whnf);exact hy);(·intro Q hQ;(conv=>whnf);exact hQ)))
    apply xq
    ·(intro _ _ hy;(conv=>whnf);exact hy)
    intro Q hQ
    conv=>whnf
    refine right_run (LV.mk (e:=e) (fl:=.ro) rfl (Nat.le_refl _)) ok ?_
    rw [hQ]
    conv=>whnf
    repeat(first|((first|refine yw ?_|refine zX ?_|refine yX ?_|refine zk ?_);intro _ _)|refine yz ?_|refine xz ?_|refine yj ‹_› ?_|refine zw ‹_› ?_|refine yx ‹_› ?_|refine yq ‹_› ?_|refine zZ ?_|refine yy ?_|refine yv ?_|refine zq ?_|refine zY (fun Q hQ=>by (conv=>whnf);exact hQ) ?_|refine zj (fun Q hQ=>by (conv=>whnf);exact hQ) ?_|(apply yk;(·intro _ _ hy;(conv=>whnf);exact hy);(·intro Q hQ;(conv=>whnf);repeat(first|exact hQ|((first|refine xw (by first|rfl|assumption) ?_|refine xx (by first|rfl|assumption) ?_|refine zy ?_|refine zx ?_|unfold yZ);(conv=>whnf))));(·intro Q hQ;(conv=>whnf);exact hQ))|(apply yY;(·intro _ _ hy;(conv=>whnf);exact hy);(·intro Q hQ;(conv=>whnf);exact hQ)))
    apply xq
    ·(intro _ _ hy;(conv=>whnf);exact hy)
    intro Q hQ
    conv=>whnf
    refine get_run (LV.mk (e:=e) (fl:=.ro) rfl (Nat.le_refl _)) ok.lt _ ?_
    rw [hQ]
    conv=>whnf
    repeat(first|((first|refine yw ?_|refine zX ?_|refine yX ?_|refine zk ?_);intro _ _)|refine yz ?_|refine xz ?_|refine yj ‹_› ?_|refine zw ‹_› ?_|refine yx ‹_› ?_|refine yq ‹_› ?_|refine zZ ?_|refine yy ?_|refine yv ?_|refine zq ?_|refine zY (fun Q hQ=>by (conv=>whnf);exact hQ) ?_|refine zj (fun Q hQ=>by (conv=>whnf);exact hQ) ?_|(apply yk;(·intro _ _ hy;(conv=>whnf);exact hy);(·intro Q hQ;(conv=>whnf);repeat(first|exact hQ|((first|refine xw (by first|rfl|assumption) ?_|refine xx (by first|rfl|assumption) ?_|refine zy ?_|refine zx ?_|unfold yZ);(conv=>whnf))));(·intro Q hQ;(conv=>whnf);exact hQ))|(apply yY;(·intro _ _ hy;(conv=>whnf);exact hy);(·intro Q hQ;(conv=>whnf);exact hQ)))
    apply xq
    ·(intro _ _ hy;(conv=>whnf);exact hy)
    intro Q hQ
    conv=>whnf
    refine metX hmet ?_
    rw [hQ]
    conv=>whnf
    repeat(first|((first|refine yw ?_|refine zX ?_|refine yX ?_|refine zk ?_);intro _ _)|refine yz ?_|refine xz ?_|refine yj ‹_› ?_|refine zw ‹_› ?_|refine yx ‹_› ?_|refine yq ‹_› ?_|refine zZ ?_|refine yy ?_|refine yv ?_|refine zq ?_|refine zY (fun Q hQ=>by (conv=>whnf);exact hQ) ?_|refine zj (fun Q hQ=>by (conv=>whnf);exact hQ) ?_|(apply yk;(·intro _ _ hy;(conv=>whnf);exact hy);(·intro Q hQ;(conv=>whnf);repeat(first|exact hQ|((first|refine xw (by first|rfl|assumption) ?_|refine xx (by first|rfl|assumption) ?_|refine zy ?_|refine zx ?_|unfold yZ);(conv=>whnf))));(·intro Q hQ;(conv=>whnf);exact hQ))|(apply yY;(·intro _ _ hy;(conv=>whnf);exact hy);(·intro Q hQ;(conv=>whnf);exact hQ)))
    apply xq
    ·(intro _ _ hy;(conv=>whnf);exact hy)
    intro Q hQ
    conv=>whnf
    refine kind_run b ?_
    rw [hQ]
    conv=>whnf
    repeat(first|((first|refine yw ?_|refine zX ?_|refine yX ?_|refine zk ?_);intro _ _)|refine yz ?_|refine xz ?_|refine yj ‹_› ?_|refine zw ‹_› ?_|refine yx ‹_› ?_|refine yq ‹_› ?_|refine zZ ?_|refine yy ?_|refine yv ?_|refine zq ?_|refine zY (fun Q hQ=>by (conv=>whnf);exact hQ) ?_|refine zj (fun Q hQ=>by (conv=>whnf);exact hQ) ?_|(apply yk;(·intro _ _ hy;(conv=>whnf);exact hy);(·intro Q hQ;(conv=>whnf);repeat(first|exact hQ|((first|refine xw (by first|rfl|assumption) ?_|refine xx (by first|rfl|assumption) ?_|refine zy ?_|refine zx ?_|unfold yZ);(conv=>whnf))));(·intro Q hQ;(conv=>whnf);exact hQ))|(apply yY;(·intro _ _ hy;(conv=>whnf);exact hy);(·intro Q hQ;(conv=>whnf);exact hQ)))
    conv=>whnf
    rw [← hK]
    exact ⟨[],List.nodup_nil,by simp,.bool _,trivial,trivial⟩
end Go.Am
/- (*relabel.Relabel).Steps without rules. -/
namespace Go.Am
open Go.Proofs
set_option maxRecDepth 100000
attribute [local irreducible] fN fI fB yZ wrapK bAppend evOps wk drOps rdsAll sl

theorem f65:FnAt Tryz.prog 65 46 [.cell 4 133,.cell 5 3,.cell 6 35] (codeOf Tryz.f65):=⟨Tryz.f65,by kernel_rfl,rfl,by kernel_rfl,by kernel_rfl,by kernel_rfl⟩
theorem f95:FnAt Tryz.prog 95 6 [.tmp 4] (codeOf Tryz.f95):=⟨Tryz.f95,by kernel_rfl,rfl,by kernel_rfl,by kernel_rfl,by kernel_rfl⟩
theorem f131:FnAt Tryz.prog 131 37 [] (codeOf Tryz.f131):=⟨Tryz.f131,by kernel_rfl,rfl,by kernel_rfl,by kernel_rfl,by kernel_rfl⟩

set_option maxHeartbeats 2000000 in
theorem steps_run {l:List Lab} {v:V} {S:St} (h:LS S v l) (ok:OkL l) {r:Nat} {fl0:Fl} (hr:S.hs.get r=some (.cells [.nilSlice,.bool true] 128 fl0)) {k:V→St→Prop} (hk:k (.tup [.nilSlice,.int .i64 (.negSucc 0),.int .i64 0]) S):RC Tryz.prog 65 [.ptr r 0,v] S k:=by
 obtain ⟨i,cap,ex,rest,e,fl,rfl,hc,hrow⟩:=h
 refine RC.read mixed f65 (l:=[.ptr (ngl+1) 0,.slice ngl 0 l.length l.length 2 false]) [i,r] [.cells (cellsOf l ++ rest) e fl,.cells [.nilSlice,.bool true] 128 fl0] [.cells (cellsOf l) e .ro,.cells [.nilSlice,.bool true] 128 .ro] [] (v2:=.tup [.nilSlice,.int .i64 (.negSucc 0),.int .i64 0]) ?_ rfl rfl ?_ ?_
  (.cons (.ptr _ (Rin.at (a:=1) rfl (by simp))) (.cons (.slice _ _ _ _ _ _ _ (Rin.at (a:=0) rfl (by simp)) (.inr (Nat.le_refl _)) hc (by simp)) .nil)) (by simp) ?_ hk
 ·rintro (_|_|a) o h
  ·simp at h;subst h;rfl
  ·simp at h;subst h;rfl
  ·simp at h
 ·rintro (_|_|a) j o h1 h2
  ·simp at h1 h2;subst h1;subst h2;exact hrow
  ·simp at h1 h2;subst h1;subst h2;exact hr
  ·simp at h1
 ·rintro (_|_|a) o1 o2 h1 h2
  ·simp at h1 h2;subst h1;subst h2;exact .part (wv l)
  ·simp at h1 h2;subst h1;subst h2;exact .cells (.cons .nilSlice (.cons (.bool _) .nil)) (.inr (.inr rfl))
  ·simp at h1
 ·show buildK _ ⟨T.nil,ngl+2⟩ _
  generalize hK:Post _ _ _ _ _ _ _=K
  apply wy
  ·intro Q hQ
   conv=>whnf
   exact hQ
  apply wx
  ·intro Q hQ
   conv=>whnf
   exact hQ
  intro K0 hK0
  unfold codeOf
  conv=>arg 7;whnf
  repeat(first|((first|refine yw ?_|refine zX ?_|refine yX ?_|refine zk ?_);intro _ _)|refine yz ?_|refine xz ?_|refine yj ‹_› ?_|refine zw ‹_› ?_|refine yx ‹_› ?_|refine yq ‹_› ?_|refine zZ ?_|refine yy ?_|refine yv ?_|refine zq ?_|refine zY (fun Q hQ=>by (conv=>whnf);exact hQ) ?_|refine zj (fun Q hQ=>by (conv=>whnf);exact hQ) ?_|(apply yk;(·intro _ _ hy;(conv=>whnf);exact hy);(·intro Q hQ;(conv=>whnf);repeat(first|exact hQ|((first|refine xw (by first|rfl|assumption) ?_|refine xx (by first|rfl|assumption) ?_|refine zy ?_|refine zx ?_|unfold yZ);(conv=>whnf))));(·intro Q hQ;(conv=>whnf);exact hQ))|(apply yY;(·intro _ _ hy;(conv=>whnf);exact hy);(·intro Q hQ;(conv=>whnf);exact hQ)))
  apply xq
  ·(intro _ _ hy;(conv=>whnf);exact hy)
  intro Q hQ
  conv=>whnf
  refine right_run (LV.mk (e:=e) (fl:=.ro) rfl (Nat.le_refl _)) ok ?_
  rw [hQ]
  conv=>whnf
  repeat(first|((first|refine yw ?_|refine zX ?_|refine yX ?_|refine zk ?_);intro _ _)|refine yz ?_|refine xz ?_|refine yj ‹_› ?_|refine zw ‹_› ?_|refine yx ‹_› ?_|refine yq ‹_› ?_|refine zZ ?_|refine yy ?_|refine yv ?_|refine zq ?_|refine zY (fun Q hQ=>by (conv=>whnf);exact hQ) ?_|refine zj (fun Q hQ=>by (conv=>whnf);exact hQ) ?_|(apply yk;(·intro _ _ hy;(conv=>whnf);exact hy);(·intro Q hQ;(conv=>whnf);repeat(first|exact hQ|((first|refine xw (by first|rfl|assumption) ?_|refine xx (by first|rfl|assumption) ?_|refine zy ?_|refine zx ?_|unfold yZ);(conv=>whnf))));(·intro Q hQ;(conv=>whnf);exact hQ))|(apply yY;(·intro _ _ hy;(conv=>whnf);exact hy);(·intro Q hQ;(conv=>whnf);exact hQ)))
  apply xq
  ·(intro _ _ hy;(conv=>whnf);exact hy)
  intro Q hQ
  conv=>whnf
  refine RC.run mixed xts_ok (evCall_at f95 ?_)
  apply wx
  ·intro Q hQ
   conv=>whnf
   exact hQ
  intro K95 hK95
  unfold codeOf
  conv=>arg 7;whnf
  repeat(first|((first|refine yw ?_|refine zX ?_|refine yX ?_|refine zk ?_);intro _ _)|refine yz ?_|refine xz ?_|refine yj ‹_› ?_|refine zw ‹_› ?_|refine yx ‹_› ?_|refine yq ‹_› ?_|refine zZ ?_|refine yy ?_|refine yv ?_|refine zq ?_|refine zY (fun Q hQ=>by (conv=>whnf);exact hQ) ?_|refine zj (fun Q hQ=>by (conv=>whnf);exact hQ) ?_|(apply yk;(·intro _ _ hy;(conv=>whnf);exact hy);(·intro Q hQ;(conv=>whnf);repeat(first|exact hQ|((first|refine xw (by first|rfl|assumption) ?_|refine xx (by first|rfl|assumption) ?_|refine zy ?_|refine zx ?_|unfold yZ);(conv=>whnf))));(·intro Q hQ;(conv=>whnf);exact hQ))|(apply yY;(·intro _ _ hy;(conv=>whnf);exact hy);(·intro Q hQ;(conv=>whnf);exact hQ)))
  conv=>whnf
  rw [hQ]
  conv=>whnf
  repeat(first|((first|refine yw ?_|refine zX ?_|refine yX ?_|refine zk ?_);intro _ _)|refine yz ?_|refine xz ?_|refine yj ‹_› ?_|refine zw ‹_› ?_|refine yx ‹_› ?_|refine yq ‹_› ?_|refine zZ ?_|refine yy ?_|refine yv ?_|refine zq ?_|refine zY (fun Q hQ=>by (conv=>whnf);exact hQ) ?_|refine zj (fun Q hQ=>by (conv=>whnf);exact hQ) ?_|(apply yk;(·intro _ _ hy;(conv=>whnf);exact hy);(·intro Q hQ;(conv=>whnf);repeat(first|exact hQ|((first|refine xw (by first|rfl|assumption) ?_|refine xx (by first|rfl|assumption) ?_|refine zy ?_|refine zx ?_|unfold yZ);(conv=>whnf))));(·intro Q hQ;(conv=>whnf);exact hQ))|(apply yY;(·intro _ _ hy;(conv=>whnf);exact hy);(·intro Q hQ;(conv=>whnf);exact hQ)))
  refine seg_rangeFunc ?_
  conv=>whnf
  refine RC.run mixed xts_ok (evCall_at f131 ?_)
  apply wx
  ·intro Q hQ
   conv=>whnf
   exact hQ
  intro K131 hK131
  unfold codeOf
  conv=>arg 7;whnf
  repeat(first|((first|refine yw ?_|refine zX ?_|refine yX ?_|refine zk ?_);intro _ _)|refine yz ?_|refine xz ?_|refine yj ‹_› ?_|refine zw ‹_› ?_|refine yx ‹_› ?_|refine yq ‹_› ?_|refine zZ ?_|refine yy ?_|refine yv ?_|refine zq ?_|refine zY (fun Q hQ=>by (conv=>whnf);exact hQ) ?_|refine zj (fun Q hQ=>by (conv=>whnf);exact hQ) ?_|(apply yk;(·intro _ _ hy;(conv=>whnf);exact hy);(·intro Q hQ;(conv=>whnf);repeat(first|exact hQ|((first|refine xw (by first|rfl|assumption) ?_|refine xx (by first|rfl|assumption) ?_|refine zy ?_|refine zx ?_|unfold yZ);(conv=>whnf))));(·intro Q hQ;(conv=>whnf);exact hQ))|(apply yY;(·intro _ _ hy;(conv=>whnf);exact hy);(·intro Q hQ;(conv=>whnf);exact hQ)))
  refine LP.step mixed ?_
  repeat(first|((first|refine yw ?_|refine zX ?_|refine yX ?_|refine zk ?_);intro _ _)|refine yz ?_|refine xz ?_|refine yj ‹_› ?_|refine zw ‹_› ?_|refine yx ‹_› ?_|refine yq ‹_› ?_|refine zZ ?_|refine yy ?_|refine yv ?_|refine zq ?_|refine zY (fun Q hQ=>by (conv=>whnf);exact hQ) ?_|refine zj (fun Q hQ=>by (conv=>whnf);exact hQ) ?_|(apply yk;(·intro _ _ hy;(conv=>whnf);exact hy);(·intro Q hQ;(conv=>whnf);repeat(first|exact hQ|((first|refine xw (by first|rfl|assumption) ?_|refine xx (by first|rfl|assumption) ?_|refine zy ?_|refine zx ?_|unfold yZ);(conv=>whnf))));(·intro Q hQ;(conv=>whnf);exact hQ))|(apply yY;(·intro _ _ hy;(conv=>whnf);exact hy);(·intro Q hQ;(conv=>whnf);exact hQ)))
  conv=>whnf
  repeat(first|((first|refine yw ?_|refine zX ?_|refine yX ?_|refine zk ?_);intro _ _)|refine yz ?_|refine xz ?_|refine yj ‹_› ?_|refine zw ‹_› ?_|refine yx ‹_› ?_|refine yq ‹_› ?_|refine zZ ?_|refine yy ?_|refine yv ?_|refine zq ?_|refine zY (fun Q hQ=>by (conv=>whnf);exact hQ) ?_|refine zj (fun Q hQ=>by (conv=>whnf);exact hQ) ?_|(apply yk;(·intro _ _ hy;(conv=>whnf);exact hy);(·intro Q hQ;(conv=>whnf);repeat(first|exact hQ|((first|refine xw (by first|rfl|assumption) ?_|refine xx (by first|rfl|assumption) ?_|refine zy ?_|refine zx ?_|unfold yZ);(conv=>whnf))));(·intro Q hQ;(conv=>whnf);exact hQ))|(apply yY;(·intro _ _ hy;(conv=>whnf);exact hy);(·intro Q hQ;(conv=>whnf);exact hQ)))
  unfold yZ
  conv=>whnf
  unfold yZ
  conv=>whnf
  unfold yZ
  conv=>whnf
  rw [← hK]
  exact ⟨[],List.nodup_nil,by simp,.tup (.cons .nilSlice (.cons (.int _ _) (.cons (.int _ _) .nil))),trivial,trivial⟩
end Go.Am
/- (*relabel.Relabel).Apply without rules. -/
namespace Go.Am
open Go.Proofs
set_option maxRecDepth 100000
attribute [local irreducible] fN fI fB yZ wrapK bAppend evOps wk drOps rdsAll sl

theorem f46:FnAt Tryz.prog 46 38 [.tmp 4,.tmp 5,.tmp 6] (codeOf Tryz.f46):=⟨Tryz.f46,by kernel_rfl,rfl,by kernel_rfl,by kernel_rfl,by kernel_rfl⟩

set_option maxHeartbeats 2000000 in
theorem apply_run {l:List Lab} {v:V} {S:St} (h:LS S v l) (ok:OkL l) (hne:l ≠ []) {r:Nat} {fl0:Fl} (hr:S.hs.get r=some (.cells [.nilSlice,.bool true] 128 fl0)) {k:V→St→Prop}
  (hk:newsK (outN l) S (k (.tup [outV l S.next,.int .i64 (.negSucc 0),.int .i64 0]))):RC Tryz.prog 46 [.ptr r 0,v] S k:=by
 obtain ⟨i,cap,ex,rest,e,fl,rfl,hc,hrow⟩:=h
 refine RC.read mixed f46 (l:=[.ptr (ngl+1) 0,.slice ngl 0 l.length l.length 2 false]) [i,r] [.cells (cellsOf l ++ rest) e fl,.cells [.nilSlice,.bool true] 128 fl0] [.cells (cellsOf l) e .ro,.cells [.nilSlice,.bool true] 128 .ro] (outN l) (v2:=.tup [outV l S.next,.int .i64 (.negSucc 0),.int .i64 0]) ?_ rfl rfl ?_ ?_
  (.cons (.ptr _ (Rin.at (a:=1) rfl (by simp))) (.cons (.slice _ _ _ _ _ _ _ (Rin.at (a:=0) rfl (by simp)) (.inr (Nat.le_refl _)) hc (by simp)) .nil)) outN_wr ?_ hk
 ·rintro (_|_|a) o h
  ·simp at h;subst h;rfl
  ·simp at h;subst h;rfl
  ·simp at h
 ·rintro (_|_|a) j o h1 h2
  ·simp at h1 h2;subst h1;subst h2;exact hrow
  ·simp at h1 h2;subst h1;subst h2;exact hr
  ·simp at h1
 ·rintro (_|_|a) o1 o2 h1 h2
  ·simp at h1 h2;subst h1;subst h2;exact .part (wv l)
  ·simp at h1 h2;subst h1;subst h2;exact .cells (.cons .nilSlice (.cons (.bool _) .nil)) (.inr (.inr rfl))
  ·simp at h1
 ·show buildK _ ⟨T.nil,ngl+2⟩ _
  generalize hK:Post _ _ _ _ _ _ _=K
  cases l with
  | nil=>exact absurd rfl hne
  | cons q0 o0 =>
    apply wy
    ·intro Q hQ
     conv=>whnf
     exact hQ
    apply wx
    ·intro Q hQ
     conv=>whnf
     exact hQ
    intro K0 hK0
    unfold codeOf
    conv=>arg 7;whnf
    repeat(first|((first|refine yw ?_|refine zX ?_|refine yX ?_|refine zk ?_);intro _ _)|refine yz ?_|refine xz ?_|refine yj ‹_› ?_|refine zw ‹_› ?_|refine yx ‹_› ?_|refine yq ‹_› ?_|refine zZ ?_|refine yy ?_|refine yv ?_|refine zq ?_|refine zY (fun Q hQ=>by (conv=>whnf);exact hQ) ?_|refine zj (fun Q hQ=>by (conv=>whnf);exact hQ) ?_|(apply yk;(·intro _ _ hy;(conv=>whnf);exact hy);(·intro Q hQ;(conv=>whnf);repeat(first|exact hQ|((first|refine xw (by first|rfl|assumption) ?_|refine xx (by first|rfl|assumption) ?_|refine zy ?_|refine zx ?_|unfold yZ);(conv=>whnf))));(·intro Q hQ;(conv=>whnf);exact hQ))|(apply yY;(·intro _ _ hy;(conv=>whnf);exact hy);(·intro Q hQ;(conv=>whnf);exact hQ)))
    apply xq
    ·(intro _ _ hy;(conv=>whnf);exact hy)
    intro Q hQ
    conv=>whnf
    refine steps_run (LS.mk (e:=e) (fl:=.ro) rfl (Nat.le_refl _)) ok (fl0:=.ro) rfl ?_
    rw [hQ]
    conv=>whnf
    repeat(first|((first|refine yw ?_|refine zX ?_|refine yX ?_|refine zk ?_);intro _ _)|refine yz ?_|refine xz ?_|refine yj ‹_› ?_|refine zw ‹_› ?_|refine yx ‹_› ?_|refine yq ‹_› ?_|refine zZ ?_|refine yy ?_|refine yv ?_|refine zq ?_|refine zY (fun Q hQ=>by (conv=>whnf);exact hQ) ?_|refine zj (fun Q hQ=>by (conv=>whnf);exact hQ) ?_|(apply yk;(·intro _ _ hy;(conv=>whnf);exact hy);(·intro Q hQ;(conv=>whnf);repeat(first|exact hQ|((first|refine xw (by first|rfl|assumption) ?_|refine xx (by first|rfl|assumption) ?_|refine zy ?_|refine zx ?_|unfold yZ);(conv=>whnf))));(·intro Q hQ;(conv=>whnf);exact hQ))|(apply yY;(·intro _ _ hy;(conv=>whnf);exact hy);(·intro Q hQ;(conv=>whnf);exact hQ)))
    apply xq
    ·(intro _ _ hy;(conv=>whnf);exact hy)
    intro Q hQ
    conv=>whnf
    refine clone52_run (LV.mk (e:=e) (fl:=.ro) rfl (Nat.le_refl _)) (fun _=>hne) (by have:=ok.few;omega) ?_
    conv=>whnf
    rw [hQ]
    conv=>whnf
    repeat(first|((first|refine yw ?_|refine zX ?_|refine yX ?_|refine zk ?_);intro _ _)|refine yz ?_|refine xz ?_|refine yj ‹_› ?_|refine zw ‹_› ?_|refine yx ‹_› ?_|refine yq ‹_› ?_|refine zZ ?_|refine yy ?_|refine yv ?_|refine zq ?_|refine zY (fun Q hQ=>by (conv=>whnf);exact hQ) ?_|refine zj (fun Q hQ=>by (conv=>whnf);exact hQ) ?_|(apply yk;(·intro _ _ hy;(conv=>whnf);exact hy);(·intro Q hQ;(conv=>whnf);repeat(first|exact hQ|((first|refine xw (by first|rfl|assumption) ?_|refine xx (by first|rfl|assumption) ?_|refine zy ?_|refine zx ?_|unfold yZ);(conv=>whnf))));(·intro Q hQ;(conv=>whnf);exact hQ))|(apply yY;(·intro _ _ hy;(conv=>whnf);exact hy);(·intro Q hQ;(conv=>whnf);exact hQ)))
    conv=>whnf
    rw [← hK]
    exact ⟨[_],nodup1 _,fun g hg=>by rw [List.mem_singleton] at hg;subst hg;exact Nat.le_of_ble_eq_true rfl,.tup (.cons (.slice _ _ _ _ _ _ _ (Rou.new (a:=0) rfl (Nat.le_of_ble_eq_true rfl) (by simp [outN])) (.inl rfl) (Nat.le_refl _) (fun h=>⟨h,rfl⟩)) (.cons (.int _ _) (.cons (.int _ _) .nil))),trivial,⟨⟨_,rfl,.cells (wv _) (.inl rfl)⟩,trivial⟩⟩
end Go.Am
/- Reads of a drawn region with one acting operation; values that are read again. -/
namespace Go.Am
variable {P:Program} {S:St} {rds:List Rd}
theorem rdAt_intro {r:Rd} {prev:Nat} {nxt:Option Nat} {S:St} {Q:Prop} (h0:bitN prev r.idx=true ∨ (∃ n,nxt=some n∧bitN r.anc n=true) ∨ ∀ Q:V→Prop,Q r.val→putsK prev r.sel S fun S=>readK P r.op r.env S Q) (he:eqV 8 r.val r.val=true) (hQ:Q):rdAt P r prev nxt S Q:=by
 unfold rdAt
 cases hb:bitN prev r.idx with
 | true=>exact hQ
 | false =>
   rcases h0 with h1|⟨n,rfl,h1⟩|h1
   ·exact absurd (hb.symm.trans h1) (by simp)
   ·show Bool.rec (motive:=fun _=>Prop) _ _ (bitN r.anc n)
    rw [h1];exact hQ
   ·cases nxt with
    | none=>exact h1 (fun v=>ifK (eqV 8 r.val v) Q) (ifK_intro he hQ)
    | some n =>
      show Bool.rec (motive:=fun _=>Prop) _ _ (bitN r.anc n)
      cases bitN r.anc n with
      | true=>exact hQ
      | false=>exact h1 (fun v=>ifK (eqV 8 r.val v) Q) (ifK_intro he hQ)
/-- A read in a region with one acting operation. -/
theorem wZ {r:Rd} {c:Ch} {Q:Prop} (hS:bitN c.anc r.idx=true ∨ ∀ Q:V→Prop,Q r.val→putsK c.anc r.sel S fun S=>readK P r.op r.env S Q) (h0:bitN r.anc c.idx=true ∨ ∀ Q:V→Prop,Q r.val→putsK 0 r.sel c.st fun S=>readK P r.op r.env S Q)
  (he:eqV 8 r.val r.val=true) (h:rdsAll P [c] S rds Q):rdsAll P [c] S (r :: rds) Q :=
 show rdAt P r c.anc none S (rdAt P r 0 (some c.idx) c.st _) from rdAt_intro (hS.elim .inl fun h=>.inr (.inr h)) he (rdAt_intro (h0.elim (fun h=>.inr (.inl ⟨_,rfl,h⟩)) fun h=>.inr (.inr h)) he h)
/-- .. with two. -/
theorem rd_cons2 {r:Rd} {c2 c1:Ch} {Q:Prop} (hS:bitN c2.anc r.idx=true ∨ ∀ Q:V→Prop,Q r.val→putsK c2.anc r.sel S fun S=>readK P r.op r.env S Q)
  (h1:bitN c1.anc r.idx=true ∨ bitN r.anc c2.idx=true ∨ ∀ Q:V→Prop,Q r.val→putsK c1.anc r.sel c2.st fun S=>readK P r.op r.env S Q)
  (h0:bitN r.anc c1.idx=true ∨ ∀ Q:V→Prop,Q r.val→putsK 0 r.sel c1.st fun S=>readK P r.op r.env S Q)
  (he:eqV 8 r.val r.val=true) (h:rdsAll P [c2,c1] S rds Q):rdsAll P [c2,c1] S (r :: rds) Q :=
 show rdAt P r c2.anc none S (rdAt P r c1.anc (some c2.idx) c2.st (rdAt P r 0 (some c1.idx) c1.st _)) from
  rdAt_intro (hS.elim .inl fun h=>.inr (.inr h)) he (rdAt_intro (h1.elim .inl fun h=>h.elim (fun h=>.inr (.inl ⟨_,rfl,h⟩)) fun h=>.inr (.inr h)) he (rdAt_intro (h0.elim (fun h=>.inr (.inl ⟨_,rfl,h⟩)) fun h=>.inr (.inr h)) he h))
theorem LP.step' (hm:P.follows .mixedOrders=true) {ro:Option Nat} {b:Code} {E:Env} {D:List Nat} {k:KT}
  (h:∀ K:KT,K=(fun x E D S=>X.casesOn x (LP P ro b E D S k) (fun id=>k (.exit id) E D S) (k .ret E D S))→wk P (RC P) (RD P) (LP P) (evDraw P (RC P) (RD P)) ro b E D S K):LP P ro b E D S k:=LP.step hm (h _ rfl)
theorem noneK_intro {i id prev:Nat} {S:St} {k:Prop} (h:bitN prev i=true ∨ T.get deep id S.hp=none) (hk:k):noneK i id prev S k:=by
 unfold noneK
 cases hb:bitN prev i with
 | true=>exact hk
 | false =>
   rcases h with h|h
   ·exact absurd (hb.symm.trans h) (by simp)
   ·show Option.rec (motive:=fun _=>Prop) k (fun _=>False) (T.get deep id S.hp)
    rw [h];exact hk
/-- The numbers of what was made: with no acting operation, with one, with two. -/
theorem als_cons0 {q:Nat × Nat} {l:List (Nat × Nat)} {k:Prop} (h0:T.get deep q.2 S.hp=none) (h:alsAll [] S l k):alsAll [] S (q :: l) k:=noneK_intro (.inr h0) h
theorem als_cons1 {q:Nat × Nat} {l:List (Nat × Nat)} {c:Ch} {k:Prop} (h1:bitN c.anc q.1=true ∨ T.get deep q.2 S.hp=none) (h0:T.get deep q.2 c.st.hp=none) (h:alsAll [c] S l k):alsAll [c] S (q :: l) k :=
 noneK_intro h1 (noneK_intro (.inr h0) h)
theorem als_cons2 {q:Nat × Nat} {l:List (Nat × Nat)} {c2 c1:Ch} {k:Prop} (h2:bitN c2.anc q.1=true ∨ T.get deep q.2 S.hp=none) (h1:bitN c1.anc q.1=true ∨ T.get deep q.2 c2.st.hp=none) (h0:T.get deep q.2 c1.st.hp=none) (h:alsAll [c2,c1] S l k):alsAll [c2,c1] S (q :: l) k :=
 noneK_intro h2 (noneK_intro h1 (noneK_intro (.inr h0) h))
theorem als_nil {chs:List Ch} {k:Prop} (h:k):alsAll chs S [] k:=h
theorem vv (a b c d e:Nat) (x:Bool):eqV 8 (.slice a b c d e x) (.slice a b c d e x)=true:=by
 show (Nat.beq a a && Nat.beq b b && Nat.beq c c && Nat.beq d d && Nat.beq e e && (x == x))=true
 simp [Nat.beq_refl]
theorem vw (x:Bool):eqV 8 (.bool x) (.bool x)=true:=by
 show (x == x)=true
 simp
theorem eqI_self (x:Int):eqI x x=true:=by
 cases x <;> exact Nat.beq_refl _
theorem vy (j:IntKind) (x:Int):eqV 8 (.int j x) (.int j x)=true:=by
 show (kEq j j && eqI x x)=true
 rw [eqI_self]
 cases j <;> rfl
theorem eqV_ptr (a b:Nat):eqV 8 (.ptr a b) (.ptr a b)=true:=by
 show (Nat.beq a a && Nat.beq b b)=true
 simp [Nat.beq_refl]
end Go.Am
/- (*body.maker).make without rules. -/
namespace Go.Am
open Go.Proofs
set_option maxRecDepth 100000
attribute [local irreducible] fN fI fB yZ wrapK bAppend evOps wk drOps rdsAll sl

theorem f20:FnAt Tryz.prog 20 72 [.cell 4 30,.tmp 5,.tmp 6] (codeOf Tryz.f20):=⟨Tryz.f20,by kernel_rfl,rfl,by kernel_rfl,by kernel_rfl,by kernel_rfl⟩

theorem nameN_in:nameN ∈ namesX:=by decide
theorem outN_ne {l:List Lab} (h:l ≠ []):outN l=[.cells (cellsOf l) 40 .rw]:=by cases l with|nil=>exact absurd rfl h|cons=>rfl
theorem outV_ne {l:List Lab} (h:l ≠ []) (n:Nat):outV l n=.slice n 0 l.length l.length 2 false:=by cases l with|nil=>exact absurd rfl h|cons=>rfl
theorem OkL.filt {l:List Lab} (h:OkL l) {f:Lab→Bool}:OkL (l.filter f):=⟨fun q hq=>h.name q (List.mem_filter.1 hq).1,fun q hq=>h.val q (List.mem_filter.1 hq).1,fun q hq=>h.full q (List.mem_filter.1 hq).1,h.asc.filter _⟩
theorem okNil:OkL []:=⟨by simp,by simp,by simp,.nil⟩
theorem mets_vals {s:List UInt8} (h:s ∈ mets):s ∈ valsX:=List.mem_append.2 (.inr h)
theorem mets_ne {s:List UInt8} (h:s ∈ mets):s ≠ []:=by
 simp only [mets,List.mem_cons,List.mem_nil_iff,or_false] at h
 rcases h with rfl|rfl|rfl|rfl|rfl|rfl|rfl|rfl <;> simp
/-- What becomes of a sample's labels without rules. -/
noncomputable def madeX (tg sm:List Lab):Tab × Nat:=[(nameN,getL nameN (expL tg sm))].foldl putT (((expL tg sm).filter fun q=>!hid q.1).foldl putT ([],0))
set_option maxHeartbeats 4000000 in
theorem make_nil (hL:LabelsOk Tryz.prog 37 40) {sm:List Lab} {v:V} {S:St} (okT:OkL []) (h:LS S v sm) (okS:OkL sm) (hs:∀ q ∈ sm,q.1 ∈ names04) (hne:(([]:List Lab).foldl putT (sm.foldl (expT [] sm) ([],0))).1 ≠ []) (hR:(expL [] sm).length ≤ 64)
  (okX:OkL (expL [] sm)) (hneX:(expL [] sm) ≠ []) (hmet:getL nameN (expL [] sm) ∈ mets) (hneM:(madeX [] sm).1 ≠ []) (hRM:(tabL (madeX [] sm)).length ≤ 64) {b t:Int} {st:Bool} {m r:Nat} {fl1 fl0:Fl} (hm:S.hs.get m=some (.cells [.nilSlice,.ptr r 0] 100 fl1)) (hr:S.hs.get r=some (.cells [.nilSlice,.bool true] 128 fl0)) {k:V→St→Prop}
  (hk:newK (.cells (cellsOf (tabL (madeX [] sm))) 40 .rw) S fun id S'=>k (.tup [.agg [.slice id 0 (tabL (madeX [] sm)).length (tabL (madeX [] sm)).length 2 false,.int .u64 b,.bool st,.int .i64 t],.bool true,.int .i64 0]) S') :
  RC Tryz.prog 20 [.ptr m 0,.agg [v,.int .u64 b,.bool st,.int .i64 t]] S k:=by
 obtain ⟨i,cap,ex,rest,e,fl,rfl,hc,hrow⟩:=h
 refine RC.read mixed f20 (l:=[.ptr (ngl+1) 0,.agg [.slice ngl 0 sm.length sm.length 2 false,.int .u64 b,.bool st,.int .i64 t]]) [i,m,r] [.cells (cellsOf sm ++ rest) e fl,.cells [.nilSlice,.ptr r 0] 100 fl1,.cells [.nilSlice,.bool true] 128 fl0] [.cells (cellsOf sm) e .ro,.cells [.nilSlice,.ptr (ngl+2) 0] 100 .ro,.cells [.nilSlice,.bool true] 128 .ro]
  [.cells (cellsOf (tabL (madeX [] sm))) 40 .rw] ?_ rfl rfl ?_ ?_
  (.cons (.ptr _ (Rin.at (a:=1) rfl (by simp))) (.cons (.agg (.cons (.slice _ _ _ _ _ _ _ (Rin.at (a:=0) rfl (by simp)) (.inr (Nat.le_refl _)) hc (by simp)) (.cons (.int _ _) (.cons (.bool _) (.cons (.int _ _) .nil))))) .nil)) ?_ ?_ (newsK_one hk)
 ·rintro (_|_|_|a) o h
  ·simp at h;subst h;rfl
  ·simp at h;subst h;rfl
  ·simp at h;subst h;rfl
  ·simp at h
 ·rintro (_|_|_|a) j o h1 h2
  ·simp at h1 h2;subst h1;subst h2;exact hrow
  ·simp at h1 h2;subst h1;subst h2;exact hm
  ·simp at h1 h2;subst h1;subst h2;exact hr
  ·simp at h1
 ·rintro (_|_|_|a) o1 o2 h1 h2
  ·simp at h1 h2;subst h1;subst h2;exact .part (wv sm)
  ·simp at h1 h2;subst h1;subst h2;exact .cells (.cons .nilSlice (.cons (.ptr _ (Rin.at (a:=2) rfl (by simp))) .nil)) (.inr (.inr rfl))
  ·simp at h1 h2;subst h1;subst h2;exact .cells (.cons .nilSlice (.cons (.bool _) .nil)) (.inr (.inr rfl))
  ·simp at h1
 ·rintro (_|a) o h
  ·simp at h;subst h;rfl
  ·simp at h
 ·show buildK _ ⟨T.nil,ngl+3⟩ _
  have okF:OkL ((expL [] sm).filter fun q=>!hid q.1):=okX.filt
  by_cases hF:((expL [] sm).filter fun q=>!hid q.1)=[]
  ·have hM:madeX [] sm=[(nameN,getL nameN (expL [] sm))].foldl putT (([]:List Lab).foldl putT ([],0)):=by unfold madeX;rw [hF]
   have hneM0:([(nameN,getL nameN (expL [] sm))].foldl putT (([]:List Lab).foldl putT ([],0))).1 ≠ []:=by have h:=hneM;unfold madeX at h;rw [hF] at h;exact h
   have hRM0:(tabL ([(nameN,getL nameN (expL [] sm))].foldl putT (([]:List Lab).foldl putT ([],0)))).length ≤ 64:=by have h:=hRM;unfold madeX at h;rw [hF] at h;exact h
   rw [hM]
   generalize hK:Post _ _ _ _ _ _ _=K
   apply wy
   ·intro Q hQ
    conv=>whnf
    exact hQ
   apply wx
   ·intro Q hQ
    conv=>whnf
    exact hQ
   intro K0 hK0
   unfold codeOf
   conv=>arg 7;whnf
   repeat(first|((first|refine yw ?_|refine zX ?_|refine yX ?_|refine zk ?_);intro _ _)|refine yz ?_|refine xz ?_|refine yj ‹_› ?_|refine zw ‹_› ?_|refine yx ‹_› ?_|refine yq ‹_› ?_|refine zZ ?_|refine yy ?_|refine yv ?_|refine zq ?_|refine zY (fun Q hQ=>by (conv=>whnf);exact hQ) ?_|refine zj (fun Q hQ=>by (conv=>whnf);exact hQ) ?_|(apply yk;(·intro _ _ hy;(conv=>whnf);exact hy);(·intro Q hQ;(conv=>whnf);repeat(first|exact hQ|((first|refine xw (by first|rfl|assumption) ?_|refine xx (by first|rfl|assumption) ?_|refine zy ?_|refine zx ?_|unfold yZ);(conv=>whnf))));(·intro Q hQ;(conv=>whnf);exact hQ))|(apply yY;(·intro _ _ hy;(conv=>whnf);exact hy);(·intro Q hQ;(conv=>whnf);exact hQ)))
   repeat(first|(apply xk;(·exact rfl);(·exact rfl);(·intro _ _ hy;(conv=>whnf);exact hy);(·exact rfl);(·intro Q hQ;(conv=>whnf);repeat(first|exact hQ|((first|refine xw (by first|rfl|assumption) ?_|refine xx (by first|rfl|assumption) ?_|refine zy ?_|refine zx ?_|unfold yZ);(conv=>whnf))));(·intro Q hQ;(conv=>whnf);exact hQ))|(apply xX;(·exact rfl);(·exact rfl);(·intro _ _ hy;(conv=>whnf);exact hy);(·exact rfl);(·intro Q hQ;(conv=>whnf);repeat(first|exact hQ|((first|refine xw (by first|rfl|assumption) ?_|refine xx (by first|rfl|assumption) ?_|refine zy ?_|refine zx ?_|unfold yZ);(conv=>whnf))));(·intro Q hQ;(conv=>whnf);exact hQ);intro _)|(apply xY;(·exact rfl);(·exact rfl);(·intro _ _ hy;(conv=>whnf);exact hy);(·intro Q hQ;(conv=>whnf);exact hQ))|refine xZ ?_)
   apply wz
   ·exact rfl
   ·exact rfl
   ·(intro _ _ hy;(conv=>whnf);exact hy)
   ·exact rfl
   ·kernel_rfl
   ·(intro Q hQ;exact hQ)
   intro Q hQ
   conv=>whnf
   refine export_run hL (LV.nil _) okT (LS.mk (e:=e) (fl:=.ro) rfl (Nat.le_refl _)) okS hs hne hR ?_
   conv=>whnf
   rw [hQ]
   conv=>whnf
   repeat(first|(apply xk;(·exact rfl);(·exact rfl);(·intro _ _ hy;(conv=>whnf);exact hy);(·exact rfl);(·intro Q hQ;(conv=>whnf);repeat(first|exact hQ|((first|refine xw (by first|rfl|assumption) ?_|refine xx (by first|rfl|assumption) ?_|refine zy ?_|refine zx ?_|unfold yZ);(conv=>whnf))));(·intro Q hQ;(conv=>whnf);exact hQ))|(apply xX;(·exact rfl);(·exact rfl);(·intro _ _ hy;(conv=>whnf);exact hy);(·exact rfl);(·intro Q hQ;(conv=>whnf);repeat(first|exact hQ|((first|refine xw (by first|rfl|assumption) ?_|refine xx (by first|rfl|assumption) ?_|refine zy ?_|refine zx ?_|unfold yZ);(conv=>whnf))));(·intro Q hQ;(conv=>whnf);exact hQ);intro _)|(apply xY;(·exact rfl);(·exact rfl);(·intro _ _ hy;(conv=>whnf);exact hy);(·intro Q hQ;(conv=>whnf);exact hQ))|refine xZ ?_)
   refine ww ‹_› ?_
   repeat (first
    | refine wY (by first|(simp;done)|(intro c hc;simp at hc;rcases hc with rfl|rfl|rfl <;> exact ⟨rfl,rfl⟩)|(intro c hc;simp at hc;rcases hc with rfl|rfl <;> exact ⟨rfl,rfl⟩)|(intro c hc;simp at hc;rcases hc with rfl;exact ⟨rfl,rfl⟩)) ‹_› (by first|exact vq _|exact vj _ _|exact vy _ _|exact vw _|rfl) (by first|exact .inl rfl|exact .inr rfl) ?_
    | refine wZ (.inl (by first|rfl|kernel_rfl)) (.inr ‹_›) (by first|exact vq _|exact vj _ _|exact vv _ _ _ _ _ _|exact vy _ _|exact vw _|rfl) ?_
    | refine vz ?_)
   conv=>whnf
   repeat(first|((first|refine yw ?_|refine zX ?_|refine yX ?_|refine zk ?_);intro _ _)|refine yz ?_|refine xz ?_|refine yj ‹_› ?_|refine zw ‹_› ?_|refine yx ‹_› ?_|refine yq ‹_› ?_|refine zZ ?_|refine yy ?_|refine yv ?_|refine zq ?_|refine zY (fun Q hQ=>by (conv=>whnf);exact hQ) ?_|refine zj (fun Q hQ=>by (conv=>whnf);exact hQ) ?_|(apply yk;(·intro _ _ hy;(conv=>whnf);exact hy);(·intro Q hQ;(conv=>whnf);repeat(first|exact hQ|((first|refine xw (by first|rfl|assumption) ?_|refine xx (by first|rfl|assumption) ?_|refine zy ?_|refine zx ?_|unfold yZ);(conv=>whnf))));(·intro Q hQ;(conv=>whnf);exact hQ))|(apply yY;(·intro _ _ hy;(conv=>whnf);exact hy);(·intro Q hQ;(conv=>whnf);exact hQ)))
   apply xq
   ·(intro _ _ hy;(conv=>whnf);exact hy)
   intro Q hQ
   conv=>whnf
   refine apply_run (LS.mk (e:=40) (fl:=.rw) rfl (Nat.le_refl _)) okX hneX (fl0:=.ro) rfl ?_
   rw [outN_ne hneX,outV_ne hneX]
   conv=>whnf
   rw [hQ]
   conv=>whnf
   repeat(first|((first|refine yw ?_|refine zX ?_|refine yX ?_|refine zk ?_);intro _ _)|refine yz ?_|refine xz ?_|refine yj ‹_› ?_|refine zw ‹_› ?_|refine yx ‹_› ?_|refine yq ‹_› ?_|refine zZ ?_|refine yy ?_|refine yv ?_|refine zq ?_|refine zY (fun Q hQ=>by (conv=>whnf);exact hQ) ?_|refine zj (fun Q hQ=>by (conv=>whnf);exact hQ) ?_|(apply yk;(·intro _ _ hy;(conv=>whnf);exact hy);(·intro Q hQ;(conv=>whnf);repeat(first|exact hQ|((first|refine xw (by first|rfl|assumption) ?_|refine xx (by first|rfl|assumption) ?_|refine zy ?_|refine zx ?_|unfold yZ);(conv=>whnf))));(·intro Q hQ;(conv=>whnf);exact hQ))|(apply yY;(·intro _ _ hy;(conv=>whnf);exact hy);(·intro Q hQ;(conv=>whnf);exact hQ)))
   apply xq
   ·(intro _ _ hy;(conv=>whnf);exact hy)
   intro Q hQ
   conv=>whnf
   refine get_run (LV.mk (e:=40) (fl:=.rw) rfl (Nat.le_refl _)) okX.lt _ ?_
   rw [hQ]
   conv=>whnf
   repeat(first|((first|refine yw ?_|refine zX ?_|refine yX ?_|refine zk ?_);intro _ _)|refine yz ?_|refine xz ?_|refine yj ‹_› ?_|refine zw ‹_› ?_|refine yx ‹_› ?_|refine yq ‹_› ?_|refine zZ ?_|refine yy ?_|refine yv ?_|refine zq ?_|refine zY (fun Q hQ=>by (conv=>whnf);exact hQ) ?_|refine zj (fun Q hQ=>by (conv=>whnf);exact hQ) ?_|(apply yk;(·intro _ _ hy;(conv=>whnf);exact hy);(·intro Q hQ;(conv=>whnf);repeat(first|exact hQ|((first|refine xw (by first|rfl|assumption) ?_|refine xx (by first|rfl|assumption) ?_|refine zy ?_|refine zx ?_|unfold yZ);(conv=>whnf))));(·intro Q hQ;(conv=>whnf);exact hQ))|(apply yY;(·intro _ _ hy;(conv=>whnf);exact hy);(·intro Q hQ;(conv=>whnf);exact hQ)))
   apply xq
   ·(intro _ _ hy;(conv=>whnf);exact hy)
   intro Q hQ
   conv=>whnf
   refine metX hmet ?_
   rw [hQ]
   conv=>whnf
   repeat(first|((first|refine yw ?_|refine zX ?_|refine yX ?_|refine zk ?_);intro _ _)|refine yz ?_|refine xz ?_|refine yj ‹_› ?_|refine zw ‹_› ?_|refine yx ‹_› ?_|refine yq ‹_› ?_|refine zZ ?_|refine yy ?_|refine yv ?_|refine zq ?_|refine zY (fun Q hQ=>by (conv=>whnf);exact hQ) ?_|refine zj (fun Q hQ=>by (conv=>whnf);exact hQ) ?_|(apply yk;(·intro _ _ hy;(conv=>whnf);exact hy);(·intro Q hQ;(conv=>whnf);repeat(first|exact hQ|((first|refine xw (by first|rfl|assumption) ?_|refine xx (by first|rfl|assumption) ?_|refine zy ?_|refine zx ?_|unfold yZ);(conv=>whnf))));(·intro Q hQ;(conv=>whnf);exact hQ))|(apply yY;(·intro _ _ hy;(conv=>whnf);exact hy);(·intro Q hQ;(conv=>whnf);exact hQ)))
   apply xq
   ·(intro _ _ hy;(conv=>whnf);exact hy)
   intro Q hQ
   conv=>whnf
   refine without_run (LV.mk (e:=40) (fl:=.rw) rfl (Nat.le_refl _)) okX ?_
   rw [hF]
   conv=>whnf
   rw [hQ]
   conv=>whnf
   repeat(first|((first|refine yw ?_|refine zX ?_|refine yX ?_|refine zk ?_);intro _ _)|refine yz ?_|refine xz ?_|refine yj ‹_› ?_|refine zw ‹_› ?_|refine yx ‹_› ?_|refine yq ‹_› ?_|refine zZ ?_|refine yy ?_|refine yv ?_|refine zq ?_|refine zY (fun Q hQ=>by (conv=>whnf);exact hQ) ?_|refine zj (fun Q hQ=>by (conv=>whnf);exact hQ) ?_|(apply yk;(·intro _ _ hy;(conv=>whnf);exact hy);(·intro Q hQ;(conv=>whnf);repeat(first|exact hQ|((first|refine xw (by first|rfl|assumption) ?_|refine xx (by first|rfl|assumption) ?_|refine zy ?_|refine zx ?_|unfold yZ);(conv=>whnf))));(·intro Q hQ;(conv=>whnf);exact hQ))|(apply yY;(·intro _ _ hy;(conv=>whnf);exact hy);(·intro Q hQ;(conv=>whnf);exact hQ)))
   apply xq
   ·(intro _ _ hy;(conv=>whnf);exact hy)
   intro Q hQ
   conv=>whnf
   refine set_run hL (LV.nil _) okNil (LS.mk (l:=[(nameN,getL nameN (expL [] sm))]) (e:=40) (fl:=.ex) rfl (Nat.le_refl _)) (by simp) (fun q hq=>by rw [List.mem_singleton] at hq;subst hq;exact nameN_in) (fun q hq=>by rw [List.mem_singleton] at hq;subst hq;exact mets_vals hmet) (fun q hq=>by rw [List.mem_singleton] at hq;subst hq;exact mets_ne hmet) hneM0 hRM0 ?_
   conv=>whnf
   rw [hQ]
   conv=>whnf
   repeat(first|((first|refine yw ?_|refine zX ?_|refine yX ?_|refine zk ?_);intro _ _)|refine yz ?_|refine xz ?_|refine yj ‹_› ?_|refine zw ‹_› ?_|refine yx ‹_› ?_|refine yq ‹_› ?_|refine zZ ?_|refine yy ?_|refine yv ?_|refine zq ?_|refine zY (fun Q hQ=>by (conv=>whnf);exact hQ) ?_|refine zj (fun Q hQ=>by (conv=>whnf);exact hQ) ?_|(apply yk;(·intro _ _ hy;(conv=>whnf);exact hy);(·intro Q hQ;(conv=>whnf);repeat(first|exact hQ|((first|refine xw (by first|rfl|assumption) ?_|refine xx (by first|rfl|assumption) ?_|refine zy ?_|refine zx ?_|unfold yZ);(conv=>whnf))));(·intro Q hQ;(conv=>whnf);exact hQ))|(apply yY;(·intro _ _ hy;(conv=>whnf);exact hy);(·intro Q hQ;(conv=>whnf);exact hQ)))
   conv=>whnf
   repeat (unfold yZ;conv=>whnf)
   rw [← hK]
   refine ⟨[_],nodup1 _,fun g hg=>by rw [List.mem_singleton] at hg;subst hg;exact Nat.le_of_ble_eq_true rfl,.tup (.cons (.agg (.cons (.slice _ _ _ _ _ _ _ (Rou.new (a:=0) rfl (Nat.le_of_ble_eq_true rfl) (by simp)) (.inl rfl) (Nat.le_refl _) (fun h=>⟨h,rfl⟩)) (.cons (.int _ _) (.cons (.bool _) (.cons (.int _ _) .nil))))) (.cons (.bool _) (.cons (.int _ _) .nil))),trivial,⟨⟨_,rfl,.cells ?_ (.inl rfl)⟩,trivial⟩⟩
   exact wv _
  ·
   skip
   generalize hK:Post _ _ _ _ _ _ _=K
   apply wy
   ·intro Q hQ
    conv=>whnf
    exact hQ
   apply wx
   ·intro Q hQ
    conv=>whnf
    exact hQ
   intro K0 hK0
   unfold codeOf
   conv=>arg 7;whnf
   repeat(first|((first|refine yw ?_|refine zX ?_|refine yX ?_|refine zk ?_);intro _ _)|refine yz ?_|refine xz ?_|refine yj ‹_› ?_|refine zw ‹_› ?_|refine yx ‹_› ?_|refine yq ‹_› ?_|refine zZ ?_|refine yy ?_|refine yv ?_|refine zq ?_|refine zY (fun Q hQ=>by (conv=>whnf);exact hQ) ?_|refine zj (fun Q hQ=>by (conv=>whnf);exact hQ) ?_|(apply yk;(·intro _ _ hy;(conv=>whnf);exact hy);(·intro Q hQ;(conv=>whnf);repeat(first|exact hQ|((first|refine xw (by first|rfl|assumption) ?_|refine xx (by first|rfl|assumption) ?_|refine zy ?_|refine zx ?_|unfold yZ);(conv=>whnf))));(·intro Q hQ;(conv=>whnf);exact hQ))|(apply yY;(·intro _ _ hy;(conv=>whnf);exact hy);(·intro Q hQ;(conv=>whnf);exact hQ)))
   repeat(first|(apply xk;(·exact rfl);(·exact rfl);(·intro _ _ hy;(conv=>whnf);exact hy);(·exact rfl);(·intro Q hQ;(conv=>whnf);repeat(first|exact hQ|((first|refine xw (by first|rfl|assumption) ?_|refine xx (by first|rfl|assumption) ?_|refine zy ?_|refine zx ?_|unfold yZ);(conv=>whnf))));(·intro Q hQ;(conv=>whnf);exact hQ))|(apply xX;(·exact rfl);(·exact rfl);(·intro _ _ hy;(conv=>whnf);exact hy);(·exact rfl);(·intro Q hQ;(conv=>whnf);repeat(first|exact hQ|((first|refine xw (by first|rfl|assumption) ?_|refine xx (by first|rfl|assumption) ?_|refine zy ?_|refine zx ?_|unfold yZ);(conv=>whnf))));(·intro Q hQ;(conv=>whnf);exact hQ);intro _)|(apply xY;(·exact rfl);(·exact rfl);(·intro _ _ hy;(conv=>whnf);exact hy);(·intro Q hQ;(conv=>whnf);exact hQ))|refine xZ ?_)
   apply wz
   ·exact rfl
   ·exact rfl
   ·(intro _ _ hy;(conv=>whnf);exact hy)
   ·exact rfl
   ·kernel_rfl
   ·(intro Q hQ;exact hQ)
   intro Q hQ
   conv=>whnf
   refine export_run hL (LV.nil _) okT (LS.mk (e:=e) (fl:=.ro) rfl (Nat.le_refl _)) okS hs hne hR ?_
   conv=>whnf
   rw [hQ]
   conv=>whnf
   repeat(first|(apply xk;(·exact rfl);(·exact rfl);(·intro _ _ hy;(conv=>whnf);exact hy);(·exact rfl);(·intro Q hQ;(conv=>whnf);repeat(first|exact hQ|((first|refine xw (by first|rfl|assumption) ?_|refine xx (by first|rfl|assumption) ?_|refine zy ?_|refine zx ?_|unfold yZ);(conv=>whnf))));(·intro Q hQ;(conv=>whnf);exact hQ))|(apply xX;(·exact rfl);(·exact rfl);(·intro _ _ hy;(conv=>whnf);exact hy);(·exact rfl);(·intro Q hQ;(conv=>whnf);repeat(first|exact hQ|((first|refine xw (by first|rfl|assumption) ?_|refine xx (by first|rfl|assumption) ?_|refine zy ?_|refine zx ?_|unfold yZ);(conv=>whnf))));(·intro Q hQ;(conv=>whnf);exact hQ);intro _)|(apply xY;(·exact rfl);(·exact rfl);(·intro _ _ hy;(conv=>whnf);exact hy);(·intro Q hQ;(conv=>whnf);exact hQ))|refine xZ ?_)
   refine ww ‹_› ?_
   repeat (first
    | refine wY (by first|(simp;done)|(intro c hc;simp at hc;rcases hc with rfl|rfl|rfl <;> exact ⟨rfl,rfl⟩)|(intro c hc;simp at hc;rcases hc with rfl|rfl <;> exact ⟨rfl,rfl⟩)|(intro c hc;simp at hc;rcases hc with rfl;exact ⟨rfl,rfl⟩)) ‹_› (by first|exact vq _|exact vj _ _|exact vy _ _|exact vw _|rfl) (by first|exact .inl rfl|exact .inr rfl) ?_
    | refine wZ (.inl (by first|rfl|kernel_rfl)) (.inr ‹_›) (by first|exact vq _|exact vj _ _|exact vv _ _ _ _ _ _|exact vy _ _|exact vw _|rfl) ?_
    | refine vz ?_)
   conv=>whnf
   repeat(first|((first|refine yw ?_|refine zX ?_|refine yX ?_|refine zk ?_);intro _ _)|refine yz ?_|refine xz ?_|refine yj ‹_› ?_|refine zw ‹_› ?_|refine yx ‹_› ?_|refine yq ‹_› ?_|refine zZ ?_|refine yy ?_|refine yv ?_|refine zq ?_|refine zY (fun Q hQ=>by (conv=>whnf);exact hQ) ?_|refine zj (fun Q hQ=>by (conv=>whnf);exact hQ) ?_|(apply yk;(·intro _ _ hy;(conv=>whnf);exact hy);(·intro Q hQ;(conv=>whnf);repeat(first|exact hQ|((first|refine xw (by first|rfl|assumption) ?_|refine xx (by first|rfl|assumption) ?_|refine zy ?_|refine zx ?_|unfold yZ);(conv=>whnf))));(·intro Q hQ;(conv=>whnf);exact hQ))|(apply yY;(·intro _ _ hy;(conv=>whnf);exact hy);(·intro Q hQ;(conv=>whnf);exact hQ)))
   apply xq
   ·(intro _ _ hy;(conv=>whnf);exact hy)
   intro Q hQ
   conv=>whnf
   refine apply_run (LS.mk (e:=40) (fl:=.rw) rfl (Nat.le_refl _)) okX hneX (fl0:=.ro) rfl ?_
   rw [outN_ne hneX,outV_ne hneX]
   conv=>whnf
   rw [hQ]
   conv=>whnf
   repeat(first|((first|refine yw ?_|refine zX ?_|refine yX ?_|refine zk ?_);intro _ _)|refine yz ?_|refine xz ?_|refine yj ‹_› ?_|refine zw ‹_› ?_|refine yx ‹_› ?_|refine yq ‹_› ?_|refine zZ ?_|refine yy ?_|refine yv ?_|refine zq ?_|refine zY (fun Q hQ=>by (conv=>whnf);exact hQ) ?_|refine zj (fun Q hQ=>by (conv=>whnf);exact hQ) ?_|(apply yk;(·intro _ _ hy;(conv=>whnf);exact hy);(·intro Q hQ;(conv=>whnf);repeat(first|exact hQ|((first|refine xw (by first|rfl|assumption) ?_|refine xx (by first|rfl|assumption) ?_|refine zy ?_|refine zx ?_|unfold yZ);(conv=>whnf))));(·intro Q hQ;(conv=>whnf);exact hQ))|(apply yY;(·intro _ _ hy;(conv=>whnf);exact hy);(·intro Q hQ;(conv=>whnf);exact hQ)))
   apply xq
   ·(intro _ _ hy;(conv=>whnf);exact hy)
   intro Q hQ
   conv=>whnf
   refine get_run (LV.mk (e:=40) (fl:=.rw) rfl (Nat.le_refl _)) okX.lt _ ?_
   rw [hQ]
   conv=>whnf
   repeat(first|((first|refine yw ?_|refine zX ?_|refine yX ?_|refine zk ?_);intro _ _)|refine yz ?_|refine xz ?_|refine yj ‹_› ?_|refine zw ‹_› ?_|refine yx ‹_› ?_|refine yq ‹_› ?_|refine zZ ?_|refine yy ?_|refine yv ?_|refine zq ?_|refine zY (fun Q hQ=>by (conv=>whnf);exact hQ) ?_|refine zj (fun Q hQ=>by (conv=>whnf);exact hQ) ?_|(apply yk;(·intro _ _ hy;(conv=>whnf);exact hy);(·intro Q hQ;(conv=>whnf);repeat(first|exact hQ|((first|refine xw (by first|rfl|assumption) ?_|refine xx (by first|rfl|assumption) ?_|refine zy ?_|refine zx ?_|unfold yZ);(conv=>whnf))));(·intro Q hQ;(conv=>whnf);exact hQ))|(apply yY;(·intro _ _ hy;(conv=>whnf);exact hy);(·intro Q hQ;(conv=>whnf);exact hQ)))
   apply xq
   ·(intro _ _ hy;(conv=>whnf);exact hy)
   intro Q hQ
   conv=>whnf
   refine metX hmet ?_
   rw [hQ]
   conv=>whnf
   repeat(first|((first|refine yw ?_|refine zX ?_|refine yX ?_|refine zk ?_);intro _ _)|refine yz ?_|refine xz ?_|refine yj ‹_› ?_|refine zw ‹_› ?_|refine yx ‹_› ?_|refine yq ‹_› ?_|refine zZ ?_|refine yy ?_|refine yv ?_|refine zq ?_|refine zY (fun Q hQ=>by (conv=>whnf);exact hQ) ?_|refine zj (fun Q hQ=>by (conv=>whnf);exact hQ) ?_|(apply yk;(·intro _ _ hy;(conv=>whnf);exact hy);(·intro Q hQ;(conv=>whnf);repeat(first|exact hQ|((first|refine xw (by first|rfl|assumption) ?_|refine xx (by first|rfl|assumption) ?_|refine zy ?_|refine zx ?_|unfold yZ);(conv=>whnf))));(·intro Q hQ;(conv=>whnf);exact hQ))|(apply yY;(·intro _ _ hy;(conv=>whnf);exact hy);(·intro Q hQ;(conv=>whnf);exact hQ)))
   apply xq
   ·(intro _ _ hy;(conv=>whnf);exact hy)
   intro Q hQ
   conv=>whnf
   refine without_run (LV.mk (e:=40) (fl:=.rw) rfl (Nat.le_refl _)) okX ?_
   rw [outN_ne hF,outV_ne hF]
   conv=>whnf
   rw [hQ]
   conv=>whnf
   repeat(first|((first|refine yw ?_|refine zX ?_|refine yX ?_|refine zk ?_);intro _ _)|refine yz ?_|refine xz ?_|refine yj ‹_› ?_|refine zw ‹_› ?_|refine yx ‹_› ?_|refine yq ‹_› ?_|refine zZ ?_|refine yy ?_|refine yv ?_|refine zq ?_|refine zY (fun Q hQ=>by (conv=>whnf);exact hQ) ?_|refine zj (fun Q hQ=>by (conv=>whnf);exact hQ) ?_|(apply yk;(·intro _ _ hy;(conv=>whnf);exact hy);(·intro Q hQ;(conv=>whnf);repeat(first|exact hQ|((first|refine xw (by first|rfl|assumption) ?_|refine xx (by first|rfl|assumption) ?_|refine zy ?_|refine zx ?_|unfold yZ);(conv=>whnf))));(·intro Q hQ;(conv=>whnf);exact hQ))|(apply yY;(·intro _ _ hy;(conv=>whnf);exact hy);(·intro Q hQ;(conv=>whnf);exact hQ)))
   apply xq
   ·(intro _ _ hy;(conv=>whnf);exact hy)
   intro Q hQ
   conv=>whnf
   refine set_run hL (LV.mk (e:=40) (fl:=.rw) rfl (Nat.le_refl _)) okF (LS.mk (l:=[(nameN,getL nameN (expL [] sm))]) (e:=40) (fl:=.ex) rfl (Nat.le_refl _)) (by simp) (fun q hq=>by rw [List.mem_singleton] at hq;subst hq;exact nameN_in) (fun q hq=>by rw [List.mem_singleton] at hq;subst hq;exact mets_vals hmet) (fun q hq=>by rw [List.mem_singleton] at hq;subst hq;exact mets_ne hmet) hneM hRM ?_
   conv=>whnf
   rw [hQ]
   conv=>whnf
   repeat(first|((first|refine yw ?_|refine zX ?_|refine yX ?_|refine zk ?_);intro _ _)|refine yz ?_|refine xz ?_|refine yj ‹_› ?_|refine zw ‹_› ?_|refine yx ‹_› ?_|refine yq ‹_› ?_|refine zZ ?_|refine yy ?_|refine yv ?_|refine zq ?_|refine zY (fun Q hQ=>by (conv=>whnf);exact hQ) ?_|refine zj (fun Q hQ=>by (conv=>whnf);exact hQ) ?_|(apply yk;(·intro _ _ hy;(conv=>whnf);exact hy);(·intro Q hQ;(conv=>whnf);repeat(first|exact hQ|((first|refine xw (by first|rfl|assumption) ?_|refine xx (by first|rfl|assumption) ?_|refine zy ?_|refine zx ?_|unfold yZ);(conv=>whnf))));(·intro Q hQ;(conv=>whnf);exact hQ))|(apply yY;(·intro _ _ hy;(conv=>whnf);exact hy);(·intro Q hQ;(conv=>whnf);exact hQ)))
   conv=>whnf
   repeat (unfold yZ;conv=>whnf)
   rw [← hK]
   refine ⟨[_],nodup1 _,fun g hg=>by rw [List.mem_singleton] at hg;subst hg;exact Nat.le_of_ble_eq_true rfl,.tup (.cons (.agg (.cons (.slice _ _ _ _ _ _ _ (Rou.new (a:=0) rfl (Nat.le_of_ble_eq_true rfl) (by simp)) (.inl rfl) (Nat.le_refl _) (fun h=>⟨h,rfl⟩)) (.cons (.int _ _) (.cons (.bool _) (.cons (.int _ _) .nil))))) (.cons (.bool _) (.cons (.int _ _) .nil))),trivial,⟨⟨_,rfl,.cells ?_ (.inl rfl)⟩,trivial⟩⟩
   exact wv _
set_option maxHeartbeats 4000000 in
theorem make_own (hL:LabelsOk Tryz.prog 37 40) {sm:List Lab} {v:V} {S:St} {tg:List Lab} {i2 c2:Nat} {ex2:Bool} {rest2:List V} {e2:TypeId} {fl2:Fl} (hc2:tg.length ≤ c2) (hrow2:S.hs.get i2=some (.cells (cellsOf tg ++ rest2) e2 fl2)) (okT:OkL tg) (h:LS S v sm) (okS:OkL sm) (hs:∀ q ∈ sm,q.1 ∈ names04) (hne:((tg:List Lab).foldl putT (sm.foldl (expT tg sm) ([],0))).1 ≠ []) (hR:(expL tg sm).length ≤ 64)
  (okX:OkL (expL tg sm)) (hneX:(expL tg sm) ≠ []) (hmet:getL nameN (expL tg sm) ∈ mets) (hneM:(madeX tg sm).1 ≠ []) (hRM:(tabL (madeX tg sm)).length ≤ 64) {b t:Int} {st:Bool} {m r:Nat} {fl1 fl0:Fl} (hm:S.hs.get m=some (.cells [.slice i2 0 tg.length c2 2 ex2,.ptr r 0] 100 fl1)) (hr:S.hs.get r=some (.cells [.nilSlice,.bool true] 128 fl0)) {k:V→St→Prop}
  (hk:newK (.cells (cellsOf (tabL (madeX tg sm))) 40 .rw) S fun id S'=>k (.tup [.agg [.slice id 0 (tabL (madeX tg sm)).length (tabL (madeX tg sm)).length 2 false,.int .u64 b,.bool st,.int .i64 t],.bool true,.int .i64 0]) S') :
  RC Tryz.prog 20 [.ptr m 0,.agg [v,.int .u64 b,.bool st,.int .i64 t]] S k:=by
 obtain ⟨i,cap,ex,rest,e,fl,rfl,hc,hrow⟩:=h
 refine RC.read mixed f20 (l:=[.ptr (ngl+1) 0,.agg [.slice ngl 0 sm.length sm.length 2 false,.int .u64 b,.bool st,.int .i64 t]]) [i,m,r,i2] [.cells (cellsOf sm ++ rest) e fl,.cells [.slice i2 0 tg.length c2 2 ex2,.ptr r 0] 100 fl1,.cells [.nilSlice,.bool true] 128 fl0,.cells (cellsOf tg ++ rest2) e2 fl2] [.cells (cellsOf sm) e .ro,.cells [.slice (ngl+3) 0 tg.length tg.length 2 false,.ptr (ngl+2) 0] 100 .ro,.cells [.nilSlice,.bool true] 128 .ro,.cells (cellsOf tg) e2 .ro]
  [.cells (cellsOf (tabL (madeX tg sm))) 40 .rw] ?_ rfl rfl ?_ ?_
  (.cons (.ptr _ (Rin.at (a:=1) rfl (by simp))) (.cons (.agg (.cons (.slice _ _ _ _ _ _ _ (Rin.at (a:=0) rfl (by simp)) (.inr (Nat.le_refl _)) hc (by simp)) (.cons (.int _ _) (.cons (.bool _) (.cons (.int _ _) .nil))))) .nil)) ?_ ?_ (newsK_one hk)
 ·rintro (_|_|_|_|a) o h
  ·simp at h;subst h;rfl
  ·simp at h;subst h;rfl
  ·simp at h;subst h;rfl
  ·simp at h;subst h;rfl
  ·simp at h
 ·rintro (_|_|_|_|a) j o h1 h2
  ·simp at h1 h2;subst h1;subst h2;exact hrow
  ·simp at h1 h2;subst h1;subst h2;exact hm
  ·simp at h1 h2;subst h1;subst h2;exact hr
  ·simp at h1 h2;subst h1;subst h2;exact hrow2
  ·simp at h1
 ·rintro (_|_|_|_|a) o1 o2 h1 h2
  ·simp at h1 h2;subst h1;subst h2;exact .part (wv sm)
  ·simp at h1 h2;subst h1;subst h2;exact .cells (.cons (.slice _ _ _ _ _ _ _ (Rin.at (a:=3) rfl (by simp)) (.inr (Nat.le_refl _)) hc2 (by simp)) (.cons (.ptr _ (Rin.at (a:=2) rfl (by simp))) .nil)) (.inr (.inr rfl))
  ·simp at h1 h2;subst h1;subst h2;exact .cells (.cons .nilSlice (.cons (.bool _) .nil)) (.inr (.inr rfl))
  ·simp at h1 h2;subst h1;subst h2;exact .part (wv tg)
  ·simp at h1
 ·rintro (_|a) o h
  ·simp at h;subst h;rfl
  ·simp at h
 ·show buildK _ ⟨T.nil,ngl+4⟩ _
  have okF:OkL ((expL tg sm).filter fun q=>!hid q.1):=okX.filt
  by_cases hF:((expL tg sm).filter fun q=>!hid q.1)=[]
  ·have hM:madeX tg sm=[(nameN,getL nameN (expL tg sm))].foldl putT (([]:List Lab).foldl putT ([],0)):=by unfold madeX;rw [hF]
   have hneM0:([(nameN,getL nameN (expL tg sm))].foldl putT (([]:List Lab).foldl putT ([],0))).1 ≠ []:=by have h:=hneM;unfold madeX at h;rw [hF] at h;exact h
   have hRM0:(tabL ([(nameN,getL nameN (expL tg sm))].foldl putT (([]:List Lab).foldl putT ([],0)))).length ≤ 64:=by have h:=hRM;unfold madeX at h;rw [hF] at h;exact h
   rw [hM]
   generalize hK:Post _ _ _ _ _ _ _=K
   apply wy
   ·intro Q hQ
    conv=>whnf
    exact hQ
   apply wx
   ·intro Q hQ
    conv=>whnf
    exact hQ
   intro K0 hK0
   unfold codeOf
   conv=>arg 7;whnf
   repeat(first|((first|refine yw ?_|refine zX ?_|refine yX ?_|refine zk ?_);intro _ _)|refine yz ?_|refine xz ?_|refine yj ‹_› ?_|refine zw ‹_› ?_|refine yx ‹_› ?_|refine yq ‹_› ?_|refine zZ ?_|refine yy ?_|refine yv ?_|refine zq ?_|refine zY (fun Q hQ=>by (conv=>whnf);exact hQ) ?_|refine zj (fun Q hQ=>by (conv=>whnf);exact hQ) ?_|(apply yk;(·intro _ _ hy;(conv=>whnf);exact hy);(·intro Q hQ;(conv=>whnf);repeat(first|exact hQ|((first|refine xw (by first|rfl|assumption) ?_|refine xx (by first|rfl|assumption) ?_|refine zy ?_|refine zx ?_|unfold yZ);(conv=>whnf))));(·intro Q hQ;(conv=>whnf);exact hQ))|(apply yY;(·intro _ _ hy;(conv=>whnf);exact hy);(·intro Q hQ;(conv=>whnf);exact hQ)))
   repeat(first|(apply xk;(·exact rfl);(·exact rfl);(·intro _ _ hy;(conv=>whnf);exact hy);(·exact rfl);(·intro Q hQ;(conv=>whnf);repeat(first|exact hQ|((first|refine xw (by first|rfl|assumption) ?_|refine xx (by first|rfl|assumption) ?_|refine zy ?_|refine zx ?_|unfold yZ);(conv=>whnf))));(·intro Q hQ;(conv=>whnf);exact hQ))|(apply xX;(·exact rfl);(·exact rfl);(·intro _ _ hy;(conv=>whnf);exact hy);(·exact rfl);(·intro Q hQ;(conv=>whnf);repeat(first|exact hQ|((first|refine xw (by first|rfl|assumption) ?_|refine xx (by first|rfl|assumption) ?_|refine zy ?_|refine zx ?_|unfold yZ);(conv=>whnf))));(·intro Q hQ;(conv=>whnf);exact hQ);intro _)|(apply xY;(·exact rfl);(·exact rfl);(·intro _ _ hy;(conv=>whnf);exact hy);(·intro Q hQ;(conv=>whnf);exact hQ))|refine xZ ?_)
   apply wz
   ·exact rfl
   ·exact rfl
   ·(intro _ _ hy;(conv=>whnf);exact hy)
   ·exact rfl
   ·kernel_rfl
   ·(intro Q hQ;exact hQ)
   intro Q hQ
   conv=>whnf
   refine export_run hL (LV.mk (e:=e2) (fl:=.ro) rfl (Nat.le_refl _)) okT (LS.mk (e:=e) (fl:=.ro) rfl (Nat.le_refl _)) okS hs hne hR ?_
   conv=>whnf
   rw [hQ]
   conv=>whnf
   repeat(first|(apply xk;(·exact rfl);(·exact rfl);(·intro _ _ hy;(conv=>whnf);exact hy);(·exact rfl);(·intro Q hQ;(conv=>whnf);repeat(first|exact hQ|((first|refine xw (by first|rfl|assumption) ?_|refine xx (by first|rfl|assumption) ?_|refine zy ?_|refine zx ?_|unfold yZ);(conv=>whnf))));(·intro Q hQ;(conv=>whnf);exact hQ))|(apply xX;(·exact rfl);(·exact rfl);(·intro _ _ hy;(conv=>whnf);exact hy);(·exact rfl);(·intro Q hQ;(conv=>whnf);repeat(first|exact hQ|((first|refine xw (by first|rfl|assumption) ?_|refine xx (by first|rfl|assumption) ?_|refine zy ?_|refine zx ?_|unfold yZ);(conv=>whnf))));(·intro Q hQ;(conv=>whnf);exact hQ);intro _)|(apply xY;(·exact rfl);(·exact rfl);(·intro _ _ hy;(conv=>whnf);exact hy);(·intro Q hQ;(conv=>whnf);exact hQ))|refine xZ ?_)
   refine ww ‹_› ?_
   repeat (first
    | refine wY (by first|(simp;done)|(intro c hc;simp at hc;rcases hc with rfl|rfl|rfl <;> exact ⟨rfl,rfl⟩)|(intro c hc;simp at hc;rcases hc with rfl|rfl <;> exact ⟨rfl,rfl⟩)|(intro c hc;simp at hc;rcases hc with rfl;exact ⟨rfl,rfl⟩)) ‹_› (by first|exact vq _|exact vj _ _|exact vy _ _|exact vw _|rfl) (by first|exact .inl rfl|exact .inr rfl) ?_
    | refine wZ (.inl (by first|rfl|kernel_rfl)) (.inr ‹_›) (by first|exact vq _|exact vj _ _|exact vv _ _ _ _ _ _|exact vy _ _|exact vw _|rfl) ?_
    | refine vz ?_)
   conv=>whnf
   repeat(first|((first|refine yw ?_|refine zX ?_|refine yX ?_|refine zk ?_);intro _ _)|refine yz ?_|refine xz ?_|refine yj ‹_› ?_|refine zw ‹_› ?_|refine yx ‹_› ?_|refine yq ‹_› ?_|refine zZ ?_|refine yy ?_|refine yv ?_|refine zq ?_|refine zY (fun Q hQ=>by (conv=>whnf);exact hQ) ?_|refine zj (fun Q hQ=>by (conv=>whnf);exact hQ) ?_|(apply yk;(·intro _ _ hy;(conv=>whnf);exact hy);(·intro Q hQ;(conv=>whnf);repeat(first|exact hQ|((first|refine xw (by first|rfl|assumption) ?_|refine xx (by first|rfl|assumption) ?_|refine zy ?_|refine zx ?_|unfold yZ);(conv=>whnf))));(·intro Q hQ;(conv=>whnf);exact hQ))|(apply yY;(·intro _ _ hy;(conv=>whnf);exact hy);(·intro Q hQ;(conv=>whnf);exact hQ)))
   apply xq
   ·(intro _ _ hy;(conv=>whnf);exact hy)
   intro Q hQ
   conv=>whnf
   refine apply_run (LS.mk (e:=40) (fl:=.rw) rfl (Nat.le_refl _)) okX hneX (fl0:=.ro) rfl ?_
   rw [outN_ne hneX,outV_ne hneX]
   conv=>whnf
   rw [hQ]
   conv=>whnf
   repeat(first|((first|refine yw ?_|refine zX ?_|refine yX ?_|refine zk ?_);intro _ _)|refine yz ?_|refine xz ?_|refine yj ‹_› ?_|refine zw ‹_› ?_|refine yx ‹_› ?_|refine yq ‹_› ?_|refine zZ ?_|refine yy ?_|refine yv ?_|refine zq ?_|refine zY (fun Q hQ=>by (conv=>whnf);exact hQ) ?_|refine zj (fun Q hQ=>by (conv=>whnf);exact hQ) ?_|(apply yk;(·intro _ _ hy;(conv=>whnf);exact hy);(·intro Q hQ;(conv=>whnf);repeat(first|exact hQ|((first|refine xw (by first|rfl|assumption) ?_|refine xx (by first|rfl|assumption) ?_|refine zy ?_|refine zx ?_|unfold yZ);(conv=>whnf))));(·intro Q hQ;(conv=>whnf);exact hQ))|(apply yY;(·intro _ _ hy;(conv=>whnf);exact hy);(·intro Q hQ;(conv=>whnf);exact hQ)))
   apply xq
   ·(intro _ _ hy;(conv=>whnf);exact hy)
   intro Q hQ
   conv=>whnf
   refine get_run (LV.mk (e:=40) (fl:=.rw) rfl (Nat.le_refl _)) okX.lt _ ?_
   rw [hQ]
   conv=>whnf
   repeat(first|((first|refine yw ?_|refine zX ?_|refine yX ?_|refine zk ?_);intro _ _)|refine yz ?_|refine xz ?_|refine yj ‹_› ?_|refine zw ‹_› ?_|refine yx ‹_› ?_|refine yq ‹_› ?_|refine zZ ?_|refine yy ?_|refine yv ?_|refine zq ?_|refine zY (fun Q hQ=>by (conv=>whnf);exact hQ) ?_|refine zj (fun Q hQ=>by (conv=>whnf);exact hQ) ?_|(apply yk;(·intro _ _ hy;(conv=>whnf);exact hy);(·intro Q hQ;(conv=>whnf);repeat(first|exact hQ|((first|refine xw (by first|rfl|assumption) ?_|refine xx (by first|rfl|assumption) ?_|refine zy ?_|refine zx ?_|unfold yZ);(conv=>whnf))));(·intro Q hQ;(conv=>whnf);exact hQ))|(apply yY;(·intro _ _ hy;(conv=>whnf);exact hy);(·intro Q hQ;(conv=>whnf);exact hQ)))
   apply xq
   ·(intro _ _ hy;(conv=>whnf);exact hy)
   intro Q hQ
   conv=>whnf
   refine metX hmet ?_
   rw [hQ]
   conv=>whnf
   repeat(first|((first|refine yw ?_|refine zX ?_|refine yX ?_|refine zk ?_);intro _ _)|refine yz ?_|refine xz ?_|refine yj ‹_› ?_|refine zw ‹_› ?_|refine yx ‹_› ?_|refine yq ‹_› ?_|refine zZ ?_|refine yy ?_|refine yv ?_|refine zq ?_|refine zY (fun Q hQ=>by (conv=>whnf);exact hQ) ?_|refine zj (fun Q hQ=>by (conv=>whnf);exact hQ) ?_|(apply yk;(·intro _ _ hy;(conv=>whnf);exact hy);(·intro Q hQ;(conv=>whnf);repeat(first|exact hQ|((first|refine xw (by first|rfl|assumption) ?_|refine xx (by first|rfl|assumption) ?_|refine zy ?_|refine zx ?_|unfold yZ);(conv=>whnf))));(·intro Q hQ;(conv=>whnf);exact hQ))|(apply yY;(·intro _ _ hy;(conv=>whnf);exact hy);(·intro Q hQ;(conv=>whnf);exact hQ)))
   apply xq
   ·(intro _ _ hy;(conv=>whnf);exact hy)
   intro Q hQ
   conv=>whnf
   refine without_run (LV.mk (e:=40) (fl:=.rw) rfl (Nat.le_refl _)) okX ?_
   rw [hF]
   conv=>whnf
   rw [hQ]
   conv=>whnf
   repeat(first|((first|refine yw ?_|refine zX ?_|refine yX ?_|refine zk ?_);intro _ _)|refine yz ?_|refine xz ?_|refine yj ‹_› ?_|refine zw ‹_› ?_|refine yx ‹_› ?_|refine yq ‹_› ?_|refine zZ ?_|refine yy ?_|refine yv ?_|refine zq ?_|refine zY (fun Q hQ=>by (conv=>whnf);exact hQ) ?_|refine zj (fun Q hQ=>by (conv=>whnf);exact hQ) ?_|(apply yk;(·intro _ _ hy;(conv=>whnf);exact hy);(·intro Q hQ;(conv=>whnf);repeat(first|exact hQ|((first|refine xw (by first|rfl|assumption) ?_|refine xx (by first|rfl|assumption) ?_|refine zy ?_|refine zx ?_|unfold yZ);(conv=>whnf))));(·intro Q hQ;(conv=>whnf);exact hQ))|(apply yY;(·intro _ _ hy;(conv=>whnf);exact hy);(·intro Q hQ;(conv=>whnf);exact hQ)))
   apply xq
   ·(intro _ _ hy;(conv=>whnf);exact hy)
   intro Q hQ
   conv=>whnf
   refine set_run hL (LV.nil _) okNil (LS.mk (l:=[(nameN,getL nameN (expL tg sm))]) (e:=40) (fl:=.ex) rfl (Nat.le_refl _)) (by simp) (fun q hq=>by rw [List.mem_singleton] at hq;subst hq;exact nameN_in) (fun q hq=>by rw [List.mem_singleton] at hq;subst hq;exact mets_vals hmet) (fun q hq=>by rw [List.mem_singleton] at hq;subst hq;exact mets_ne hmet) hneM0 hRM0 ?_
   conv=>whnf
   rw [hQ]
   conv=>whnf
   repeat(first|((first|refine yw ?_|refine zX ?_|refine yX ?_|refine zk ?_);intro _ _)|refine yz ?_|refine xz ?_|refine yj ‹_› ?_|refine zw ‹_› ?_|refine yx ‹_› ?_|refine yq ‹_› ?_|refine zZ ?_|refine yy ?_|refine yv ?_|refine zq ?_|refine zY (fun Q hQ=>by (conv=>whnf);exact hQ) ?_|refine zj (fun Q hQ=>by (conv=>whnf);exact hQ) ?_|(apply yk;(·intro _ _ hy;(conv=>whnf);exact hy);(·intro Q hQ;(conv=>whnf);repeat(first|exact hQ|((first|refine xw (by first|rfl|assumption) ?_|refine xx (by first|rfl|assumption) ?_|refine zy ?_|refine zx ?_|unfold yZ);(conv=>whnf))));(·intro Q hQ;(conv=>whnf);exact hQ))|(apply yY;(·intro _ _ hy;(conv=>whnf);exact hy);(·intro Q hQ;(conv=>whnf);exact hQ)))
   conv=>whnf
   repeat (unfold yZ;conv=>whnf)
   rw [← hK]
   refine ⟨[_],nodup1 _,fun g hg=>by rw [List.mem_singleton] at hg;subst hg;exact Nat.le_of_ble_eq_true rfl,.tup (.cons (.agg (.cons (.slice _ _ _ _ _ _ _ (Rou.new (a:=0) rfl (Nat.le_of_ble_eq_true rfl) (by simp)) (.inl rfl) (Nat.le_refl _) (fun h=>⟨h,rfl⟩)) (.cons (.int _ _) (.cons (.bool _) (.cons (.int _ _) .nil))))) (.cons (.bool _) (.cons (.int _ _) .nil))),trivial,⟨⟨_,rfl,.cells ?_ (.inl rfl)⟩,trivial⟩⟩
   exact wv _
  ·
   skip
   generalize hK:Post _ _ _ _ _ _ _=K
   apply wy
   ·intro Q hQ
    conv=>whnf
    exact hQ
   apply wx
   ·intro Q hQ
    conv=>whnf
    exact hQ
   intro K0 hK0
   unfold codeOf
   conv=>arg 7;whnf
   repeat(first|((first|refine yw ?_|refine zX ?_|refine yX ?_|refine zk ?_);intro _ _)|refine yz ?_|refine xz ?_|refine yj ‹_› ?_|refine zw ‹_› ?_|refine yx ‹_› ?_|refine yq ‹_› ?_|refine zZ ?_|refine yy ?_|refine yv ?_|refine zq ?_|refine zY (fun Q hQ=>by (conv=>whnf);exact hQ) ?_|refine zj (fun Q hQ=>by (conv=>whnf);exact hQ) ?_|(apply yk;(·intro _ _ hy;(conv=>whnf);exact hy);(·intro Q hQ;(conv=>whnf);repeat(first|exact hQ|((first|refine xw (by first|rfl|assumption) ?_|refine xx (by first|rfl|assumption) ?_|refine zy ?_|refine zx ?_|unfold yZ);(conv=>whnf))));(·intro Q hQ;(conv=>whnf);exact hQ))|(apply yY;(·intro _ _ hy;(conv=>whnf);exact hy);(·intro Q hQ;(conv=>whnf);exact hQ)))
   repeat(first|(apply xk;(·exact rfl);(·exact rfl);(·intro _ _ hy;(conv=>whnf);exact hy);(·exact rfl);(·intro Q hQ;(conv=>whnf);repeat(first|exact hQ|((first|refine xw (by first|rfl|assumption) ?_|refine xx (by first|rfl|assumption) ?_|refine zy ?_|refine zx ?_|unfold yZ);(conv=>whnf))));(·intro Q hQ;(conv=>whnf);exact hQ))|(apply xX;(·exact rfl);(·exact rfl);(·intro _ _ hy;(conv=>whnf);exact hy);(·exact rfl);(·intro Q hQ;(conv=>whnf);repeat(first|exact hQ|((first|refine xw (by first|rfl|assumption) ?_|refine xx (by first|rfl|assumption) ?_|refine zy ?_|refine zx ?_|unfold yZ);(conv=>whnf))));(·intro Q hQ;(conv=>whnf);exact hQ);intro _)|(apply xY;(·exact rfl);(·exact rfl);(·intro _ _ hy;(conv=>whnf);exact hy);(·intro Q hQ;(conv=>whnf);exact hQ))|refine xZ ?_)
   apply wz
   ·exact rfl
   ·exact rfl
   ·(intro _ _ hy;(conv=>whnf);exact hy)
   ·exact rfl
   ·kernel_rfl
   ·(intro Q hQ;exact hQ)
   intro Q hQ
   conv=>whnf
   refine export_run hL (LV.mk (e:=e2) (fl:=.ro) rfl (Nat.le_refl _)) okT (LS.mk (e:=e) (fl:=.ro) rfl (Nat.le_refl _)) okS hs hne hR ?_
   conv=>whnf
   rw [hQ]
   conv=>whnf
   repeat(first|(apply xk;(·exact rfl);(·exact rfl);(·intro _ _ hy;(conv=>whnf);exact hy);(·exact rfl);(·intro Q hQ;(conv=>whnf);repeat(first|exact hQ|((first|refine xw (by first|rfl|assumption) ?_|refine xx (by first|rfl|assumption) ?_|refine zy ?_|refine zx ?_|unfold yZ);(conv=>whnf))));(·intro Q hQ;(conv=>whnf);exact hQ))|(apply xX;(·exact rfl);(·exact rfl);(·intro _ _ hy;(conv=>whnf);exact hy);(·exact rfl);(·intro Q hQ;(conv=>whnf);repeat(first|exact hQ|((first|refine xw (by first|rfl|assumption) ?_|refine xx (by first|rfl|assumption) ?_|refine zy ?_|refine zx ?_|unfold yZ);(conv=>whnf))));(·intro Q hQ;(conv=>whnf);exact hQ);intro _)|(apply xY;(·exact rfl);(·exact rfl);(·intro _ _ hy;(conv=>whnf);exact hy);(·intro Q hQ;(conv=>whnf);exact hQ))|refine xZ ?_)
   refine ww ‹_› ?_
   repeat (first
    | refine wY (by first|(simp;done)|(intro c hc;simp at hc;rcases hc with rfl|rfl|rfl <;> exact ⟨rfl,rfl⟩)|(intro c hc;simp at hc;rcases hc with rfl|rfl <;> exact ⟨rfl,rfl⟩)|(intro c hc;simp at hc;rcases hc with rfl;exact ⟨rfl,rfl⟩)) ‹_› (by first|exact vq _|exact vj _ _|exact vy _ _|exact vw _|rfl) (by first|exact .inl rfl|exact .inr rfl) ?_
    | refine wZ (.inl (by first|rfl|kernel_rfl)) (.inr ‹_›) (by first|exact vq _|exact vj _ _|exact vv _ _ _ _ _ _|exact vy _ _|exact vw _|rfl) ?_
    | refine vz ?_)
   conv=>whnf
   repeat(first|((first|refine yw ?_|refine zX ?_|refine yX ?_|refine zk ?_);intro _ _)|refine yz ?_|refine xz ?_|refine yj ‹_› ?_|refine zw ‹_› ?_|refine yx ‹_› ?_|refine yq ‹_› ?_|refine zZ ?_|refine yy ?_|refine yv ?_|refine zq ?_|refine zY (fun Q hQ=>by (conv=>whnf);exact hQ) ?_|refine zj (fun Q hQ=>by (conv=>whnf);exact hQ) ?_|(apply yk;(·intro _ _ hy;(conv=>whnf);exact hy);(·intro Q hQ;(conv=>whnf);repeat(first|exact hQ|((first|refine xw (by first|rfl|assumption) ?_|refine xx (by first|rfl|assumption) ?_|refine zy ?_|refine zx ?_|unfold yZ);(conv=>whnf))));(·intro Q hQ;(conv=>whnf);exact hQ))|(apply yY;(·intro _ _ hy;(conv=>whnf);exact hy);(·intro Q hQ;(conv=>whnf);exact hQ)))
   apply xq
   ·(intro _ _ hy;(conv=>whnf);exact hy)
   intro Q hQ
   conv=>whnf
   refine apply_run (LS.mk (e:=40) (fl:=.rw) rfl (Nat.le_refl _)) okX hneX (fl0:=.ro) rfl ?_
   rw [outN_ne hneX,outV_ne hneX]
   conv=>whnf
   rw [hQ]
   conv=>whnf
   repeat(first|((first|refine yw ?_|refine zX ?_|refine yX ?_|refine zk ?_);intro _ _)|refine yz ?_|refine xz ?_|refine yj ‹_› ?_|refine zw ‹_› ?_|refine yx ‹_› ?_|refine yq ‹_› ?_|refine zZ ?_|refine yy ?_|refine yv ?_|refine zq ?_|refine zY (fun Q hQ=>by (conv=>whnf);exact hQ) ?_|refine zj (fun Q hQ=>by (conv=>whnf);exact hQ) ?_|(apply yk;(·intro _ _ hy;(conv=>whnf);exact hy);(·intro Q hQ;(conv=>whnf);repeat(first|exact hQ|((first|refine xw (by first|rfl|assumption) ?_|refine xx (by first|rfl|assumption) ?_|refine zy ?_|refine zx ?_|unfold yZ);(conv=>whnf))));(·intro Q hQ;(conv=>whnf);exact hQ))|(apply yY;(·intro _ _ hy;(conv=>whnf);exact hy);(·intro Q hQ;(conv=>whnf);exact hQ)))
   apply xq
   ·(intro _ _ hy;(conv=>whnf);exact hy)
   intro Q hQ
   conv=>whnf
   refine get_run (LV.mk (e:=40) (fl:=.rw) rfl (Nat.le_refl _)) okX.lt _ ?_
   rw [hQ]
   conv=>whnf
   repeat(first|((first|refine yw ?_|refine zX ?_|refine yX ?_|refine zk ?_);intro _ _)|refine yz ?_|refine xz ?_|refine yj ‹_› ?_|refine zw ‹_› ?_|refine yx ‹_› ?_|refine yq ‹_› ?_|refine zZ ?_|refine yy ?_|refine yv ?_|refine zq ?_|refine zY (fun Q hQ=>by (conv=>whnf);exact hQ) ?_|refine zj (fun Q hQ=>by (conv=>whnf);exact hQ) ?_|(apply yk;(·intro _ _ hy;(conv=>whnf);exact hy);(·intro Q hQ;(conv=>whnf);repeat(first|exact hQ|((first|refine xw (by first|rfl|assumption) ?_|refine xx (by first|rfl|assumption) ?_|refine zy ?_|refine zx ?_|unfold yZ);(conv=>whnf))));(·intro Q hQ;(conv=>whnf);exact hQ))|(apply yY;(·intro _ _ hy;(conv=>whnf);exact hy);(·intro Q hQ;(conv=>whnf);exact hQ)))
   apply xq
   ·(intro _ _ hy;(conv=>whnf);exact hy)
   intro Q hQ
   conv=>whnf
   refine metX hmet ?_
   rw [hQ]
   conv=>whnf
   repeat(first|((first|refine yw ?_|refine zX ?_|refine yX ?_|refine zk ?_);intro _ _)|refine yz ?_|refine xz ?_|refine yj ‹_› ?_|refine zw ‹_› ?_|refine yx ‹_› ?_|refine yq ‹_› ?_|refine zZ ?_|refine yy ?_|refine yv ?_|refine zq ?_|refine zY (fun Q hQ=>by (conv=>whnf);exact hQ) ?_|refine zj (fun Q hQ=>by (conv=>whnf);exact hQ) ?_|(apply yk;(·intro _ _ hy;(conv=>whnf);exact hy);(·intro Q hQ;(conv=>whnf);repeat(first|exact hQ|((first|refine xw (by first|rfl|assumption) ?_|refine xx (by first|rfl|assumption) ?_|refine zy ?_|refine zx ?_|unfold yZ);(conv=>whnf))));(·intro Q hQ;(conv=>whnf);exact hQ))|(apply yY;(·intro _ _ hy;(conv=>whnf);exact hy);(·intro Q hQ;(conv=>whnf);exact hQ)))
   apply xq
   ·(intro _ _ hy;(conv=>whnf);exact hy)
   intro Q hQ
   conv=>whnf
   refine without_run (LV.mk (e:=40) (fl:=.rw) rfl (Nat.le_refl _)) okX ?_
   rw [outN_ne hF,outV_ne hF]
   conv=>whnf
   rw [hQ]
   conv=>whnf
   repeat(first|((first|refine yw ?_|refine zX ?_|refine yX ?_|refine zk ?_);intro _ _)|refine yz ?_|refine xz ?_|refine yj ‹_› ?_|refine zw ‹_› ?_|refine yx ‹_› ?_|refine yq ‹_› ?_|refine zZ ?_|refine yy ?_|refine yv ?_|refine zq ?_|refine zY (fun Q hQ=>by (conv=>whnf);exact hQ) ?_|refine zj (fun Q hQ=>by (conv=>whnf);exact hQ) ?_|(apply yk;(·intro _ _ hy;(conv=>whnf);exact hy);(·intro Q hQ;(conv=>whnf);repeat(first|exact hQ|((first|refine xw (by first|rfl|assumption) ?_|refine xx (by first|rfl|assumption) ?_|refine zy ?_|refine zx ?_|unfold yZ);(conv=>whnf))));(·intro Q hQ;(conv=>whnf);exact hQ))|(apply yY;(·intro _ _ hy;(conv=>whnf);exact hy);(·intro Q hQ;(conv=>whnf);exact hQ)))
   apply xq
   ·(intro _ _ hy;(conv=>whnf);exact hy)
   intro Q hQ
   conv=>whnf
   refine set_run hL (LV.mk (e:=40) (fl:=.rw) rfl (Nat.le_refl _)) okF (LS.mk (l:=[(nameN,getL nameN (expL tg sm))]) (e:=40) (fl:=.ex) rfl (Nat.le_refl _)) (by simp) (fun q hq=>by rw [List.mem_singleton] at hq;subst hq;exact nameN_in) (fun q hq=>by rw [List.mem_singleton] at hq;subst hq;exact mets_vals hmet) (fun q hq=>by rw [List.mem_singleton] at hq;subst hq;exact mets_ne hmet) hneM hRM ?_
   conv=>whnf
   rw [hQ]
   conv=>whnf
   repeat(first|((first|refine yw ?_|refine zX ?_|refine yX ?_|refine zk ?_);intro _ _)|refine yz ?_|refine xz ?_|refine yj ‹_› ?_|refine zw ‹_› ?_|refine yx ‹_› ?_|refine yq ‹_› ?_|refine zZ ?_|refine yy ?_|refine yv ?_|refine zq ?_|refine zY (fun Q hQ=>by (conv=>whnf);exact hQ) ?_|refine zj (fun Q hQ=>by (conv=>whnf);exact hQ) ?_|(apply yk;(·intro _ _ hy;(conv=>whnf);exact hy);(·intro Q hQ;(conv=>whnf);repeat(first|exact hQ|((first|refine xw (by first|rfl|assumption) ?_|refine xx (by first|rfl|assumption) ?_|refine zy ?_|refine zx ?_|unfold yZ);(conv=>whnf))));(·intro Q hQ;(conv=>whnf);exact hQ))|(apply yY;(·intro _ _ hy;(conv=>whnf);exact hy);(·intro Q hQ;(conv=>whnf);exact hQ)))
   conv=>whnf
   repeat (unfold yZ;conv=>whnf)
   rw [← hK]
   refine ⟨[_],nodup1 _,fun g hg=>by rw [List.mem_singleton] at hg;subst hg;exact Nat.le_of_ble_eq_true rfl,.tup (.cons (.agg (.cons (.slice _ _ _ _ _ _ _ (Rou.new (a:=0) rfl (Nat.le_of_ble_eq_true rfl) (by simp)) (.inl rfl) (Nat.le_refl _) (fun h=>⟨h,rfl⟩)) (.cons (.int _ _) (.cons (.bool _) (.cons (.int _ _) .nil))))) (.cons (.bool _) (.cons (.int _ _) .nil))),trivial,⟨⟨_,rfl,.cells ?_ (.inl rfl)⟩,trivial⟩⟩
   exact wv _
end Go.Am
/- label.byName compares labels by their names. -/
namespace Go.Am
open Go.Proofs
set_option maxRecDepth 100000
attribute [local irreducible] fN fI fB yZ wrapK bAppend evOps wk drOps rdsAll sl

theorem f30:FnAt Tryz.prog 30 10 [.tmp 4] (codeOf Tryz.f30):=⟨Tryz.f30,by kernel_rfl,rfl,by kernel_rfl,by kernel_rfl,by kernel_rfl⟩

/-- How two strings compare. -/
noncomputable def cmpS (a b:List UInt8):Int:=if ltS a b=true then Int.negSucc 0 else if a=b then 0 else 1
theorem RC.use0 {P:Program} {g:FuncId} {l:List V} {S:St} {v:V} {k:V→St→Prop} (h:RC P g l S fun r S'=>r=v∧S'=S) (hk:k v S):RC P g l S k:=by
 cases h with
 | mk v' S' h1 h2 =>
   obtain ⟨rfl,rfl⟩:=h2
   exact .mk _ _ h1 hk
theorem cmp115 (a b:List UInt8) (S:St):RC Tryz.prog 115 [.str a,.str b] S fun r S'=>r=.int .i64 (cmpS a b)∧S'=S:=by
 refine RC.run mixed xts_ok ?_
 generalize hK:(fun r S'=>r=V.int .i64 (cmpS a b)∧S'=S)=K
 conv=>whnf
 refine bcase (fun h=>?_) (fun h=>?_)
 ·rw [← hK];exact ⟨by unfold cmpS;rw [if_pos h],rfl⟩
 ·refine bcase (fun h2=>?_) (fun h2=>?_)
  ·rw [eqS_eq] at h2
   rw [← hK];exact ⟨by unfold cmpS;rw [if_neg (by rw [h];simp),if_pos (eq_of_beq h2)],rfl⟩
  ·rw [eqS_eq] at h2
   rw [← hK];exact ⟨by unfold cmpS;rw [if_neg (by rw [h];simp),if_neg (fun e=>by rw [e] at h2;simp at h2)],rfl⟩
attribute [local semireducible] fN fI fB yZ wrapK bAppend evOps wk drOps rdsAll sl
theorem cmp88 (a b:List UInt8) (S:St):RC Tryz.prog 88 [.str a,.str b] S fun r S'=>r=.int .i64 (cmpS a b)∧S'=S:=by
 refine RC.run mixed xts_ok ?_
 generalize hK:(fun r S'=>r=V.int .i64 (cmpS a b)∧S'=S)=K
 conv=>whnf
 refine (cmp115 a b S).use0 ?_
 conv=>whnf
 rw [← hK];exact ⟨rfl,rfl⟩
theorem cmp58 (a b:List UInt8) (S:St):RC Tryz.prog 58 [.str a,.str b] S fun r S'=>r=.int .i64 (cmpS a b)∧S'=S:=by
 refine RC.run mixed xts_ok ?_
 generalize hK:(fun r S'=>r=V.int .i64 (cmpS a b)∧S'=S)=K
 conv=>whnf
 refine (cmp88 a b S).use0 ?_
 conv=>whnf
 rw [← hK];exact ⟨rfl,rfl⟩
attribute [local irreducible] fN fI fB yZ wrapK bAppend evOps wk drOps rdsAll sl
set_option maxHeartbeats 1000000 in
theorem byName_run (p q:Lab) {S:St} {k:V→St→Prop} (hk:k (.int .i64 (cmpS p.1 q.1)) S):RC Tryz.prog 30 [.agg [.str p.1,.str p.2],.agg [.str q.1,.str q.2]] S k:=by
 refine RC.read mixed f30 (l:=[.agg [.str p.1,.str p.2],.agg [.str q.1,.str q.2]]) [] [] [] [] (v2:=.int .i64 (cmpS p.1 q.1)) (by simp) rfl rfl (by simp) (by simp) (.cons (.agg (.cons (.str _) (.cons (.str _) .nil))) (.cons (.agg (.cons (.str _) (.cons (.str _) .nil))) .nil)) (by simp) ?_ hk
 generalize hK:Post _ _ _ _ _ _ _=K
 apply wy
 ·intro Q hQ
  conv=>whnf
  exact hQ
 apply wx
 ·intro Q hQ
  conv=>whnf
  exact hQ
 intro K0 hK0
 unfold codeOf
 conv=>arg 7;whnf
 repeat(first|((first|refine yw ?_|refine zX ?_|refine yX ?_|refine zk ?_);intro _ _)|refine yz ?_|refine xz ?_|refine yj ‹_› ?_|refine zw ‹_› ?_|refine yx ‹_› ?_|refine yq ‹_› ?_|refine zZ ?_|refine yy ?_|refine yv ?_|refine zq ?_|refine zY (fun Q hQ=>by (conv=>whnf);exact hQ) ?_|refine zj (fun Q hQ=>by (conv=>whnf);exact hQ) ?_|(apply yk;(·intro _ _ hy;(conv=>whnf);exact hy);(·intro Q hQ;(conv=>whnf);repeat(first|exact hQ|((first|refine xw (by first|rfl|assumption) ?_|refine xx (by first|rfl|assumption) ?_|refine zy ?_|refine zx ?_|unfold yZ);(conv=>whnf))));(·intro Q hQ;(conv=>whnf);exact hQ))|(apply yY;(·intro _ _ hy;(conv=>whnf);exact hy);(·intro Q hQ;(conv=>whnf);exact hQ)))
 apply xq
 ·(intro _ _ hy;(conv=>whnf);exact hy)
 intro Q hQ
 conv=>whnf
 refine (cmp58 _ _ _).use0 ?_
 rw [hQ]
 conv=>whnf
 repeat(first|((first|refine yw ?_|refine zX ?_|refine yX ?_|refine zk ?_);intro _ _)|refine yz ?_|refine xz ?_|refine yj ‹_› ?_|refine zw ‹_› ?_|refine yx ‹_› ?_|refine yq ‹_› ?_|refine zZ ?_|refine yy ?_|refine yv ?_|refine zq ?_|refine zY (fun Q hQ=>by (conv=>whnf);exact hQ) ?_|refine zj (fun Q hQ=>by (conv=>whnf);exact hQ) ?_|(apply yk;(·intro _ _ hy;(conv=>whnf);exact hy);(·intro Q hQ;(conv=>whnf);repeat(first|exact hQ|((first|refine xw (by first|rfl|assumption) ?_|refine xx (by first|rfl|assumption) ?_|refine zy ?_|refine zx ?_|unfold yZ);(conv=>whnf))));(·intro Q hQ;(conv=>whnf);exact hQ))|(apply yY;(·intro _ _ hy;(conv=>whnf);exact hy);(·intro Q hQ;(conv=>whnf);exact hQ)))
 conv=>whnf
 rw [← hK]
 exact ⟨[],List.nodup_nil,by simp,.int _ _,trivial,trivial⟩
end Go.Am
