/- Part 10 of the proof that BodyOwn returns true, and leaves its arguments as they were, for every input, over a start where the listed variables hold what the program lays: the statement Rows.BodyOwnCardSaid. -/
import Derived.Test.YtnfhhddmeikbpaaGreatDoorWAi
set_option linter.unusedVariables false
set_option linter.unusedSimpArgs false
/- gaugerlaw04.Names, gaugerlaw04.Made. -/
namespace Go.Am
open Go.Proofs
set_option maxRecDepth 100000
attribute [local irreducible] fN fI fB yZ wrapK bAppend evOps wk drOps rdsAll sl

theorem f34:FnAt Tryz.prog 34 2 [.tmp 0] (codeOf Tryz.f34):=⟨Tryz.f34,by kernel_rfl,rfl,by kernel_rfl,by kernel_rfl,by kernel_rfl⟩
theorem f14:FnAt Tryz.prog 14 60 [.tmp 2] (codeOf Tryz.f14):=⟨Tryz.f14,by kernel_rfl,rfl,by kernel_rfl,by kernel_rfl,by kernel_rfl⟩

/-- Strings in a row. -/
def strsV:List (List UInt8)→List V
 | []=>[]
 | s :: l=>.str s :: strsV l
theorem strsV_get:∀ (l:List (List UInt8)) (i:Nat),(strsV l)[i]?=(l[i]?).map .str
 | [],i=>by simp [strsV]
 | s :: l,0=>rfl
 | s :: l,i+1=>by simpa [strsV] using strsV_get l i
theorem strsV_at (l:List (List UInt8)) {i:Nat} (h:i < l.length):(strsV l)[i]?=some (.str (l.getD i [])):=by
 rw [strsV_get]
 simp [List.getD,h]
theorem strsV_vis {R:Nat→Nat→Prop}:∀ l:List (List UInt8),VIs R (strsV l) (strsV l)
 | []=>.nil
 | s :: l=>.cons (.str s) (strsV_vis l)
set_option maxHeartbeats 1000000 in
theorem names_run {S:St} {k:V→St→Prop} (hk:newK (.cells (strsV names04) 9 .rw) S fun id S'=>k (.slice id 0 16 16 1 true) S'):RC Tryz.prog 34 [] S k:=by
 refine RC.read mixed f34 (l:=[]) [] [] [] [.cells (strsV names04) 9 .rw] (v2:=.slice S.next 0 16 16 1 true) (by simp) rfl rfl (by simp) (by simp) .nil ?_ ?_ (newsK_one hk)
 ·rintro (_|a) o h
  ·simp at h;subst h;rfl
  ·simp at h
 ·show buildK _ ⟨T.nil,ngl+0⟩ _
  generalize hK:Post _ _ _ _ _ _ _=K
  apply wy
  ·intro Q hQ
   conv=>whnf
   exact hQ
  apply wx
  ·intro Q hQ
   conv=>whnf
   exact hQ
  intro K0 hK0
  unfold codeOf
  conv=>arg 7;whnf
  repeat(first|((first|refine yw ?_|refine zX ?_|refine yX ?_|refine zk ?_);intro _ _)|refine yz ?_|refine xz ?_|refine yj ‹_› ?_|refine zw ‹_› ?_|refine yx ‹_› ?_|refine yq ‹_› ?_|refine zZ ?_|refine yy ?_|refine yv ?_|refine zq ?_|refine zY (fun Q hQ=>by (conv=>whnf);exact hQ) ?_|refine zj (fun Q hQ=>by (conv=>whnf);exact hQ) ?_|(apply yk;(·intro _ _ hy;(conv=>whnf);exact hy);(·intro Q hQ;(conv=>whnf);repeat(first|exact hQ|((first|refine xw (by first|rfl|assumption) ?_|refine xx (by first|rfl|assumption) ?_|refine zy ?_|refine zx ?_|unfold yZ);(conv=>whnf))));(·intro Q hQ;(conv=>whnf);exact hQ))|(apply yY;(·intro _ _ hy;(conv=>whnf);exact hy);(·intro Q hQ;(conv=>whnf);exact hQ)))
  conv=>whnf
  rw [← hK]
  exact ⟨[_],nodup1 _,fun g hg=>by rw [List.mem_singleton] at hg;subst hg;exact Nat.le_of_ble_eq_true rfl,.slice _ _ _ _ _ _ _ (Rou.new (a:=0) rfl (Nat.le_of_ble_eq_true rfl) (by simp)) (.inl rfl) (Nat.le_refl _) (fun h=>⟨h,rfl⟩),trivial,⟨⟨_,rfl,.cells (strsV_vis names04) (.inr (.inl rfl))⟩,trivial⟩⟩
/-- A row of layer 4's small labels. -/
def smallV:List (Nat × Nat)→List V
 | []=>[]
 | s :: l=>.int .u8 (.ofNat s.1) :: .int .u8 (.ofNat s.2) :: smallV l
theorem smallV_vis {R:Nat→Nat→Prop}:∀ l:List (Nat × Nat),VIs R (smallV l) (smallV l)
 | []=>.nil
 | s :: l=>.cons (.int _ _) (.cons (.int _ _) (smallV_vis l))
theorem smallV_length:∀ l:List (Nat × Nat),(smallV l).length=2 * l.length
 | []=>rfl
 | q :: l=>by simp [smallV,smallV_length l];omega
theorem smallV_drop:∀ (l:List (Nat × Nat)) (j:Nat),(smallV l).drop (2 * j)=smallV (l.drop j)
 | [],j=>by simp [smallV]
 | q :: l,0=>rfl
 | q :: l,j+1=>by
   have:=smallV_drop l j
   rw [show 2 * (j+1)=2 * j+1+1 by omega]
   simpa [smallV] using this
theorem agg84:aggP Tryz.prog 84=some true:=by kernel_rfl
theorem info84:∃ i,Tryz.prog.info? 84=some i∧i.size=2:=by
 have h:(Tryz.prog.info? 84).map (·.size)=some 2:=by kernel_rfl
 cases hi:Tryz.prog.info? 84 with
 | none=>rw [hi] at h;cases h
 | some i=>rw [hi] at h;exact ⟨i,rfl,by simpa using h⟩
theorem partK_sm {P:Program} {t:TypeId} (ha:aggP P t=some true) {i:TypeInfo} (hi:P.info? t=some i) (hs:i.size=2) {l:List (Nat × Nat)} {j off:Nat} {q:Nat × Nat} (hq:l[j]?=some q) (ho:off=2 * j) {k:V→Prop} (h:k (.agg [.int .u8 (.ofNat q.1),.int .u8 (.ofNat q.2)])):yZ P t off (smallV l) k:=by
 unfold yZ
 rw [ha]
 show szK P t fun n=>dropK off (smallV l) fun r=>takeK n r fun r=>k (.agg r)
 unfold szK
 rw [hi]
 show dropK off (smallV l) fun r=>takeK i.size r fun r=>k (.agg r)
 rw [hs]
 have hlt:j < l.length:=(List.getElem?_eq_some_iff.1 hq).1
 refine dropK_intro (by rw [smallV_length];omega) ?_
 rw [ho,smallV_drop]
 have hd:l.drop j=q :: l.drop (j+1):=by
  rw [List.drop_eq_getElem_cons hlt]
  congr 1
  rw [List.getElem?_eq_getElem hlt] at hq
  exact Option.some.inj hq
 rw [hd]
 exact h
/-- A value that is a row of small labels, or nil. -/
def SV (S:St) (v:V) (s:List (Nat × Nat)):Prop:=(v=.nilSlice∧s=[]) ∨ ∃ i c ex rest e fl,v=.slice i 0 s.length c 2 ex∧s.length ≤ c∧S.hs.get i=some (.cells (smallV s ++ rest) e fl)
def labS (s:Nat × Nat):Lab:=(names04.getD (s.1 % 16) [],vals04.getD (s.2 % 8) [])
/-- Labels without the first one of a name. -/
def dropN (n:List UInt8):List Lab→List Lab
 | []=>[]
 | x :: l=>if x.1=n then l else x :: dropN n l
def madeS (o:List Lab) (s:Nat × Nat):List Lab:=dropN (labS s).1 o ++ [labS s]
/-- What layer 4's Made makes. -/
def made (s:List (Nat × Nat)):List Lab:=(s.take 40).foldl madeS []
theorem dropN_len (n:List UInt8):∀ l:List Lab,(dropN n l).length ≤ l.length
 | []=>Nat.le_refl _
 | x :: l=>by
   unfold dropN
   split
   ·simp
   ·have:=dropN_len n l
    simp;omega
theorem made_len:∀ (s:List (Nat × Nat)) (o:List Lab),(s.foldl madeS o).length ≤ o.length+s.length
 | [],o=>by simp
 | x :: s,o=>by
   have h1:=made_len s (madeS o x)
   have h2:(madeS o x).length ≤ o.length+1:=by
    unfold madeS
    have:=dropN_len (labS x).1 o
    simp;omega
   simp only [List.foldl_cons,List.length_cons]
   omega
theorem dropN_none {n:List UInt8}:∀ {l:List Lab},(∀ x ∈ l,x.1 ≠ n)→dropN n l=l
 | [],_=>rfl
 | x :: l,h=>by
   unfold dropN
   rw [if_neg (h x (by simp)),dropN_none fun y hy=>h y (by simp [hy])]
theorem dropN_at {n:List UInt8}:∀ {l:List Lab} {j:Nat} (hj:j < l.length),(∀ x ∈ l.take j,x.1 ≠ n)→l[j].1=n→dropN n l=l.take j ++ l.drop (j+1)
 | [],j,hj,_,_=>by simp at hj
 | x :: l,0,_,_,h=>by
   have:x.1=n:=h
   unfold dropN
   rw [if_pos this];rfl
 | x :: l,j+1,hj,hn,h=>by
   unfold dropN
   rw [if_neg (hn x (by simp)),dropN_at (l:=l) (j:=j) (by simpa using hj) (fun y hy=>hn y (by simp [hy])) (by simpa using h)]
   rfl
attribute [local irreducible] takeK appK rowK newK putK
theorem app_nil27 {S:St} {id2:Nat} {q:Lab} {e2:TypeId} {fl2:Fl} (hx:S.hs.get id2=some (.cells (cellsOf [q]) e2 fl2)) {k:V→St→Prop}
  (hk:newK (.cells (cellsOf [q]) 40 .rw) S fun id S=>k (.slice id 0 1 1 2 false) S):bAppend Tryz.prog #[27,27] .nilSlice (.slice id2 0 1 1 2 true) S k:=by
 unfold bAppend
 conv=>whnf
 refine rowK_intro hx ?_
 conv=>whnf
 refine takeK_intro (n:=2) (by simp [cellsOf]) ?_
 conv=>whnf
 exact hk
set_option maxHeartbeats 1000000 in
theorem app_lab27 {S:St} {id id2:Nat} {o:List Lab} {q:Lab} {e2:TypeId} {fl2:Fl} (ho:S.hs.get id=some (.cells (cellsOf o) 40 .rw)) (hx:S.hs.get id2=some (.cells (cellsOf [q]) e2 fl2)) (hlen:o.length < 4096) {k:V→St→Prop}
  (hk:putK id none S fun S=>newK (.cells (cellsOf (o ++ [q])) 40 .rw) S fun id S=>k (.slice id 0 (o.length+1) (o.length+1) 2 false) S):bAppend Tryz.prog #[27,27] (.slice id 0 o.length o.length 2 false) (.slice id2 0 1 1 2 true) S k:=by
 rw [cellsOf_append] at hk
 unfold bAppend
 conv=>whnf
 refine rowK_intro hx ?_
 conv=>whnf
 refine takeK_intro (n:=2) (by simp [cellsOf]) ?_
 conv=>whnf
 refine zy ?_
 conv=>whnf
 refine bcase (fun h=>?_) (fun _=>?_)
 ·have:o.length+1 ≤ o.length:=Nat.le_of_ble_eq_true h
  omega
 conv=>whnf
 refine bcase (fun _=>?_) (fun h=>?_)
 ·refine rowK_intro ho ?_
  conv=>whnf
  refine takeK_intro (by rw [cellsOf_length];show o.length * 2 ≤ 2 * o.length;omega) ?_
  refine appK_intro ?_
  conv=>whnf
  rw [List.take_of_length_le (by rw [cellsOf_length];show 2 * o.length ≤ o.length * 2;omega)]
  exact hk
 ·have h1:Nat.ble ((o.length+1) * 33) 70368744177664=true:=Nat.ble_eq_true_of_le (by omega)
  exact absurd (h.symm.trans h1) (by simp)
theorem cellsOf_take:∀ (l:List Lab) (j:Nat),(cellsOf l).take (2 * j)=cellsOf (l.take j)
 | [],j=>by simp [cellsOf]
 | q :: l,0=>rfl
 | q :: l,j+1=>by
   have:=cellsOf_take l j
   rw [show 2 * (j+1)=2 * j+1+1 by omega]
   simpa [cellsOf] using this
set_option maxHeartbeats 1000000 in
theorem app_labx {S:St} {id id2:Nat} {o:List Lab} {jj:Nat} {q:Lab} {e2:TypeId} {fl2:Fl} (ho:S.hs.get id=some (.cells (cellsOf o) 40 .rw)) (hx:S.hs.get id2=some (.cells (cellsOf [q]) e2 fl2)) (hj:jj ≤ o.length) (hlen:o.length < 4096) {k:V→St→Prop}
  (hk:newK (.cells (cellsOf (o.take jj ++ [q])) 40 .rw) S fun id S=>k (.slice id 0 (jj+1) (jj+1) 2 false) S):bAppend Tryz.prog #[27,27] (.slice id 0 jj jj 2 true) (.slice id2 0 1 1 2 true) S k:=by
 rw [cellsOf_append] at hk
 unfold bAppend
 conv=>whnf
 refine rowK_intro hx ?_
 conv=>whnf
 refine takeK_intro (n:=2) (by simp [cellsOf]) ?_
 conv=>whnf
 refine zy ?_
 conv=>whnf
 refine bcase (fun h=>?_) (fun _=>?_)
 ·have:jj+1 ≤ jj:=Nat.le_of_ble_eq_true h
  omega
 conv=>whnf
 refine bcase (fun _=>?_) (fun h=>?_)
 ·refine rowK_intro ho ?_
  conv=>whnf
  refine takeK_intro (by rw [cellsOf_length];show jj * 2 ≤ 2 * o.length;omega) ?_
  refine appK_intro ?_
  conv=>whnf
  rw [show Nat.mul jj 2=2 * jj from Nat.mul_comm jj 2,cellsOf_take]
  exact hk
 ·have h1:Nat.ble ((jj+1) * 33) 70368744177664=true:=Nat.ble_eq_true_of_le (by omega)
  exact absurd (h.symm.trans h1) (by simp)
set_option maxHeartbeats 1000000 in
theorem app_cut {S:St} {id off:Nat} {o:List Lab} {jj:Nat} (ho:S.hs.get id=some (.cells (cellsOf o) 40 .rw)) (hj:jj < o.length) (hlen:o.length < 4096) (hoff:off=2 * (jj+1)) {k:V→St→Prop}
  (h1:jj+1=o.length→k (.slice id 0 jj jj 2 true) S)
  (h2:jj+1 < o.length→newK (.cells (cellsOf (o.take jj ++ o.drop (jj+1))) 40 .rw) S fun id2 S=>k (.slice id2 0 (o.take jj ++ o.drop (jj+1)).length (o.take jj ++ o.drop (jj+1)).length 2 false) S) :
  bAppend Tryz.prog #[27,27] (.slice id 0 jj jj 2 true) (.slice id off (o.length - (jj+1)) (o.length - (jj+1)) 2 false) S k:=by
 have hl:(o.take jj ++ o.drop (jj+1)).length=jj+(o.length - (jj+1)):=by rw [List.length_append,List.length_take,List.length_drop];omega
 rw [hl,cellsOf_append] at h2
 have hd:(cellsOf o).drop off=cellsOf (o.drop (jj+1)):=by rw [hoff,cellsOf_drop]
 have hdl:(cellsOf (o.drop (jj+1))).length=2 * (o.length - (jj+1)):=by rw [cellsOf_length,List.length_drop]
 generalize hm:o.length - (jj+1)=m at *
 unfold bAppend
 conv=>whnf
 refine rowK_intro ho ?_
 conv=>whnf
 refine dropK_intro (by rw [cellsOf_length];omega) ?_
 rw [hd]
 refine takeK_intro (by rw [hdl];show m * 2 ≤ 2 * m;omega) ?_
 rw [List.take_of_length_le (by rw [hdl];show 2 * m ≤ m * 2;omega)]
 conv=>whnf
 refine zy ?_
 conv=>whnf
 cases m with
 | zero =>
   refine bcase (fun _=>?_) (fun h=>?_)
   ·exact h1 (by omega)
   ·have h3:Nat.ble (jj+0) jj=true:=Nat.ble_eq_true_of_le (Nat.le_refl _)
    exact absurd (h.symm.trans h3) (by simp)
 | succ m =>
   refine bcase (fun h=>?_) (fun _=>?_)
   ·have:jj+(m+1) ≤ jj:=Nat.le_of_ble_eq_true h
    omega
   conv=>whnf
   refine bcase (fun _=>?_) (fun h=>?_)
   ·refine rowK_intro ho ?_
    conv=>whnf
    refine takeK_intro (by rw [cellsOf_length];show jj * 2 ≤ 2 * o.length;omega) ?_
    refine appK_intro ?_
    conv=>whnf
    rw [show Nat.mul jj 2=2 * jj from Nat.mul_comm jj 2,cellsOf_take]
    exact h2 (by omega)
   ·have h4:Nat.ble ((jj+(m+1)) * 33) 70368744177664=true:=Nat.ble_eq_true_of_le (by omega)
    exact absurd (h.symm.trans h4) (by simp)
attribute [local semireducible] takeK appK rowK newK putK
noncomputable def outM (o:List Lab) (s:List (Nat × Nat)) (e:TypeId):St:=match o with
 | []=>mkS [(ngl,.cells (smallV s) e .ro)] (ngl+1)
 | q :: o=>mkS [(ngl,.cells (smallV s) e .ro),(ngl+1,.cells (cellsOf (q :: o)) 40 .rw)] (ngl+2)
theorem outM_ne {l:List Lab} {s:List (Nat × Nat)} {e:TypeId} (h:l ≠ []):outM l s e=mkS [(ngl,.cells (smallV s) e .ro),(ngl+1,.cells (cellsOf l) 40 .rw)] (ngl+2):=by cases l with|nil=>exact absurd rfl h|cons=>rfl
set_option maxHeartbeats 4000000 in
theorem made_run {s:List (Nat × Nat)} {v:V} {S:St} (h:SV S v s) {k:V→St→Prop} (hk:newsK (outN (made s)) S (k (outV (made s) S.next))):RC Tryz.prog 14 [v] S k:=by
 obtain ⟨i40,hi40,hs40⟩:=info40
 obtain ⟨i84,hi84,hs84⟩:=info84
 rcases h with ⟨rfl,rfl⟩|⟨i,cap,ex,rest,e,fl,rfl,hc,hrow⟩
 ·refine RC.read mixed f14 (l:=[.nilSlice]) [] [] [] [] (v2:=.nilSlice) (by simp) rfl rfl (by simp) (by simp) (.cons .nilSlice .nil) (by simp) ?_ hk
  generalize hK:Post _ _ _ _ _ _ _=K
  apply wy
  ·intro Q hQ
   conv=>whnf
   exact hQ
  apply wx
  ·intro Q hQ
   conv=>whnf
   exact hQ
  intro K0 hK0
  unfold codeOf
  conv=>arg 7;whnf
  repeat(first|((first|refine yw ?_|refine zX ?_|refine yX ?_|refine zk ?_);intro _ _)|refine yz ?_|refine xz ?_|refine yj ‹_› ?_|refine zw ‹_› ?_|refine yx ‹_› ?_|refine yq ‹_› ?_|refine zZ ?_|refine yy ?_|refine yv ?_|refine zq ?_|refine zY (fun Q hQ=>by (conv=>whnf);exact hQ) ?_|refine zj (fun Q hQ=>by (conv=>whnf);exact hQ) ?_|(apply yk;(·intro _ _ hy;(conv=>whnf);exact hy);(·intro Q hQ;(conv=>whnf);repeat(first|exact hQ|((first|refine xw (by first|rfl|assumption) ?_|refine xx (by first|rfl|assumption) ?_|refine zy ?_|refine zx ?_|unfold yZ);(conv=>whnf))));(·intro Q hQ;(conv=>whnf);exact hQ))|(apply yY;(·intro _ _ hy;(conv=>whnf);exact hy);(·intro Q hQ;(conv=>whnf);exact hQ)))
  refine LP.step mixed ?_
  repeat(first|((first|refine yw ?_|refine zX ?_|refine yX ?_|refine zk ?_);intro _ _)|refine yz ?_|refine xz ?_|refine yj ‹_› ?_|refine zw ‹_› ?_|refine yx ‹_› ?_|refine yq ‹_› ?_|refine zZ ?_|refine yy ?_|refine yv ?_|refine zq ?_|refine zY (fun Q hQ=>by (conv=>whnf);exact hQ) ?_|refine zj (fun Q hQ=>by (conv=>whnf);exact hQ) ?_|(apply yk;(·intro _ _ hy;(conv=>whnf);exact hy);(·intro Q hQ;(conv=>whnf);repeat(first|exact hQ|((first|refine xw (by first|rfl|assumption) ?_|refine xx (by first|rfl|assumption) ?_|refine zy ?_|refine zx ?_|unfold yZ);(conv=>whnf))));(·intro Q hQ;(conv=>whnf);exact hQ))|(apply yY;(·intro _ _ hy;(conv=>whnf);exact hy);(·intro Q hQ;(conv=>whnf);exact hQ)))
  conv=>whnf
  rw [← hK]
  exact ⟨[],List.nodup_nil,by simp,.nilSlice,trivial,trivial⟩
 ·refine RC.read mixed f14 (l:=[.slice ngl 0 s.length s.length 2 false]) [i] [.cells (smallV s ++ rest) e fl] [.cells (smallV s) e .ro] (outN (made s)) (v2:=outV (made s) S.next) ?_ rfl rfl ?_ ?_
   (.cons (.slice _ _ _ _ _ _ _ (Rin.at (a:=0) rfl (by simp)) (.inr (Nat.le_refl _)) hc (by simp)) .nil) outN_wr ?_ hk
  ·rintro (_|a) o h
   ·simp at h;subst h;rfl
   ·simp at h
  ·rintro (_|a) j o h1 h2
   ·simp at h1 h2;subst h1;subst h2;exact hrow
   ·simp at h1
  ·rintro (_|a) o1 o2 h1 h2
   ·simp at h1 h2;subst h1;subst h2;exact .part (smallV_vis s)
   ·simp at h1
  ·show buildK _ ⟨T.nil,ngl+1⟩ _
   generalize hK:Post _ _ _ _ _ _ _=K
   apply wy
   ·intro Q hQ
    conv=>whnf
    exact hQ
   apply wx
   ·intro Q hQ
    conv=>whnf
    exact hQ
   intro K0 hK0
   unfold codeOf
   conv=>arg 7;whnf
   repeat(first|((first|refine yw ?_|refine zX ?_|refine yX ?_|refine zk ?_);intro _ _)|refine yz ?_|refine xz ?_|refine yj ‹_› ?_|refine zw ‹_› ?_|refine yx ‹_› ?_|refine yq ‹_› ?_|refine zZ ?_|refine yy ?_|refine yv ?_|refine zq ?_|refine zY (fun Q hQ=>by (conv=>whnf);exact hQ) ?_|refine zj (fun Q hQ=>by (conv=>whnf);exact hQ) ?_|(apply yk;(·intro _ _ hy;(conv=>whnf);exact hy);(·intro Q hQ;(conv=>whnf);repeat(first|exact hQ|((first|refine xw (by first|rfl|assumption) ?_|refine xx (by first|rfl|assumption) ?_|refine zy ?_|refine zx ?_|unfold yZ);(conv=>whnf))));(·intro Q hQ;(conv=>whnf);exact hQ))|(apply yY;(·intro _ _ hy;(conv=>whnf);exact hy);(·intro Q hQ;(conv=>whnf);exact hQ)))
   apply yk (v:=.int .i64 (.ofNat (min s.length 40)))
   ·(intro _ _ hy;(conv=>whnf);exact hy)
   ·intro Q hQ
    conv=>whnf
    refine bcase (fun h=>?_) (fun h=>?_)
    ·have e1:min s.length 40=40:=by rw [ltI_eq] at h;have h2:(40:Int) < (s.length:Int):=by simpa using h
                                    omega
     rw [e1] at hQ;exact hQ
    ·have e1:min s.length 40=s.length:=by rw [ltI_eq] at h;have h2:¬ (40:Int) < (s.length:Int):=by simpa using h
                                          omega
     rw [e1] at hQ;exact hQ
   ·(intro Q hQ;(conv=>whnf);exact hQ)
   have hn1:min s.length 40 ≤ s.length:=Nat.min_le_left _ _
   have hn2:min s.length 40 ≤ 40:=Nat.min_le_right _ _
   have hmade:made s=(s.take (min s.length 40)).foldl madeS []:=by unfold made;congr 1;rw [List.take_eq_take_iff];omega
   rw [hmade] at hK
   generalize min s.length 40=n at hn1 hn2 hK ⊢
   apply yk
   ·(intro _ _ hy;(conv=>whnf);exact hy)
   ·intro Q hQ
    conv=>whnf
    refine ifK_intro (Nat.ble_eq_true_of_le hn1) ?_
    conv=>whnf
    refine zy ?_
    conv=>whnf
    refine zy ?_
    conv=>whnf
    refine zy ?_
    conv=>whnf
    exact hQ
   ·(intro Q hQ;(conv=>whnf);exact hQ)
   repeat(first|((first|refine yw ?_|refine zX ?_|refine yX ?_|refine zk ?_);intro _ _)|refine yz ?_|refine xz ?_|refine yj ‹_› ?_|refine zw ‹_› ?_|refine yx ‹_› ?_|refine yq ‹_› ?_|refine zZ ?_|refine yy ?_|refine yv ?_|refine zq ?_|refine zY (fun Q hQ=>by (conv=>whnf);exact hQ) ?_|refine zj (fun Q hQ=>by (conv=>whnf);exact hQ) ?_|(apply yk;(·intro _ _ hy;(conv=>whnf);exact hy);(·intro Q hQ;(conv=>whnf);repeat(first|exact hQ|((first|refine xw (by first|rfl|assumption) ?_|refine xx (by first|rfl|assumption) ?_|refine zy ?_|refine zx ?_|unfold yZ);(conv=>whnf))));(·intro Q hQ;(conv=>whnf);exact hQ))|(apply yY;(·intro _ _ hy;(conv=>whnf);exact hy);(·intro Q hQ;(conv=>whnf);exact hQ)))
   refine LPB.lp' (ngl+1) rfl (LPB.induct n (fun j E S'=>j ≤ n∧S'=outM ((s.take j).foldl madeS []) s e∧Fits E 0 [.slice ngl 0 s.length s.length 2 false,sl E 1,sl E 2,outV ((s.take j).foldl madeS []) (ngl+1),sl E 4,sl E 5,sl E 6,sl E 7,sl E 8,sl E 9,sl E 10,sl E 11,.slice ngl 0 n s.length 2 false,.int .i64 (.ofNat n),.int .i64 (.ofNat j),sl E 15,sl E 16,sl E 17,sl E 18,sl E 19,sl E 20,sl E 21,sl E 22,sl E 23,sl E 24,sl E 25,sl E 26,sl E 27,sl E 28,sl E 29,sl E 30,sl E 31,sl E 32,sl E 33,sl E 34,sl E 35,sl E 36,sl E 37,sl E 38,sl E 39,sl E 40,sl E 41,sl E 42,sl E 43,sl E 44,sl E 45,sl E 46,sl E 47,sl E 48,sl E 49,sl E 50,sl E 51,sl E 52,sl E 53,sl E 54,sl E 55,sl E 56,sl E 57,sl E 58,sl E 59]) ⟨Nat.zero_le _,by kernel_rfl,⟨rfl,zz rfl,zz rfl,rfl,zz rfl,zz rfl,zz rfl,zz rfl,zz rfl,zz rfl,zz rfl,zz rfl,rfl,rfl,rfl,zz rfl,zz rfl,zz rfl,zz rfl,zz rfl,zz rfl,zz rfl,zz rfl,zz rfl,zz rfl,zz rfl,zz rfl,zz rfl,zz rfl,zz rfl,zz rfl,zz rfl,zz rfl,zz rfl,zz rfl,zz rfl,zz rfl,zz rfl,zz rfl,zz rfl,zz rfl,zz rfl,zz rfl,zz rfl,zz rfl,zz rfl,zz rfl,zz rfl,zz rfl,zz rfl,zz rfl,zz rfl,zz rfl,zz rfl,zz rfl,zz rfl,zz rfl,zz rfl,zz rfl,zz rfl,trivial⟩⟩ ?_)
   intro j E S' ⟨hjl,hS',hf⟩ ih
   subst hS'
   generalize hout:(s.take j).foldl madeS []=out at *
   cases out with
   | nil =>
     refine LPB.tree hf (⟨some (.slice ngl 0 s.length s.length 2 false),⟨some (sl E 1),⟨some (sl E 5),⟨some (sl E 21),z0,z0,z0,z0⟩,⟨some (sl E 37),z0,z0,z0,z0⟩,⟨some (sl E 53),z0,z0,z0,z0⟩,z1⟩,⟨some (sl E 9),⟨some (sl E 25),z0,z0,z0,z0⟩,⟨some (sl E 41),z0,z0,z0,z0⟩,⟨some (sl E 57),z0,z0,z0,z0⟩,z1⟩,⟨some (.int .i64 (.ofNat n)),⟨some (sl E 29),z0,z0,z0,z0⟩,⟨some (sl E 45),z0,z0,z0,z0⟩,z1,z1⟩,⟨some (sl E 17),⟨some (sl E 33),z0,z0,z0,z0⟩,⟨some (sl E 49),z0,z0,z0,z0⟩,z1,z1⟩⟩,⟨some (sl E 2),⟨some (sl E 6),⟨some (sl E 22),z0,z0,z0,z0⟩,⟨some (sl E 38),z0,z0,z0,z0⟩,⟨some (sl E 54),z0,z0,z0,z0⟩,z1⟩,⟨some (sl E 10),⟨some (sl E 26),z0,z0,z0,z0⟩,⟨some (sl E 42),z0,z0,z0,z0⟩,⟨some (sl E 58),z0,z0,z0,z0⟩,z1⟩,⟨some (.int .i64 (.ofNat j)),⟨some (sl E 30),z0,z0,z0,z0⟩,⟨some (sl E 46),z0,z0,z0,z0⟩,z1,z1⟩,⟨some (sl E 18),⟨some (sl E 34),z0,z0,z0,z0⟩,⟨some (sl E 50),z0,z0,z0,z0⟩,z1,z1⟩⟩,⟨some (V.nilSlice),⟨some (sl E 7),⟨some (sl E 23),z0,z0,z0,z0⟩,⟨some (sl E 39),z0,z0,z0,z0⟩,⟨some (sl E 55),z0,z0,z0,z0⟩,z1⟩,⟨some (sl E 11),⟨some (sl E 27),z0,z0,z0,z0⟩,⟨some (sl E 43),z0,z0,z0,z0⟩,⟨some (sl E 59),z0,z0,z0,z0⟩,z1⟩,⟨some (sl E 15),⟨some (sl E 31),z0,z0,z0,z0⟩,⟨some (sl E 47),z0,z0,z0,z0⟩,z1,z1⟩,⟨some (sl E 19),⟨some (sl E 35),z0,z0,z0,z0⟩,⟨some (sl E 51),z0,z0,z0,z0⟩,z1,z1⟩⟩,⟨some (sl E 4),⟨some (sl E 8),⟨some (sl E 24),z0,z0,z0,z0⟩,⟨some (sl E 40),z0,z0,z0,z0⟩,⟨some (sl E 56),z0,z0,z0,z0⟩,z1⟩,⟨some (.slice ngl 0 n s.length 2 false),⟨some (sl E 28),z0,z0,z0,z0⟩,⟨some (sl E 44),z0,z0,z0,z0⟩,z1,z1⟩,⟨some (sl E 16),⟨some (sl E 32),z0,z0,z0,z0⟩,⟨some (sl E 48),z0,z0,z0,z0⟩,z1,z1⟩,⟨some (sl E 20),⟨some (sl E 36),z0,z0,z0,z0⟩,⟨some (sl E 52),z0,z0,z0,z0⟩,z1,z1⟩⟩⟩) (by kernel_rfl) (LPB.gc mixed (Nat.le_of_ble_eq_true rfl) (Nat.le_of_ble_eq_true rfl) fun _ _=>?_)
     clear hf
     cases hb:ltI (.ofNat j) (.ofNat n)
     ·have hge:n ≤ j:=by rw [ltI_eq] at hb;simpa using hb
      repeat(first|((first|refine yw ?_|refine zX ?_|refine yX ?_|refine zk ?_);intro _ _)|refine yz ?_|refine xz ?_|refine yj ‹_› ?_|refine zw ‹_› ?_|refine yx ‹_› ?_|refine yq ‹_› ?_|refine zZ ?_|refine yy ?_|refine yv ?_|refine zq ?_|refine zY (fun Q hQ=>by (conv=>whnf);exact hQ) ?_|refine zj (fun Q hQ=>by (conv=>whnf);exact hQ) ?_|(apply yk;(·intro _ _ hy;(conv=>whnf);exact hy);(·intro Q hQ;(conv=>whnf);repeat(first|exact hQ|((first|refine xw (by first|rfl|assumption) ?_|refine xx (by first|rfl|assumption) ?_|refine zy ?_|refine zx ?_|unfold yZ);(conv=>whnf))));(·intro Q hQ;(conv=>whnf);exact hQ))|(apply yY;(·intro _ _ hy;(conv=>whnf);exact hy);(·intro Q hQ;(conv=>whnf);exact hQ)))
      obtain rfl:j=n:=Nat.le_antisymm hjl hge
      conv=>whnf
      rw [← hK,hout]
      exact ⟨[],List.nodup_nil,by simp,.nilSlice,trivial,trivial⟩
     ·have hlt:j < n:=by rw [ltI_eq] at hb;simpa using hb
      have hls:j < s.length:=by omega
      have hblt:Nat.blt j n=true:=hb
      have h16:Nat.blt (s[j].1 % 16) 16=true:=Nat.ble_eq_true_of_le (Nat.mod_lt _ (by decide))
      have h8:Nat.blt (s[j].2 % 8) 8=true:=Nat.ble_eq_true_of_le (Nat.mod_lt _ (by decide))
      repeat(first|((first|refine yw ?_|refine zX ?_|refine yX ?_|refine zk ?_);intro _ _)|refine yz ?_|refine xz ?_|refine yj ‹_› ?_|refine zw ‹_› ?_|refine yx ‹_› ?_|refine yq ‹_› ?_|refine zZ ?_|refine yy ?_|refine yv ?_|refine zq ?_|refine zY (fun Q hQ=>by (conv=>whnf);exact hQ) ?_|refine zj (fun Q hQ=>by (conv=>whnf);exact hQ) ?_|(apply yk;(·intro _ _ hy;(conv=>whnf);exact hy);(·intro Q hQ;(conv=>whnf);repeat(first|exact hQ|((first|refine xw (by first|rfl|assumption) ?_|refine xx (by first|rfl|assumption) ?_|refine zy ?_|refine zx ?_|unfold yZ);(conv=>whnf))));(·intro Q hQ;(conv=>whnf);exact hQ))|(apply yY;(·intro _ _ hy;(conv=>whnf);exact hy);(·intro Q hQ;(conv=>whnf);exact hQ)))
      apply yk
      ·(intro _ _ hy;(conv=>whnf);exact hy)
      ·intro Q hQ
       conv=>whnf
       refine bcase (fun _=>?_) (fun h=>absurd (h.symm.trans hblt) (by simp))
       conv=>whnf
       repeat(first|exact hQ|((first|refine xw (by first|rfl|assumption) ?_|refine xx (by first|rfl|assumption) ?_|refine zy ?_|refine zx ?_);(conv=>whnf)))
      ·(intro Q hQ;(conv=>whnf);exact hQ)
      repeat(first|((first|refine yw ?_|refine zX ?_|refine yX ?_|refine zk ?_);intro _ _)|refine yz ?_|refine xz ?_|refine yj ‹_› ?_|refine zw ‹_› ?_|refine yx ‹_› ?_|refine yq ‹_› ?_|refine zZ ?_|refine yy ?_|refine yv ?_|refine zq ?_|refine zY (fun Q hQ=>by (conv=>whnf);exact hQ) ?_|refine zj (fun Q hQ=>by (conv=>whnf);exact hQ) ?_|(apply yk;(·intro _ _ hy;(conv=>whnf);exact hy);(·intro Q hQ;(conv=>whnf);repeat(first|exact hQ|((first|refine xw (by first|rfl|assumption) ?_|refine xx (by first|rfl|assumption) ?_|refine zy ?_|refine zx ?_|unfold yZ);(conv=>whnf))));(·intro Q hQ;(conv=>whnf);exact hQ))|(apply yY;(·intro _ _ hy;(conv=>whnf);exact hy);(·intro Q hQ;(conv=>whnf);exact hQ)))
      apply yk
      ·(intro _ _ hy;(conv=>whnf);exact hy)
      ·intro Q hQ
       conv=>whnf
       refine partK_sm agg84 hi84 hs84 (j:=j) (List.getElem?_eq_getElem hls) (show 0+j * 2=2 * j by omega) ?_
       exact hQ
      ·(intro Q hQ;(conv=>whnf);exact hQ)
      repeat(first|((first|refine yw ?_|refine zX ?_|refine yX ?_|refine zk ?_);intro _ _)|refine yz ?_|refine xz ?_|refine yj ‹_› ?_|refine zw ‹_› ?_|refine yx ‹_› ?_|refine yq ‹_› ?_|refine zZ ?_|refine yy ?_|refine yv ?_|refine zq ?_|refine zY (fun Q hQ=>by (conv=>whnf);exact hQ) ?_|refine zj (fun Q hQ=>by (conv=>whnf);exact hQ) ?_|(apply yk;(·intro _ _ hy;(conv=>whnf);exact hy);(·intro Q hQ;(conv=>whnf);repeat(first|exact hQ|((first|refine xw (by first|rfl|assumption) ?_|refine xx (by first|rfl|assumption) ?_|refine zy ?_|refine zx ?_|unfold yZ);(conv=>whnf))));(·intro Q hQ;(conv=>whnf);exact hQ))|(apply yY;(·intro _ _ hy;(conv=>whnf);exact hy);(·intro Q hQ;(conv=>whnf);exact hQ)))
      repeat(first|(apply xk;(·exact rfl);(·exact rfl);(·intro _ _ hy;(conv=>whnf);exact hy);(·exact rfl);(·intro Q hQ;(conv=>whnf);repeat(first|exact hQ|((first|refine xw (by first|rfl|assumption) ?_|refine xx (by first|rfl|assumption) ?_|refine zy ?_|refine zx ?_|unfold yZ);(conv=>whnf))));(·intro Q hQ;(conv=>whnf);exact hQ))|(apply xX;(·exact rfl);(·exact rfl);(·intro _ _ hy;(conv=>whnf);exact hy);(·exact rfl);(·intro Q hQ;(conv=>whnf);repeat(first|exact hQ|((first|refine xw (by first|rfl|assumption) ?_|refine xx (by first|rfl|assumption) ?_|refine zy ?_|refine zx ?_|unfold yZ);(conv=>whnf))));(·intro Q hQ;(conv=>whnf);exact hQ);intro _)|(apply xY;(·exact rfl);(·exact rfl);(·intro _ _ hy;(conv=>whnf);exact hy);(·intro Q hQ;(conv=>whnf);exact hQ))|refine xZ ?_)
      apply wz
      ·exact rfl
      ·exact rfl
      ·(intro _ _ hy;(conv=>whnf);exact hy)
      ·exact rfl
      ·kernel_rfl
      ·(intro Q hQ;exact hQ)
      intro Q hQ
      conv=>whnf
      refine names_run ?_
      conv=>whnf
      rw [hQ]
      conv=>whnf
      repeat(first|(apply xk;(·exact rfl);(·exact rfl);(·intro _ _ hy;(conv=>whnf);exact hy);(·exact rfl);(·intro Q hQ;(conv=>whnf);repeat(first|exact hQ|((first|refine xw (by first|rfl|assumption) ?_|refine xx (by first|rfl|assumption) ?_|refine zy ?_|refine zx ?_|unfold yZ);(conv=>whnf))));(·intro Q hQ;(conv=>whnf);exact hQ))|(apply xX;(·exact rfl);(·exact rfl);(·intro _ _ hy;(conv=>whnf);exact hy);(·exact rfl);(·intro Q hQ;(conv=>whnf);repeat(first|exact hQ|((first|refine xw (by first|rfl|assumption) ?_|refine xx (by first|rfl|assumption) ?_|refine zy ?_|refine zx ?_|unfold yZ);(conv=>whnf))));(·intro Q hQ;(conv=>whnf);exact hQ);intro _)|(apply xY;(·exact rfl);(·exact rfl);(·intro _ _ hy;(conv=>whnf);exact hy);(·intro Q hQ;(conv=>whnf);exact hQ))|refine xZ ?_)
      apply xk
      ·exact rfl
      ·exact rfl
      ·(intro _ _ hy;(conv=>whnf);exact hy)
      ·exact rfl
      ·intro Q hQ
       conv=>whnf
       refine bcase (fun _=>?_) (fun h=>absurd (h.symm.trans h16) (by simp))
       conv=>whnf
       repeat(first|exact hQ|((first|refine xw (by first|rfl|assumption) ?_|refine xx (by first|rfl|assumption) ?_|refine zy ?_|refine zx ?_);(conv=>whnf)))
      ·(intro Q hQ;(conv=>whnf);exact hQ)
      apply xX
      ·exact rfl
      ·exact rfl
      ·(intro _ _ hy;(conv=>whnf);exact hy)
      ·exact rfl
      ·intro Q hQ
       conv=>whnf
       refine vX agg9 (s[j].1 % 16) (show 0+s[j].1 % 16 * 1=s[j].1 % 16 by omega) (strsV_at names04 (Nat.mod_lt _ (by decide))) ?_
       exact hQ
      ·(intro Q hQ;(conv=>whnf);exact hQ)
      intro _
      apply dr_alloc
      ·exact rfl
      ·exact rfl
      ·(intro _ _ hy;(conv=>whnf);exact hy)
      ·exact rfl
      ·(intro Q hQ;(conv=>whnf);exact hQ)
      ·(intro Q hQ;(conv=>whnf);exact hQ)
      repeat(first|(apply xk;(·exact rfl);(·exact rfl);(·intro _ _ hy;(conv=>whnf);exact hy);(·exact rfl);(·intro Q hQ;(conv=>whnf);repeat(first|exact hQ|((first|refine xw (by first|rfl|assumption) ?_|refine xx (by first|rfl|assumption) ?_|refine zy ?_|refine zx ?_|unfold yZ);(conv=>whnf))));(·intro Q hQ;(conv=>whnf);exact hQ))|(apply xX;(·exact rfl);(·exact rfl);(·intro _ _ hy;(conv=>whnf);exact hy);(·exact rfl);(·intro Q hQ;(conv=>whnf);repeat(first|exact hQ|((first|refine xw (by first|rfl|assumption) ?_|refine xx (by first|rfl|assumption) ?_|refine zy ?_|refine zx ?_|unfold yZ);(conv=>whnf))));(·intro Q hQ;(conv=>whnf);exact hQ);intro _)|(apply xY;(·exact rfl);(·exact rfl);(·intro _ _ hy;(conv=>whnf);exact hy);(·intro Q hQ;(conv=>whnf);exact hQ))|refine xZ ?_)
      apply xk
      ·exact rfl
      ·exact rfl
      ·(intro _ _ hy;(conv=>whnf);exact hy)
      ·exact rfl
      ·intro Q hQ
       conv=>whnf
       refine bcase (fun _=>?_) (fun h=>absurd (h.symm.trans h8) (by simp))
       conv=>whnf
       repeat(first|exact hQ|((first|refine xw (by first|rfl|assumption) ?_|refine xx (by first|rfl|assumption) ?_|refine zy ?_|refine zx ?_);(conv=>whnf)))
      ·(intro Q hQ;(conv=>whnf);exact hQ)
      apply xX
      ·exact rfl
      ·exact rfl
      ·(intro _ _ hy;(conv=>whnf);exact hy)
      ·exact rfl
      ·intro Q hQ
       conv=>whnf
       refine vX agg9 (s[j].2 % 8) (show 0+s[j].2 % 8 * 1=s[j].2 % 8 by omega) (strsV_at vals04 (Nat.mod_lt _ (by decide))) ?_
       exact hQ
      ·(intro Q hQ;(conv=>whnf);exact hQ)
      intro _
      repeat(first|(apply xk;(·exact rfl);(·exact rfl);(·intro _ _ hy;(conv=>whnf);exact hy);(·exact rfl);(·intro Q hQ;(conv=>whnf);repeat(first|exact hQ|((first|refine xw (by first|rfl|assumption) ?_|refine xx (by first|rfl|assumption) ?_|refine zy ?_|refine zx ?_|unfold yZ);(conv=>whnf))));(·intro Q hQ;(conv=>whnf);exact hQ))|(apply xX;(·exact rfl);(·exact rfl);(·intro _ _ hy;(conv=>whnf);exact hy);(·exact rfl);(·intro Q hQ;(conv=>whnf);repeat(first|exact hQ|((first|refine xw (by first|rfl|assumption) ?_|refine xx (by first|rfl|assumption) ?_|refine zy ?_|refine zx ?_|unfold yZ);(conv=>whnf))));(·intro Q hQ;(conv=>whnf);exact hQ);intro _)|(apply xY;(·exact rfl);(·exact rfl);(·intro _ _ hy;(conv=>whnf);exact hy);(·intro Q hQ;(conv=>whnf);exact hQ))|refine xZ ?_)
      apply dr_alloc
      ·exact rfl
      ·exact rfl
      ·(intro _ _ hy;(conv=>whnf);exact hy)
      ·exact rfl
      ·(intro Q hQ;(conv=>whnf);exact hQ)
      ·(intro Q hQ;(conv=>whnf);exact hQ)
      apply wz
      ·exact rfl
      ·exact rfl
      ·(intro _ _ hy;(conv=>whnf);exact hy)
      ·exact rfl
      ·kernel_rfl
      ·(intro Q hQ;(conv=>whnf);exact hQ)
      intro Q hQ
      conv=>whnf
      rw [hQ]
      conv=>whnf
      repeat(first|(apply xk;(·exact rfl);(·exact rfl);(·intro _ _ hy;(conv=>whnf);exact hy);(·exact rfl);(·intro Q hQ;(conv=>whnf);repeat(first|exact hQ|((first|refine xw (by first|rfl|assumption) ?_|refine xx (by first|rfl|assumption) ?_|refine zy ?_|refine zx ?_|unfold yZ);(conv=>whnf))));(·intro Q hQ;(conv=>whnf);exact hQ))|(apply xX;(·exact rfl);(·exact rfl);(·intro _ _ hy;(conv=>whnf);exact hy);(·exact rfl);(·intro Q hQ;(conv=>whnf);repeat(first|exact hQ|((first|refine xw (by first|rfl|assumption) ?_|refine xx (by first|rfl|assumption) ?_|refine zy ?_|refine zx ?_|unfold yZ);(conv=>whnf))));(·intro Q hQ;(conv=>whnf);exact hQ);intro _)|(apply xY;(·exact rfl);(·exact rfl);(·intro _ _ hy;(conv=>whnf);exact hy);(·intro Q hQ;(conv=>whnf);exact hQ))|refine xZ ?_)
      refine ww ‹_› ?_
      refine rd_cons2 (.inl (by kernel_rfl)) (.inr (.inr ‹_›)) (.inr fun Q hQ=>?_) (vq _) ?_
      ·conv=>whnf
       refine vX agg9 (s[j].2 % 8) (show 0+s[j].2 % 8 * 1=s[j].2 % 8 by omega) (strsV_at vals04 (Nat.mod_lt _ (by decide))) ?_
       exact hQ
      refine rd_cons2 (.inl (by kernel_rfl)) (.inr (.inr ‹_›)) (.inr fun Q hQ=>?_) (vy _ _) ?_
      ·conv=>whnf
       unfold yZ
       conv=>whnf
       exact hQ
      refine rd_cons2 (.inl (by kernel_rfl)) (.inr (.inr ‹_›)) (.inl (by kernel_rfl)) (vq _) ?_
      refine rd_cons2 (.inl (by kernel_rfl)) (.inr (.inr ‹_›)) (.inr fun Q hQ=>?_) (vy _ _) ?_
      ·conv=>whnf
       unfold yZ
       conv=>whnf
       exact hQ
      refine vz ?_
      refine als_cons2 (.inl (by kernel_rfl)) (.inr (by kernel_rfl)) (by kernel_rfl) ?_
      refine als_cons2 (.inl (by kernel_rfl)) (.inr (by kernel_rfl)) (by kernel_rfl) ?_
      refine als_nil ?_
      conv=>whnf
      repeat(first|((first|refine yw ?_|refine zX ?_|refine yX ?_|refine zk ?_);intro _ _)|refine yz ?_|refine xz ?_|refine yj ‹_› ?_|refine zw ‹_› ?_|refine yx ‹_› ?_|refine yq ‹_› ?_|refine zZ ?_|refine yy ?_|refine yv ?_|refine zq ?_|refine zY (fun Q hQ=>by (conv=>whnf);exact hQ) ?_|refine zj (fun Q hQ=>by (conv=>whnf);exact hQ) ?_|(apply yk;(·intro _ _ hy;(conv=>whnf);exact hy);(·intro Q hQ;(conv=>whnf);repeat(first|exact hQ|((first|refine xw (by first|rfl|assumption) ?_|refine xx (by first|rfl|assumption) ?_|refine zy ?_|refine zx ?_|unfold yZ);(conv=>whnf))));(·intro Q hQ;(conv=>whnf);exact hQ))|(apply yY;(·intro _ _ hy;(conv=>whnf);exact hy);(·intro Q hQ;(conv=>whnf);exact hQ)))
      refine LP.step' mixed fun _ _=>?_
      repeat(first|((first|refine yw ?_|refine zX ?_|refine yX ?_|refine zk ?_);intro _ _)|refine yz ?_|refine xz ?_|refine yj ‹_› ?_|refine zw ‹_› ?_|refine yx ‹_› ?_|refine yq ‹_› ?_|refine zZ ?_|refine yy ?_|refine yv ?_|refine zq ?_|refine zY (fun Q hQ=>by (conv=>whnf);exact hQ) ?_|refine zj (fun Q hQ=>by (conv=>whnf);exact hQ) ?_|(apply yk;(·intro _ _ hy;(conv=>whnf);exact hy);(·intro Q hQ;(conv=>whnf);repeat(first|exact hQ|((first|refine xw (by first|rfl|assumption) ?_|refine xx (by first|rfl|assumption) ?_|refine zy ?_|refine zx ?_|unfold yZ);(conv=>whnf))));(·intro Q hQ;(conv=>whnf);exact hQ))|(apply yY;(·intro _ _ hy;(conv=>whnf);exact hy);(·intro Q hQ;(conv=>whnf);exact hQ)))
      conv=>whnf
      repeat(first|((first|refine yw ?_|refine zX ?_|refine yX ?_|refine zk ?_);intro _ _)|refine yz ?_|refine xz ?_|refine yj ‹_› ?_|refine zw ‹_› ?_|refine yx ‹_› ?_|refine yq ‹_› ?_|refine zZ ?_|refine yy ?_|refine yv ?_|refine zq ?_|refine zY (fun Q hQ=>by (conv=>whnf);exact hQ) ?_|refine zj (fun Q hQ=>by (conv=>whnf);exact hQ) ?_|(apply yk;(·intro _ _ hy;(conv=>whnf);exact hy);(·intro Q hQ;(conv=>whnf);repeat(first|exact hQ|((first|refine xw (by first|rfl|assumption) ?_|refine xx (by first|rfl|assumption) ?_|refine zy ?_|refine zx ?_|unfold yZ);(conv=>whnf))));(·intro Q hQ;(conv=>whnf);exact hQ))|(apply yY;(·intro _ _ hy;(conv=>whnf);exact hy);(·intro Q hQ;(conv=>whnf);exact hQ)))
      apply xq
      ·(intro _ _ hy;(conv=>whnf);exact hy)
      intro Q hQ
      conv=>whnf
      refine app_nil27 (q:=labS s[j]) rfl ?_
      conv=>whnf
      rw [hQ]
      conv=>whnf
      repeat(first|((first|refine yw ?_|refine zX ?_|refine yX ?_|refine zk ?_);intro _ _)|refine yz ?_|refine xz ?_|refine yj ‹_› ?_|refine zw ‹_› ?_|refine yx ‹_› ?_|refine yq ‹_› ?_|refine zZ ?_|refine yy ?_|refine yv ?_|refine zq ?_|refine zY (fun Q hQ=>by (conv=>whnf);exact hQ) ?_|refine zj (fun Q hQ=>by (conv=>whnf);exact hQ) ?_|(apply yk;(·intro _ _ hy;(conv=>whnf);exact hy);(·intro Q hQ;(conv=>whnf);repeat(first|exact hQ|((first|refine xw (by first|rfl|assumption) ?_|refine xx (by first|rfl|assumption) ?_|refine zy ?_|refine zx ?_|unfold yZ);(conv=>whnf))));(·intro Q hQ;(conv=>whnf);exact hQ))|(apply yY;(·intro _ _ hy;(conv=>whnf);exact hy);(·intro Q hQ;(conv=>whnf);exact hQ)))
      apply yk
      ·(intro _ _ hy;(conv=>whnf);exact hy)
      ·intro Q hQ
       conv=>whnf
       refine wq (j+1) rfl (by show j+1 ≤ 9223372036854775807;omega) ?_
       exact hQ
      ·(intro Q hQ;(conv=>whnf);exact hQ)
      repeat(first|((first|refine yw ?_|refine zX ?_|refine yX ?_|refine zk ?_);intro _ _)|refine yz ?_|refine xz ?_|refine yj ‹_› ?_|refine zw ‹_› ?_|refine yx ‹_› ?_|refine yq ‹_› ?_|refine zZ ?_|refine yy ?_|refine yv ?_|refine zq ?_|refine zY (fun Q hQ=>by (conv=>whnf);exact hQ) ?_|refine zj (fun Q hQ=>by (conv=>whnf);exact hQ) ?_|(apply yk;(·intro _ _ hy;(conv=>whnf);exact hy);(·intro Q hQ;(conv=>whnf);repeat(first|exact hQ|((first|refine xw (by first|rfl|assumption) ?_|refine xx (by first|rfl|assumption) ?_|refine zy ?_|refine zx ?_|unfold yZ);(conv=>whnf))));(·intro Q hQ;(conv=>whnf);exact hQ))|(apply yY;(·intro _ _ hy;(conv=>whnf);exact hy);(·intro Q hQ;(conv=>whnf);exact hQ)))
      have hn:(s.take (j+1)).foldl madeS []=[labS s[j]]:=by
       rw [List.take_succ_eq_append_getElem hls,List.foldl_append,hout]
       rfl
      have hov:outV ([labS s[j]]) (ngl+1)=.slice (ngl+1) 0 (1) (1) 2 false:=by
       rw [outV_ne (by simp)]
       rfl
      refine ⟨[ngl+19],mkS [(ngl,.cells (smallV s) e .ro),(ngl+1,.cells (cellsOf ([labS s[j]])) 40 .rw)] (ngl+2),⟨rfl,nodup1 _,fun g hg=>by rw [List.mem_singleton] at hg;subst hg;exact Nat.le_of_ble_eq_true rfl,?_⟩,rfl,ih _ _ hlt ⟨by omega,by rw [hn];exact (outM_ne (by simp)).symm,⟨rfl,zz rfl,zz rfl,by rw [hn,hov];rfl,zz rfl,zz rfl,zz rfl,zz rfl,zz rfl,zz rfl,zz rfl,zz rfl,rfl,rfl,rfl,zz rfl,zz rfl,zz rfl,zz rfl,zz rfl,zz rfl,zz rfl,zz rfl,zz rfl,zz rfl,zz rfl,zz rfl,zz rfl,zz rfl,zz rfl,zz rfl,zz rfl,zz rfl,zz rfl,zz rfl,zz rfl,zz rfl,zz rfl,zz rfl,zz rfl,zz rfl,zz rfl,zz rfl,zz rfl,zz rfl,zz rfl,zz rfl,zz rfl,zz rfl,zz rfl,zz rfl,zz rfl,zz rfl,zz rfl,zz rfl,zz rfl,zz rfl,zz rfl,zz rfl,zz rfl,trivial⟩⟩⟩
      repeat' (first
       | exact trivial
       | exact ⟨_,_,.inl ⟨Nat.le_of_ble_eq_true rfl,rfl⟩,rfl,.cells (smallV_vis _) (.inl rfl)⟩
       | exact ⟨_,_,.inr ⟨Nat.le_of_ble_eq_true rfl,Nat.le_of_ble_eq_true rfl,rfl⟩,rfl,.cells (wv _) (.inl rfl)⟩
       | apply And.intro)

   | cons q0 o0 =>
     refine LPB.tree hf (⟨some (.slice ngl 0 s.length s.length 2 false),⟨some (sl E 1),⟨some (sl E 5),⟨some (sl E 21),z0,z0,z0,z0⟩,⟨some (sl E 37),z0,z0,z0,z0⟩,⟨some (sl E 53),z0,z0,z0,z0⟩,z1⟩,⟨some (sl E 9),⟨some (sl E 25),z0,z0,z0,z0⟩,⟨some (sl E 41),z0,z0,z0,z0⟩,⟨some (sl E 57),z0,z0,z0,z0⟩,z1⟩,⟨some (.int .i64 (.ofNat n)),⟨some (sl E 29),z0,z0,z0,z0⟩,⟨some (sl E 45),z0,z0,z0,z0⟩,z1,z1⟩,⟨some (sl E 17),⟨some (sl E 33),z0,z0,z0,z0⟩,⟨some (sl E 49),z0,z0,z0,z0⟩,z1,z1⟩⟩,⟨some (sl E 2),⟨some (sl E 6),⟨some (sl E 22),z0,z0,z0,z0⟩,⟨some (sl E 38),z0,z0,z0,z0⟩,⟨some (sl E 54),z0,z0,z0,z0⟩,z1⟩,⟨some (sl E 10),⟨some (sl E 26),z0,z0,z0,z0⟩,⟨some (sl E 42),z0,z0,z0,z0⟩,⟨some (sl E 58),z0,z0,z0,z0⟩,z1⟩,⟨some (.int .i64 (.ofNat j)),⟨some (sl E 30),z0,z0,z0,z0⟩,⟨some (sl E 46),z0,z0,z0,z0⟩,z1,z1⟩,⟨some (sl E 18),⟨some (sl E 34),z0,z0,z0,z0⟩,⟨some (sl E 50),z0,z0,z0,z0⟩,z1,z1⟩⟩,⟨some (.slice (ngl+1) 0 (q0 :: o0).length (q0 :: o0).length 2 false),⟨some (sl E 7),⟨some (sl E 23),z0,z0,z0,z0⟩,⟨some (sl E 39),z0,z0,z0,z0⟩,⟨some (sl E 55),z0,z0,z0,z0⟩,z1⟩,⟨some (sl E 11),⟨some (sl E 27),z0,z0,z0,z0⟩,⟨some (sl E 43),z0,z0,z0,z0⟩,⟨some (sl E 59),z0,z0,z0,z0⟩,z1⟩,⟨some (sl E 15),⟨some (sl E 31),z0,z0,z0,z0⟩,⟨some (sl E 47),z0,z0,z0,z0⟩,z1,z1⟩,⟨some (sl E 19),⟨some (sl E 35),z0,z0,z0,z0⟩,⟨some (sl E 51),z0,z0,z0,z0⟩,z1,z1⟩⟩,⟨some (sl E 4),⟨some (sl E 8),⟨some (sl E 24),z0,z0,z0,z0⟩,⟨some (sl E 40),z0,z0,z0,z0⟩,⟨some (sl E 56),z0,z0,z0,z0⟩,z1⟩,⟨some (.slice ngl 0 n s.length 2 false),⟨some (sl E 28),z0,z0,z0,z0⟩,⟨some (sl E 44),z0,z0,z0,z0⟩,z1,z1⟩,⟨some (sl E 16),⟨some (sl E 32),z0,z0,z0,z0⟩,⟨some (sl E 48),z0,z0,z0,z0⟩,z1,z1⟩,⟨some (sl E 20),⟨some (sl E 36),z0,z0,z0,z0⟩,⟨some (sl E 52),z0,z0,z0,z0⟩,z1,z1⟩⟩⟩) (by kernel_rfl) (LPB.gc mixed (Nat.le_of_ble_eq_true rfl) (Nat.le_of_ble_eq_true rfl) fun _ _=>?_)
     clear hf
     cases hb:ltI (.ofNat j) (.ofNat n)
     ·have hge:n ≤ j:=by rw [ltI_eq] at hb;simpa using hb
      repeat(first|((first|refine yw ?_|refine zX ?_|refine yX ?_|refine zk ?_);intro _ _)|refine yz ?_|refine xz ?_|refine yj ‹_› ?_|refine zw ‹_› ?_|refine yx ‹_› ?_|refine yq ‹_› ?_|refine zZ ?_|refine yy ?_|refine yv ?_|refine zq ?_|refine zY (fun Q hQ=>by (conv=>whnf);exact hQ) ?_|refine zj (fun Q hQ=>by (conv=>whnf);exact hQ) ?_|(apply yk;(·intro _ _ hy;(conv=>whnf);exact hy);(·intro Q hQ;(conv=>whnf);repeat(first|exact hQ|((first|refine xw (by first|rfl|assumption) ?_|refine xx (by first|rfl|assumption) ?_|refine zy ?_|refine zx ?_|unfold yZ);(conv=>whnf))));(·intro Q hQ;(conv=>whnf);exact hQ))|(apply yY;(·intro _ _ hy;(conv=>whnf);exact hy);(·intro Q hQ;(conv=>whnf);exact hQ)))
      obtain rfl:j=n:=Nat.le_antisymm hjl hge
      conv=>whnf
      rw [← hK,hout]
      exact ⟨[ngl+1],nodup1 _,fun g hg=>by rw [List.mem_singleton] at hg;subst hg;exact Nat.le_of_ble_eq_true rfl,.slice _ _ _ _ _ _ _ (Rou.new (a:=0) rfl (Nat.le_of_ble_eq_true rfl) (by simp [outN])) (.inl rfl) (Nat.le_refl _) (fun h=>⟨h,rfl⟩),trivial,⟨⟨_,rfl,.cells (wv _) (.inl rfl)⟩,trivial⟩⟩
     ·have hlt:j < n:=by rw [ltI_eq] at hb;simpa using hb
      have hls:j < s.length:=by omega
      have hblt:Nat.blt j n=true:=hb
      have h16:Nat.blt (s[j].1 % 16) 16=true:=Nat.ble_eq_true_of_le (Nat.mod_lt _ (by decide))
      have h8:Nat.blt (s[j].2 % 8) 8=true:=Nat.ble_eq_true_of_le (Nat.mod_lt _ (by decide))
      repeat(first|((first|refine yw ?_|refine zX ?_|refine yX ?_|refine zk ?_);intro _ _)|refine yz ?_|refine xz ?_|refine yj ‹_› ?_|refine zw ‹_› ?_|refine yx ‹_› ?_|refine yq ‹_› ?_|refine zZ ?_|refine yy ?_|refine yv ?_|refine zq ?_|refine zY (fun Q hQ=>by (conv=>whnf);exact hQ) ?_|refine zj (fun Q hQ=>by (conv=>whnf);exact hQ) ?_|(apply yk;(·intro _ _ hy;(conv=>whnf);exact hy);(·intro Q hQ;(conv=>whnf);repeat(first|exact hQ|((first|refine xw (by first|rfl|assumption) ?_|refine xx (by first|rfl|assumption) ?_|refine zy ?_|refine zx ?_|unfold yZ);(conv=>whnf))));(·intro Q hQ;(conv=>whnf);exact hQ))|(apply yY;(·intro _ _ hy;(conv=>whnf);exact hy);(·intro Q hQ;(conv=>whnf);exact hQ)))
      apply yk
      ·(intro _ _ hy;(conv=>whnf);exact hy)
      ·intro Q hQ
       conv=>whnf
       refine bcase (fun _=>?_) (fun h=>absurd (h.symm.trans hblt) (by simp))
       conv=>whnf
       repeat(first|exact hQ|((first|refine xw (by first|rfl|assumption) ?_|refine xx (by first|rfl|assumption) ?_|refine zy ?_|refine zx ?_);(conv=>whnf)))
      ·(intro Q hQ;(conv=>whnf);exact hQ)
      repeat(first|((first|refine yw ?_|refine zX ?_|refine yX ?_|refine zk ?_);intro _ _)|refine yz ?_|refine xz ?_|refine yj ‹_› ?_|refine zw ‹_› ?_|refine yx ‹_› ?_|refine yq ‹_› ?_|refine zZ ?_|refine yy ?_|refine yv ?_|refine zq ?_|refine zY (fun Q hQ=>by (conv=>whnf);exact hQ) ?_|refine zj (fun Q hQ=>by (conv=>whnf);exact hQ) ?_|(apply yk;(·intro _ _ hy;(conv=>whnf);exact hy);(·intro Q hQ;(conv=>whnf);repeat(first|exact hQ|((first|refine xw (by first|rfl|assumption) ?_|refine xx (by first|rfl|assumption) ?_|refine zy ?_|refine zx ?_|unfold yZ);(conv=>whnf))));(·intro Q hQ;(conv=>whnf);exact hQ))|(apply yY;(·intro _ _ hy;(conv=>whnf);exact hy);(·intro Q hQ;(conv=>whnf);exact hQ)))
      apply yk
      ·(intro _ _ hy;(conv=>whnf);exact hy)
      ·intro Q hQ
       conv=>whnf
       refine partK_sm agg84 hi84 hs84 (j:=j) (List.getElem?_eq_getElem hls) (show 0+j * 2=2 * j by omega) ?_
       exact hQ
      ·(intro Q hQ;(conv=>whnf);exact hQ)
      repeat(first|((first|refine yw ?_|refine zX ?_|refine yX ?_|refine zk ?_);intro _ _)|refine yz ?_|refine xz ?_|refine yj ‹_› ?_|refine zw ‹_› ?_|refine yx ‹_› ?_|refine yq ‹_› ?_|refine zZ ?_|refine yy ?_|refine yv ?_|refine zq ?_|refine zY (fun Q hQ=>by (conv=>whnf);exact hQ) ?_|refine zj (fun Q hQ=>by (conv=>whnf);exact hQ) ?_|(apply yk;(·intro _ _ hy;(conv=>whnf);exact hy);(·intro Q hQ;(conv=>whnf);repeat(first|exact hQ|((first|refine xw (by first|rfl|assumption) ?_|refine xx (by first|rfl|assumption) ?_|refine zy ?_|refine zx ?_|unfold yZ);(conv=>whnf))));(·intro Q hQ;(conv=>whnf);exact hQ))|(apply yY;(·intro _ _ hy;(conv=>whnf);exact hy);(·intro Q hQ;(conv=>whnf);exact hQ)))
      repeat(first|(apply xk;(·exact rfl);(·exact rfl);(·intro _ _ hy;(conv=>whnf);exact hy);(·exact rfl);(·intro Q hQ;(conv=>whnf);repeat(first|exact hQ|((first|refine xw (by first|rfl|assumption) ?_|refine xx (by first|rfl|assumption) ?_|refine zy ?_|refine zx ?_|unfold yZ);(conv=>whnf))));(·intro Q hQ;(conv=>whnf);exact hQ))|(apply xX;(·exact rfl);(·exact rfl);(·intro _ _ hy;(conv=>whnf);exact hy);(·exact rfl);(·intro Q hQ;(conv=>whnf);repeat(first|exact hQ|((first|refine xw (by first|rfl|assumption) ?_|refine xx (by first|rfl|assumption) ?_|refine zy ?_|refine zx ?_|unfold yZ);(conv=>whnf))));(·intro Q hQ;(conv=>whnf);exact hQ);intro _)|(apply xY;(·exact rfl);(·exact rfl);(·intro _ _ hy;(conv=>whnf);exact hy);(·intro Q hQ;(conv=>whnf);exact hQ))|refine xZ ?_)
      apply wz
      ·exact rfl
      ·exact rfl
      ·(intro _ _ hy;(conv=>whnf);exact hy)
      ·exact rfl
      ·kernel_rfl
      ·(intro Q hQ;exact hQ)
      intro Q hQ
      conv=>whnf
      refine names_run ?_
      conv=>whnf
      rw [hQ]
      conv=>whnf
      repeat(first|(apply xk;(·exact rfl);(·exact rfl);(·intro _ _ hy;(conv=>whnf);exact hy);(·exact rfl);(·intro Q hQ;(conv=>whnf);repeat(first|exact hQ|((first|refine xw (by first|rfl|assumption) ?_|refine xx (by first|rfl|assumption) ?_|refine zy ?_|refine zx ?_|unfold yZ);(conv=>whnf))));(·intro Q hQ;(conv=>whnf);exact hQ))|(apply xX;(·exact rfl);(·exact rfl);(·intro _ _ hy;(conv=>whnf);exact hy);(·exact rfl);(·intro Q hQ;(conv=>whnf);repeat(first|exact hQ|((first|refine xw (by first|rfl|assumption) ?_|refine xx (by first|rfl|assumption) ?_|refine zy ?_|refine zx ?_|unfold yZ);(conv=>whnf))));(·intro Q hQ;(conv=>whnf);exact hQ);intro _)|(apply xY;(·exact rfl);(·exact rfl);(·intro _ _ hy;(conv=>whnf);exact hy);(·intro Q hQ;(conv=>whnf);exact hQ))|refine xZ ?_)
      apply xk
      ·exact rfl
      ·exact rfl
      ·(intro _ _ hy;(conv=>whnf);exact hy)
      ·exact rfl
      ·intro Q hQ
       conv=>whnf
       refine bcase (fun _=>?_) (fun h=>absurd (h.symm.trans h16) (by simp))
       conv=>whnf
       repeat(first|exact hQ|((first|refine xw (by first|rfl|assumption) ?_|refine xx (by first|rfl|assumption) ?_|refine zy ?_|refine zx ?_);(conv=>whnf)))
      ·(intro Q hQ;(conv=>whnf);exact hQ)
      apply xX
      ·exact rfl
      ·exact rfl
      ·(intro _ _ hy;(conv=>whnf);exact hy)
      ·exact rfl
      ·intro Q hQ
       conv=>whnf
       refine vX agg9 (s[j].1 % 16) (show 0+s[j].1 % 16 * 1=s[j].1 % 16 by omega) (strsV_at names04 (Nat.mod_lt _ (by decide))) ?_
       exact hQ
      ·(intro Q hQ;(conv=>whnf);exact hQ)
      intro _
      apply dr_alloc
      ·exact rfl
      ·exact rfl
      ·(intro _ _ hy;(conv=>whnf);exact hy)
      ·exact rfl
      ·(intro Q hQ;(conv=>whnf);exact hQ)
      ·(intro Q hQ;(conv=>whnf);exact hQ)
      repeat(first|(apply xk;(·exact rfl);(·exact rfl);(·intro _ _ hy;(conv=>whnf);exact hy);(·exact rfl);(·intro Q hQ;(conv=>whnf);repeat(first|exact hQ|((first|refine xw (by first|rfl|assumption) ?_|refine xx (by first|rfl|assumption) ?_|refine zy ?_|refine zx ?_|unfold yZ);(conv=>whnf))));(·intro Q hQ;(conv=>whnf);exact hQ))|(apply xX;(·exact rfl);(·exact rfl);(·intro _ _ hy;(conv=>whnf);exact hy);(·exact rfl);(·intro Q hQ;(conv=>whnf);repeat(first|exact hQ|((first|refine xw (by first|rfl|assumption) ?_|refine xx (by first|rfl|assumption) ?_|refine zy ?_|refine zx ?_|unfold yZ);(conv=>whnf))));(·intro Q hQ;(conv=>whnf);exact hQ);intro _)|(apply xY;(·exact rfl);(·exact rfl);(·intro _ _ hy;(conv=>whnf);exact hy);(·intro Q hQ;(conv=>whnf);exact hQ))|refine xZ ?_)
      apply xk
      ·exact rfl
      ·exact rfl
      ·(intro _ _ hy;(conv=>whnf);exact hy)
      ·exact rfl
      ·intro Q hQ
       conv=>whnf
       refine bcase (fun _=>?_) (fun h=>absurd (h.symm.trans h8) (by simp))
       conv=>whnf
       repeat(first|exact hQ|((first|refine xw (by first|rfl|assumption) ?_|refine xx (by first|rfl|assumption) ?_|refine zy ?_|refine zx ?_);(conv=>whnf)))
      ·(intro Q hQ;(conv=>whnf);exact hQ)
      apply xX
      ·exact rfl
      ·exact rfl
      ·(intro _ _ hy;(conv=>whnf);exact hy)
      ·exact rfl
      ·intro Q hQ
       conv=>whnf
       refine vX agg9 (s[j].2 % 8) (show 0+s[j].2 % 8 * 1=s[j].2 % 8 by omega) (strsV_at vals04 (Nat.mod_lt _ (by decide))) ?_
       exact hQ
      ·(intro Q hQ;(conv=>whnf);exact hQ)
      intro _
      repeat(first|(apply xk;(·exact rfl);(·exact rfl);(·intro _ _ hy;(conv=>whnf);exact hy);(·exact rfl);(·intro Q hQ;(conv=>whnf);repeat(first|exact hQ|((first|refine xw (by first|rfl|assumption) ?_|refine xx (by first|rfl|assumption) ?_|refine zy ?_|refine zx ?_|unfold yZ);(conv=>whnf))));(·intro Q hQ;(conv=>whnf);exact hQ))|(apply xX;(·exact rfl);(·exact rfl);(·intro _ _ hy;(conv=>whnf);exact hy);(·exact rfl);(·intro Q hQ;(conv=>whnf);repeat(first|exact hQ|((first|refine xw (by first|rfl|assumption) ?_|refine xx (by first|rfl|assumption) ?_|refine zy ?_|refine zx ?_|unfold yZ);(conv=>whnf))));(·intro Q hQ;(conv=>whnf);exact hQ);intro _)|(apply xY;(·exact rfl);(·exact rfl);(·intro _ _ hy;(conv=>whnf);exact hy);(·intro Q hQ;(conv=>whnf);exact hQ))|refine xZ ?_)
      apply dr_alloc
      ·exact rfl
      ·exact rfl
      ·(intro _ _ hy;(conv=>whnf);exact hy)
      ·exact rfl
      ·(intro Q hQ;(conv=>whnf);exact hQ)
      ·(intro Q hQ;(conv=>whnf);exact hQ)
      apply wz
      ·exact rfl
      ·exact rfl
      ·(intro _ _ hy;(conv=>whnf);exact hy)
      ·exact rfl
      ·kernel_rfl
      ·(intro Q hQ;(conv=>whnf);exact hQ)
      intro Q hQ
      conv=>whnf
      rw [hQ]
      conv=>whnf
      repeat(first|(apply xk;(·exact rfl);(·exact rfl);(·intro _ _ hy;(conv=>whnf);exact hy);(·exact rfl);(·intro Q hQ;(conv=>whnf);repeat(first|exact hQ|((first|refine xw (by first|rfl|assumption) ?_|refine xx (by first|rfl|assumption) ?_|refine zy ?_|refine zx ?_|unfold yZ);(conv=>whnf))));(·intro Q hQ;(conv=>whnf);exact hQ))|(apply xX;(·exact rfl);(·exact rfl);(·intro _ _ hy;(conv=>whnf);exact hy);(·exact rfl);(·intro Q hQ;(conv=>whnf);repeat(first|exact hQ|((first|refine xw (by first|rfl|assumption) ?_|refine xx (by first|rfl|assumption) ?_|refine zy ?_|refine zx ?_|unfold yZ);(conv=>whnf))));(·intro Q hQ;(conv=>whnf);exact hQ);intro _)|(apply xY;(·exact rfl);(·exact rfl);(·intro _ _ hy;(conv=>whnf);exact hy);(·intro Q hQ;(conv=>whnf);exact hQ))|refine xZ ?_)
      refine ww ‹_› ?_
      refine rd_cons2 (.inl (by kernel_rfl)) (.inr (.inr ‹_›)) (.inr fun Q hQ=>?_) (vq _) ?_
      ·conv=>whnf
       refine vX agg9 (s[j].2 % 8) (show 0+s[j].2 % 8 * 1=s[j].2 % 8 by omega) (strsV_at vals04 (Nat.mod_lt _ (by decide))) ?_
       exact hQ
      refine rd_cons2 (.inl (by kernel_rfl)) (.inr (.inr ‹_›)) (.inr fun Q hQ=>?_) (vy _ _) ?_
      ·conv=>whnf
       unfold yZ
       conv=>whnf
       exact hQ
      refine rd_cons2 (.inl (by kernel_rfl)) (.inr (.inr ‹_›)) (.inl (by kernel_rfl)) (vq _) ?_
      refine rd_cons2 (.inl (by kernel_rfl)) (.inr (.inr ‹_›)) (.inr fun Q hQ=>?_) (vy _ _) ?_
      ·conv=>whnf
       unfold yZ
       conv=>whnf
       exact hQ
      refine vz ?_
      refine als_cons2 (.inl (by kernel_rfl)) (.inr (by kernel_rfl)) (by kernel_rfl) ?_
      refine als_cons2 (.inl (by kernel_rfl)) (.inr (by kernel_rfl)) (by kernel_rfl) ?_
      refine als_nil ?_
      conv=>whnf
      repeat(first|((first|refine yw ?_|refine zX ?_|refine yX ?_|refine zk ?_);intro _ _)|refine yz ?_|refine xz ?_|refine yj ‹_› ?_|refine zw ‹_› ?_|refine yx ‹_› ?_|refine yq ‹_› ?_|refine zZ ?_|refine yy ?_|refine yv ?_|refine zq ?_|refine zY (fun Q hQ=>by (conv=>whnf);exact hQ) ?_|refine zj (fun Q hQ=>by (conv=>whnf);exact hQ) ?_|(apply yk;(·intro _ _ hy;(conv=>whnf);exact hy);(·intro Q hQ;(conv=>whnf);repeat(first|exact hQ|((first|refine xw (by first|rfl|assumption) ?_|refine xx (by first|rfl|assumption) ?_|refine zy ?_|refine zx ?_|unfold yZ);(conv=>whnf))));(·intro Q hQ;(conv=>whnf);exact hQ))|(apply yY;(·intro _ _ hy;(conv=>whnf);exact hy);(·intro Q hQ;(conv=>whnf);exact hQ)))
      have hm0:(q0 :: o0).length ≤ 40:=by rw [← hout];exact Nat.le_trans (made_len (s.take j) []) (by rw [List.length_take];simp;omega)
      generalize ho:q0 :: o0=o at *
      refine LP.induct0 o.length (fun jj E2=>jj ≤ o.length∧(∀ x ∈ o.take jj,x.1 ≠ (labS s[j]).1)∧Fits E2 0 [.slice ngl 0 s.length s.length 2 false,sl E2 1,sl E2 2,.slice (ngl+1) 0 o.length o.length 2 false,sl E2 4,sl E2 5,.ptr (ngl+16) 0,sl E2 7,sl E2 8,sl E2 9,sl E2 10,sl E2 11,.slice ngl 0 n s.length 2 false,.int .i64 (.ofNat n),.int .i64 (.ofNat j),sl E2 15,sl E2 16,sl E2 17,sl E2 18,sl E2 19,sl E2 20,sl E2 21,sl E2 22,sl E2 23,sl E2 24,sl E2 25,sl E2 26,sl E2 27,sl E2 28,sl E2 29,sl E2 30,sl E2 31,.int .i64 (.ofNat o.length),.int .i64 (.ofNat jj),sl E2 34,sl E2 35,sl E2 36,sl E2 37,sl E2 38,sl E2 39,sl E2 40,sl E2 41,sl E2 42,sl E2 43,sl E2 44,sl E2 45,sl E2 46,sl E2 47,sl E2 48,sl E2 49,sl E2 50,sl E2 51,sl E2 52,sl E2 53,sl E2 54,sl E2 55,sl E2 56,sl E2 57,sl E2 58,sl E2 59]) ⟨Nat.zero_le _,by simp,⟨rfl,zz rfl,zz rfl,rfl,zz rfl,zz rfl,rfl,zz rfl,zz rfl,zz rfl,zz rfl,zz rfl,rfl,rfl,rfl,zz rfl,zz rfl,zz rfl,zz rfl,zz rfl,zz rfl,zz rfl,zz rfl,zz rfl,zz rfl,zz rfl,zz rfl,zz rfl,zz rfl,zz rfl,zz rfl,zz rfl,rfl,rfl,zz rfl,zz rfl,zz rfl,zz rfl,zz rfl,zz rfl,zz rfl,zz rfl,zz rfl,zz rfl,zz rfl,zz rfl,zz rfl,zz rfl,zz rfl,zz rfl,zz rfl,zz rfl,zz rfl,zz rfl,zz rfl,zz rfl,zz rfl,zz rfl,zz rfl,zz rfl,trivial⟩⟩ ?_
      intro jj E2 ⟨hjjl,hno,hf2⟩ ih2
      refine LP.tree hf2 (⟨some (.slice ngl 0 s.length s.length 2 false),⟨some (sl E2 1),⟨some (sl E2 5),⟨some (sl E2 21),z0,z0,z0,z0⟩,⟨some (sl E2 37),z0,z0,z0,z0⟩,⟨some (sl E2 53),z0,z0,z0,z0⟩,z1⟩,⟨some (sl E2 9),⟨some (sl E2 25),z0,z0,z0,z0⟩,⟨some (sl E2 41),z0,z0,z0,z0⟩,⟨some (sl E2 57),z0,z0,z0,z0⟩,z1⟩,⟨some (.int .i64 (.ofNat n)),⟨some (sl E2 29),z0,z0,z0,z0⟩,⟨some (sl E2 45),z0,z0,z0,z0⟩,z1,z1⟩,⟨some (sl E2 17),⟨some (.int .i64 (.ofNat jj)),z0,z0,z0,z0⟩,⟨some (sl E2 49),z0,z0,z0,z0⟩,z1,z1⟩⟩,⟨some (sl E2 2),⟨some (.ptr (ngl+16) 0),⟨some (sl E2 22),z0,z0,z0,z0⟩,⟨some (sl E2 38),z0,z0,z0,z0⟩,⟨some (sl E2 54),z0,z0,z0,z0⟩,z1⟩,⟨some (sl E2 10),⟨some (sl E2 26),z0,z0,z0,z0⟩,⟨some (sl E2 42),z0,z0,z0,z0⟩,⟨some (sl E2 58),z0,z0,z0,z0⟩,z1⟩,⟨some (.int .i64 (.ofNat j)),⟨some (sl E2 30),z0,z0,z0,z0⟩,⟨some (sl E2 46),z0,z0,z0,z0⟩,z1,z1⟩,⟨some (sl E2 18),⟨some (sl E2 34),z0,z0,z0,z0⟩,⟨some (sl E2 50),z0,z0,z0,z0⟩,z1,z1⟩⟩,⟨some (.slice (ngl+1) 0 o.length o.length 2 false),⟨some (sl E2 7),⟨some (sl E2 23),z0,z0,z0,z0⟩,⟨some (sl E2 39),z0,z0,z0,z0⟩,⟨some (sl E2 55),z0,z0,z0,z0⟩,z1⟩,⟨some (sl E2 11),⟨some (sl E2 27),z0,z0,z0,z0⟩,⟨some (sl E2 43),z0,z0,z0,z0⟩,⟨some (sl E2 59),z0,z0,z0,z0⟩,z1⟩,⟨some (sl E2 15),⟨some (sl E2 31),z0,z0,z0,z0⟩,⟨some (sl E2 47),z0,z0,z0,z0⟩,z1,z1⟩,⟨some (sl E2 19),⟨some (sl E2 35),z0,z0,z0,z0⟩,⟨some (sl E2 51),z0,z0,z0,z0⟩,z1,z1⟩⟩,⟨some (sl E2 4),⟨some (sl E2 8),⟨some (sl E2 24),z0,z0,z0,z0⟩,⟨some (sl E2 40),z0,z0,z0,z0⟩,⟨some (sl E2 56),z0,z0,z0,z0⟩,z1⟩,⟨some (.slice ngl 0 n s.length 2 false),⟨some (sl E2 28),z0,z0,z0,z0⟩,⟨some (sl E2 44),z0,z0,z0,z0⟩,z1,z1⟩,⟨some (sl E2 16),⟨some (.int .i64 (.ofNat o.length)),z0,z0,z0,z0⟩,⟨some (sl E2 48),z0,z0,z0,z0⟩,z1,z1⟩,⟨some (sl E2 20),⟨some (sl E2 36),z0,z0,z0,z0⟩,⟨some (sl E2 52),z0,z0,z0,z0⟩,z1,z1⟩⟩⟩) (by kernel_rfl) (LP.gc' mixed fun _ _=>?_)
      clear hf2
      cases hb2:ltI (.ofNat jj) (.ofNat o.length)
      ·have hge:o.length ≤ jj:=by rw [ltI_eq] at hb2;simpa using hb2
       rw [List.take_of_length_le hge] at hno
       repeat(first|((first|refine yw ?_|refine zX ?_|refine yX ?_|refine zk ?_);intro _ _)|refine yz ?_|refine xz ?_|refine yj ‹_› ?_|refine zw ‹_› ?_|refine yx ‹_› ?_|refine yq ‹_› ?_|refine zZ ?_|refine yy ?_|refine yv ?_|refine zq ?_|refine zY (fun Q hQ=>by (conv=>whnf);exact hQ) ?_|refine zj (fun Q hQ=>by (conv=>whnf);exact hQ) ?_|(apply yk;(·intro _ _ hy;(conv=>whnf);exact hy);(·intro Q hQ;(conv=>whnf);repeat(first|exact hQ|((first|refine xw (by first|rfl|assumption) ?_|refine xx (by first|rfl|assumption) ?_|refine zy ?_|refine zx ?_|unfold yZ);(conv=>whnf))));(·intro Q hQ;(conv=>whnf);exact hQ))|(apply yY;(·intro _ _ hy;(conv=>whnf);exact hy);(·intro Q hQ;(conv=>whnf);exact hQ)))
       conv=>whnf
       repeat(first|((first|refine yw ?_|refine zX ?_|refine yX ?_|refine zk ?_);intro _ _)|refine yz ?_|refine xz ?_|refine yj ‹_› ?_|refine zw ‹_› ?_|refine yx ‹_› ?_|refine yq ‹_› ?_|refine zZ ?_|refine yy ?_|refine yv ?_|refine zq ?_|refine zY (fun Q hQ=>by (conv=>whnf);exact hQ) ?_|refine zj (fun Q hQ=>by (conv=>whnf);exact hQ) ?_|(apply yk;(·intro _ _ hy;(conv=>whnf);exact hy);(·intro Q hQ;(conv=>whnf);repeat(first|exact hQ|((first|refine xw (by first|rfl|assumption) ?_|refine xx (by first|rfl|assumption) ?_|refine zy ?_|refine zx ?_|unfold yZ);(conv=>whnf))));(·intro Q hQ;(conv=>whnf);exact hQ))|(apply yY;(·intro _ _ hy;(conv=>whnf);exact hy);(·intro Q hQ;(conv=>whnf);exact hQ)))
       apply xq
       ·(intro _ _ hy;(conv=>whnf);exact hy)
       intro Q hQ
       conv=>whnf
       refine app_lab27 (q:=labS s[j]) rfl rfl (by omega) ?_
       conv=>whnf
       rw [hQ]
       conv=>whnf
       repeat(first|((first|refine yw ?_|refine zX ?_|refine yX ?_|refine zk ?_);intro _ _)|refine yz ?_|refine xz ?_|refine yj ‹_› ?_|refine zw ‹_› ?_|refine yx ‹_› ?_|refine yq ‹_› ?_|refine zZ ?_|refine yy ?_|refine yv ?_|refine zq ?_|refine zY (fun Q hQ=>by (conv=>whnf);exact hQ) ?_|refine zj (fun Q hQ=>by (conv=>whnf);exact hQ) ?_|(apply yk;(·intro _ _ hy;(conv=>whnf);exact hy);(·intro Q hQ;(conv=>whnf);repeat(first|exact hQ|((first|refine xw (by first|rfl|assumption) ?_|refine xx (by first|rfl|assumption) ?_|refine zy ?_|refine zx ?_|unfold yZ);(conv=>whnf))));(·intro Q hQ;(conv=>whnf);exact hQ))|(apply yY;(·intro _ _ hy;(conv=>whnf);exact hy);(·intro Q hQ;(conv=>whnf);exact hQ)))
       apply yk
       ·(intro _ _ hy;(conv=>whnf);exact hy)
       ·intro Q hQ
        conv=>whnf
        refine wq (j+1) rfl (by show j+1 ≤ 9223372036854775807;omega) ?_
        exact hQ
       ·(intro Q hQ;(conv=>whnf);exact hQ)
       repeat(first|((first|refine yw ?_|refine zX ?_|refine yX ?_|refine zk ?_);intro _ _)|refine yz ?_|refine xz ?_|refine yj ‹_› ?_|refine zw ‹_› ?_|refine yx ‹_› ?_|refine yq ‹_› ?_|refine zZ ?_|refine yy ?_|refine yv ?_|refine zq ?_|refine zY (fun Q hQ=>by (conv=>whnf);exact hQ) ?_|refine zj (fun Q hQ=>by (conv=>whnf);exact hQ) ?_|(apply yk;(·intro _ _ hy;(conv=>whnf);exact hy);(·intro Q hQ;(conv=>whnf);repeat(first|exact hQ|((first|refine xw (by first|rfl|assumption) ?_|refine xx (by first|rfl|assumption) ?_|refine zy ?_|refine zx ?_|unfold yZ);(conv=>whnf))));(·intro Q hQ;(conv=>whnf);exact hQ))|(apply yY;(·intro _ _ hy;(conv=>whnf);exact hy);(·intro Q hQ;(conv=>whnf);exact hQ)))
       have hn:(s.take (j+1)).foldl madeS []=o ++ [labS s[j]]:=by
        rw [List.take_succ_eq_append_getElem hls,List.foldl_append,hout]
        show madeS o s[j]=_;unfold madeS;rw [dropN_none hno]
       have hov:outV (o ++ [labS s[j]]) (ngl+1)=.slice (ngl+1) 0 (o.length+1) (o.length+1) 2 false:=by
        rw [outV_ne (by simp)]
        rw [List.length_append];rfl
       refine ⟨[ngl+20],mkS [(ngl,.cells (smallV s) e .ro),(ngl+1,.cells (cellsOf (o ++ [labS s[j]])) 40 .rw)] (ngl+2),⟨rfl,nodup1 _,fun g hg=>by rw [List.mem_singleton] at hg;subst hg;exact Nat.le_of_ble_eq_true rfl,?_⟩,rfl,ih _ _ hlt ⟨by omega,by rw [hn];exact (outM_ne (by simp)).symm,⟨rfl,zz rfl,zz rfl,by rw [hn,hov];rfl,zz rfl,zz rfl,zz rfl,zz rfl,zz rfl,zz rfl,zz rfl,zz rfl,rfl,rfl,rfl,zz rfl,zz rfl,zz rfl,zz rfl,zz rfl,zz rfl,zz rfl,zz rfl,zz rfl,zz rfl,zz rfl,zz rfl,zz rfl,zz rfl,zz rfl,zz rfl,zz rfl,zz rfl,zz rfl,zz rfl,zz rfl,zz rfl,zz rfl,zz rfl,zz rfl,zz rfl,zz rfl,zz rfl,zz rfl,zz rfl,zz rfl,zz rfl,zz rfl,zz rfl,zz rfl,zz rfl,zz rfl,zz rfl,zz rfl,zz rfl,zz rfl,zz rfl,zz rfl,zz rfl,zz rfl,trivial⟩⟩⟩
       repeat' (first
        | exact trivial
        | exact ⟨_,_,.inl ⟨Nat.le_of_ble_eq_true rfl,rfl⟩,rfl,.cells (smallV_vis _) (.inl rfl)⟩
        | exact ⟨_,_,.inr ⟨Nat.le_of_ble_eq_true rfl,Nat.le_of_ble_eq_true rfl,rfl⟩,rfl,.cells (wv _) (.inl rfl)⟩
        | apply And.intro)
      ·have hlt2:jj < o.length:=by rw [ltI_eq] at hb2;simpa using hb2
       have hblt2:Nat.blt jj o.length=true:=hb2
       by_cases hq:o[jj].1=(labS s[j]).1
       ·have heq:eqS o[jj].1 (names04.getD (s[j].1 % 16) [])=true:=by rw [eqS_eq];simpa [labS] using hq
        repeat(first|((first|refine yw ?_|refine zX ?_|refine yX ?_|refine zk ?_);intro _ _)|refine yz ?_|refine xz ?_|refine yj ‹_› ?_|refine zw ‹_› ?_|refine yx ‹_› ?_|refine yq ‹_› ?_|refine zZ ?_|refine yy ?_|refine yv ?_|refine zq ?_|refine zY (fun Q hQ=>by (conv=>whnf);exact hQ) ?_|refine zj (fun Q hQ=>by (conv=>whnf);exact hQ) ?_|(apply yk;(·intro _ _ hy;(conv=>whnf);exact hy);(·intro Q hQ;(conv=>whnf);repeat(first|exact hQ|((first|refine xw (by first|rfl|assumption) ?_|refine xx (by first|rfl|assumption) ?_|refine zy ?_|refine zx ?_|unfold yZ);(conv=>whnf))));(·intro Q hQ;(conv=>whnf);exact hQ))|(apply yY;(·intro _ _ hy;(conv=>whnf);exact hy);(·intro Q hQ;(conv=>whnf);exact hQ)))
        repeat(first|(apply xk;(·exact rfl);(·exact rfl);(·intro _ _ hy;(conv=>whnf);exact hy);(·exact rfl);(·intro Q hQ;(conv=>whnf);repeat(first|exact hQ|((first|refine xw (by first|rfl|assumption) ?_|refine xx (by first|rfl|assumption) ?_|refine zy ?_|refine zx ?_|unfold yZ);(conv=>whnf))));(·intro Q hQ;(conv=>whnf);exact hQ))|(apply xX;(·exact rfl);(·exact rfl);(·intro _ _ hy;(conv=>whnf);exact hy);(·exact rfl);(·intro Q hQ;(conv=>whnf);repeat(first|exact hQ|((first|refine xw (by first|rfl|assumption) ?_|refine xx (by first|rfl|assumption) ?_|refine zy ?_|refine zx ?_|unfold yZ);(conv=>whnf))));(·intro Q hQ;(conv=>whnf);exact hQ);intro _)|(apply xY;(·exact rfl);(·exact rfl);(·intro _ _ hy;(conv=>whnf);exact hy);(·intro Q hQ;(conv=>whnf);exact hQ))|refine xZ ?_)
        apply xk
        ·exact rfl
        ·exact rfl
        ·(intro _ _ hy;(conv=>whnf);exact hy)
        ·exact rfl
        ·intro Q hQ
         conv=>whnf
         refine bcase (fun _=>?_) (fun h=>absurd (h.symm.trans hblt2) (by simp))
         conv=>whnf
         repeat(first|exact hQ|((first|refine xw (by first|rfl|assumption) ?_|refine xx (by first|rfl|assumption) ?_|refine zy ?_|refine zx ?_);(conv=>whnf)))
        ·(intro Q hQ;(conv=>whnf);exact hQ)
        repeat(first|(apply xk;(·exact rfl);(·exact rfl);(·intro _ _ hy;(conv=>whnf);exact hy);(·exact rfl);(·intro Q hQ;(conv=>whnf);repeat(first|exact hQ|((first|refine xw (by first|rfl|assumption) ?_|refine xx (by first|rfl|assumption) ?_|refine zy ?_|refine zx ?_|unfold yZ);(conv=>whnf))));(·intro Q hQ;(conv=>whnf);exact hQ))|(apply xX;(·exact rfl);(·exact rfl);(·intro _ _ hy;(conv=>whnf);exact hy);(·exact rfl);(·intro Q hQ;(conv=>whnf);repeat(first|exact hQ|((first|refine xw (by first|rfl|assumption) ?_|refine xx (by first|rfl|assumption) ?_|refine zy ?_|refine zx ?_|unfold yZ);(conv=>whnf))));(·intro Q hQ;(conv=>whnf);exact hQ);intro _)|(apply xY;(·exact rfl);(·exact rfl);(·intro _ _ hy;(conv=>whnf);exact hy);(·intro Q hQ;(conv=>whnf);exact hQ))|refine xZ ?_)
        apply xX
        ·exact rfl
        ·exact rfl
        ·(intro _ _ hy;(conv=>whnf);exact hy)
        ·exact rfl
        ·intro Q hQ
         conv=>whnf
         refine vX agg9 (2 * jj) (show 0+jj * 2+0=2 * jj by omega) (cellsOf_at hlt2).1 ?_
         exact hQ
        ·(intro Q hQ;(conv=>whnf);exact hQ)
        intro _
        repeat(first|(apply xk;(·exact rfl);(·exact rfl);(·intro _ _ hy;(conv=>whnf);exact hy);(·exact rfl);(·intro Q hQ;(conv=>whnf);repeat(first|exact hQ|((first|refine xw (by first|rfl|assumption) ?_|refine xx (by first|rfl|assumption) ?_|refine zy ?_|refine zx ?_|unfold yZ);(conv=>whnf))));(·intro Q hQ;(conv=>whnf);exact hQ))|(apply xX;(·exact rfl);(·exact rfl);(·intro _ _ hy;(conv=>whnf);exact hy);(·exact rfl);(·intro Q hQ;(conv=>whnf);repeat(first|exact hQ|((first|refine xw (by first|rfl|assumption) ?_|refine xx (by first|rfl|assumption) ?_|refine zy ?_|refine zx ?_|unfold yZ);(conv=>whnf))));(·intro Q hQ;(conv=>whnf);exact hQ);intro _)|(apply xY;(·exact rfl);(·exact rfl);(·intro _ _ hy;(conv=>whnf);exact hy);(·intro Q hQ;(conv=>whnf);exact hQ))|refine xZ ?_)
        refine ww ‹_› ?_
        repeat (first
         | refine wY (by first|(simp;done)|(intro c hc;simp at hc;rcases hc with rfl|rfl|rfl <;> exact ⟨rfl,rfl⟩)|(intro c hc;simp at hc;rcases hc with rfl|rfl <;> exact ⟨rfl,rfl⟩)|(intro c hc;simp at hc;rcases hc with rfl;exact ⟨rfl,rfl⟩)) ‹_› (by first|exact vq _|exact vj _ _|exact vy _ _|exact vw _|rfl) (by first|exact .inl rfl|exact .inr rfl) ?_
         | refine wZ (.inl (by first|rfl|kernel_rfl)) (.inr ‹_›) (by first|exact vq _|exact vj _ _|exact vv _ _ _ _ _ _|exact vy _ _|exact vw _|rfl) ?_
         | refine vz ?_)
        conv=>whnf
        repeat(first|((first|refine yw ?_|refine zX ?_|refine yX ?_|refine zk ?_);intro _ _)|refine yz ?_|refine xz ?_|refine yj ‹_› ?_|refine zw ‹_› ?_|refine yx ‹_› ?_|refine yq ‹_› ?_|refine zZ ?_|refine yy ?_|refine yv ?_|refine zq ?_|refine zY (fun Q hQ=>by (conv=>whnf);exact hQ) ?_|refine zj (fun Q hQ=>by (conv=>whnf);exact hQ) ?_|(apply yk;(·intro _ _ hy;(conv=>whnf);exact hy);(·intro Q hQ;(conv=>whnf);repeat(first|exact hQ|((first|refine xw (by first|rfl|assumption) ?_|refine xx (by first|rfl|assumption) ?_|refine zy ?_|refine zx ?_|unfold yZ);(conv=>whnf))));(·intro Q hQ;(conv=>whnf);exact hQ))|(apply yY;(·intro _ _ hy;(conv=>whnf);exact hy);(·intro Q hQ;(conv=>whnf);exact hQ)))
        repeat(first|(apply xk;(·exact rfl);(·exact rfl);(·intro _ _ hy;(conv=>whnf);exact hy);(·exact rfl);(·intro Q hQ;(conv=>whnf);repeat(first|exact hQ|((first|refine xw (by first|rfl|assumption) ?_|refine xx (by first|rfl|assumption) ?_|refine zy ?_|refine zx ?_|unfold yZ);(conv=>whnf))));(·intro Q hQ;(conv=>whnf);exact hQ))|(apply xX;(·exact rfl);(·exact rfl);(·intro _ _ hy;(conv=>whnf);exact hy);(·exact rfl);(·intro Q hQ;(conv=>whnf);repeat(first|exact hQ|((first|refine xw (by first|rfl|assumption) ?_|refine xx (by first|rfl|assumption) ?_|refine zy ?_|refine zx ?_|unfold yZ);(conv=>whnf))));(·intro Q hQ;(conv=>whnf);exact hQ);intro _)|(apply xY;(·exact rfl);(·exact rfl);(·intro _ _ hy;(conv=>whnf);exact hy);(·intro Q hQ;(conv=>whnf);exact hQ))|refine xZ ?_)
        apply xk
        ·exact rfl
        ·exact rfl
        ·(intro _ _ hy;(conv=>whnf);exact hy)
        ·exact rfl
        ·intro Q hQ
         conv=>whnf
         refine ifK_intro (Nat.ble_eq_true_of_le (Nat.le_refl jj)) ?_
         conv=>whnf
         refine ifK_intro (Nat.ble_eq_true_of_le hjjl) ?_
         conv=>whnf
         repeat(first|exact hQ|((first|refine xw (by first|rfl|assumption) ?_|refine xx (by first|rfl|assumption) ?_|refine zy ?_|refine zx ?_);(conv=>whnf)))
        ·(intro Q hQ;(conv=>whnf);exact hQ)
        repeat(first|(apply xk;(·exact rfl);(·exact rfl);(·intro _ _ hy;(conv=>whnf);exact hy);(·exact rfl);(·intro Q hQ;(conv=>whnf);repeat(first|exact hQ|((first|refine xw (by first|rfl|assumption) ?_|refine xx (by first|rfl|assumption) ?_|refine zy ?_|refine zx ?_|unfold yZ);(conv=>whnf))));(·intro Q hQ;(conv=>whnf);exact hQ))|(apply xX;(·exact rfl);(·exact rfl);(·intro _ _ hy;(conv=>whnf);exact hy);(·exact rfl);(·intro Q hQ;(conv=>whnf);repeat(first|exact hQ|((first|refine xw (by first|rfl|assumption) ?_|refine xx (by first|rfl|assumption) ?_|refine zy ?_|refine zx ?_|unfold yZ);(conv=>whnf))));(·intro Q hQ;(conv=>whnf);exact hQ);intro _)|(apply xY;(·exact rfl);(·exact rfl);(·intro _ _ hy;(conv=>whnf);exact hy);(·intro Q hQ;(conv=>whnf);exact hQ))|refine xZ ?_)
        apply xk
        ·exact rfl
        ·exact rfl
        ·(intro _ _ hy;(conv=>whnf);exact hy)
        ·exact rfl
        ·intro Q hQ
         conv=>whnf
         refine wq (jj+1) rfl (by show jj+1 ≤ 9223372036854775807;omega) ?_
         exact hQ
        ·(intro Q hQ;(conv=>whnf);exact hQ)
        apply xk
        ·exact rfl
        ·exact rfl
        ·(intro _ _ hy;(conv=>whnf);exact hy)
        ·exact rfl
        ·intro Q hQ
         conv=>whnf
         refine ifK_intro (Nat.ble_eq_true_of_le hlt2) ?_
         conv=>whnf
         refine ifK_intro (Nat.ble_eq_true_of_le (Nat.le_refl o.length)) ?_
         conv=>whnf
         repeat(first|exact hQ|((first|refine xw (by first|rfl|assumption) ?_|refine xx (by first|rfl|assumption) ?_|refine zy ?_|refine zx ?_);(conv=>whnf)))
        ·(intro Q hQ;(conv=>whnf);exact hQ)
        apply wz
        ·exact rfl
        ·exact rfl
        ·(intro _ _ hy;(conv=>whnf);exact hy)
        ·exact rfl
        ·kernel_rfl
        ·(intro Q hQ;exact hQ)
        intro Q hQ
        conv=>whnf
        refine app_cut rfl hlt2 (by omega) (show 0+(jj+1) * 2=2 * (jj+1) by omega) (fun hA=>?_) (fun hB=>?_)
        ·rw [hQ]
         conv=>whnf
         repeat(first|(apply xk;(·exact rfl);(·exact rfl);(·intro _ _ hy;(conv=>whnf);exact hy);(·exact rfl);(·intro Q hQ;(conv=>whnf);repeat(first|exact hQ|((first|refine xw (by first|rfl|assumption) ?_|refine xx (by first|rfl|assumption) ?_|refine zy ?_|refine zx ?_|unfold yZ);(conv=>whnf))));(·intro Q hQ;(conv=>whnf);exact hQ))|(apply xX;(·exact rfl);(·exact rfl);(·intro _ _ hy;(conv=>whnf);exact hy);(·exact rfl);(·intro Q hQ;(conv=>whnf);repeat(first|exact hQ|((first|refine xw (by first|rfl|assumption) ?_|refine xx (by first|rfl|assumption) ?_|refine zy ?_|refine zx ?_|unfold yZ);(conv=>whnf))));(·intro Q hQ;(conv=>whnf);exact hQ);intro _)|(apply xY;(·exact rfl);(·exact rfl);(·intro _ _ hy;(conv=>whnf);exact hy);(·intro Q hQ;(conv=>whnf);exact hQ))|refine xZ ?_)
         refine ww ‹_› ?_
         refine vz ?_
         refine als_nil ?_
         conv=>whnf
         repeat(first|((first|refine yw ?_|refine zX ?_|refine yX ?_|refine zk ?_);intro _ _)|refine yz ?_|refine xz ?_|refine yj ‹_› ?_|refine zw ‹_› ?_|refine yx ‹_› ?_|refine yq ‹_› ?_|refine zZ ?_|refine yy ?_|refine yv ?_|refine zq ?_|refine zY (fun Q hQ=>by (conv=>whnf);exact hQ) ?_|refine zj (fun Q hQ=>by (conv=>whnf);exact hQ) ?_|(apply yk;(·intro _ _ hy;(conv=>whnf);exact hy);(·intro Q hQ;(conv=>whnf);repeat(first|exact hQ|((first|refine xw (by first|rfl|assumption) ?_|refine xx (by first|rfl|assumption) ?_|refine zy ?_|refine zx ?_|unfold yZ);(conv=>whnf))));(·intro Q hQ;(conv=>whnf);exact hQ))|(apply yY;(·intro _ _ hy;(conv=>whnf);exact hy);(·intro Q hQ;(conv=>whnf);exact hQ)))
         conv=>whnf
         repeat(first|((first|refine yw ?_|refine zX ?_|refine yX ?_|refine zk ?_);intro _ _)|refine yz ?_|refine xz ?_|refine yj ‹_› ?_|refine zw ‹_› ?_|refine yx ‹_› ?_|refine yq ‹_› ?_|refine zZ ?_|refine yy ?_|refine yv ?_|refine zq ?_|refine zY (fun Q hQ=>by (conv=>whnf);exact hQ) ?_|refine zj (fun Q hQ=>by (conv=>whnf);exact hQ) ?_|(apply yk;(·intro _ _ hy;(conv=>whnf);exact hy);(·intro Q hQ;(conv=>whnf);repeat(first|exact hQ|((first|refine xw (by first|rfl|assumption) ?_|refine xx (by first|rfl|assumption) ?_|refine zy ?_|refine zx ?_|unfold yZ);(conv=>whnf))));(·intro Q hQ;(conv=>whnf);exact hQ))|(apply yY;(·intro _ _ hy;(conv=>whnf);exact hy);(·intro Q hQ;(conv=>whnf);exact hQ)))
         apply xq
         ·(intro _ _ hy;(conv=>whnf);exact hy)
         intro Q hQ
         conv=>whnf
         refine app_labx (q:=labS s[j]) (o:=o) rfl rfl hjjl (by omega) ?_
         conv=>whnf
         rw [hQ]
         conv=>whnf
         repeat(first|((first|refine yw ?_|refine zX ?_|refine yX ?_|refine zk ?_);intro _ _)|refine yz ?_|refine xz ?_|refine yj ‹_› ?_|refine zw ‹_› ?_|refine yx ‹_› ?_|refine yq ‹_› ?_|refine zZ ?_|refine yy ?_|refine yv ?_|refine zq ?_|refine zY (fun Q hQ=>by (conv=>whnf);exact hQ) ?_|refine zj (fun Q hQ=>by (conv=>whnf);exact hQ) ?_|(apply yk;(·intro _ _ hy;(conv=>whnf);exact hy);(·intro Q hQ;(conv=>whnf);repeat(first|exact hQ|((first|refine xw (by first|rfl|assumption) ?_|refine xx (by first|rfl|assumption) ?_|refine zy ?_|refine zx ?_|unfold yZ);(conv=>whnf))));(·intro Q hQ;(conv=>whnf);exact hQ))|(apply yY;(·intro _ _ hy;(conv=>whnf);exact hy);(·intro Q hQ;(conv=>whnf);exact hQ)))
         apply yk
         ·(intro _ _ hy;(conv=>whnf);exact hy)
         ·intro Q hQ
          conv=>whnf
          refine wq (j+1) rfl (by show j+1 ≤ 9223372036854775807;omega) ?_
          exact hQ
         ·(intro Q hQ;(conv=>whnf);exact hQ)
         repeat(first|((first|refine yw ?_|refine zX ?_|refine yX ?_|refine zk ?_);intro _ _)|refine yz ?_|refine xz ?_|refine yj ‹_› ?_|refine zw ‹_› ?_|refine yx ‹_› ?_|refine yq ‹_› ?_|refine zZ ?_|refine yy ?_|refine yv ?_|refine zq ?_|refine zY (fun Q hQ=>by (conv=>whnf);exact hQ) ?_|refine zj (fun Q hQ=>by (conv=>whnf);exact hQ) ?_|(apply yk;(·intro _ _ hy;(conv=>whnf);exact hy);(·intro Q hQ;(conv=>whnf);repeat(first|exact hQ|((first|refine xw (by first|rfl|assumption) ?_|refine xx (by first|rfl|assumption) ?_|refine zy ?_|refine zx ?_|unfold yZ);(conv=>whnf))));(·intro Q hQ;(conv=>whnf);exact hQ))|(apply yY;(·intro _ _ hy;(conv=>whnf);exact hy);(·intro Q hQ;(conv=>whnf);exact hQ)))
         have hn:(s.take (j+1)).foldl madeS []=o.take jj ++ [labS s[j]]:=by
          rw [List.take_succ_eq_append_getElem hls,List.foldl_append,hout]
          show madeS o s[j]=_;unfold madeS;rw [dropN_at hlt2 hno hq,List.drop_eq_nil_of_le (by omega),List.append_nil]
         have hov:outV (o.take jj ++ [labS s[j]]) (ngl+1)=.slice (ngl+1) 0 (jj+1) (jj+1) 2 false:=by
          rw [outV_ne (by simp)]
          rw [List.length_append,List.length_take,Nat.min_eq_left hjjl];rfl
         refine ⟨[ngl+38],mkS [(ngl,.cells (smallV s) e .ro),(ngl+1,.cells (cellsOf (o.take jj ++ [labS s[j]])) 40 .rw)] (ngl+2),⟨rfl,nodup1 _,fun g hg=>by rw [List.mem_singleton] at hg;subst hg;exact Nat.le_of_ble_eq_true rfl,?_⟩,rfl,ih _ _ hlt ⟨by omega,by rw [hn];exact (outM_ne (by simp)).symm,⟨rfl,zz rfl,zz rfl,by rw [hn,hov];rfl,zz rfl,zz rfl,zz rfl,zz rfl,zz rfl,zz rfl,zz rfl,zz rfl,rfl,rfl,rfl,zz rfl,zz rfl,zz rfl,zz rfl,zz rfl,zz rfl,zz rfl,zz rfl,zz rfl,zz rfl,zz rfl,zz rfl,zz rfl,zz rfl,zz rfl,zz rfl,zz rfl,zz rfl,zz rfl,zz rfl,zz rfl,zz rfl,zz rfl,zz rfl,zz rfl,zz rfl,zz rfl,zz rfl,zz rfl,zz rfl,zz rfl,zz rfl,zz rfl,zz rfl,zz rfl,zz rfl,zz rfl,zz rfl,zz rfl,zz rfl,zz rfl,zz rfl,zz rfl,zz rfl,zz rfl,trivial⟩⟩⟩
         repeat' (first
          | exact trivial
          | exact ⟨_,_,.inl ⟨Nat.le_of_ble_eq_true rfl,rfl⟩,rfl,.cells (smallV_vis _) (.inl rfl)⟩
          | exact ⟨_,_,.inr ⟨Nat.le_of_ble_eq_true rfl,Nat.le_of_ble_eq_true rfl,rfl⟩,rfl,.cells (wv _) (.inl rfl)⟩
          | apply And.intro)
        ·conv=>whnf
         rw [hQ]
         conv=>whnf
         repeat(first|(apply xk;(·exact rfl);(·exact rfl);(·intro _ _ hy;(conv=>whnf);exact hy);(·exact rfl);(·intro Q hQ;(conv=>whnf);repeat(first|exact hQ|((first|refine xw (by first|rfl|assumption) ?_|refine xx (by first|rfl|assumption) ?_|refine zy ?_|refine zx ?_|unfold yZ);(conv=>whnf))));(·intro Q hQ;(conv=>whnf);exact hQ))|(apply xX;(·exact rfl);(·exact rfl);(·intro _ _ hy;(conv=>whnf);exact hy);(·exact rfl);(·intro Q hQ;(conv=>whnf);repeat(first|exact hQ|((first|refine xw (by first|rfl|assumption) ?_|refine xx (by first|rfl|assumption) ?_|refine zy ?_|refine zx ?_|unfold yZ);(conv=>whnf))));(·intro Q hQ;(conv=>whnf);exact hQ);intro _)|(apply xY;(·exact rfl);(·exact rfl);(·intro _ _ hy;(conv=>whnf);exact hy);(·intro Q hQ;(conv=>whnf);exact hQ))|refine xZ ?_)
         refine ww ‹_› ?_
         refine vz ?_
         refine als_nil ?_
         conv=>whnf
         repeat(first|((first|refine yw ?_|refine zX ?_|refine yX ?_|refine zk ?_);intro _ _)|refine yz ?_|refine xz ?_|refine yj ‹_› ?_|refine zw ‹_› ?_|refine yx ‹_› ?_|refine yq ‹_› ?_|refine zZ ?_|refine yy ?_|refine yv ?_|refine zq ?_|refine zY (fun Q hQ=>by (conv=>whnf);exact hQ) ?_|refine zj (fun Q hQ=>by (conv=>whnf);exact hQ) ?_|(apply yk;(·intro _ _ hy;(conv=>whnf);exact hy);(·intro Q hQ;(conv=>whnf);repeat(first|exact hQ|((first|refine xw (by first|rfl|assumption) ?_|refine xx (by first|rfl|assumption) ?_|refine zy ?_|refine zx ?_|unfold yZ);(conv=>whnf))));(·intro Q hQ;(conv=>whnf);exact hQ))|(apply yY;(·intro _ _ hy;(conv=>whnf);exact hy);(·intro Q hQ;(conv=>whnf);exact hQ)))
         conv=>whnf
         repeat(first|((first|refine yw ?_|refine zX ?_|refine yX ?_|refine zk ?_);intro _ _)|refine yz ?_|refine xz ?_|refine yj ‹_› ?_|refine zw ‹_› ?_|refine yx ‹_› ?_|refine yq ‹_› ?_|refine zZ ?_|refine yy ?_|refine yv ?_|refine zq ?_|refine zY (fun Q hQ=>by (conv=>whnf);exact hQ) ?_|refine zj (fun Q hQ=>by (conv=>whnf);exact hQ) ?_|(apply yk;(·intro _ _ hy;(conv=>whnf);exact hy);(·intro Q hQ;(conv=>whnf);repeat(first|exact hQ|((first|refine xw (by first|rfl|assumption) ?_|refine xx (by first|rfl|assumption) ?_|refine zy ?_|refine zx ?_|unfold yZ);(conv=>whnf))));(·intro Q hQ;(conv=>whnf);exact hQ))|(apply yY;(·intro _ _ hy;(conv=>whnf);exact hy);(·intro Q hQ;(conv=>whnf);exact hQ)))
         have hlo:(o.take jj ++ o.drop (jj+1)).length < 4096:=by simp;omega
         apply xq
         ·(intro _ _ hy;(conv=>whnf);exact hy)
         intro Q hQ
         conv=>whnf
         refine app_lab27 (q:=labS s[j]) (o:=o.take jj ++ o.drop (jj+1)) rfl rfl hlo ?_
         conv=>whnf
         rw [hQ]
         conv=>whnf
         repeat(first|((first|refine yw ?_|refine zX ?_|refine yX ?_|refine zk ?_);intro _ _)|refine yz ?_|refine xz ?_|refine yj ‹_› ?_|refine zw ‹_› ?_|refine yx ‹_› ?_|refine yq ‹_› ?_|refine zZ ?_|refine yy ?_|refine yv ?_|refine zq ?_|refine zY (fun Q hQ=>by (conv=>whnf);exact hQ) ?_|refine zj (fun Q hQ=>by (conv=>whnf);exact hQ) ?_|(apply yk;(·intro _ _ hy;(conv=>whnf);exact hy);(·intro Q hQ;(conv=>whnf);repeat(first|exact hQ|((first|refine xw (by first|rfl|assumption) ?_|refine xx (by first|rfl|assumption) ?_|refine zy ?_|refine zx ?_|unfold yZ);(conv=>whnf))));(·intro Q hQ;(conv=>whnf);exact hQ))|(apply yY;(·intro _ _ hy;(conv=>whnf);exact hy);(·intro Q hQ;(conv=>whnf);exact hQ)))
         apply yk
         ·(intro _ _ hy;(conv=>whnf);exact hy)
         ·intro Q hQ
          conv=>whnf
          refine wq (j+1) rfl (by show j+1 ≤ 9223372036854775807;omega) ?_
          exact hQ
         ·(intro Q hQ;(conv=>whnf);exact hQ)
         repeat(first|((first|refine yw ?_|refine zX ?_|refine yX ?_|refine zk ?_);intro _ _)|refine yz ?_|refine xz ?_|refine yj ‹_› ?_|refine zw ‹_› ?_|refine yx ‹_› ?_|refine yq ‹_› ?_|refine zZ ?_|refine yy ?_|refine yv ?_|refine zq ?_|refine zY (fun Q hQ=>by (conv=>whnf);exact hQ) ?_|refine zj (fun Q hQ=>by (conv=>whnf);exact hQ) ?_|(apply yk;(·intro _ _ hy;(conv=>whnf);exact hy);(·intro Q hQ;(conv=>whnf);repeat(first|exact hQ|((first|refine xw (by first|rfl|assumption) ?_|refine xx (by first|rfl|assumption) ?_|refine zy ?_|refine zx ?_|unfold yZ);(conv=>whnf))));(·intro Q hQ;(conv=>whnf);exact hQ))|(apply yY;(·intro _ _ hy;(conv=>whnf);exact hy);(·intro Q hQ;(conv=>whnf);exact hQ)))
         have hn:(s.take (j+1)).foldl madeS []=o.take jj ++ o.drop (jj+1) ++ [labS s[j]]:=by
          rw [List.take_succ_eq_append_getElem hls,List.foldl_append,hout]
          show madeS o s[j]=_;unfold madeS;rw [dropN_at hlt2 hno hq]
         have hov:outV (o.take jj ++ o.drop (jj+1) ++ [labS s[j]]) (ngl+1)=.slice (ngl+1) 0 ((o.take jj ++ o.drop (jj+1)).length+1) ((o.take jj ++ o.drop (jj+1)).length+1) 2 false:=by
          rw [outV_ne (by simp)]
          rw [List.length_append];rfl
         refine ⟨[ngl+39],mkS [(ngl,.cells (smallV s) e .ro),(ngl+1,.cells (cellsOf (o.take jj ++ o.drop (jj+1) ++ [labS s[j]])) 40 .rw)] (ngl+2),⟨rfl,nodup1 _,fun g hg=>by rw [List.mem_singleton] at hg;subst hg;exact Nat.le_of_ble_eq_true rfl,?_⟩,rfl,ih _ _ hlt ⟨by omega,by rw [hn];exact (outM_ne (by simp)).symm,⟨rfl,zz rfl,zz rfl,by rw [hn,hov];rfl,zz rfl,zz rfl,zz rfl,zz rfl,zz rfl,zz rfl,zz rfl,zz rfl,rfl,rfl,rfl,zz rfl,zz rfl,zz rfl,zz rfl,zz rfl,zz rfl,zz rfl,zz rfl,zz rfl,zz rfl,zz rfl,zz rfl,zz rfl,zz rfl,zz rfl,zz rfl,zz rfl,zz rfl,zz rfl,zz rfl,zz rfl,zz rfl,zz rfl,zz rfl,zz rfl,zz rfl,zz rfl,zz rfl,zz rfl,zz rfl,zz rfl,zz rfl,zz rfl,zz rfl,zz rfl,zz rfl,zz rfl,zz rfl,zz rfl,zz rfl,zz rfl,zz rfl,zz rfl,zz rfl,zz rfl,trivial⟩⟩⟩
         repeat' (first
          | exact trivial
          | exact ⟨_,_,.inl ⟨Nat.le_of_ble_eq_true rfl,rfl⟩,rfl,.cells (smallV_vis _) (.inl rfl)⟩
          | exact ⟨_,_,.inr ⟨Nat.le_of_ble_eq_true rfl,Nat.le_of_ble_eq_true rfl,rfl⟩,rfl,.cells (wv _) (.inl rfl)⟩
          | apply And.intro)
       ·have heq:eqS o[jj].1 (names04.getD (s[j].1 % 16) [])=false:=by rw [eqS_eq];simpa [labS] using hq
        repeat(first|((first|refine yw ?_|refine zX ?_|refine yX ?_|refine zk ?_);intro _ _)|refine yz ?_|refine xz ?_|refine yj ‹_› ?_|refine zw ‹_› ?_|refine yx ‹_› ?_|refine yq ‹_› ?_|refine zZ ?_|refine yy ?_|refine yv ?_|refine zq ?_|refine zY (fun Q hQ=>by (conv=>whnf);exact hQ) ?_|refine zj (fun Q hQ=>by (conv=>whnf);exact hQ) ?_|(apply yk;(·intro _ _ hy;(conv=>whnf);exact hy);(·intro Q hQ;(conv=>whnf);repeat(first|exact hQ|((first|refine xw (by first|rfl|assumption) ?_|refine xx (by first|rfl|assumption) ?_|refine zy ?_|refine zx ?_|unfold yZ);(conv=>whnf))));(·intro Q hQ;(conv=>whnf);exact hQ))|(apply yY;(·intro _ _ hy;(conv=>whnf);exact hy);(·intro Q hQ;(conv=>whnf);exact hQ)))
        repeat(first|(apply xk;(·exact rfl);(·exact rfl);(·intro _ _ hy;(conv=>whnf);exact hy);(·exact rfl);(·intro Q hQ;(conv=>whnf);repeat(first|exact hQ|((first|refine xw (by first|rfl|assumption) ?_|refine xx (by first|rfl|assumption) ?_|refine zy ?_|refine zx ?_|unfold yZ);(conv=>whnf))));(·intro Q hQ;(conv=>whnf);exact hQ))|(apply xX;(·exact rfl);(·exact rfl);(·intro _ _ hy;(conv=>whnf);exact hy);(·exact rfl);(·intro Q hQ;(conv=>whnf);repeat(first|exact hQ|((first|refine xw (by first|rfl|assumption) ?_|refine xx (by first|rfl|assumption) ?_|refine zy ?_|refine zx ?_|unfold yZ);(conv=>whnf))));(·intro Q hQ;(conv=>whnf);exact hQ);intro _)|(apply xY;(·exact rfl);(·exact rfl);(·intro _ _ hy;(conv=>whnf);exact hy);(·intro Q hQ;(conv=>whnf);exact hQ))|refine xZ ?_)
        apply xk
        ·exact rfl
        ·exact rfl
        ·(intro _ _ hy;(conv=>whnf);exact hy)
        ·exact rfl
        ·intro Q hQ
         conv=>whnf
         refine bcase (fun _=>?_) (fun h=>absurd (h.symm.trans hblt2) (by simp))
         conv=>whnf
         repeat(first|exact hQ|((first|refine xw (by first|rfl|assumption) ?_|refine xx (by first|rfl|assumption) ?_|refine zy ?_|refine zx ?_);(conv=>whnf)))
        ·(intro Q hQ;(conv=>whnf);exact hQ)
        repeat(first|(apply xk;(·exact rfl);(·exact rfl);(·intro _ _ hy;(conv=>whnf);exact hy);(·exact rfl);(·intro Q hQ;(conv=>whnf);repeat(first|exact hQ|((first|refine xw (by first|rfl|assumption) ?_|refine xx (by first|rfl|assumption) ?_|refine zy ?_|refine zx ?_|unfold yZ);(conv=>whnf))));(·intro Q hQ;(conv=>whnf);exact hQ))|(apply xX;(·exact rfl);(·exact rfl);(·intro _ _ hy;(conv=>whnf);exact hy);(·exact rfl);(·intro Q hQ;(conv=>whnf);repeat(first|exact hQ|((first|refine xw (by first|rfl|assumption) ?_|refine xx (by first|rfl|assumption) ?_|refine zy ?_|refine zx ?_|unfold yZ);(conv=>whnf))));(·intro Q hQ;(conv=>whnf);exact hQ);intro _)|(apply xY;(·exact rfl);(·exact rfl);(·intro _ _ hy;(conv=>whnf);exact hy);(·intro Q hQ;(conv=>whnf);exact hQ))|refine xZ ?_)
        apply xX
        ·exact rfl
        ·exact rfl
        ·(intro _ _ hy;(conv=>whnf);exact hy)
        ·exact rfl
        ·intro Q hQ
         conv=>whnf
         refine vX agg9 (2 * jj) (show 0+jj * 2+0=2 * jj by omega) (cellsOf_at hlt2).1 ?_
         exact hQ
        ·(intro Q hQ;(conv=>whnf);exact hQ)
        intro _
        repeat(first|(apply xk;(·exact rfl);(·exact rfl);(·intro _ _ hy;(conv=>whnf);exact hy);(·exact rfl);(·intro Q hQ;(conv=>whnf);repeat(first|exact hQ|((first|refine xw (by first|rfl|assumption) ?_|refine xx (by first|rfl|assumption) ?_|refine zy ?_|refine zx ?_|unfold yZ);(conv=>whnf))));(·intro Q hQ;(conv=>whnf);exact hQ))|(apply xX;(·exact rfl);(·exact rfl);(·intro _ _ hy;(conv=>whnf);exact hy);(·exact rfl);(·intro Q hQ;(conv=>whnf);repeat(first|exact hQ|((first|refine xw (by first|rfl|assumption) ?_|refine xx (by first|rfl|assumption) ?_|refine zy ?_|refine zx ?_|unfold yZ);(conv=>whnf))));(·intro Q hQ;(conv=>whnf);exact hQ);intro _)|(apply xY;(·exact rfl);(·exact rfl);(·intro _ _ hy;(conv=>whnf);exact hy);(·intro Q hQ;(conv=>whnf);exact hQ))|refine xZ ?_)
        refine ww ‹_› ?_
        repeat (first
         | refine wY (by first|(simp;done)|(intro c hc;simp at hc;rcases hc with rfl|rfl|rfl <;> exact ⟨rfl,rfl⟩)|(intro c hc;simp at hc;rcases hc with rfl|rfl <;> exact ⟨rfl,rfl⟩)|(intro c hc;simp at hc;rcases hc with rfl;exact ⟨rfl,rfl⟩)) ‹_› (by first|exact vq _|exact vj _ _|exact vy _ _|exact vw _|rfl) (by first|exact .inl rfl|exact .inr rfl) ?_
         | refine wZ (.inl (by first|rfl|kernel_rfl)) (.inr ‹_›) (by first|exact vq _|exact vj _ _|exact vv _ _ _ _ _ _|exact vy _ _|exact vw _|rfl) ?_
         | refine vz ?_)
        conv=>whnf
        repeat(first|((first|refine yw ?_|refine zX ?_|refine yX ?_|refine zk ?_);intro _ _)|refine yz ?_|refine xz ?_|refine yj ‹_› ?_|refine zw ‹_› ?_|refine yx ‹_› ?_|refine yq ‹_› ?_|refine zZ ?_|refine yy ?_|refine yv ?_|refine zq ?_|refine zY (fun Q hQ=>by (conv=>whnf);exact hQ) ?_|refine zj (fun Q hQ=>by (conv=>whnf);exact hQ) ?_|(apply yk;(·intro _ _ hy;(conv=>whnf);exact hy);(·intro Q hQ;(conv=>whnf);repeat(first|exact hQ|((first|refine xw (by first|rfl|assumption) ?_|refine xx (by first|rfl|assumption) ?_|refine zy ?_|refine zx ?_|unfold yZ);(conv=>whnf))));(·intro Q hQ;(conv=>whnf);exact hQ))|(apply yY;(·intro _ _ hy;(conv=>whnf);exact hy);(·intro Q hQ;(conv=>whnf);exact hQ)))
        apply yk
        ·(intro _ _ hy;(conv=>whnf);exact hy)
        ·intro Q hQ
         conv=>whnf
         refine wq (jj+1) rfl (by show jj+1 ≤ 9223372036854775807;omega) ?_
         exact hQ
        ·(intro Q hQ;(conv=>whnf);exact hQ)
        repeat(first|((first|refine yw ?_|refine zX ?_|refine yX ?_|refine zk ?_);intro _ _)|refine yz ?_|refine xz ?_|refine yj ‹_› ?_|refine zw ‹_› ?_|refine yx ‹_› ?_|refine yq ‹_› ?_|refine zZ ?_|refine yy ?_|refine yv ?_|refine zq ?_|refine zY (fun Q hQ=>by (conv=>whnf);exact hQ) ?_|refine zj (fun Q hQ=>by (conv=>whnf);exact hQ) ?_|(apply yk;(·intro _ _ hy;(conv=>whnf);exact hy);(·intro Q hQ;(conv=>whnf);repeat(first|exact hQ|((first|refine xw (by first|rfl|assumption) ?_|refine xx (by first|rfl|assumption) ?_|refine zy ?_|refine zx ?_|unfold yZ);(conv=>whnf))));(·intro Q hQ;(conv=>whnf);exact hQ))|(apply yY;(·intro _ _ hy;(conv=>whnf);exact hy);(·intro Q hQ;(conv=>whnf);exact hQ)))
        conv=>whnf
        refine ⟨_,⟨Nat.le_of_ble_eq_true (by kernel_rfl),?_⟩,rfl,ih2 _ hlt2 ⟨by omega,?_,?_⟩⟩
        ·
         repeat' (first
          | exact trivial
          | exact Nat.le_of_ble_eq_true (by kernel_rfl)
          | exact ⟨_,rfl,.cells (wv _) (.inl rfl)⟩
          | exact ⟨_,rfl,.cells (smallV_vis _) (.inl rfl)⟩
          | exact ⟨_,rfl,.cells (strsV_vis _) (.inl rfl)⟩
          | exact ⟨_,rfl,.cells (strsV_vis vals04) (.inl rfl)⟩
          | exact ⟨_,rfl,.cells (.cons (.int _ _) (.cons (.int _ _) .nil)) (.inl rfl)⟩
          | exact ⟨_,rfl,.cells (.cons (.str _) (.cons (.str _) .nil)) (.inl rfl)⟩
          | apply And.intro)
        ·intro x hx
         rw [List.take_succ_eq_append_getElem hlt2] at hx
         rcases List.mem_append.1 hx with hx|hx
         ·exact hno x hx
         ·rw [List.mem_singleton] at hx;subst hx;exact hq
        ·exact ⟨rfl,zz rfl,zz rfl,rfl,zz rfl,zz rfl,rfl,zz rfl,zz rfl,zz rfl,zz rfl,zz rfl,rfl,rfl,rfl,zz rfl,zz rfl,zz rfl,zz rfl,zz rfl,zz rfl,zz rfl,zz rfl,zz rfl,zz rfl,zz rfl,zz rfl,zz rfl,zz rfl,zz rfl,zz rfl,zz rfl,rfl,rfl,zz rfl,zz rfl,zz rfl,zz rfl,zz rfl,zz rfl,zz rfl,zz rfl,zz rfl,zz rfl,zz rfl,zz rfl,zz rfl,zz rfl,zz rfl,zz rfl,zz rfl,zz rfl,zz rfl,zz rfl,zz rfl,zz rfl,zz rfl,zz rfl,zz rfl,zz rfl,trivial⟩

end Go.Am
