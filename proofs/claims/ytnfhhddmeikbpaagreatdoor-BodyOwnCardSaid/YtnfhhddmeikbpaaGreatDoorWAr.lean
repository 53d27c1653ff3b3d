/- Part 18 of the proof that BodyOwn returns true, and leaves its arguments as they were, for every input, over a start where the listed variables hold what the program lays: the statement Rows.BodyOwnCardSaid. -/
import Derived.Test.YtnfhhddmeikbpaaGreatDoorWAn
import Derived.Test.YtnfhhddmeikbpaaGreatDoorWAo
import Derived.Test.YtnfhhddmeikbpaaGreatDoorWAq
set_option linter.unusedVariables false
set_option linter.unusedSimpArgs false
/- awake() in any heap that holds what it reads. -/
namespace Go.Am
open Go.Proofs
set_option maxRecDepth 100000
theorem runs_ok (n:Nat):CallOk Tryz.prog (runsN n).call:=(evAllH_ok xts_ok (oneHook_ok labels_ok) (fun _ _ hc hd=>evDraw_ok mixed hc hd) n).1
theorem isT_eq {v:V} (h:isT v):v=.bool true:=by
 unfold isT at h
 split at h
 ·rfl
 ·exact h.elim
theorem putAll_get:∀ {l:List (Nat × O)} {H:Hs} {i:Nat} {o:O},(putAll l H).get i=some o→(i,o) ∈ l ∨ H.get i=some o
 | [],H,i,o,h=>.inr h
 | q :: l,H,i,o,h=>by
   rcases putAll_get (l:=l) (show (putAll l (H.put q.1 (some q.2))).get i=some o from h) with h1|h1
   ·exact .inl (List.mem_cons_of_mem _ h1)
   ·have h2:(if i=q.1 then some q.2 else H.get i)=some o:=h1
    by_cases e:i=q.1
    ·rw [if_pos e] at h2
     have:o=q.2:=(Option.some.inj h2).symm
     subst this;subst e
     exact .inl (by simp)
    ·rw [if_neg e] at h2;exact .inr h2
/-- Values without numbers. -/
def plainV (v:V):Bool:=match v with|.bool _=>true|.int _ _=>true|_=>false
def plainQ (q:Nat × O):Bool:=match q.2 with|.cells cs _ .ro=>cs.all plainV && Nat.blt q.1 1100|_=>false
theorem plainV_vi {R:Nat→Nat→Prop} {v:V} (h:plainV v=true):VI R v v:=by
 cases v <;> first|exact .bool _|exact .int _ _|cases h
theorem plainV_vis {R:Nat→Nat→Prop}:∀ {l:List V},l.all plainV=true→VIs R l l
 | [],_=>.nil
 | v :: l,h=>by
   simp at h
   exact .cons (plainV_vi h.1) (plainV_vis (by simpa using h.2))
theorem start_plain (e:Nat→TypeId):(startObjs e).all plainQ=true:=by kernel_rfl
theorem awake_rc (e:Nat→TypeId) {S:St} {k:V→St→Prop} (hS:∀ q ∈ startObjs e,S.hs.get q.1=some q.2) (hk:k (.bool true) S):RC Tryz.prog 4 [] S k:=by
 obtain ⟨S1,h2,h3⟩:=buildK_spec (of_eq_true (awake_eq e))
 obtain ⟨v,S',h4,h5⟩:=runs_ok 1000 _ _ _ _ h2
 have hv:=isT_eq h4
 subst hv
 have hmem:∀ i o,S1.hs.get i=some o→(i,o) ∈ startObjs e:=fun i o h=>by
  rw [h3] at h
  rcases putAll_get h with h|h
  ·exact h
  ·exact absurd h (by show ¬ T.get deep i .nil=some o;rw [T_get_nil];simp)
 have hnx:S1.hs.next=1100:=by rw [h3,putAll_next];rfl
 refine .mk (.bool true) S (h5.frame (fun _=>true) (fun i=>i) (fun i=>i) (by rw [hnx];decide) (fun i _=>rfl) (fun i i' _ _ h _=>by cases h) (fun i o h=>?_) .nil (.bool _) (Nat.le_refl _) (fun j j' h1 h2 _ _ _=>by omega)
  (fun j o h=>.inr ⟨h,fun i _ _ h=>by cases h⟩)) hk
 have hq:=hmem i o h
 have hp:=List.all_eq_true.1 (start_plain e) _ hq
 unfold plainQ at hp
 split at hp
 ·rename_i cs t ho
  simp only [Bool.and_eq_true] at hp
  have ho':o=.cells cs t .ro:=ho
  subst ho'
  have hi:i < 1100:=Nat.le_of_ble_eq_true hp.2
  exact ⟨by rw [hnx];exact hi,fun _=>rfl,_,hS _ hq,.cells (plainV_vis hp.1) (.inl rfl)⟩
 ·cases hp
end Go.Am
