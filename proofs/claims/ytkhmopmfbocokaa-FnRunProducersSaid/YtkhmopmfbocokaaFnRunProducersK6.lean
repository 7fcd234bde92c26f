/- FnRunProducers, part 7 of 7: merged by wip/tools/pack2.py out of the texts that the row reaches; the pure statement is the session's own. -/
import Derived.Test.YtkhmopmfbocokaaRows
import Derived.WalkKit
import Derived.ProofKit
import Derived.OpenShut
import Derived.ShutString
import Derived.ChangeOld
import Derived.Below
import Derived.SizedLaws
import Derived.Test.YtkhmopmfbocokaaFnRunProducersK5
open List (setIfInBounds_toArray set_cons_zero set_cons_succ map_toArray map_cons map_nil length_drop length_take)
namespace Go.Proofs.Ytkhmopmfbocokaa.Q
open Go.RowKit Go.Proofs.Ytkhmopmfbocokaa.T Go.Proofs.YtkhmopmfbocokaaW.PrintWords Go.Proofs.YtkhmopmfbocokaaW.PrintLast
set_option linter.unusedVariables false
set_option linter.unusedSimpArgs false
theorem VP_mem {l:List Pr} (h:VP l):∀ t ∈ l,okP t:=((VP_iff l).1 h).2.1
theorem VP_sorted {l:List Pr} (h:VP l):l.Pairwise ltP:=((VP_iff l).1 h).2.2
theorem VP_ids {l:List Pr} (h:VP l):idsOk l=true:=by
 unfold idsOk
 rw [List.all_eq_true]
 intro t ht
 have:=(VP_mem h t ht).1
 simp
 omega
theorem VB_prod {a1:Bool} {a2 a3 a4:Int} {rs:List Rc} (h:VB a1 a2 a3 a4 rs) : 0 ≤ a2∧a2 ≤ 255:=by
 have:=h.1
 split at this
 ·omega
 ·omega
theorem prodOk_of {l:List Pr} (h:VP l) {a1:Bool} {a2 a3 a4:Int} {rs:List Rc} (hb:VB a1 a2 a3 a4 rs):prodOk l a2=true:=by
 have:=VB_prod hb
 unfold prodOk
 rw [VP_ids h]
 simp
 omega
def slotOf (t:Pr):SlotV:=⟨true,t.f0,t.f1,t.f2⟩
theorem fold_not:∀ (l:List Pr) (f:Nat→SlotV) (i:Nat),(∀ t ∈ l,t.f0.toNat ≠ i)→l.foldl slotPut f i=f i
 | [],f,i,h=>rfl
 | a :: l,f,i,h=>by
  rw [List.foldl_cons,fold_not l (slotPut f a) i (fun t ht=>h t (List.mem_cons_of_mem _ ht))]
  unfold slotPut
  rw [if_neg (fun e=>h a List.mem_cons_self e.symm)]
theorem fold_mem:∀ (l:List Pr) (f:Nat→SlotV),l.Pairwise ltP→(∀ t ∈ l,0 ≤ t.f0)→∀ t ∈ l,l.foldl slotPut f t.f0.toNat=slotOf t
 | [],f,hs,h0,t,ht=>by cases ht
 | a :: l,f,hs,h0,t,ht=>by
  rw [List.foldl_cons]
  rw [List.pairwise_cons] at hs
  rcases List.mem_cons.1 ht with rfl|ht
  ·rw [fold_not l _ _ (fun s hs'=>by
    have h1:=hs.1 s hs'
    have h2:=h0 s (List.mem_cons_of_mem _ hs')
    have h3:=h0 t List.mem_cons_self
    unfold ltP at h1
    omega)]
   unfold slotPut slotOf
   rw [if_pos rfl]
  ·exact fold_mem l _ hs.2 (fun s hs'=>h0 s (List.mem_cons_of_mem _ hs')) t ht
theorem slotFn_mem {l:List Pr} (h:VP l) (t:Pr) (ht:t ∈ l):slotFn l t.f0.toNat=slotOf t:=fold_mem l _ (VP_sorted h) (fun s hs=>(VP_mem h s hs).1.1) t ht
theorem slotFn_not {l:List Pr} (h:VP l) (i:Nat) (hi:∀ t ∈ l,t.f0 ≠ (i:Int)):slotFn l i=slot0:=by
 unfold slotFn
 rw [fold_not l _ i (fun t ht e=>hi t ht (by have:=(VP_mem h t ht).1.1;omega))]
def findP (l:List Pr) (p:Int):Option Pr:=l.find? (fun t=>t.f0 == p)
theorem findP_some {l:List Pr} {p:Int} {t:Pr} (h:findP l p=some t):t ∈ l∧t.f0=p:=by
 unfold findP at h
 exact ⟨List.mem_of_find?_eq_some h,by have:=List.find?_some h;simpa using this⟩
theorem findP_none {l:List Pr} {p:Int} (h:findP l p=none):∀ t ∈ l,t.f0 ≠ p:=by
 intro t ht
 have:=List.find?_eq_none.1 h t ht
 simpa using this
def codeP (l:List Pr) (p e s:Int):Int:=
 if p=255 then 4 else match findP l p with
  | some t=>if t.f1 > e then 3 else if t.f1=e then seqCode s t.f2 else seqCode s 0
  | none=>seqCode s 0
theorem codeAt_eq {l:List Pr} (h:VP l) (p e s:Int) (h0 : 0 ≤ p):codeAt (slotFn l) p e s=codeP l p e s:=by
 unfold codeAt codeP
 by_cases hp:p=255
 ·rw [if_pos hp,if_pos hp]
 ·rw [if_neg hp,if_neg hp]
  cases hf:findP l p with
  | none=>
   rw [slotFn_not h p.toNat (fun t ht=>by have:=findP_none hf t ht;omega)]
   rfl
  | some t=>
   obtain ⟨h1,h2⟩:=findP_some hf
   subst h2
   rw [slotFn_mem h t h1]
   rfl
theorem codeP_ne5 (l:List Pr) (p e s:Int):codeP l p e s ≠ 5:=by
 unfold codeP seqCode
 split
 ·omega
 ·split <;> repeat' (split <;> try omega)
noncomputable def pcode (l:List Pr) (a1:Bool) (a2 a3 a4:Int) (rs:List Rc):Int:=if vp l=true then (if vb a1 a2 a3 a4 rs=true then codeP l a2 a3 a4 else 5) else 5
def atP (l:List Pr) (x:Int):Int:=match l.findIdx? (fun t=>t.f0 == x) with
 | some i=>i
 | none=>-1
theorem atP_cases (l:List Pr) (x:Int):(atP l x = -1∧findP l x=none∧∀ j,j < l.length→(rp l (j:Int)).f0 ≠ x)∨∃ i:Nat,i < l.length∧atP l x=i∧findP l x=some (rp l (i:Int))∧(rp l (i:Int)).f0=x∧∀ j,j < i→(rp l (j:Int)).f0 ≠ x:=by
 unfold atP findP
 cases h:l.findIdx? (fun t=>t.f0 == x) with
 | none=>
  rw [List.findIdx?_eq_none_iff] at h
  refine .inl ⟨rfl,List.find?_eq_none.2 (fun t ht=>by have:=h t ht;simpa using this),fun j hj=>?_⟩
  have:=h l[j] (List.getElem_mem hj)
  rw [rp_nat l j hj]
  simpa using this
 | some i=>
  rw [List.findIdx?_eq_some_iff_getElem] at h
  obtain ⟨hi,h1,h2⟩:=h
  refine .inr ⟨i,hi,rfl,?_,?_,fun j hj=>?_⟩
  ·rw [rp_nat l i hi,List.find?_eq_some_iff_getElem]
   exact ⟨h1,i,hi,rfl,fun j hj=>by have:=h2 j hj;simpa using this⟩
  ·rw [rp_nat l i hi];simpa using h1
  ·rw [rp_nat l j (by omega)]
   have:=h2 j hj
   simpa using this
theorem specAtP_loop (l:List Pr) (x:Int) (hl:l.length ≤ 1000000000000):∀ (d i:Nat),l.length - i=d→i ≤ l.length→(∀ j,j < i→(rp l (j:Int)).f0 ≠ x)→Ev (fun k=>spec_l21At.l0 k l x (i:Int)) (atP l x):=by
 intro d
 induction d with
 | zero=>
  intro i hd hi hn
  refine ev_succ ?_
  simp only [spec_l21At.l0,if_neg (show ¬ (i:Int) < (l.length:Int) by omega)]
  rcases atP_cases l x with ⟨h,_⟩|⟨j,hj,h,_,h1,_⟩
  ·rw [h];exact ev_some _
  ·exact absurd h1 (hn j (by omega))
 | succ d ih=>
  intro i hd hi hn
  have e1:wrap64 ((i:Int)+1)=((i+1:Nat):Int):=by rw [wrap_id (by omega) (by omega)];omega
  refine ev_succ ?_
  by_cases h:(rp l (i:Int)).f0=x
  ·simp only [spec_l21At.l0,if_pos (show (i:Int) < (l.length:Int) by omega),if_pos (show (0:Int) ≤ i by omega),if_pos h]
   rcases atP_cases l x with ⟨_,_,h2⟩|⟨j,hj,h2,_,h3,h4⟩
   ·exact absurd h (h2 i (by omega))
   ·have:j=i:=by
     rcases Nat.lt_trichotomy j i with h5|h5|h5
     ·exact absurd h3 (hn j h5)
     ·exact h5
     ·exact absurd h (h4 i h5)
    rw [h2,this]
    exact ev_some _
  ·simp only [spec_l21At.l0,if_pos (show (i:Int) < (l.length:Int) by omega),if_pos (show (0:Int) ≤ i by omega),if_neg h,e1]
   refine ih (i+1) (by omega) (by omega) (fun j hj=>?_)
   by_cases e:j=i
   ·subst e;exact h
   ·exact hn j (by omega)
theorem specAtP (l:List Pr) (x:Int) (hl:l.length ≤ 1000000000000):Ev (fun k=>spec_l21At.f k l x) (atP l x):=by
 unfold spec_l21At.f
 exact specAtP_loop l x hl l.length 0 (by omega) (by omega) (fun j hj=>by omega)
theorem spec_seq (n:Int) (a0 a1:Bool) (a2 a3 a4:Int) (rs:List Rc):Ev (fun k=>spec_l21Check.j0 k n a0 a1 a2 a3 a4 rs) (seqCode a4 n):=by
 refine ev_succ ?_
 unfold seqCode
 simp only [spec_l21Check.j0]
 by_cases h:a4 < n
 ·simp only [if_pos h];exact ev_some _
 ·simp only [if_neg h]
  by_cases h2:a4 > n
  ·simp only [if_pos h2];exact ev_some _
  ·simp only [if_neg h2];exact ev_some _
theorem specCode (l:List Pr) (hl:l.length ≤ 1000000000000) (a0 a1:Bool) (a2 a3 a4:Int) (rs:List Rc):Ev (fun k=>spec_l21Check.f k l a0 a1 a2 a3 a4 rs) (codeP l a2 a3 a4):=by
 unfold spec_l21Check.f codeP
 by_cases hp:a2=255
 ·simp only [if_pos hp];exact ev_some _
 ·simp only [if_neg hp]
  refine Ev.bind (specAtP l a2 hl) ?_
  rcases atP_cases l a2 with ⟨h,hf,_⟩|⟨i,hi,h,hf,h1,_⟩
  ·rw [h,hf]
   simp only [if_neg (show ¬ ((-1:Int) ≥ 0) by omega)]
   exact spec_seq _ _ _ _ _ _ _
  ·rw [h,hf]
   simp only [if_pos (show (i:Int) ≥ 0 by omega),if_pos (show (0:Int) ≤ i by omega),if_pos (show (i:Int) < (l.length:Int) by omega)]
   by_cases h2:a3 < (rp l (i:Int)).f1
   ·simp only [if_pos h2,if_pos (show (rp l (i:Int)).f1 > a3 from h2)];exact ev_some _
   ·simp only [if_neg h2,if_neg (show ¬ (rp l (i:Int)).f1 > a3 from h2)]
    by_cases h3:a3=(rp l (i:Int)).f1
    ·simp only [if_pos h3,if_pos h3.symm]
     exact spec_seq _ _ _ _ _ _ _
    ·simp only [if_neg h3,if_neg (fun h4=>h3 (Eq.symm h4))]
     exact spec_seq _ _ _ _ _ _ _
theorem specCheck (l:List Pr) (hl:l.length ≤ 1000000000000) (a0 a1:Bool) (a2 a3 a4:Int) (rs:List Rc) (hr:smallRs rs):Ev (fun k=>spec_ProducersCheck.f k l a0 a1 a2 a3 a4 rs) (pcode l a1 a2 a3 a4 rs):=by
 unfold spec_ProducersCheck.f pcode
 refine Ev.bind (specPValid l hl) ?_
 by_cases h:vp l=true
 ·simp only [if_pos h]
  refine Ev.bind (specB a0 a1 a2 a3 a4 rs hr) ?_
  by_cases h2:vb a1 a2 a3 a4 rs=true
  ·simp only [if_pos h2]
   exact Ev.bind (specCode l hl a0 a1 a2 a3 a4 rs) (ev_some _)
  ·simp only [if_neg h2]
   exact ev_some _
 ·simp only [if_neg h]
  exact ev_some _
theorem pcode_cases (l:List Pr) (a1:Bool) (a2 a3 a4:Int) (rs:List Rc) (h:pcode l a1 a2 a3 a4 rs ≠ 5):VP l∧VB a1 a2 a3 a4 rs∧pcode l a1 a2 a3 a4 rs=codeP l a2 a3 a4:=by
 unfold pcode at h ⊢
 by_cases h1:vp l=true
 ·by_cases h2:vb a1 a2 a3 a4 rs=true
  ·rw [if_pos h1,if_pos h2]
   exact ⟨(vp_iff l).1 h1,(vb_iff _ _ _ _ _).1 h2,rfl⟩
  ·rw [if_pos h1,if_neg h2] at h
   exact absurd rfl h
 ·rw [if_neg h1] at h
  exact absurd rfl h
theorem pcode_of {l:List Pr} (h:VP l) {a1:Bool} {a2 a3 a4:Int} {rs:List Rc} (hb:VB a1 a2 a3 a4 rs):pcode l a1 a2 a3 a4 rs=codeP l a2 a3 a4:=by
 unfold pcode
 rw [if_pos ((vp_iff l).2 h),if_pos ((vb_iff _ _ _ _ _).2 hb)]
theorem sameP_loop (a:List Pr) (hs:a.length ≤ 1000000000000):∀ (d i:Nat),a.length - i=d→i ≤ a.length→Ev (fun k=>laws_sameProducers.l0 k a a (i:Int)) true:=by
 intro d
 induction d with
 | zero=>
  intro i hd hi
  refine ev_succ ?_
  simp only [laws_sameProducers.l0,if_neg (show ¬ (i:Int) < (a.length:Int) by omega)]
  exact ev_some _
 | succ d ih=>
  intro i hd hi
  have e1:wrap64 ((i:Int)+1)=((i+1:Nat):Int):=by rw [wrap_id (by omega) (by omega)];omega
  refine ev_succ ?_
  simp only [laws_sameProducers.l0,if_pos (show (i:Int) < (a.length:Int) by omega),if_pos (show (0:Int) ≤ i by omega),beq_self_eq_true,Bool.not_true,Bool.or_self,Bool.false_eq_true,if_false,e1]
  exact ih (i+1) (by omega) (by omega)
theorem sameP (a:List Pr) (hs:a.length ≤ 1000000000000):Ev (fun k=>laws_sameProducers.f k a a) true:=by
 unfold laws_sameProducers.f
 simp only [if_true]
 exact sameP_loop a hs a.length 0 (by omega) (by omega)
end Go.Proofs.Ytkhmopmfbocokaa.Q
namespace Go.Proofs.Ytkhmopmfbocokaa.Q
open Go.RowKit Go.Proofs.Ytkhmopmfbocokaa.T Go.Proofs.YtkhmopmfbocokaaW.PrintWords Go.Proofs.YtkhmopmfbocokaaW.PrintLast
set_option linter.unusedVariables false
set_option linter.unusedSimpArgs false
abbrev ltk (p:Int) (s:Pr):Bool:=decide (s.f0 < p)
abbrev gtk (p:Int) (s:Pr):Bool:=decide (s.f0 > p)
abbrev nek (p:Int) (s:Pr):Bool:=decide (s.f0 ≠ p)
def insP (l:List Pr) (t:Pr):List Pr:=l.filter (ltk t.f0) ++ t :: l.filter (gtk t.f0)
theorem insP_mem {l:List Pr} {t s:Pr} : s ∈ insP l t↔s=t∨(s ∈ l∧s.f0 ≠ t.f0):=by
 unfold insP
 simp only [List.mem_append,List.mem_cons,List.mem_filter,decide_eq_true_eq]
 constructor
 ·rintro (⟨h,h2⟩|h|⟨h,h2⟩)
  ·exact .inr ⟨h,by omega⟩
  ·exact .inl h
  ·exact .inr ⟨h,by omega⟩
 ·rintro (h|⟨h,h2⟩)
  ·exact .inr (.inl h)
  ·rcases Int.lt_or_gt_of_ne h2 with h3|h3
   ·exact .inl ⟨h,h3⟩
   ·exact .inr (.inr ⟨h,h3⟩)
theorem insP_sorted {l:List Pr} (h:l.Pairwise ltP) (t:Pr):(insP l t).Pairwise ltP:=by
 unfold insP
 rw [List.pairwise_append]
 refine ⟨h.filter _,?_,?_⟩
 ·rw [List.pairwise_cons]
  refine ⟨fun s hs=>?_,h.filter _⟩
  have:=(List.mem_filter.1 hs).2
  simp only [decide_eq_true_eq] at this
  exact this
 ·intro s hs u hu
  have h1:=(List.mem_filter.1 hs).2
  simp only [decide_eq_true_eq] at h1
  rcases List.mem_cons.1 hu with rfl|hu
  ·exact h1
  ·have h2:=(List.mem_filter.1 hu).2
   simp only [decide_eq_true_eq] at h2
   exact Int.lt_trans h1 h2
theorem insP_len (l:List Pr) (t:Pr):(insP l t).length ≤ l.length+l.length+1:=by
 unfold insP
 have h1:=List.length_filter_le (ltk t.f0) l
 have h2:=List.length_filter_le (gtk t.f0) l
 simp only [List.length_append,List.length_cons]
 omega
theorem sorted_at:∀ {l:List Pr},l.Pairwise ltP→∀ t ∈ l,l.filter (ltk (t.f0+1))=l.filter (ltk t.f0) ++ [t]
 | [],_,t,ht=>by cases ht
 | a :: l,h,t,ht=>by
  rw [List.pairwise_cons] at h
  rcases List.mem_cons.1 ht with rfl|ht
  ·rw [List.filter_cons_of_pos (by simp only [decide_eq_true_eq];omega),List.filter_cons_of_neg (by simp),List.filter_eq_nil_iff.2,List.filter_eq_nil_iff.2]
   ·rfl
   ·intro s hs
    have:=h.1 s hs
    unfold ltP at this
    simp only [decide_eq_true_eq]
    omega
   ·intro s hs
    have:=h.1 s hs
    unfold ltP at this
    simp only [decide_eq_true_eq]
    omega
  ·have h1:=h.1 t ht
   unfold ltP at h1
   rw [List.filter_cons_of_pos (by simp only [decide_eq_true_eq];omega),List.filter_cons_of_pos (by simp only [decide_eq_true_eq];omega),sorted_at h.2 t ht]
   rfl
theorem slotList_of {F:Nat→SlotV} {l:List Pr} (hs:l.Pairwise ltP) (h0:∀ t ∈ l,0 ≤ t.f0∧t.f0 < 255) (h1:∀ t ∈ l,F t.f0.toNat=slotOf t) (h2:∀ i:Nat,i < 255→(∀ t ∈ l,t.f0 ≠ (i:Int))→(F i).u=false) :
  ∀ n:Nat,n ≤ 255→slotList F n=l.filter (ltk (n:Int)):=by
 intro n
 induction n with
 | zero=>
  intro _
  rw [List.filter_eq_nil_iff.2]
  ·rfl
  ·intro t ht
   have:=h0 t ht
   simp only [decide_eq_true_eq]
   omega
 | succ n ih=>
  intro hn
  have ih:=ih (by omega)
  by_cases hex:∃ t ∈ l,t.f0=(n:Int)
  ·obtain ⟨t,ht,hk⟩:=hex
   have hf:=h1 t ht
   rw [hk,Int.toNat_natCast] at hf
   rw [slotList_yes F n (by rw [hf];rfl),ih,hf]
   have h3:=sorted_at hs t ht
   rw [hk] at h3
   rw [show ((n+1:Nat):Int)=(n:Int)+1 by omega,h3]
   rfl
  ·have hno:∀ t ∈ l,t.f0 ≠ (n:Int):=fun t ht hk=>hex ⟨t,ht,hk⟩
   rw [slotList_no F n (h2 n (by omega) hno),ih]
   refine List.filter_congr (fun t ht=>?_)
   have:=hno t ht
   rw [decide_eq_decide]
   omega
theorem slotList_all {F:Nat→SlotV} {l:List Pr} (hs:l.Pairwise ltP) (h0:∀ t ∈ l,0 ≤ t.f0∧t.f0 < 255) (h1:∀ t ∈ l,F t.f0.toNat=slotOf t) (h2:∀ i:Nat,i < 255→(∀ t ∈ l,t.f0 ≠ (i:Int))→(F i).u=false):slotList F 255=l:=by
 rw [slotList_of hs h0 h1 h2 255 (by omega),List.filter_eq_self]
 intro t ht
 have:=h0 t ht
 simp only [decide_eq_true_eq]
 omega
theorem slotList_back {l:List Pr} (h:VP l):slotList (slotFn l) 255=l:=
 slotList_all (VP_sorted h) (fun t ht=>by have:=(VP_mem h t ht).1;omega) (slotFn_mem h) (fun i _ hi=>by rw [slotFn_not h i hi];rfl)
theorem slotList_set {l:List Pr} (h:VP l) (p e n:Int) (h0 : 0 ≤ p) (h1:p < 255):slotList (slotSet (slotFn l) p e n) 255=insP l ⟨p,e,n⟩:=by
 refine slotList_all (insP_sorted (VP_sorted h) _) ?_ ?_ ?_
 ·intro s hs
  rcases insP_mem.1 hs with rfl|⟨hs,_⟩
  ·exact ⟨h0,h1⟩
  ·have:=(VP_mem h s hs).1
   omega
 ·intro s hs
  unfold slotSet
  rcases insP_mem.1 hs with rfl|⟨hs,hne⟩
  ·rw [if_pos rfl]
   rfl
  ·have:=(VP_mem h s hs).1
   dsimp only at hne
   rw [if_neg (by omega)]
   exact slotFn_mem h s hs
 ·intro i hi hno
  have hp:p ≠ (i:Int):=hno ⟨p,e,n⟩ (insP_mem.2 (.inl rfl))
  unfold slotSet
  rw [if_neg (by omega),slotFn_not h i (fun t ht=>by
   by_cases hk:t.f0=p
   ·omega
   ·exact hno t (insP_mem.2 (.inr ⟨ht,hk⟩)))]
  rfl
def insGo (t:Pr):List Pr→List Pr
 | []=>[t]
 | a :: r=>if a.f0 ≥ t.f0 then t :: (a :: r).filter (nek t.f0) else a :: insGo t r
theorem insGo_eq (t:Pr):∀ {l:List Pr},l.Pairwise ltP→insGo t l=insP l t
 | [],_=>rfl
 | a :: l,h=>by
  rw [List.pairwise_cons] at h
  unfold insGo insP
  by_cases ha:a.f0 ≥ t.f0
  ·have hnil:(a :: l).filter (ltk t.f0) = []:=by
    rw [List.filter_eq_nil_iff]
    intro s hs
    simp only [decide_eq_true_eq]
    rcases List.mem_cons.1 hs with rfl|hs
    ·omega
    ·have:=h.1 s hs
     unfold ltP at this
     omega
   rw [if_pos ha,hnil,List.nil_append]
   congr 1
   refine List.filter_congr (fun s hs=>?_)
   rw [decide_eq_decide]
   rcases List.mem_cons.1 hs with rfl|hs
   ·omega
   ·have:=h.1 s hs
    unfold ltP at this
    omega
  ·rw [if_neg ha,List.filter_cons_of_pos (by simp only [decide_eq_true_eq];omega),List.filter_cons_of_neg (by simp only [decide_eq_true_eq];omega),insGo_eq t h.2]
   rfl
theorem specPut_done (l:List Pr) (hl:l.length ≤ 1000000000) (p e n:Int):∀ (d i:Nat) (out:List Pr),l.length - i=d→i ≤ l.length→out.length ≤ i+1→Ev (fun k=>spec_l21Put.l0 k l out true (i:Int) p e n) (out ++ (l.drop i).filter (nek p)):=by
 intro d
 induction d with
 | zero=>
  intro i out hd hi ho
  refine ev_succ ?_
  rw [show l.drop i = [] from List.drop_eq_nil_of_le (by omega),List.filter_nil,List.append_nil]
  simp only [spec_l21Put.l0,if_neg (show ¬ (i:Int) < (l.length:Int) by omega),if_true]
  exact ev_some _
 | succ d ih=>
  intro i out hd hi ho
  have e1:wrap64 ((i:Int)+1)=((i+1:Nat):Int):=by rw [wrap_id (by omega) (by omega)];omega
  refine ev_succ ?_
  rw [drop_atP (show i < l.length by omega)]
  simp only [spec_l21Put.l0,if_pos (show (i:Int) < (l.length:Int) by omega),if_true]
  refine ev_succ ?_
  simp only [spec_l21Put.j1,Bool.false_eq_true,if_false,if_pos (show (i:Int) < (l.length:Int) by omega),if_pos (show (0:Int) ≤ i by omega),e1]
  by_cases h:(rp l (i:Int)).f0=p
  ·rw [List.filter_cons_of_neg (by simp only [decide_eq_true_eq];omega)]
   simp only [if_pos h]
   exact ih (i+1) out (by omega) (by omega) (by omega)
  ·rw [List.filter_cons_of_pos (by simp only [decide_eq_true_eq];exact h)]
   simp only [if_neg h,if_pos (show out.length < 5864062014805 by omega)]
   have:=ih (i+1) (out ++ [rp l (i:Int)]) (by omega) (by omega) (by simp;omega)
   rw [List.append_assoc] at this
   exact this
theorem specPut_go (l:List Pr) (hl:l.length ≤ 1000000000) (p e n:Int):∀ (d i:Nat) (out:List Pr),l.length - i=d→i ≤ l.length→out.length ≤ i→Ev (fun k=>spec_l21Put.l0 k l out false (i:Int) p e n) (out ++ insGo ⟨p,e,n⟩ (l.drop i)):=by
 intro d
 induction d with
 | zero=>
  intro i out hd hi ho
  refine ev_succ ?_
  rw [show l.drop i = [] from List.drop_eq_nil_of_le (by omega)]
  simp only [spec_l21Put.l0,if_neg (show ¬ (i:Int) < (l.length:Int) by omega),Bool.false_eq_true,if_false,if_pos (show out.length < 5864062014805 by omega)]
  exact ev_some _
 | succ d ih=>
  intro i out hd hi ho
  have e1:wrap64 ((i:Int)+1)=((i+1:Nat):Int):=by rw [wrap_id (by omega) (by omega)];omega
  refine ev_succ ?_
  rw [drop_atP (show i < l.length by omega)]
  unfold insGo
  simp only [spec_l21Put.l0,if_pos (show (i:Int) < (l.length:Int) by omega),Bool.false_eq_true,if_false,if_pos (show (0:Int) ≤ i by omega)]
  refine ev_succ ?_
  by_cases hge:(rp l (i:Int)).f0 ≥ p
  ·simp only [spec_l21Put.j1,decide_eq_true hge,if_true,if_pos hge,if_pos (show out.length < 5864062014805 by omega),bsome,if_pos (show (i:Int) < (l.length:Int) by omega),if_pos (show (0:Int) ≤ i by omega),e1]
   by_cases h:(rp l (i:Int)).f0=p
   ·rw [List.filter_cons_of_neg (by simp only [decide_eq_true_eq];omega)]
    simp only [if_pos h]
    have:=specPut_done l hl p e n d (i+1) (out ++ [⟨p,e,n⟩]) (by omega) (by omega) (by simp;omega)
    rw [List.append_assoc] at this
    exact this
   ·rw [List.filter_cons_of_pos (by simp only [decide_eq_true_eq];exact h)]
    simp only [if_neg h,if_pos (show (out ++ [(⟨p,e,n⟩:Pr)]).length < 5864062014805 by simp;omega)]
    have:=specPut_done l hl p e n d (i+1) (out ++ [⟨p,e,n⟩] ++ [rp l (i:Int)]) (by omega) (by omega) (by simp;omega)
    have h2:out ++ [(⟨p,e,n⟩:Pr)] ++ [rp l (i:Int)] ++ (l.drop (i+1)).filter (nek p)=out ++ (⟨p,e,n⟩:Pr) :: rp l (i:Int) :: (l.drop (i+1)).filter (nek p):=by simp
    rw [h2] at this
    exact this
  ·simp only [spec_l21Put.j1,decide_eq_false hge,Bool.false_eq_true,if_false,if_neg hge,if_pos (show (i:Int) < (l.length:Int) by omega),if_pos (show (0:Int) ≤ i by omega),if_neg (show ¬ (rp l (i:Int)).f0=p by omega),if_pos (show out.length < 5864062014805 by omega),e1]
   have:=ih (i+1) (out ++ [rp l (i:Int)]) (by omega) (by omega) (by simp;omega)
   rw [List.append_assoc] at this
   exact this
theorem specPutP (l:List Pr) (h:VP l) (p e n:Int):Ev (fun k=>spec_l21Put.f k l p e n) (insP l ⟨p,e,n⟩):=by
 unfold spec_l21Put.f
 have h20:=h.1
 have:=specPut_go l (by omega) p e n l.length 0 [] (by omega) (by omega) (by simp)
 rw [← insGo_eq _ (VP_sorted h)]
 simpa using this
abbrev newP (a2 a3 a4:Int) (rs:List Rc):Pr:=⟨a2,a3,wrap64 (a4+(rs.length:Int))⟩
noncomputable def pput (l:List Pr) (a1:Bool) (a2 a3 a4:Int) (rs:List Rc):List Pr × Int:=
 if pcode l a1 a2 a3 a4 rs=5 then ([],5) else if pcode l a1 a2 a3 a4 rs=0 then (if vp (insP l (newP a2 a3 a4 rs))=true then (insP l (newP a2 a3 a4 rs),0) else ([],5)) else (l,pcode l a1 a2 a3 a4 rs)
theorem codeP_zero {l:List Pr} {p e s:Int} (h:codeP l p e s=0):p ≠ 255:=by
 rintro rfl
 have h2:codeP l 255 e s=4:=by unfold codeP;rw [if_pos rfl]
 rw [h2] at h
 omega
theorem implPutB (l:List Pr) (hl:l.length ≤ 1000000000) (a0 a1:Bool) (a2 a3 a4:Int) (rs:List Rc) (hr:smallRs rs):Ev (fun k=>impl_ProducersPut.f k l a0 a1 a2 a3 a4 rs) (pput l a1 a2 a3 a4 rs):=by
 unfold impl_ProducersPut.f
 refine Ev.bind (implPValid l (by omega)) ?_
 by_cases h:vp l=true
 ·simp only [if_pos h]
  refine Ev.bind (implB a0 a1 a2 a3 a4 rs hr) ?_
  by_cases h2:vb a1 a2 a3 a4 rs=true
  ·have hV:=(vp_iff l).1 h
   have hB:=(vb_iff _ _ _ _ _).1 h2
   have hp:=VB_prod hB
   have hc:=codeAt_eq hV a2 a3 a4 hp.1
   have hpc:=pcode_of hV hB
   have h5:=codeP_ne5 l a2 a3 a4
   simp only [if_pos h2,if_pos (prodOk_of hV hB),hc]
   unfold pput
   rw [hpc,if_neg h5]
   unfold putSlots
   by_cases hz:codeP l a2 a3 a4=0
   ·have hne:=codeP_zero hz
    simp only [hc,if_pos hz,slotList_set hV a2 a3 _ hp.1 (by omega)]
    have h20:=hV.1
    have hln:=insP_len l (⟨a2,a3,wrap64 (a4+(rs.length:Int))⟩:Pr)
    refine Ev.bind (implPValid _ (by omega)) ?_
    by_cases hv:vp (insP l (newP a2 a3 a4 rs))=true
    ·simp only [if_pos hv,hz]
     exact ev_some _
    ·simp only [if_neg hv]
     exact ev_some _
   ·simp only [hc,if_neg hz,slotList_back hV]
    refine Ev.bind (implPValid l (by omega)) ?_
    simp only [if_pos h]
    exact ev_some _
  ·simp only [if_neg h2]
   have:pcode l a1 a2 a3 a4 rs=5:=by unfold pcode;rw [if_pos h,if_neg h2]
   unfold pput
   rw [if_pos this]
   exact ev_some _
 ·simp only [if_neg h]
  have:pcode l a1 a2 a3 a4 rs=5:=by unfold pcode;rw [if_neg h]
  unfold pput
  rw [if_pos this]
  exact ev_some _
theorem specPutB (l:List Pr) (hl:l.length ≤ 1000000000) (a0 a1:Bool) (a2 a3 a4:Int) (rs:List Rc) (hr:smallRs rs):Ev (fun k=>spec_ProducersPut.f k l a0 a1 a2 a3 a4 rs) (pput l a1 a2 a3 a4 rs):=by
 unfold spec_ProducersPut.f pput
 refine Ev.bind (specCheck l (by omega) a0 a1 a2 a3 a4 rs hr) ?_
 by_cases h5:pcode l a1 a2 a3 a4 rs=5
 ·simp only [if_pos h5]
  exact ev_some _
 ·obtain ⟨hV,hB,hpc⟩:=pcode_cases l a1 a2 a3 a4 rs h5
  have h:=(vp_iff l).2 hV
  simp only [if_neg h5,bsome,List.length_nil,List.nil_append,if_pos (show 0+l.length < 5864062014805 by omega)]
  by_cases hz:pcode l a1 a2 a3 a4 rs=0
  ·simp only [if_pos hz]
   refine Ev.bind (specPutP l hV a2 a3 _) ?_
   have h20:=hV.1
   have hln:=insP_len l (⟨a2,a3,wrap64 (a4+(rs.length:Int))⟩:Pr)
   refine Ev.bind (specPValid _ (by omega)) ?_
   by_cases hv:vp (insP l (newP a2 a3 a4 rs))=true
   ·simp only [if_pos hv,hz]
    exact ev_some _
   ·simp only [if_neg hv]
    exact ev_some _
  ·simp only [if_neg hz]
   refine Ev.bind (specPValid l (by omega)) ?_
   simp only [if_pos h]
   exact ev_some _
theorem pput_cases (l:List Pr) (a1:Bool) (a2 a3 a4:Int) (rs:List Rc):pput l a1 a2 a3 a4 rs=([],5) ∨
  (VP l∧VB a1 a2 a3 a4 rs∧codeP l a2 a3 a4=0∧VP (insP l (newP a2 a3 a4 rs))∧pput l a1 a2 a3 a4 rs=(insP l (newP a2 a3 a4 rs),0)) ∨
  (VP l∧VB a1 a2 a3 a4 rs∧codeP l a2 a3 a4 ≠ 0∧pput l a1 a2 a3 a4 rs=(l,codeP l a2 a3 a4)):=by
 unfold pput
 by_cases h5:pcode l a1 a2 a3 a4 rs=5
 ·rw [if_pos h5]
  exact .inl rfl
 ·obtain ⟨hV,hB,hpc⟩:=pcode_cases l a1 a2 a3 a4 rs h5
  rw [if_neg h5,hpc]
  by_cases hz:codeP l a2 a3 a4=0
  ·rw [if_pos hz]
   by_cases hv:vp (insP l (newP a2 a3 a4 rs))=true
   ·rw [if_pos hv]
    exact .inr (.inl ⟨hV,hB,hz,(vp_iff _).1 hv,rfl⟩)
   ·rw [if_neg hv]
    exact .inl rfl
  ·rw [if_neg hz]
   exact .inr (.inr ⟨hV,hB,hz,rfl⟩)
end Go.Proofs.Ytkhmopmfbocokaa.Q
namespace Go.Proofs.Ytkhmopmfbocokaa.Q
open Go.RowKit Go.Proofs.Ytkhmopmfbocokaa.T Go.Proofs.YtkhmopmfbocokaaW.PrintWords Go.Proofs.YtkhmopmfbocokaaW.PrintLast
set_option linter.unusedVariables false
set_option linter.unusedSimpArgs false
theorem bytes_of {l:List Int} (h:∀ x ∈ l,(Lit.int .u8 x).wf=true):Bytes l:=by
 intro x hx
 have:=h x hx
 simp [Lit.wf,IntKind.min,IntKind.max,IntKind.signed,IntKind.bits] at this
 omega
theorem open_ev (l:List Int) (h:Bytes l):∃ b,spec_l6Open.f l=some (b,0)∧Bytes b∧b.length ≤ 2000:=by
 unfold spec_l6Open.f
 by_cases hc:(l.length:Int) > 2000
 ·rw [if_pos hc,if_pos (by omega)]
  exact ⟨_,rfl,fun x hx=>h x (List.mem_of_mem_take hx),by rw [length_take];omega⟩
 ·rw [if_neg hc]
  exact ⟨_,rfl,h,by omega⟩
end Go.Proofs.Ytkhmopmfbocokaa.Q
namespace Go.Proofs.Ytkhmopmfbocokaa.Q
open Go.RowKit Go.Proofs.Ytkhmopmfbocokaa.T Go.Proofs.YtkhmopmfbocokaaW.PrintWords Go.Proofs.YtkhmopmfbocokaaW.PrintLast
set_option linter.unusedVariables false
set_option linter.unusedSimpArgs false
theorem lim2 {n c:Nat} (h:n ≤ 2000) (hc : 2000 < c):n < c:=by omega
theorem part_loop (bs:List Int) (hb:Bytes bs) (hl:bs.length ≤ 2000):∀ (d:Nat) (l:List Int) (n i p:Int),n - i ≤ d→0 ≤ i→(l.length:Int) ≤ i→(l.length:Int) ≤ 12→n ≤ 12→0 ≤ p→p+2 * d ≤ 900000000 →
  Evs (fun k=>spec_l91Part.l0 k l n i bs p) (fun r=>r.2.1.length ≤ 12∧p ≤ r.2.2∧r.2.2 ≤ p+2 * d):=by
 intro d
 induction d with
 | zero=>
  intro l n i p hd hi hll h12 hn h0 h1
  refine Evs.succ ?_
  simp only [spec_l91Part.l0,if_neg (show ¬ i < n by omega)]
  exact Evs.done ⟨by dsimp only;omega,by dsimp only;omega,by dsimp only;omega⟩
 | succ d ih=>
  intro l n i p hd hi hll h12 hn h0 h1
  refine Evs.succ ?_
  by_cases hlt:i < n
  ·have e1:wrap64 (i+1)=i+1:=wrap_id (by omega) (by omega)
   simp only [spec_l91Part.l0,if_pos hlt,bsome,e1]
   refine Evs.bind (pick_evs bs p 256 hb hl h0 (by omega) (by omega)) ?_
   rintro ⟨u,_⟩ ⟨u0,u1,rfl⟩
   refine Evs.bind (pick_evs bs (p+1) 4 hb hl (by omega) (by omega) (by omega)) ?_
   rintro ⟨v,_⟩ ⟨v0,v1,rfl⟩
   simp only [if_pos v0,if_pos (show v < (([1,2,3,u]:List Int).length:Int) from v1),if_pos (show l.length < 17592186044416 from lim2 (by omega) (by omega))]
   have h:=ih (l ++ [rd [1,2,3,u] v]) n (i+1) (p+1+1) (by omega) (by omega) (by simp;omega) (by simp;omega) hn (by omega) (by omega)
   exact h.mono (fun r hr=>⟨hr.1,by have:=hr.2.1;omega,by have:=hr.2.2;omega⟩)
  ·simp only [spec_l91Part.l0,if_neg hlt]
   exact Evs.done ⟨by dsimp only;omega,by dsimp only;omega,by dsimp only;omega⟩
theorem part_evs (bs:List Int) (hb:Bytes bs) (hl:bs.length ≤ 2000) (p:Int) (h0 : 0 ≤ p) (h1:p ≤ 800000000):Evs (fun k=>spec_l91Part.f k bs p) (fun r=>r.2.1.length ≤ 12∧p ≤ r.2.2∧r.2.2 ≤ p+30):=by
 unfold spec_l91Part.f
 refine Evs.bind (pick_evs bs p 4 hb hl h0 (by omega) (by omega)) ?_
 rintro ⟨u,_⟩ ⟨u0,u1,rfl⟩
 by_cases hu:u=0
 ·simp only [if_pos hu]
  exact Evs.done ⟨by simp,by dsimp only;omega,by dsimp only;omega⟩
 ·simp only [if_neg hu,bsome]
  refine Evs.bind (pick_evs bs (p+1) 5 hb hl (by omega) (by omega) (by omega)) ?_
  rintro ⟨v,_⟩ ⟨v0,v1,rfl⟩
  refine Evs.bind (pick_evs bs (p+1+1) 12 hb hl (by omega) (by omega) (by omega)) ?_
  rintro ⟨x,_⟩ ⟨x0,x1,rfl⟩
  by_cases hx:x=0
  ·simp only [if_pos hx]
   refine Evs.succ ?_
   simp only [spec_l91Part.j0]
   have h:=part_loop bs hb hl 12 [] 12 0 (p+1+1+1) (by omega) (by omega) (by simp) (by simp) (by omega) (by omega) (by omega)
   exact h.mono (fun r hr=>⟨hr.1,by have:=hr.2.1;omega,by have:=hr.2.2;omega⟩)
  ·simp only [if_neg hx]
   refine Evs.succ ?_
   simp only [spec_l91Part.j0]
   have h:=part_loop bs hb hl 12 [] v 0 (p+1+1+1) (by omega) (by omega) (by simp) (by simp) (by omega) (by omega) (by omega)
   exact h.mono (fun r hr=>⟨hr.1,by have:=hr.2.1;omega,by have:=hr.2.2;omega⟩)
def drawnR (n:Nat) (l:List Rc):Prop:=l.length ≤ n∧∀ r ∈ l,r.f3.length ≤ 12∧r.f5.length ≤ 12
theorem drawnR_small {n:Nat} (hn:n ≤ 100000) {l:List Rc} (h:drawnR n l):smallRs l:=⟨by have:=h.1;omega,fun r hr=>⟨by have:=(h.2 r hr).1;omega,by have:=(h.2 r hr).2;omega⟩⟩
theorem drawnR_add {n:Nat} {l:List Rc} (h:drawnR n l) {r:Rc} (h3:r.f3.length ≤ 12) (h5:r.f5.length ≤ 12):drawnR (n+1) (l ++ [r]):=by
 refine ⟨by have:=h.1;simp;omega,fun x hx=>?_⟩
 rcases List.mem_append.1 hx with hx|hx
 ·exact h.2 x hx
 ·rw [List.mem_singleton.1 hx]
  exact ⟨h3,h5⟩
theorem drawnR_mono {n m:Nat} {l:List Rc} (h:drawnR n l) (hm:n ≤ m):drawnR m l:=⟨by have:=h.1;omega,h.2⟩
theorem recs_loop (bs:List Int) (hb:Bytes bs) (hl:bs.length ≤ 2000) (n:Int) (hn:n ≤ 100):∀ (d:Nat) (o:Int) (l:List Rc) (t i p:Int),n - i ≤ d→0 ≤ i→drawnR i.toNat l→(0 < i→0 < l.length)→0 ≤ p→p+70 * d ≤ 700000000 →
  Evs (fun k=>spec_l91Records.l0 k o l n t i bs p) (fun r=>drawnR (max i n).toNat r.1∧(0 < max i n→0 < r.1.length)∧p ≤ r.2∧r.2 ≤ p+70 * d):=by
 intro d
 induction d with
 | zero=>
  intro o l t i p hd hi hll hpos h0 h1
  refine Evs.succ ?_
  simp only [spec_l91Records.l0,if_neg (show ¬ i < n by omega)]
  exact Evs.done ⟨by dsimp only;exact drawnR_mono hll (by omega),by dsimp only;intro h;exact hpos (by omega),by dsimp only;omega,by dsimp only;omega⟩
 | succ d ih=>
  intro o l t i p hd hi hll hpos h0 h1
  refine Evs.succ ?_
  by_cases hlt:i < n
  ·have e1:wrap64 (i+1)=i+1:=wrap_id (by omega) (by omega)
   have hlen:=hll.1
   simp only [spec_l91Records.l0,if_pos hlt]
   refine Evs.bind (part_evs bs hb hl p h0 (by omega)) ?_
   rintro ⟨kh,kl,p1⟩ ⟨hk,q0,q1⟩
   dsimp only at hk q0 q1 ⊢
   refine Evs.bind (part_evs bs hb hl p1 (by omega) (by omega)) ?_
   rintro ⟨vh,vl,p2⟩ ⟨hv,q2,q3⟩
   dsimp only at hv q2 q3 ⊢
   have main:∀ (c:Bool) (q:Int),0 ≤ q→p ≤ q→q ≤ p2+1→Evs (fun k=>spec_l91Records.j1 k o l n t i vh vl c bs q o t kh kl false) (fun r=>drawnR (max i n).toNat r.1∧(0 < max i n→0 < r.1.length)∧p ≤ r.2∧r.2 ≤ p+70 * (d+1:Nat)):=by
    intro c q hq0 hq1 hq2
    refine Evs.succ ?_
    have hlim:l.length < 1759218604441:=lim2 (by omega) (by omega)
    cases c with
    | true=>
     simp only [spec_l91Records.j1,if_true,if_pos hlim,e1]
     refine Evs.bind (pick_evs bs q 3 hb hl (by omega) (by omega) (by omega)) ?_
     rintro ⟨u,_⟩ ⟨u0,u1,rfl⟩
     refine Evs.bind (pick_evs bs (q+1) 5 hb hl (by omega) (by omega) (by omega)) ?_
     rintro ⟨v,_⟩ ⟨v0,v1,rfl⟩
     refine Evs.bind (pick_evs bs (q+1+1) 30 hb hl (by omega) (by omega) (by omega)) ?_
     rintro ⟨x,_⟩ ⟨x0,x1,rfl⟩
     have h:=ih (wrap64 (wrap64 (o+1)+wrap64 (Int.tdiv v 4))) (l ++ [⟨o,t,kh,[u],vh,vl⟩]) (mx (wrap64 (wrap64 (t+x) - 6)) 0) (i+1) (q+1+1+1) (by omega) (by omega) (drawnR_mono (drawnR_add hll (by simp) hv) (by omega)) (fun _=>by simp) (by omega) (by omega)
     rw [show max (i+1) n=max i n by omega] at h
     exact h.mono (fun r hr=>⟨hr.1,hr.2.1,by have:=hr.2.2.1;omega,by have:=hr.2.2.2;omega⟩)
    | false=>
     simp only [spec_l91Records.j1,Bool.false_eq_true,if_false,if_pos hlim,e1]
     refine Evs.bind (pick_evs bs q 5 hb hl (by omega) (by omega) (by omega)) ?_
     rintro ⟨v,_⟩ ⟨v0,v1,rfl⟩
     refine Evs.bind (pick_evs bs (q+1) 30 hb hl (by omega) (by omega) (by omega)) ?_
     rintro ⟨x,_⟩ ⟨x0,x1,rfl⟩
     have h:=ih (wrap64 (wrap64 (o+1)+wrap64 (Int.tdiv v 4))) (l ++ [⟨o,t,kh,kl,vh,vl⟩]) (mx (wrap64 (wrap64 (t+x) - 6)) 0) (i+1) (q+1+1) (by omega) (by omega) (drawnR_mono (drawnR_add hll hk hv) (by omega)) (fun _=>by simp) (by omega) (by omega)
     rw [show max (i+1) n=max i n by omega] at h
     exact h.mono (fun r hr=>⟨hr.1,hr.2.1,by have:=hr.2.2.1;omega,by have:=hr.2.2.2;omega⟩)
   by_cases hkh:kh=true
   ·simp only [if_pos hkh]
    refine Evs.bind (pick_evs bs p2 2 hb hl (by omega) (by omega) (by omega)) ?_
    rintro ⟨u,_⟩ ⟨u0,u1,rfl⟩
    exact main (u == 0) (p2+1) (by omega) (by omega) (by omega)
   ·simp only [if_neg hkh]
    exact main false p2 (by omega) (by omega) (by omega)
  ·simp only [spec_l91Records.l0,if_neg hlt]
   exact Evs.done ⟨by dsimp only;exact drawnR_mono hll (by omega),by dsimp only;intro h;exact hpos (by omega),by dsimp only;omega,by dsimp only;omega⟩
theorem recs_evs (bs:List Int) (hb:Bytes bs) (hl:bs.length ≤ 2000) (p o m:Int) (h0 : 0 ≤ p) (h1:p ≤ 600000000) (hm : 1 ≤ m) (hm2:m ≤ 10):Evs (fun k=>spec_l91Records.f k bs p o m) (fun r=>drawnR m.toNat r.1∧0 < r.1.length∧p ≤ r.2∧r.2 ≤ p+800):=by
 unfold spec_l91Records.f
 refine Evs.bind (pick_evs bs p m hb hl h0 (by omega) hm) ?_
 rintro ⟨u,_⟩ ⟨u0,u1,rfl⟩
 refine Evs.bind (pick_evs bs (p+1) 200 hb hl (by omega) (by omega) (by omega)) ?_
 rintro ⟨v,_⟩ ⟨v0,v1,rfl⟩
 simp only [show wrap64 (1+u)=1+u from wrap_id (by omega) (by omega)]
 have h:=recs_loop bs hb hl (1+u) (by omega) 10 o [] v 0 (p+1+1) (by omega) (by omega) ⟨by simp,fun r hr=>by cases hr⟩ (fun h=>by omega) (by omega) (by omega)
 exact h.mono (fun r hr=>⟨drawnR_mono hr.1 (by omega),hr.2.1 (by omega),by have:=hr.2.2.1;omega,by have:=hr.2.2.2;omega⟩)
def drawnB (p:Int) (c:Int) (r:Bool × Bool × Int × Int × Int × List Rc × Int):Prop:=drawnR 5 r.2.2.2.2.2.1∧0 < r.2.2.2.2.2.1.length∧p ≤ r.2.2.2.2.2.2∧r.2.2.2.2.2.2 ≤ p+c∧0 ≤ r.2.2.1
theorem batch_j0 (bs:List Int) (hb:Bytes bs) (hl:bs.length ≤ 2000) (p:Int) (h0 : 0 ≤ p) (h1:p ≤ 600000000) (a0 a1:Bool) (a2 a3 a4:Int) (l:List Rc) (hd:drawnR 4 l) (hpos : 0 < l.length) (ha2 : 0 ≤ a2):Evs (fun k=>spec_l91Batch.j0 k bs p a0 a1 a2 a3 a4 l) (drawnB p 2):=by
 have hlen:=hd.1
 refine Evs.succ ?_
 simp only [spec_l91Batch.j0]
 refine Evs.bind (pick_evs bs p 40 hb hl h0 (by omega) (by omega)) ?_
 rintro ⟨u,_⟩ ⟨u0,u1,rfl⟩
 by_cases hu:u=0
 ·simp only [if_pos hu,bsome]
  refine Evs.bind (pick_evs bs (p+1) 3 hb hl (by omega) (by omega) (by omega)) ?_
  rintro ⟨v,_⟩ ⟨v0,v1,rfl⟩
  simp only [if_pos v0,if_pos (show v < (([(-1),1,100]:List Int).length:Int) from v1)]
  exact Evs.done ⟨drawnR_mono hd (by omega),hpos,by dsimp only;omega,by dsimp only;omega,ha2⟩
 ·simp only [if_neg hu]
  by_cases hu1:u=1
  ·simp only [if_pos hu1,if_pos (show 0 < (l.length:Int) by omega),if_pos (show l.length < 1759218604441 from lim2 (by omega) (by omega))]
   have h0m:rd_T79 l 0 ∈ l:=by
    show rr l ((0:Nat):Int) ∈ l
    rw [rr_nat l 0 hpos]
    exact List.getElem_mem hpos
   exact Evs.done ⟨drawnR_add hd (hd.2 _ h0m).1 (hd.2 _ h0m).2,by simp,by dsimp only;omega,by dsimp only;omega,ha2⟩
  ·simp only [if_neg hu1]
   by_cases hu2:u=2
   ·simp only [if_pos hu2]
    exact Evs.done ⟨drawnR_mono hd (by omega),hpos,by dsimp only;omega,by dsimp only;omega,ha2⟩
   ·simp only [if_neg hu2]
    exact Evs.done ⟨drawnR_mono hd (by omega),hpos,by dsimp only;omega,by dsimp only;omega,ha2⟩
theorem drawnB_mono {p q c c' : Int} {r:Bool × Bool × Int × Int × Int × List Rc × Int} (h:drawnB p c r) (h1:q ≤ p) (h2:p+c ≤ q+c'):drawnB q c' r:=⟨h.1,h.2.1,by have:=h.2.2.1;omega,by have:=h.2.2.2.1;omega,h.2.2.2.2⟩
theorem batch_evs (bs:List Int) (hb:Bytes bs) (hl:bs.length ≤ 2000) (p o:Int) (h0 : 0 ≤ p) (h1:p ≤ 500000000):Evs (fun k=>spec_l91Batch.f k bs p o) (drawnB p 900):=by
 unfold spec_l91Batch.f
 refine Evs.bind (pick_evs bs p 2 hb hl h0 (by omega) (by omega)) ?_
 rintro ⟨u,_⟩ ⟨u0,u1,rfl⟩
 refine Evs.bind (recs_evs bs hb hl (p+1) o 4 (by omega) (by omega) (by omega) (by omega)) ?_
 rintro ⟨l,q⟩ ⟨hd,hpos,q0,q1⟩
 dsimp only at hd hpos q0 q1 ⊢
 refine Evs.bind (pick_evs bs q 3 hb hl (by omega) (by omega) (by omega)) ?_
 rintro ⟨v,_⟩ ⟨v0,v1,rfl⟩
 by_cases hv:v=0
 ·simp only [if_pos hv]
  refine Evs.bind (pick_evs bs (q+1) 3 hb hl (by omega) (by omega) (by omega)) ?_
  rintro ⟨x,_⟩ ⟨x0,x1,rfl⟩
  refine Evs.bind (pick_evs bs (q+1+1) 3 hb hl (by omega) (by omega) (by omega)) ?_
  rintro ⟨y,_⟩ ⟨y0,y1,rfl⟩
  refine Evs.bind (pick_evs bs (q+1+1+1) 5 hb hl (by omega) (by omega) (by omega)) ?_
  rintro ⟨z,_⟩ ⟨z0,z1,rfl⟩
  refine Evs.bind (pick_evs bs (q+1+1+1+1) 3 hb hl (by omega) (by omega) (by omega)) ?_
  rintro ⟨s,_⟩ ⟨s0,s1,rfl⟩
  by_cases hs:s=0
  ·simp only [if_pos hs]
   refine Evs.bind (pick_evs bs (q+1+1+1+1+1) 200 hb hl (by omega) (by omega) (by omega)) ?_
   rintro ⟨t,_⟩ ⟨t0,t1,rfl⟩
   refine Evs.bind (pick_evs bs (q+1+1+1+1+1+1) 2 hb hl (by omega) (by omega) (by omega)) ?_
   rintro ⟨e,_⟩ ⟨e0,e1,rfl⟩
   refine (batch_j0 bs hb hl _ (by omega) (by omega) _ _ _ _ _ _ ⟨by simp,fun r hr=>?_⟩ (by simp) x0).mono (fun r hr=>drawnB_mono hr (by omega) (by omega))
   rw [List.mem_singleton.1 hr]
   exact ⟨by simp,by simp⟩
  ·simp only [if_neg hs]
   exact (batch_j0 bs hb hl _ (by omega) (by omega) _ _ _ _ _ _ hd hpos (by omega)).mono (fun r hr=>drawnB_mono hr (by omega) (by omega))
 ·simp only [if_neg hv]
  exact (batch_j0 bs hb hl _ (by omega) (by omega) _ _ _ _ _ _ hd hpos (by omega)).mono (fun r hr=>drawnB_mono hr (by omega) (by omega))
end Go.Proofs.Ytkhmopmfbocokaa.Q
namespace Go.Proofs.Ytkhmopmfbocokaa.Q
open Go.RowKit Go.Proofs.Ytkhmopmfbocokaa.T Go.Proofs.YtkhmopmfbocokaaW.PrintWords Go.Proofs.YtkhmopmfbocokaaW.PrintLast
set_option linter.unusedVariables false
set_option linter.unusedSimpArgs false
abbrev Bt:=S34
abbrev rb (l:List Bt) (i:Int):Bt:=rd_T34 l i
theorem rb_nat (l:List Bt) (j:Nat) (h:j < l.length):rb l (j:Int)=l[j]:=by
 unfold rb rd_T34
 rw [Int.toNat_natCast,List.getD_eq_getElem?_getD,List.getElem?_eq_getElem h]
 rfl
theorem drop_atB {l:List Bt} {i:Nat} (h:i < l.length):l.drop i=rb l i :: l.drop (i+1):=by
 rw [List.drop_eq_getElem_cons h,rb_nat l i h]
noncomputable def stepB (now:List Pr) (b:Bt):List Pr × Int:=pput now b.f1 b.f2 b.f3 b.f4 b.f5
noncomputable def nextB (now:List Pr) (b:Bt):List Pr:=if (stepB now b).2=5 then now else (stepB now b).1
noncomputable def fin:List Bt→List Pr→List Pr
 | [],now=>now
 | b :: r,now=>fin r (nextB now b)
noncomputable def cds:List Bt→List Pr→List Int
 | [],_=>[]
 | b :: r,now=>(stepB now b).2 :: cds r (nextB now b)
theorem cds_len:∀ (l:List Bt) (now:List Pr),(cds l now).length=l.length
 | [],_=>rfl
 | b :: r,now=>by simp [cds,cds_len r]
theorem VP_nil:VP ([]:List Pr):=⟨by simp,fun j _ h=>by simp at h⟩
theorem nextB_valid {now:List Pr} (h:VP now) (b:Bt):VP (nextB now b):=by
 unfold nextB stepB
 rcases pput_cases now b.f1 b.f2 b.f3 b.f4 b.f5 with hp|⟨_,_,_,h2,hp⟩|⟨_,_,_,hp⟩
 ·rw [hp,if_pos rfl];exact h
 ·rw [hp,if_neg (show ¬ (0:Int)=5 by decide)];exact h2
 ·rw [hp]
  split
  ·exact h
  ·exact h
theorem fin_valid:∀ (l:List Bt) {now:List Pr},VP now→VP (fin l now)
 | [],now,h=>h
 | b :: r,now,h=>fin_valid r (nextB_valid h b)
def smallBs (l:List Bt):Prop:=l.length ≤ 1000000∧∀ b ∈ l,smallRs b.f5
theorem smallBs_at {l:List Bt} (h:smallBs l) (j:Nat) (hj:j < l.length):smallRs (rb l (j:Int)).f5:=by
 rw [rb_nat l j hj]
 exact h.2 _ (List.getElem_mem hj)
theorem implRun_loop (l:List Bt) (hl:smallBs l):∀ (d i:Nat) (now:List Pr) (codes:List Int),l.length - i=d→i ≤ l.length→VP now→codes.length ≤ i→Ev (fun k=>impl_ProducersRun.l0 k now codes l (l.length:Int) (i:Int)) (fin (l.drop i) now,codes ++ cds (l.drop i) now):=by
 intro d
 induction d with
 | zero=>
  intro i now codes hd hi hV hc
  rw [show l.drop i = [] from List.drop_eq_nil_of_le (by omega)]
  refine ev_succ ?_
  simp only [impl_ProducersRun.l0,if_neg (show ¬ (i:Int) < (l.length:Int) by omega),fin,cds,List.append_nil]
  exact ev_some _
 | succ d ih=>
  intro i now codes hd hi hV hc
  have hll:=hl.1
  have e1:wrap64 ((i:Int)+1)=((i+1:Nat):Int):=by rw [wrap_id (by omega) (by omega)];omega
  rw [drop_atB (show i < l.length by omega)]
  have hp:=implPutB now (by have:=hV.1;omega) (rb l (i:Int)).f0 (rb l (i:Int)).f1 (rb l (i:Int)).f2 (rb l (i:Int)).f3 (rb l (i:Int)).f4 (rb l (i:Int)).f5 (smallBs_at hl i (by omega))
  have ih2:=ih (i+1) (nextB now (rb l (i:Int))) (codes ++ [(stepB now (rb l (i:Int))).2]) (by omega) (by omega) (nextB_valid hV _) (by simp;omega)
  rw [List.append_assoc] at ih2
  refine ev_succ ?_
  simp only [impl_ProducersRun.l0,if_pos (show (i:Int) < (l.length:Int) by omega),if_pos (show (0:Int) ≤ i by omega),e1,if_pos (show codes.length < 17592186044416 by omega)]
  refine Ev.bind hp ?_
  by_cases h5:(stepB now (rb l (i:Int))).2=5
  ·have h5' : (pput now (rb l (i:Int)).f1 (rb l (i:Int)).f2 (rb l (i:Int)).f3 (rb l (i:Int)).f4 (rb l (i:Int)).f5).2=5:=h5
   simp only [if_pos h5']
   have hn:nextB now (rb l (i:Int))=now:=by unfold nextB;rw [if_pos h5]
   rw [hn] at ih2
   simp only [fin,cds,hn]
   exact ih2
  ·have h5' : ¬ (pput now (rb l (i:Int)).f1 (rb l (i:Int)).f2 (rb l (i:Int)).f3 (rb l (i:Int)).f4 (rb l (i:Int)).f5).2=5:=h5
   simp only [if_neg h5']
   have hn:nextB now (rb l (i:Int))=(stepB now (rb l (i:Int))).1:=by unfold nextB;rw [if_neg h5]
   rw [hn] at ih2
   simp only [fin,cds,hn]
   exact ih2
theorem implRun (l:List Bt) (hl:smallBs l):Ev (fun k=>impl_ProducersRun.f k l) (fin l [],cds l []):=by
 unfold impl_ProducersRun.f
 have:=implRun_loop l hl l.length 0 [] [] (by omega) (by omega) VP_nil (by simp)
 simpa using this
theorem specRun_loop (l:List Bt) (hl:smallBs l):∀ (d i:Nat) (now:List Pr) (codes:List Int),l.length - i=d→i ≤ l.length→VP now→codes.length ≤ i→Ev (fun k=>spec_ProducersRun.l0 k l now codes (i:Int)) (fin (l.drop i) now,codes ++ cds (l.drop i) now):=by
 intro d
 induction d with
 | zero=>
  intro i now codes hd hi hV hc
  rw [show l.drop i = [] from List.drop_eq_nil_of_le (by omega)]
  refine ev_succ ?_
  simp only [spec_ProducersRun.l0,if_neg (show ¬ (i:Int) < (l.length:Int) by omega),fin,cds,List.append_nil]
  exact ev_some _
 | succ d ih=>
  intro i now codes hd hi hV hc
  have hll:=hl.1
  have e1:wrap64 ((i:Int)+1)=((i+1:Nat):Int):=by rw [wrap_id (by omega) (by omega)];omega
  rw [drop_atB (show i < l.length by omega)]
  have hp:=specPutB now (by have:=hV.1;omega) (rb l (i:Int)).f0 (rb l (i:Int)).f1 (rb l (i:Int)).f2 (rb l (i:Int)).f3 (rb l (i:Int)).f4 (rb l (i:Int)).f5 (smallBs_at hl i (by omega))
  have ih2:=ih (i+1) (nextB now (rb l (i:Int))) (codes ++ [(stepB now (rb l (i:Int))).2]) (by omega) (by omega) (nextB_valid hV _) (by simp;omega)
  rw [List.append_assoc] at ih2
  refine ev_succ ?_
  simp only [spec_ProducersRun.l0,if_pos (show (i:Int) < (l.length:Int) by omega),if_pos (show (0:Int) ≤ i by omega),e1,if_pos (show codes.length < 17592186044416 by omega)]
  refine Ev.bind hp ?_
  by_cases h5:(stepB now (rb l (i:Int))).2=5
  ·have h5' : (pput now (rb l (i:Int)).f1 (rb l (i:Int)).f2 (rb l (i:Int)).f3 (rb l (i:Int)).f4 (rb l (i:Int)).f5).2=5:=h5
   simp only [if_pos h5']
   have hn:nextB now (rb l (i:Int))=now:=by unfold nextB;rw [if_pos h5]
   rw [hn] at ih2
   simp only [fin,cds,hn]
   exact ih2
  ·have h5' : ¬ (pput now (rb l (i:Int)).f1 (rb l (i:Int)).f2 (rb l (i:Int)).f3 (rb l (i:Int)).f4 (rb l (i:Int)).f5).2=5:=h5
   simp only [if_neg h5']
   have hn:nextB now (rb l (i:Int))=(stepB now (rb l (i:Int))).1:=by unfold nextB;rw [if_neg h5]
   rw [hn] at ih2
   simp only [fin,cds,hn]
   exact ih2
theorem specRun (l:List Bt) (hl:smallBs l):Ev (fun k=>spec_ProducersRun.f k l) (fin l [],cds l []):=by
 unfold spec_ProducersRun.f
 have:=specRun_loop l hl l.length 0 [] [] (by omega) (by omega) VP_nil (by simp)
 simpa using this
theorem sameI_loop (a:List Int) (hs:a.length ≤ 1000000000000):∀ (d i:Nat),a.length - i=d→i ≤ a.length→Ev (fun k=>laws_sameInts.l0 k a a (i:Int)) true:=by
 intro d
 induction d with
 | zero=>
  intro i hd hi
  refine ev_succ ?_
  simp only [laws_sameInts.l0,if_neg (show ¬ (i:Int) < (a.length:Int) by omega)]
  exact ev_some _
 | succ d ih=>
  intro i hd hi
  have e1:wrap64 ((i:Int)+1)=((i+1:Nat):Int):=by rw [wrap_id (by omega) (by omega)];omega
  refine ev_succ ?_
  simp only [laws_sameInts.l0,if_pos (show (i:Int) < (a.length:Int) by omega),if_pos (show (0:Int) ≤ i by omega),if_true,e1]
  exact ih (i+1) (by omega) (by omega)
theorem sameI (a:List Int) (hs:a.length ≤ 1000000000000):Ev (fun k=>laws_sameInts.f k a a) true:=by
 unfold laws_sameInts.f
 simp only [if_true]
 exact sameI_loop a hs a.length 0 (by omega) (by omega)
def drawnBs (n:Nat) (l:List Bt):Prop:=l.length ≤ n∧∀ b ∈ l,drawnR 5 b.f5
theorem drawnBs_add {n:Nat} {l:List Bt} (h:drawnBs n l) {b:Bt} (hb:drawnR 5 b.f5):drawnBs (n+1) (l ++ [b]):=by
 refine ⟨by have:=h.1;simp;omega,fun x hx=>?_⟩
 rcases List.mem_append.1 hx with hx|hx
 ·exact h.2 x hx
 ·rw [List.mem_singleton.1 hx];exact hb
theorem drawnBs_mono {n m:Nat} {l:List Bt} (h:drawnBs n l) (hm:n ≤ m):drawnBs m l:=⟨by have:=h.1;omega,h.2⟩
theorem run_draw_loop (bs:List Int) (hb:Bytes bs) (hl:bs.length ≤ 2000) (n:Int) (hn:n ≤ 10):∀ (d:Nat) (l:List Bt) (x6:List Int) (i p:Int),n - i ≤ d→0 ≤ i→x6.length=3→drawnBs i.toNat l→0 ≤ p→p+1000 * d ≤ 400000000 →
  Evs (fun k=>spec_DrawProducersRun.l0 k l n x6 i bs p) (fun r=>drawnBs (max i n).toNat r):=by
 intro d
 induction d with
 | zero=>
  intro l x6 i p hd hi h3 hll h0 h1
  refine Evs.succ ?_
  simp only [spec_DrawProducersRun.l0,if_neg (show ¬ i < n by omega)]
  exact Evs.done (drawnBs_mono hll (by omega))
 | succ d ih=>
  intro l x6 i p hd hi h3 hll h0 h1
  refine Evs.succ ?_
  by_cases hlt:i < n
  ·have e1:wrap64 (i+1)=i+1:=wrap_id (by omega) (by omega)
   have e2:wrap64 (2 * i)=2 * i:=wrap_id (by omega) (by omega)
   have hlim:l.length < 2513169434916:=lim2 (by have:=hll.1;omega) (by omega)
   simp only [spec_DrawProducersRun.l0,if_pos hlt,e1,if_pos hlim]
   refine Evs.bind (batch_evs bs hb hl p (wrap64 (2 * i)) h0 (by omega)) ?_
   rintro ⟨b0,b1,b2,b3,b4,rs,q⟩ ⟨hd5,hpos,q0,q1,ha2⟩
   dsimp only at hd5 hpos q0 q1 ha2 ⊢
   by_cases h2:b2 < 3
   ·simp only [if_pos h2]
    refine Evs.bind (pick_evs bs q 12 hb hl (by omega) (by omega) (by omega)) ?_
    rintro ⟨u,_⟩ ⟨u0,u1,rfl⟩
    simp only [if_pos ha2,if_pos (show b2 < (x6.length:Int) by omega)]
    refine Evs.bind (pick_evs bs (q+1) 5 hb hl (by omega) (by omega) (by omega)) ?_
    rintro ⟨v,_⟩ ⟨v0,v1,rfl⟩
    by_cases hv:v > 0
    ·simp only [if_pos hv]
     have h:=ih (l ++ [⟨b0,b1,b2,wrap64 (Int.tdiv u 11),rd x6 b2,rs⟩]) (x6.set b2.toNat (wrap64 (rd x6 b2+(rs.length:Int)))) (i+1) (q+1+1) (by omega) (by omega) (by rw [List.length_set];exact h3) (drawnBs_mono (drawnBs_add hll hd5) (by omega)) (by omega) (by omega)
     rw [show max (i+1) n=max i n by omega] at h
     exact h
    ·simp only [if_neg hv]
     have h:=ih (l ++ [⟨b0,b1,b2,wrap64 (Int.tdiv u 11),rd x6 b2,rs⟩]) x6 (i+1) (q+1+1) (by omega) (by omega) h3 (drawnBs_mono (drawnBs_add hll hd5) (by omega)) (by omega) (by omega)
     rw [show max (i+1) n=max i n by omega] at h
     exact h
   ·simp only [if_neg h2]
    have h:=ih (l ++ [⟨b0,b1,b2,b3,b4,rs⟩]) x6 (i+1) q (by omega) (by omega) h3 (drawnBs_mono (drawnBs_add hll hd5) (by omega)) (by omega) (by omega)
    rw [show max (i+1) n=max i n by omega] at h
    exact h
  ·simp only [spec_DrawProducersRun.l0,if_neg hlt]
   exact Evs.done (drawnBs_mono hll (by omega))
theorem drawRun {l0:List Int} (hb:Bytes l0):Evs (fun k=>spec_DrawProducersRun.f k l0) (fun r=>drawnBs 10 r):=by
 obtain ⟨b,ho,hb2,hbl⟩:=open_ev l0 hb
 unfold spec_DrawProducersRun.f
 simp only [ho,bsome]
 refine Evs.bind (pick_evs b 0 7 hb2 hbl (by omega) (by omega) (by omega)) ?_
 rintro ⟨u,_⟩ ⟨u0,u1,rfl⟩
 have h:=run_draw_loop b hb2 hbl u (by omega) 10 [] [0,0,0] 0 (0+1) (by omega) (by omega) rfl ⟨by simp,fun b hb=>by cases hb⟩ (by omega) (by omega)
 exact h.mono (fun r hr=>drawnBs_mono hr (by omega))
theorem drawnBs_small {l:List Bt} (h:drawnBs 10 l):smallBs l:=⟨by have:=h.1;omega,fun b hb=>drawnR_small (by omega) (h.2 b hb)⟩
end Go.Proofs.Ytkhmopmfbocokaa.Q
namespace Go.Proofs.Ytkhmopmfbocokaa.Pure
open Go.RowKit Go.Proofs.Ytkhmopmfbocokaa.T Go.Proofs.YtkhmopmfbocokaaW.PrintWords Go.Proofs.YtkhmopmfbocokaaW.PrintLast Go.Proofs.Ytkhmopmfbocokaa.Q
set_option linter.unusedVariables false
set_option linter.unusedSimpArgs false
theorem run_loop (l:List Bt) (hl:smallBs l) (out:List Pr) (codes:List Int) (hV:VP out) (hcl:codes.length=l.length):∀ (d i:Nat) (now:List Pr),l.length - i=d→i ≤ l.length→VP now→fin (l.drop i) now=out→cds (l.drop i) now=codes.drop i→Ev (fun k=>laws_FnRunProducers.l0 k l out codes now (i:Int)) true:=by
 intro d
 induction d with
 | zero=>
  intro i now hd hi hN hf hc
  rw [show l.drop i = [] from List.drop_eq_nil_of_le (by omega)] at hf
  have hf2:now=out:=hf
  subst hf2
  refine ev_succ ?_
  simp only [laws_FnRunProducers.l0,if_neg (show ¬ (i:Int) < (l.length:Int) by omega),if_pos (show (codes.length:Int)=(l.length:Int) by omega)]
  have h20:=hV.1
  refine Ev.bind (sameP now (by omega)) ?_
  simp only [if_true]
  have h1:=implPValid now (by omega)
  rw [(vp_iff _).2 hV] at h1
  exact Ev.bind h1 (ev_some _)
 | succ d ih=>
  intro i now hd hi hN hf hc
  have hll:=hl.1
  have e1:wrap64 ((i:Int)+1)=((i+1:Nat):Int):=by rw [wrap_id (by omega) (by omega)];omega
  rw [drop_atB (show i < l.length by omega)] at hf hc
  simp only [fin,cds] at hf hc
  rw [drop_int (show i < codes.length by omega)] at hc
  injection hc with hc1 hc2
  have hp:=implPutB now (by have:=hN.1;omega) (rb l (i:Int)).f0 (rb l (i:Int)).f1 (rb l (i:Int)).f2 (rb l (i:Int)).f3 (rb l (i:Int)).f4 (rb l (i:Int)).f5 (smallBs_at hl i (by omega))
  have ih2:=ih (i+1) (nextB now (rb l (i:Int))) (by omega) (by omega) (nextB_valid hN _) hf hc2
  refine ev_succ ?_
  simp only [laws_FnRunProducers.l0,if_pos (show (i:Int) < (l.length:Int) by omega),if_pos (show (0:Int) ≤ i by omega),e1]
  refine Ev.bind hp ?_
  have hc1' : (pput now (rb l (i:Int)).f1 (rb l (i:Int)).f2 (rb l (i:Int)).f3 (rb l (i:Int)).f4 (rb l (i:Int)).f5).2=rd codes (i:Int):=hc1
  simp only [if_pos (show (i:Int) < (codes.length:Int) by omega),if_pos hc1']
  by_cases h5:(stepB now (rb l (i:Int))).2=5
  ·have h5' : (pput now (rb l (i:Int)).f1 (rb l (i:Int)).f2 (rb l (i:Int)).f3 (rb l (i:Int)).f4 (rb l (i:Int)).f5).2=5:=h5
   simp only [if_pos h5']
   have hn:nextB now (rb l (i:Int))=now:=by unfold nextB;rw [if_pos h5]
   rw [hn] at ih2
   exact ih2
  ·have h5' : ¬ (pput now (rb l (i:Int)).f1 (rb l (i:Int)).f2 (rb l (i:Int)).f3 (rb l (i:Int)).f4 (rb l (i:Int)).f5).2=5:=h5
   simp only [if_neg h5']
   have hn:nextB now (rb l (i:Int))=(stepB now (rb l (i:Int))).1:=by unfold nextB;rw [if_neg h5]
   rw [hn] at ih2
   exact ih2
theorem FnRunProducers:laws_FnRunProducers.Pure:=by
 intro l0 _ _ hb0
 refine Ev.rounds ?_
 have hb:=bytes_of hb0
 unfold laws_FnRunProducers.f
 by_cases h:(l0.length:Int) > 1048576
 ·simp only [if_pos h]
  exact ev_some _
 ·simp only [if_neg h]
  obtain ⟨l,hd,hdl⟩:=drawRun hb
  have hl:=drawnBs_small hdl
  have hll:=hl.1
  have hV:=fin_valid l VP_nil
  have h20:=hV.1
  refine Ev.bind hd ?_
  refine Ev.bind (implRun l hl) ?_
  refine Ev.bind (specRun l hl) ?_
  refine Ev.bind (sameI (cds l []) (by rw [cds_len];omega)) ?_
  simp only [if_true]
  refine Ev.bind (sameP (fin l []) (by omega)) ?_
  refine ev_succ ?_
  simp only [laws_FnRunProducers.j0,Bool.not_true,Bool.false_eq_true,if_false]
  exact run_loop l hl (fin l []) (cds l []) hV (cds_len l []) l.length 0 [] (by omega) (by omega) VP_nil rfl rfl
end Go.Proofs.Ytkhmopmfbocokaa.Pure
namespace Go.Proofs.Ytkhmopmfbocokaa.fnRunProducers
open Go.ChangeShapes Go.WideShapes Go.ChangeAt Go.RowKit
open Go.ChangeMaps (open_string shut_string)
set_option linter.unusedVariables false
theorem own:ownKnob Try.prog.godebug=none:=by kernel_rfl
theorem laidOut:laidOutB Try.prog=true:=by kernel_rfl
def IsRow (k:IntKind) (w:World) (a:Option Addr) (len cap:Nat) (zs:List Int):Prop:=
 (a=none∧len=0∧cap=0∧zs = []) ∨
 ∃ x,a=some x∧len ≤ cap∧cap ≤ maxLen∧zs.length=cap∧(∀ i,i < zs.length→w.cell? (x.add i)=some (.int k (zs.getD i 0)))∧∀ n ∈ zs,(Lit.int k n).wf=true
set_option maxRecDepth 100000 in
theorem lifted (os:Os) (started:os.Started) (H:Type) (enc:TypeId × Value→H) :
  ReturnsInHanded {} Try.checked os 14 .any (Rows.fnRunProducersSpec.pre6 enc Try.prog Try.f14 Rows.fnRunProducersRow.domain false) (Rows.fnRunProducersSpec.post enc Try.prog Try.f14 false true false false):=by
 refine returnsInHanded_of_change_sized (C:=Try.checked) own started (by kernel_rfl) Try.func14
  (ChangeSpec.witness6 (enc:=enc) (C:=Try.checked) false ⟨#[],#[.slice none 0 0],[]⟩ 8 (by kernel_rfl) (by kernel_rfl) (by kernel_rfl) (by kernel_rfl)) ?_
 intro W base args ds gs before hval0 hW hcnd hsz0 _
 have hsz:(DataW.weightsEach Try.prog (Try.f14.params.toList ++ Rows.fnRunProducersSpec.plain.varTypes Try.prog) (ds ++ gs)).all (· ≤ reachBytes)=true:=hsz0
 have hval:∀ (j:Nat) t v,Try.f14.params[j]? = some t→args[j]? = some v→Value.okWide Try.prog W .any base t v:=hval0
 have hW':=hW
 obtain ⟨p,q,hA0,hV,rfl,hfz,hnd⟩:=hW
 have hA:DataW.TrodAll enc Try.prog W 0 (fun _=>true) true Try.f14.params.toList args.toList ds p:=hA0
 rw [Try.params14] at hA hval hsz
 obtain ⟨v0,vs0,d0,ds0,p0,q0,hargs,rfl,rfl,h0,r0⟩:=trodAll_cons hA
 obtain ⟨rfl,rfl,rfl⟩:=trodAll_nil r0
 obtain rfl:args = #[v0]:=by cases args;simp_all
 obtain ⟨rfl,rfl⟩:=trodVars_none hV
 obtain ⟨a0,len0,cap0,rfl⟩:=okWide_slice Try.underlying22 (hval 0 22 v0 rfl rfl)
 have k0:=h0
 have lt0:∀ x ∈ p0,x.block < W.heap.size:=by obtain ⟨m,hm⟩:=k0;exact DataW.trod_lt m _ _ _ hm
 obtain ⟨z0,w0⟩:∃ zs,IsRow .u8 W a0 len0 cap0 zs:=by
  obtain ⟨fuel,hf⟩:=h0
  rcases open_ints Try.underlying22 Try.underlying5 (by kernel_rfl) hf with ⟨hcs,_⟩|⟨x,l,c,zs,hcs,_,hl,hm,hz,_,hcell,hwz⟩
  ·simp [Value.cells] at hcs
   obtain ⟨rfl,rfl,rfl⟩:=hcs
   exact ⟨[],.inl ⟨rfl,rfl,rfl,rfl⟩⟩
  ·simp [Value.cells] at hcs
   obtain ⟨rfl,rfl,rfl⟩:=hcs
   exact ⟨zs,.inr ⟨_,rfl,hl,hm,by simpa using hz,hcell,hwz⟩⟩
 have y0:len0 * 1 ≤ 140737488351232:=Go.Proofs.YtkhmopmfbocokaaW.PrintWords.sized_ints hsz (j:=0) (t:=22) rfl rfl Try.underlying22 Try.underlying5 (by kernel_rfl) (by kernel_rfl) h0
 clear hA0 hval0 hsz0 hsz
 refine (T.laws_FnRunProducers.walk Pure.FnRunProducers a0 len0 cap0 z0 W w0 y0).mono fun e W' ⟨he,bel⟩=>?_
 subst he
 exact ⟨_,rfl,_,_,_,[],_,[],hW',trodAll_mk1 (shut_bool Try.underlying4 _),(trodAll_cons_mk (Below.trod laidOut (by kernel_rfl) (of_decide_eq_true (by kernel_rfl)) k0 bel lt0) trodAll_mk0),rfl,bel.frame _,fun h=>by cases h⟩
theorem closed:joinedFacts Try.prog 14 Try.f14 Rows.fnRunProducersSpec Rows.fnRunProducersRow=true:=
 Head.closed_of _ _ _ _ _ (by kernel_rfl) (by kernel_rfl) (by kernel_rfl) (by kernel_rfl) (by kernel_rfl) (by kernel_rfl) (by kernel_rfl) (by kernel_rfl) (by kernel_rfl) (by kernel_rfl) (by kernel_rfl) (by kernel_rfl) (by kernel_rfl) (by kernel_rfl) (by kernel_rfl) (by kernel_rfl) (by kernel_rfl) (by kernel_rfl) (by kernel_rfl) (by kernel_rfl) (by kernel_rfl) (by kernel_rfl) (by kernel_rfl) (by kernel_rfl) (by kernel_rfl) Head.may_enter (by rw [Head.lifts_final];kernel_rfl) (by rw [Head.make_is];kernel_rfl) (by kernel_rfl) (by kernel_rfl) (by kernel_rfl) (by kernel_rfl)
theorem over:Rows.fnRunProducersRow.holds Try.pinned (OpenSpec.ofChange Rows.fnRunProducersSpec):=
 OpenClaim.holds_of_wide 14 Try.f14 rfl rfl rfl rfl rfl rfl rfl ⟨rfl,rfl,rfl,rfl,rfl⟩ rfl rfl rfl rfl rfl (by kernel_rfl) Try.func14 closed
  (of_decide_eq_true (by kernel_rfl)) (by unfold Func.isWrapper;first|(rw [if_pos (by decide +kernel)];kernel_rfl)|(rw [if_neg (by decide +kernel)];exact ⟨rfl,rfl⟩))
  (fun os started H enc _=>lifted os started H enc)
theorem proved:Rows.FnRunProducersSaid:=over
end Go.Proofs.Ytkhmopmfbocokaa.fnRunProducers
namespace Go.Proofs.Ytkhmopmfbocokaa
theorem fnRunProducers_holds:Rows.FnRunProducersSaid:=fnRunProducers.proved
end Go.Proofs.Ytkhmopmfbocokaa
