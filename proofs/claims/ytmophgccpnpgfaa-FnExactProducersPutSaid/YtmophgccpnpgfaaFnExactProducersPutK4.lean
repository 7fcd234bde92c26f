/- The law FnExactProducersPut holds (part 5 of 5; merged by pack2.py). -/
import Derived.OpenShut
import Derived.ShutString
import Derived.ChangeOld
import Derived.SizedLaws
import Derived.Test.YtmophgccpnpgfaaFnExactProducersPutK3
set_option maxRecDepth 1000000
open List (setIfInBounds_toArray set_cons_zero set_cons_succ map_toArray map_cons map_nil length_drop length_take)
namespace Go.Proofs.Ytmophgccpnpgfaa.Q
open Go.RowKit Go.Proofs.Ytmophgccpnpgfaa.T Go.Proofs.YtmophgccpnpgfaaW.PrintWords Go.Proofs.YtmophgccpnpgfaaW.PrintLast
set_option linter.unusedVariables false
set_option linter.unusedSimpArgs false
theorem VP_mem {l:List Pr} (h:VP l):∀ t∈l,okP t:=((VP_iff l).1 h).2.1
theorem VP_sorted {l:List Pr} (h:VP l):l.Pairwise ltP:=((VP_iff l).1 h).2.2
theorem VP_ids {l:List Pr} (h:VP l):idsOk l=true:=by
 unfold idsOk
 rw [List.all_eq_true]
 intro t ht
 have:=(VP_mem h t ht).1
 simp
 omega
theorem VB_prod {a1:Bool} {a2 a3 a4:Int} {rs:List Rc} (h:VB a1 a2 a3 a4 rs) : 0≤a2∧a2≤255:=by
 have:=h.1
 split at this
 ·omega
 ·omega
theorem prodOk_of {l:List Pr} (h:VP l) {a1:Bool} {a2 a3 a4:Int} {rs:List Rc} (hb:VB a1 a2 a3 a4 rs):prodOk l a2=true:=by
 have:=VB_prod hb
 unfold prodOk
 rw [VP_ids h]
 simp
 omega
def slotOf (t:Pr):SlotV:=⟨true,t.f0,t.f1,t.f2⟩
theorem fold_not:∀ (l:List Pr) (f:Nat→SlotV) (i:Nat),(∀ t∈l,t.f0.toNat≠i)→l.foldl slotPut f i=f i
 | [],f,i,h=>rfl
 | a::l,f,i,h=>by
  rw [List.foldl_cons,fold_not l (slotPut f a) i (fun t ht=>h t (List.mem_cons_of_mem _ ht))]
  unfold slotPut
  rw [if_neg (fun e=>h a List.mem_cons_self e.symm)]
theorem fold_mem:∀ (l:List Pr) (f:Nat→SlotV),l.Pairwise ltP→(∀ t∈l,0≤t.f0)→∀ t∈l,l.foldl slotPut f t.f0.toNat=slotOf t
 | [],f,hs,h0,t,ht=>by cases ht
 | a::l,f,hs,h0,t,ht=>by
  rw [List.foldl_cons]
  rw [List.pairwise_cons] at hs
  rcases List.mem_cons.1 ht with rfl|ht
  ·rw [fold_not l _ _ (fun s hs'=>by
    have h1:=hs.1 s hs'
    have h2:=h0 s (List.mem_cons_of_mem _ hs')
    have h3:=h0 t List.mem_cons_self
    unfold ltP at h1
    omega)]
   unfold slotPut slotOf
   rw [if_pos rfl]
  ·exact fold_mem l _ hs.2 (fun s hs'=>h0 s (List.mem_cons_of_mem _ hs')) t ht
theorem slotFn_mem {l:List Pr} (h:VP l) (t:Pr) (ht:t∈l):slotFn l t.f0.toNat=slotOf t:=fold_mem l _ (VP_sorted h) (fun s hs=>(VP_mem h s hs).1.1) t ht
theorem slotFn_not {l:List Pr} (h:VP l) (i:Nat) (hi:∀ t∈l,t.f0≠(i:Int)):slotFn l i=slot0:=by
 unfold slotFn
 rw [fold_not l _ i (fun t ht e=>hi t ht (by have:=(VP_mem h t ht).1.1;omega))]
def findP (l:List Pr) (p:Int):Option Pr:=l.find? (fun t=>t.f0==p)
theorem findP_some {l:List Pr} {p:Int} {t:Pr} (h:findP l p=some t):t∈l∧t.f0=p:=by
 unfold findP at h
 exact ⟨List.mem_of_find?_eq_some h,by have:=List.find?_some h;simpa using this⟩
theorem findP_none {l:List Pr} {p:Int} (h:findP l p=none):∀ t∈l,t.f0≠p:=by
 intro t ht
 have:=List.find?_eq_none.1 h t ht
 simpa using this
def codeP (l:List Pr) (p e s:Int):Int:=
 if p=255 then 4 else match findP l p with
  | some t=>if t.f1 > e then 3 else if t.f1=e then seqCode s t.f2 else seqCode s 0
  | none=>seqCode s 0
theorem codeAt_eq {l:List Pr} (h:VP l) (p e s:Int) (h0 : 0≤p):codeAt (slotFn l) p e s=codeP l p e s:=by
 unfold codeAt codeP
 by_cases hp:p=255
 ·rw [if_pos hp,if_pos hp]
 ·rw [if_neg hp,if_neg hp]
  cases hf:findP l p with
  | none=>
   rw [slotFn_not h p.toNat (fun t ht=>by have:=findP_none hf t ht;omega)]
   rfl
  | some t=>
   obtain ⟨h1,h2⟩:=findP_some hf
   subst h2
   rw [slotFn_mem h t h1]
   rfl
theorem codeP_ne5 (l:List Pr) (p e s:Int):codeP l p e s≠5:=by
 unfold codeP seqCode
 split
 ·omega
 ·split <;> repeat' (split <;> try omega)
noncomputable def pcode (l:List Pr) (a1:Bool) (a2 a3 a4:Int) (rs:List Rc):Int:=if vp l=true then (if vb a1 a2 a3 a4 rs=true then codeP l a2 a3 a4 else 5) else 5
def atP (l:List Pr) (x:Int):Int:=match l.findIdx? (fun t=>t.f0==x) with
 | some i=>i
 | none=>-1
theorem atP_cases (l:List Pr) (x:Int):(atP l x = -1∧findP l x=none∧∀ j,j < l.length→(rp l (j:Int)).f0≠x)∨∃ i:Nat,i < l.length∧atP l x=i∧findP l x=some (rp l (i:Int))∧(rp l (i:Int)).f0=x∧∀ j,j < i→(rp l (j:Int)).f0≠x:=by
 unfold atP findP
 cases h:l.findIdx? (fun t=>t.f0==x) with
 | none=>
  rw [List.findIdx?_eq_none_iff] at h
  refine .inl ⟨rfl,List.find?_eq_none.2 (fun t ht=>by have:=h t ht;simpa using this),fun j hj=>?_⟩
  have:=h l[j] (List.getElem_mem hj)
  rw [rp_nat l j hj]
  simpa using this
 | some i=>
  rw [List.findIdx?_eq_some_iff_getElem] at h
  obtain ⟨hi,h1,h2⟩:=h
  refine .inr ⟨i,hi,rfl,?_,?_,fun j hj=>?_⟩
  ·rw [rp_nat l i hi,List.find?_eq_some_iff_getElem]
   exact ⟨h1,i,hi,rfl,fun j hj=>by have:=h2 j hj;simpa using this⟩
  ·rw [rp_nat l i hi];simpa using h1
  ·rw [rp_nat l j (by omega)]
   have:=h2 j hj
   simpa using this
theorem specAtP_loop (l:List Pr) (x:Int) (hl:l.length≤1000000000000):∀ (d i:Nat),l.length - i=d→i≤l.length→(∀ j,j < i→(rp l (j:Int)).f0≠x)→Ev (fun k=>Q0.l0 k l x (i:Int)) (atP l x):=by
 intro d
 induction d with
 | zero=>
  intro i hd hi hn
  refine ev_succ ?_
  simp only [Q0.l0,if_neg (show ¬ (i:Int) < (l.length:Int) by omega)]
  rcases atP_cases l x with ⟨h,_⟩|⟨j,hj,h,_,h1,_⟩
  ·rw [h];exact ev_some _
  ·exact absurd h1 (hn j (by omega))
 | succ d ih=>
  intro i hd hi hn
  have e1:wrap64 ((i:Int)+1)=((i+1:Nat):Int):=by rw [wrap_id (by omega) (by omega)];omega
  refine ev_succ ?_
  by_cases h:(rp l (i:Int)).f0=x
  ·simp only [Q0.l0,if_pos (show (i:Int) < (l.length:Int) by omega),if_pos (show (0:Int)≤i by omega),if_pos h]
   rcases atP_cases l x with ⟨_,_,h2⟩|⟨j,hj,h2,_,h3,h4⟩
   ·exact absurd h (h2 i (by omega))
   ·have:j=i:=by
     rcases Nat.lt_trichotomy j i with h5|h5|h5
     ·exact absurd h3 (hn j h5)
     ·exact h5
     ·exact absurd h (h4 i h5)
    rw [h2,this]
    exact ev_some _
  ·simp only [Q0.l0,if_pos (show (i:Int) < (l.length:Int) by omega),if_pos (show (0:Int)≤i by omega),if_neg h,e1]
   refine ih (i+1) (by omega) (by omega) (fun j hj=>?_)
   by_cases e:j=i
   ·subst e;exact h
   ·exact hn j (by omega)
theorem specAtP (l:List Pr) (x:Int) (hl:l.length≤1000000000000):Ev (fun k=>Q0.f k l x) (atP l x):=by
 unfold Q0.f
 exact specAtP_loop l x hl l.length 0 (by omega) (by omega) (fun j hj=>by omega)
theorem spec_seq (n:Int) (a0 a1:Bool) (a2 a3 a4:Int) (rs:List Rc):Ev (fun k=>Qu.j0 k n a0 a1 a2 a3 a4 rs) (seqCode a4 n):=by
 refine ev_succ ?_
 unfold seqCode
 simp only [Qu.j0]
 by_cases h:a4 < n
 ·simp only [if_pos h];exact ev_some _
 ·simp only [if_neg h]
  by_cases h2:a4 > n
  ·simp only [if_pos h2];exact ev_some _
  ·simp only [if_neg h2];exact ev_some _
theorem specCode (l:List Pr) (hl:l.length≤1000000000000) (a0 a1:Bool) (a2 a3 a4:Int) (rs:List Rc):Ev (fun k=>Qu.f k l a0 a1 a2 a3 a4 rs) (codeP l a2 a3 a4):=by
 unfold Qu.f codeP
 by_cases hp:a2=255
 ·simp only [if_pos hp];exact ev_some _
 ·simp only [if_neg hp]
  refine Ev.bind (specAtP l a2 hl) ?_
  rcases atP_cases l a2 with ⟨h,hf,_⟩|⟨i,hi,h,hf,h1,_⟩
  ·rw [h,hf]
   simp only [if_neg (show ¬ ((-1:Int) ≥ 0) by omega)]
   exact spec_seq _ _ _ _ _ _ _
  ·rw [h,hf]
   simp only [if_pos (show (i:Int) ≥ 0 by omega),if_pos (show (0:Int)≤i by omega),if_pos (show (i:Int) < (l.length:Int) by omega)]
   by_cases h2:a3 < (rp l (i:Int)).f1
   ·simp only [if_pos h2,if_pos (show (rp l (i:Int)).f1 > a3 from h2)];exact ev_some _
   ·simp only [if_neg h2,if_neg (show ¬ (rp l (i:Int)).f1 > a3 from h2)]
    by_cases h3:a3=(rp l (i:Int)).f1
    ·simp only [if_pos h3,if_pos h3.symm]
     exact spec_seq _ _ _ _ _ _ _
    ·simp only [if_neg h3,if_neg (fun h4=>h3 (Eq.symm h4))]
     exact spec_seq _ _ _ _ _ _ _
theorem specCheck (l:List Pr) (hl:l.length≤1000000000000) (a0 a1:Bool) (a2 a3 a4:Int) (rs:List Rc) (hr:smallRs rs):Ev (fun k=>Qw.f k l a0 a1 a2 a3 a4 rs) (pcode l a1 a2 a3 a4 rs):=by
 unfold Qw.f pcode
 refine Ev.bind (specPValid l hl) ?_
 by_cases h:vp l=true
 ·simp only [if_pos h]
  refine Ev.bind (specB a0 a1 a2 a3 a4 rs hr) ?_
  by_cases h2:vb a1 a2 a3 a4 rs=true
  ·simp only [if_pos h2]
   exact Ev.bind (specCode l hl a0 a1 a2 a3 a4 rs) (ev_some _)
  ·simp only [if_neg h2]
   exact ev_some _
 ·simp only [if_neg h]
  exact ev_some _
theorem pcode_cases (l:List Pr) (a1:Bool) (a2 a3 a4:Int) (rs:List Rc) (h:pcode l a1 a2 a3 a4 rs≠5):VP l∧VB a1 a2 a3 a4 rs∧pcode l a1 a2 a3 a4 rs=codeP l a2 a3 a4:=by
 unfold pcode at h ⊢
 by_cases h1:vp l=true
 ·by_cases h2:vb a1 a2 a3 a4 rs=true
  ·rw [if_pos h1,if_pos h2]
   exact ⟨(vp_iff l).1 h1,(vb_iff _ _ _ _ _).1 h2,rfl⟩
  ·rw [if_pos h1,if_neg h2] at h
   exact absurd rfl h
 ·rw [if_neg h1] at h
  exact absurd rfl h
theorem pcode_of {l:List Pr} (h:VP l) {a1:Bool} {a2 a3 a4:Int} {rs:List Rc} (hb:VB a1 a2 a3 a4 rs):pcode l a1 a2 a3 a4 rs=codeP l a2 a3 a4:=by
 unfold pcode
 rw [if_pos ((vp_iff l).2 h),if_pos ((vb_iff _ _ _ _ _).2 hb)]
abbrev ltk (p:Int) (s:Pr):Bool:=decide (s.f0 < p)
abbrev gtk (p:Int) (s:Pr):Bool:=decide (s.f0 > p)
abbrev nek (p:Int) (s:Pr):Bool:=decide (s.f0≠p)
def insP (l:List Pr) (t:Pr):List Pr:=l.filter (ltk t.f0)++t::l.filter (gtk t.f0)
theorem insP_mem {l:List Pr} {t s:Pr} : s∈insP l t↔s=t∨(s∈l∧s.f0≠t.f0):=by
 unfold insP
 simp only [List.mem_append,List.mem_cons,List.mem_filter,decide_eq_true_eq]
 constructor
 ·rintro (⟨h,h2⟩|h|⟨h,h2⟩)
  ·exact .inr ⟨h,by omega⟩
  ·exact .inl h
  ·exact .inr ⟨h,by omega⟩
 ·rintro (h|⟨h,h2⟩)
  ·exact .inr (.inl h)
  ·rcases Int.lt_or_gt_of_ne h2 with h3|h3
   ·exact .inl ⟨h,h3⟩
   ·exact .inr (.inr ⟨h,h3⟩)
theorem insP_sorted {l:List Pr} (h:l.Pairwise ltP) (t:Pr):(insP l t).Pairwise ltP:=by
 unfold insP
 rw [List.pairwise_append]
 refine ⟨h.filter _,?_,?_⟩
 ·rw [List.pairwise_cons]
  refine ⟨fun s hs=>?_,h.filter _⟩
  have:=(List.mem_filter.1 hs).2
  simp only [decide_eq_true_eq] at this
  exact this
 ·intro s hs u hu
  have h1:=(List.mem_filter.1 hs).2
  simp only [decide_eq_true_eq] at h1
  rcases List.mem_cons.1 hu with rfl|hu
  ·exact h1
  ·have h2:=(List.mem_filter.1 hu).2
   simp only [decide_eq_true_eq] at h2
   exact Int.lt_trans h1 h2
theorem insP_len (l:List Pr) (t:Pr):(insP l t).length≤l.length+l.length+1:=by
 unfold insP
 have h1:=List.length_filter_le (ltk t.f0) l
 have h2:=List.length_filter_le (gtk t.f0) l
 simp only [List.length_append,List.length_cons]
 omega
theorem sorted_at:∀ {l:List Pr},l.Pairwise ltP→∀ t∈l,l.filter (ltk (t.f0+1))=l.filter (ltk t.f0) ++ [t]
 | [],_,t,ht=>by cases ht
 | a::l,h,t,ht=>by
  rw [List.pairwise_cons] at h
  rcases List.mem_cons.1 ht with rfl|ht
  ·rw [List.filter_cons_of_pos (by simp only [decide_eq_true_eq];omega),List.filter_cons_of_neg (by simp),List.filter_eq_nil_iff.2,List.filter_eq_nil_iff.2]
   ·rfl
   ·intro s hs
    have:=h.1 s hs
    unfold ltP at this
    simp only [decide_eq_true_eq]
    omega
   ·intro s hs
    have:=h.1 s hs
    unfold ltP at this
    simp only [decide_eq_true_eq]
    omega
  ·have h1:=h.1 t ht
   unfold ltP at h1
   rw [List.filter_cons_of_pos (by simp only [decide_eq_true_eq];omega),List.filter_cons_of_pos (by simp only [decide_eq_true_eq];omega),sorted_at h.2 t ht]
   rfl
theorem slotList_of {F:Nat→SlotV} {l:List Pr} (hs:l.Pairwise ltP) (h0:∀ t∈l,0≤t.f0∧t.f0 < 255) (h1:∀ t∈l,F t.f0.toNat=slotOf t) (h2:∀ i:Nat,i < 255→(∀ t∈l,t.f0≠(i:Int))→(F i).u=false) :
  ∀ n:Nat,n≤255→slotList F n=l.filter (ltk (n:Int)):=by
 intro n
 induction n with
 | zero=>
  intro _
  rw [List.filter_eq_nil_iff.2]
  ·rfl
  ·intro t ht
   have:=h0 t ht
   simp only [decide_eq_true_eq]
   omega
 | succ n ih=>
  intro hn
  have ih:=ih (by omega)
  by_cases hex:∃ t∈l,t.f0=(n:Int)
  ·obtain ⟨t,ht,hk⟩:=hex
   have hf:=h1 t ht
   rw [hk,Int.toNat_natCast] at hf
   rw [slotList_yes F n (by rw [hf];rfl),ih,hf]
   have h3:=sorted_at hs t ht
   rw [hk] at h3
   rw [show ((n+1:Nat):Int)=(n:Int)+1 by omega,h3]
   rfl
  ·have hno:∀ t∈l,t.f0≠(n:Int):=fun t ht hk=>hex ⟨t,ht,hk⟩
   rw [slotList_no F n (h2 n (by omega) hno),ih]
   refine List.filter_congr (fun t ht=>?_)
   have:=hno t ht
   rw [decide_eq_decide]
   omega
theorem slotList_all {F:Nat→SlotV} {l:List Pr} (hs:l.Pairwise ltP) (h0:∀ t∈l,0≤t.f0∧t.f0 < 255) (h1:∀ t∈l,F t.f0.toNat=slotOf t) (h2:∀ i:Nat,i < 255→(∀ t∈l,t.f0≠(i:Int))→(F i).u=false):slotList F 255=l:=by
 rw [slotList_of hs h0 h1 h2 255 (by omega),List.filter_eq_self]
 intro t ht
 have:=h0 t ht
 simp only [decide_eq_true_eq]
 omega
theorem slotList_back {l:List Pr} (h:VP l):slotList (slotFn l) 255=l:=
 slotList_all (VP_sorted h) (fun t ht=>by have:=(VP_mem h t ht).1;omega) (slotFn_mem h) (fun i _ hi=>by rw [slotFn_not h i hi];rfl)
theorem slotList_set {l:List Pr} (h:VP l) (p e n:Int) (h0 : 0≤p) (h1:p < 255):slotList (slotSet (slotFn l) p e n) 255=insP l ⟨p,e,n⟩:=by
 refine slotList_all (insP_sorted (VP_sorted h) _) ?_ ?_ ?_
 ·intro s hs
  rcases insP_mem.1 hs with rfl|⟨hs,_⟩
  ·exact ⟨h0,h1⟩
  ·have:=(VP_mem h s hs).1
   omega
 ·intro s hs
  unfold slotSet
  rcases insP_mem.1 hs with rfl|⟨hs,hne⟩
  ·rw [if_pos rfl]
   rfl
  ·have:=(VP_mem h s hs).1
   dsimp only at hne
   rw [if_neg (by omega)]
   exact slotFn_mem h s hs
 ·intro i hi hno
  have hp:p≠(i:Int):=hno ⟨p,e,n⟩ (insP_mem.2 (.inl rfl))
  unfold slotSet
  rw [if_neg (by omega),slotFn_not h i (fun t ht=>by
   by_cases hk:t.f0=p
   ·omega
   ·exact hno t (insP_mem.2 (.inr ⟨ht,hk⟩)))]
  rfl
def insGo (t:Pr):List Pr→List Pr
 | []=>[t]
 | a::r=>if a.f0 ≥ t.f0 then t::(a::r).filter (nek t.f0) else a::insGo t r
theorem insGo_eq (t:Pr):∀ {l:List Pr},l.Pairwise ltP→insGo t l=insP l t
 | [],_=>rfl
 | a::l,h=>by
  rw [List.pairwise_cons] at h
  unfold insGo insP
  by_cases ha:a.f0 ≥ t.f0
  ·have hnil:(a::l).filter (ltk t.f0) = []:=by
    rw [List.filter_eq_nil_iff]
    intro s hs
    simp only [decide_eq_true_eq]
    rcases List.mem_cons.1 hs with rfl|hs
    ·omega
    ·have:=h.1 s hs
     unfold ltP at this
     omega
   rw [if_pos ha,hnil,List.nil_append]
   congr 1
   refine List.filter_congr (fun s hs=>?_)
   rw [decide_eq_decide]
   rcases List.mem_cons.1 hs with rfl|hs
   ·omega
   ·have:=h.1 s hs
    unfold ltP at this
    omega
  ·rw [if_neg ha,List.filter_cons_of_pos (by simp only [decide_eq_true_eq];omega),List.filter_cons_of_neg (by simp only [decide_eq_true_eq];omega),insGo_eq t h.2]
   rfl
theorem specPut_done (l:List Pr) (hl:l.length≤1000000000) (p e n:Int):∀ (d i:Nat) (out:List Pr),l.length - i=d→i≤l.length→out.length≤i+1→Ev (fun k=>Qj.l0 k l out true (i:Int) p e n) (out++(l.drop i).filter (nek p)):=by
 intro d
 induction d with
 | zero=>
  intro i out hd hi ho
  refine ev_succ ?_
  rw [show l.drop i = [] from List.drop_eq_nil_of_le (by omega),List.filter_nil,List.append_nil]
  simp only [Qj.l0,if_neg (show ¬ (i:Int) < (l.length:Int) by omega),if_true]
  exact ev_some _
 | succ d ih=>
  intro i out hd hi ho
  have e1:wrap64 ((i:Int)+1)=((i+1:Nat):Int):=by rw [wrap_id (by omega) (by omega)];omega
  refine ev_succ ?_
  rw [drop_atP (show i < l.length by omega)]
  simp only [Qj.l0,if_pos (show (i:Int) < (l.length:Int) by omega),if_true]
  refine ev_succ ?_
  simp only [Qj.j1,Bool.false_eq_true,if_false,if_pos (show (i:Int) < (l.length:Int) by omega),if_pos (show (0:Int)≤i by omega),e1]
  by_cases h:(rp l (i:Int)).f0=p
  ·rw [List.filter_cons_of_neg (by simp only [decide_eq_true_eq];omega)]
   simp only [if_pos h]
   exact ih (i+1) out (by omega) (by omega) (by omega)
  ·rw [List.filter_cons_of_pos (by simp only [decide_eq_true_eq];exact h)]
   simp only [if_neg h,if_pos (show out.length < 5864062014805 by omega)]
   have:=ih (i+1) (out ++ [rp l (i:Int)]) (by omega) (by omega) (by simp;omega)
   rw [List.append_assoc] at this
   exact this
theorem specPut_go (l:List Pr) (hl:l.length≤1000000000) (p e n:Int):∀ (d i:Nat) (out:List Pr),l.length - i=d→i≤l.length→out.length≤i→Ev (fun k=>Qj.l0 k l out false (i:Int) p e n) (out++insGo ⟨p,e,n⟩ (l.drop i)):=by
 intro d
 induction d with
 | zero=>
  intro i out hd hi ho
  refine ev_succ ?_
  rw [show l.drop i = [] from List.drop_eq_nil_of_le (by omega)]
  simp only [Qj.l0,if_neg (show ¬ (i:Int) < (l.length:Int) by omega),Bool.false_eq_true,if_false,if_pos (show out.length < 5864062014805 by omega)]
  exact ev_some _
 | succ d ih=>
  intro i out hd hi ho
  have e1:wrap64 ((i:Int)+1)=((i+1:Nat):Int):=by rw [wrap_id (by omega) (by omega)];omega
  refine ev_succ ?_
  rw [drop_atP (show i < l.length by omega)]
  unfold insGo
  simp only [Qj.l0,if_pos (show (i:Int) < (l.length:Int) by omega),Bool.false_eq_true,if_false,if_pos (show (0:Int)≤i by omega)]
  refine ev_succ ?_
  by_cases hge:(rp l (i:Int)).f0 ≥ p
  ·simp only [Qj.j1,decide_eq_true hge,if_true,if_pos hge,if_pos (show out.length < 5864062014805 by omega),bsome,if_pos (show (i:Int) < (l.length:Int) by omega),if_pos (show (0:Int)≤i by omega),e1]
   by_cases h:(rp l (i:Int)).f0=p
   ·rw [List.filter_cons_of_neg (by simp only [decide_eq_true_eq];omega)]
    simp only [if_pos h]
    have:=specPut_done l hl p e n d (i+1) (out ++ [⟨p,e,n⟩]) (by omega) (by omega) (by simp;omega)
    rw [List.append_assoc] at this
    exact this
   ·rw [List.filter_cons_of_pos (by simp only [decide_eq_true_eq];exact h)]
    simp only [if_neg h,if_pos (show (out ++ [(⟨p,e,n⟩:Pr)]).length < 5864062014805 by simp;omega)]
    have:=specPut_done l hl p e n d (i+1) (out ++ [⟨p,e,n⟩] ++ [rp l (i:Int)]) (by omega) (by omega) (by simp;omega)
    have h2:out ++ [(⟨p,e,n⟩:Pr)] ++ [rp l (i:Int)]++(l.drop (i+1)).filter (nek p)=out++(⟨p,e,n⟩:Pr)::rp l (i:Int)::(l.drop (i+1)).filter (nek p):=by simp
    rw [h2] at this
    exact this
  ·simp only [Qj.j1,decide_eq_false hge,Bool.false_eq_true,if_false,if_neg hge,if_pos (show (i:Int) < (l.length:Int) by omega),if_pos (show (0:Int)≤i by omega),if_neg (show ¬ (rp l (i:Int)).f0=p by omega),if_pos (show out.length < 5864062014805 by omega),e1]
   have:=ih (i+1) (out ++ [rp l (i:Int)]) (by omega) (by omega) (by simp;omega)
   rw [List.append_assoc] at this
   exact this
theorem specPutP (l:List Pr) (h:VP l) (p e n:Int):Ev (fun k=>Qj.f k l p e n) (insP l ⟨p,e,n⟩):=by
 unfold Qj.f
 have h20:=h.1
 have:=specPut_go l (by omega) p e n l.length 0 [] (by omega) (by omega) (by simp)
 rw [← insGo_eq _ (VP_sorted h)]
 simpa using this
abbrev newP (a2 a3 a4:Int) (rs:List Rc):Pr:=⟨a2,a3,wrap64 (a4+(rs.length:Int))⟩
noncomputable def pput (l:List Pr) (a1:Bool) (a2 a3 a4:Int) (rs:List Rc):List Pr×Int:=
 if pcode l a1 a2 a3 a4 rs=5 then ([],5) else if pcode l a1 a2 a3 a4 rs=0 then (if vp (insP l (newP a2 a3 a4 rs))=true then (insP l (newP a2 a3 a4 rs),0) else ([],5)) else (l,pcode l a1 a2 a3 a4 rs)
theorem codeP_zero {l:List Pr} {p e s:Int} (h:codeP l p e s=0):p≠255:=by
 rintro rfl
 have h2:codeP l 255 e s=4:=by unfold codeP;rw [if_pos rfl]
 rw [h2] at h
 omega
theorem implPutB (l:List Pr) (hl:l.length≤1000000000) (a0 a1:Bool) (a2 a3 a4:Int) (rs:List Rc) (hr:smallRs rs):Ev (fun k=>Qr.f k l a0 a1 a2 a3 a4 rs) (pput l a1 a2 a3 a4 rs):=by
 unfold Qr.f
 refine Ev.bind (implPValid l (by omega)) ?_
 by_cases h:vp l=true
 ·simp only [if_pos h]
  refine Ev.bind (implB a0 a1 a2 a3 a4 rs hr) ?_
  by_cases h2:vb a1 a2 a3 a4 rs=true
  ·have hV:=(vp_iff l).1 h
   have hB:=(vb_iff _ _ _ _ _).1 h2
   have hp:=VB_prod hB
   have hc:=codeAt_eq hV a2 a3 a4 hp.1
   have hpc:=pcode_of hV hB
   have h5:=codeP_ne5 l a2 a3 a4
   simp only [if_pos h2,if_pos (prodOk_of hV hB),hc]
   unfold pput
   rw [hpc,if_neg h5]
   unfold putSlots
   by_cases hz:codeP l a2 a3 a4=0
   ·have hne:=codeP_zero hz
    simp only [hc,if_pos hz,slotList_set hV a2 a3 _ hp.1 (by omega)]
    have h20:=hV.1
    have hln:=insP_len l (⟨a2,a3,wrap64 (a4+(rs.length:Int))⟩:Pr)
    refine Ev.bind (implPValid _ (by omega)) ?_
    by_cases hv:vp (insP l (newP a2 a3 a4 rs))=true
    ·simp only [if_pos hv,hz]
     exact ev_some _
    ·simp only [if_neg hv]
     exact ev_some _
   ·simp only [hc,if_neg hz,slotList_back hV]
    refine Ev.bind (implPValid l (by omega)) ?_
    simp only [if_pos h]
    exact ev_some _
  ·simp only [if_neg h2]
   have:pcode l a1 a2 a3 a4 rs=5:=by unfold pcode;rw [if_pos h,if_neg h2]
   unfold pput
   rw [if_pos this]
   exact ev_some _
 ·simp only [if_neg h]
  have:pcode l a1 a2 a3 a4 rs=5:=by unfold pcode;rw [if_neg h]
  unfold pput
  rw [if_pos this]
  exact ev_some _
theorem specPutB (l:List Pr) (hl:l.length≤1000000000) (a0 a1:Bool) (a2 a3 a4:Int) (rs:List Rc) (hr:smallRs rs):Ev (fun k=>Q7.f k l a0 a1 a2 a3 a4 rs) (pput l a1 a2 a3 a4 rs):=by
 unfold Q7.f pput
 refine Ev.bind (specCheck l (by omega) a0 a1 a2 a3 a4 rs hr) ?_
 by_cases h5:pcode l a1 a2 a3 a4 rs=5
 ·simp only [if_pos h5]
  exact ev_some _
 ·obtain ⟨hV,hB,hpc⟩:=pcode_cases l a1 a2 a3 a4 rs h5
  have h:=(vp_iff l).2 hV
  simp only [if_neg h5,bsome,List.length_nil,List.nil_append,if_pos (show 0+l.length < 5864062014805 by omega)]
  by_cases hz:pcode l a1 a2 a3 a4 rs=0
  ·simp only [if_pos hz]
   refine Ev.bind (specPutP l hV a2 a3 _) ?_
   have h20:=hV.1
   have hln:=insP_len l (⟨a2,a3,wrap64 (a4+(rs.length:Int))⟩:Pr)
   refine Ev.bind (specPValid _ (by omega)) ?_
   by_cases hv:vp (insP l (newP a2 a3 a4 rs))=true
   ·simp only [if_pos hv,hz]
    exact ev_some _
   ·simp only [if_neg hv]
    exact ev_some _
  ·simp only [if_neg hz]
   refine Ev.bind (specPValid l (by omega)) ?_
   simp only [if_pos h]
   exact ev_some _
theorem pput_cases (l:List Pr) (a1:Bool) (a2 a3 a4:Int) (rs:List Rc):pput l a1 a2 a3 a4 rs=([],5) ∨
  (VP l∧VB a1 a2 a3 a4 rs∧codeP l a2 a3 a4=0∧VP (insP l (newP a2 a3 a4 rs))∧pput l a1 a2 a3 a4 rs=(insP l (newP a2 a3 a4 rs),0)) ∨
  (VP l∧VB a1 a2 a3 a4 rs∧codeP l a2 a3 a4≠0∧pput l a1 a2 a3 a4 rs=(l,codeP l a2 a3 a4)):=by
 unfold pput
 by_cases h5:pcode l a1 a2 a3 a4 rs=5
 ·rw [if_pos h5]
  exact .inl rfl
 ·obtain ⟨hV,hB,hpc⟩:=pcode_cases l a1 a2 a3 a4 rs h5
  rw [if_neg h5,hpc]
  by_cases hz:codeP l a2 a3 a4=0
  ·rw [if_pos hz]
   by_cases hv:vp (insP l (newP a2 a3 a4 rs))=true
   ·rw [if_pos hv]
    exact .inr (.inl ⟨hV,hB,hz,(vp_iff _).1 hv,rfl⟩)
   ·rw [if_neg hv]
    exact .inl rfl
  ·rw [if_neg hz]
   exact .inr (.inr ⟨hV,hB,hz,rfl⟩)
end Go.Proofs.Ytmophgccpnpgfaa.Q
namespace Go.Proofs.Ytmophgccpnpgfaa.Pure
open Go.RowKit Go.Proofs.Ytmophgccpnpgfaa.T Go.Proofs.YtmophgccpnpgfaaW.PrintWords Go.Proofs.YtmophgccpnpgfaaW.PrintLast Go.Proofs.Ytmophgccpnpgfaa.Q
set_option linter.unusedVariables false
set_option linter.unusedSimpArgs false
theorem cntR_bound (len:Nat→Nat×Nat):∀ n,(∀ i,i < n→(len i).1≤1048576∧(len i).2≤1048576)→cntR len n≤n * 2097156
 | 0,_=>Nat.le_refl _
 | n+1,h=>by
  have h1:=cntR_bound len n (fun i hi=>h i (by omega))
  have h2:=h n (by omega)
  have h3:cntR len (n+1)=cntR len n+(4+(len n).1+(len n).2):=rfl
  omega
theorem markBatch_f (a0 a1:Bool) (a2 a3 a4:Int) (l:List Rc) (hl:l.length≤1048576) (hx:∀ x∈l,okRc x) (a:Int) (h0 : 0≤a) (h1:a≤1000000000):∃ z,Q9.f a0 a1 a2 a3 a4 l a=some z∧0≤z:=by
 have hb:=cntR_bound (fun i=>((Qa l (i:Int)).f3.length,(Qa l (i:Int)).f5.length)) l.length (fun i hi=>by
  have e:Qa l (i:Int)=l[i]:=rr_nat l i hi
  have:=hx _ (List.getElem_mem hi)
  rw [← e] at this
  exact this)
 have ho:okMark l a=true:=by
  unfold okMark
  rw [decide_eq_true_eq]
  omega
 unfold Q9.f
 rw [if_pos ho]
 exact ⟨_,rfl,by omega⟩
theorem FnExactProducersPut (l0:List Lp) (a0 a1:Bool) (a2 a3 a4:Int) (rs:List Lr) (hm:l0.length≤maxLen) (_hw:∀ v∈l0,WF79 v) (_h2:(Lit.int .i64 a2).wf=true) (_h3:(Lit.int .i64 a3).wf=true) (_h4:(Lit.int .i64 a4).wf=true) (hm2:rs.length≤maxLen) (hw2:∀ v∈rs,WF94 v):∃ k,laws_FnExactProducersPut.f k l0 a0 a1 a2 a3 a4 rs=some true:=by
 refine Ev.rounds ?_
 unfold laws_FnExactProducersPut.f
 rcases szProds l0 hm with ⟨hl,hs⟩|⟨hl,hs⟩
 ·simp only [hs,bsome,if_neg (show ¬ (1048576:Int) - (l0.length:Int) < 0 by omega)]
  have ht:=toProds l0 hl
  have hlen:(l0.map toP).length≤1048576:=by simpa using hl
  obtain ⟨r,h1,p1⟩:=szBatC a0 a1 a2 a3 a4 rs (Nat.le_trans hm2 maxLen_le) (fun x hx=>bigR_of (hw2 x hx)) ((1048576:Int) - (l0.length:Int)) (by omega) (by omega)
  refine Ev.bind h1 ?_
  rcases p1 with rfl|⟨s0,s1,s2,s3⟩
  ·simp only [if_pos (show (-1:Int) < 0 by omega)]
   exact ev_some _
  ·simp only [if_neg (show ¬ r < 0 by omega)]
   have hb:=toBatC a0 a1 a2 a3 a4 rs s2 s3
   have hsm:=smallRs_map s2 s3
   have hi:=implPutB (l0.map toP) (by omega) a0 a1 a2 a3 a4 (rs.map toR) hsm
   have hsp:=specPutB (l0.map toP) (by omega) a0 a1 a2 a3 a4 (rs.map toR) hsm
   have hol:(pput (l0.map toP) a1 a2 a3 a4 (rs.map toR)).1.length≤1048576:=by
    rcases pput_cases (l0.map toP) a1 a2 a3 a4 (rs.map toR) with hp|⟨hV,hB,hc,hV2,hp⟩|⟨hV,hB,hc,hp⟩
    ·rw [hp];exact Nat.zero_le _
    ·rw [hp]
     have:=hV2.1
     dsimp only
     omega
    ·rw [hp]
     have:=hV.1
     dsimp only
     omega
   obtain ⟨⟨o,c⟩,ho⟩:∃ x,x=pput (l0.map toP) a1 a2 a3 a4 (rs.map toR):=⟨_,rfl⟩
   rw [← ho] at hi hsp hol
   dsimp only at hol
   clear ho
   have hrl:(rs.map toR).length≤1048576:=by rw [List.length_map];exact s2
   obtain ⟨lm,hmk,_⟩:=markProds (l0.map toP) hlen
   obtain ⟨z,hz,hz0⟩:=markBatch_f a0 a1 a2 a3 a4 (rs.map toR) hrl (okRc_of s3) (1+3 * ((l0.map toP).length:Int)) (by omega) (by omega)
   obtain ⟨lm2,hmk2,hheld⟩:=markProds o hol
   refine Ev.bind ht ?_
   refine Ev.bind hb ?_
   refine Ev.bind hsp ?_
   refine Ev.bind ht ?_
   refine Ev.bind hb ?_
   refine Ev.bind hi ?_
   refine Ev.bind (eqProds_self o hol) ?_
   simp only [if_true,bne_self_eq_false]
   refine ev_succ ?_
   simp only [laws_FnExactProducersPut.j0,Bool.false_eq_true,if_false]
   refine Ev.bind ht ?_
   refine Ev.bind (eqProds_self _ hlen) ?_
   simp only [if_true]
   refine Ev.bind hb ?_
   refine Ev.bind (eqBatC a0 a1 a2 a3 a4 (rs.map toR) hrl (okRc_of s3)) ?_
   simp only [if_true]
   refine Ev.bind hmk ?_
   simp only [hz,bsome,if_neg (show ¬ z < 0 by omega)]
   refine Ev.bind (eqProds_self o hol) ?_
   simp only [if_true,bne_self_eq_false]
   refine ev_succ ?_
   simp only [laws_FnExactProducersPut.j1,Bool.false_eq_true,if_false]
   refine Ev.bind hmk2 ?_
   refine Ev.bind hheld ?_
   simp only [if_neg (show ¬ (1+3 * (o.length:Int)) < 0 by omega),if_true]
   refine Ev.bind ht ?_
   refine Ev.bind hb ?_
   refine Ev.bind hi ?_
   refine Ev.bind (eqProds_self o hol) ?_
   simp only [if_true,bne_self_eq_false]
   refine ev_succ ?_
   simp only [laws_FnExactProducersPut.j2,Bool.false_eq_true,if_false]
   refine Ev.bind hheld ?_
   simp only [if_neg (show ¬ (1+3 * (o.length:Int)) < 0 by omega),if_true]
   exact ev_some _
 ·simp only [hs,bsome,if_pos (show (-1:Int) < 0 by omega)]
  exact ev_some _
end Go.Proofs.Ytmophgccpnpgfaa.Pure
namespace Go.Proofs.Ytmophgccpnpgfaa.fnExactProducersPut
open Go.ChangeShapes Go.WideShapes Go.ChangeAt Go.RowKit
open Go.ChangeMaps (open_string shut_string)
open Go.Proofs.YtmophgccpnpgfaaW.PrintWords
set_option linter.unusedVariables false
theorem own:ownKnob Try.prog.godebug=none:=by kernel_rfl
theorem laidOut:laidOutB Try.prog=true:=by kernel_rfl
theorem lifted (os:Os) (started:os.Started) (H:Type) (enc:TypeId×Value→H) :
  ReturnsInHanded {} Try.checked os 4 .any (Rows.fnExactProducersPutSpec.pre6 enc Try.prog Try.f4 Rows.fnExactProducersPutRow.domain false) (Rows.fnExactProducersPutSpec.post enc Try.prog Try.f4 false true false false):=by
 refine returnsInHanded_of_change_sized (C:=Try.checked) own started (by kernel_rfl) Try.func4
  (ChangeSpec.witness6 (enc:=enc) (C:=Try.checked) false ⟨#[],#[.slice none 0 0,.agg #[.bool false,.bool false,.int .i64 0,.int .i64 0,.int .i64 0,.slice none 0 0]],[]⟩ 8 (by kernel_rfl) (by kernel_rfl) (by kernel_rfl) (by kernel_rfl)) ?_
 intro W base args ds gs before hval0 hW hcnd hsz0 _
 have hval:∀ (j:Nat) t v,Try.f4.params[j]? = some t→args[j]? = some v→Value.okWide Try.prog W .any base t v:=hval0
 have hW':=hW
 obtain ⟨p,q,hA0,hV,rfl,hfz,hnd⟩:=hW
 have hA:DataW.TrodAll enc Try.prog W 0 (fun _=>true) true Try.f4.params.toList args.toList ds p:=hA0
 rw [Try.params4] at hA hval
 obtain ⟨v0,vs0,d0,ds0,p0,q0,hargs,rfl,rfl,h0,r0⟩:=trodAll_cons hA
 obtain ⟨v1,vs1,d1,ds1,p1,q1,rfl,rfl,rfl,h1,r1⟩:=trodAll_cons r0
 obtain ⟨rfl,rfl,rfl⟩:=trodAll_nil r1
 obtain rfl:args = #[v0,v1]:=by cases args;simp_all
 obtain ⟨rfl,rfl⟩:=trodVars_none hV
 obtain ⟨a0,len0,cap0,rfl⟩:=okWide_slice Try.underlying35 (hval 0 35 v0 rfl rfl)
 have k0:=h0
 have lt0:∀ x∈p0,x.block < W.heap.size:=by obtain ⟨m,hm⟩:=k0;exact DataW.trod_lt m _ _ _ hm
 obtain ⟨fu0,hf0⟩:=h0
 obtain ⟨l0,⟨A0,c0,hE0,hc0,hC0⟩,hm0,hw0⟩:=(Q.Opens.slice Try.underlying35 T.opens79 (by kernel_rfl)) _ enc W _ _ _ _ _ _ hf0
 replace hE0:([.slice a0 len0 cap0]:List Value) = [.slice A0 l0.length c0]:=hE0
 simp only [List.cons.injEq,Value.slice.injEq,and_true] at hE0
 obtain ⟨rfl,rfl,rfl⟩:=hE0
 obtain ⟨cs1,rfl,hz1⟩:=okWide_struct Try.underlying38 (hval 1 38 v1 rfl rfl)
 have k1:=h1
 have lt1:∀ x∈p1,x.block < W.heap.size:=by obtain ⟨m,hm⟩:=k1;exact DataW.trod_lt m _ _ _ hm
 obtain ⟨fu1,hf1⟩:=h1
 obtain ⟨x1,hK1,hw1⟩:=T.opens38 _ enc W _ _ _ _ _ _ hf1
 have hO1:=T.k38_open hK1
 obtain ⟨A1_5,c1_5,hO1,hc1_5,hC1_5⟩:=hO1
 obtain rfl:cs1 = #[.bool x1.f0,.bool x1.f1,.int .i64 x1.f2,.int .i64 x1.f3,.int .i64 x1.f4,.slice A1_5 x1.f5.length c1_5]:=Array.ext' (by simpa [Value.cells] using hO1)
 have hw1':=hw1
 unfold T.WF38 at hw1'
 obtain ⟨hw1_0,hw1_1,hw1_2,hw1_3,hw1_4,hw1_5⟩:=hw1'
 clear hA0 hval0 hsz0
 obtain ⟨k,h⟩:=Pure.FnExactProducersPut l0 x1.f0 x1.f1 x1.f2 x1.f3 x1.f4 x1.f5 hm0 hw0 hw1_2 hw1_3 hw1_4 hw1_5.1 hw1_5.2
 refine (T.laws_FnExactProducersPut.calls k _ _ l0 x1.f0 x1.f1 x1.f2 x1.f3 x1.f4 _ _ x1.f5 true W hC0 hc0 hC1_5 hc1_5 h).mono ?_
 rintro e W' ⟨rfl,bel⟩
 exact ⟨_,rfl,_,_,_,[],_,[],hW',trodAll_mk1 (shut_bool Try.underlying4 _),(trodAll_cons_mk (Below.trod laidOut (by kernel_rfl) (of_decide_eq_true (by kernel_rfl)) k0 bel lt0) (trodAll_cons_mk (Below.trod laidOut (by kernel_rfl) (of_decide_eq_true (by kernel_rfl)) k1 bel lt1) trodAll_mk0)),rfl,bel.frame _,fun h=>by cases h⟩
theorem closed:joinedFacts Try.prog 4 Try.f4 Rows.fnExactProducersPutSpec Rows.fnExactProducersPutRow=true:=
 Head.closed_of _ _ _ _ _ (by kernel_rfl) (by kernel_rfl) (by kernel_rfl) (by kernel_rfl) (by kernel_rfl) (by kernel_rfl) (by kernel_rfl) (by kernel_rfl) (by kernel_rfl) (by kernel_rfl) (by kernel_rfl) (by kernel_rfl) (by kernel_rfl) (by kernel_rfl) (by kernel_rfl) (by kernel_rfl) (by kernel_rfl) (by kernel_rfl) (by kernel_rfl) (by kernel_rfl) (by kernel_rfl) (by kernel_rfl) (by kernel_rfl) (by kernel_rfl) (by kernel_rfl) Head.may_enter (by rw [Head.lifts_final];kernel_rfl) (by rw [Head.make_is];kernel_rfl) (by kernel_rfl) (by kernel_rfl) (by kernel_rfl) (by kernel_rfl)
theorem over:Rows.fnExactProducersPutRow.holds Try.pinned (OpenSpec.ofChange Rows.fnExactProducersPutSpec):=
 OpenClaim.holds_of_wide 4 Try.f4 rfl rfl rfl rfl rfl rfl rfl ⟨rfl,rfl,rfl,rfl,rfl⟩ rfl rfl rfl rfl rfl (by kernel_rfl) Try.func4 closed
  (of_decide_eq_true (by kernel_rfl)) (by unfold Func.isWrapper;first|(rw [if_pos (by decide +kernel)];kernel_rfl)|(rw [if_neg (by decide +kernel)];exact ⟨rfl,rfl⟩))
  (fun os started H enc _=>lifted os started H enc)
theorem proved:Rows.FnExactProducersPutSaid:=over
end Go.Proofs.Ytmophgccpnpgfaa.fnExactProducersPut
namespace Go.Proofs.Ytmophgccpnpgfaa
theorem fnExactProducersPut_holds:Rows.FnExactProducersPutSaid:=fnExactProducersPut.proved
end Go.Proofs.Ytmophgccpnpgfaa
