/- The law FnExactProducersRun holds (part 5 of 5; merged by pack2.py). -/
import Derived.OpenShut
import Derived.ShutString
import Derived.ChangeOld
import Derived.SizedLaws
import Derived.Test.YtmophgccpnpgfaaFnExactProducersRunK3
set_option maxRecDepth 1000000
open List (setIfInBounds_toArray set_cons_zero set_cons_succ map_toArray map_cons map_nil length_drop length_take)
namespace Go.Proofs.Ytmophgccpnpgfaa.Q
open Go.RowKit Go.Proofs.Ytmophgccpnpgfaa.T Go.Proofs.YtmophgccpnpgfaaW.PrintWords Go.Proofs.YtmophgccpnpgfaaW.PrintLast
set_option linter.unusedVariables false
set_option linter.unusedSimpArgs false
theorem rd_nat (l:List Int) (j:Nat) (h:j < l.length):rd l (j:Int)=l[j]:=by
 unfold rd
 rw [Int.toNat_natCast,List.getD_eq_getElem?_getD,List.getElem?_eq_getElem h]
 rfl
theorem drop_int {l:List Int} {i:Nat} (h:i < l.length):l.drop i=rd l i::l.drop (i+1):=by
 rw [List.drop_eq_getElem_cons h,rd_nat l i h]
def ab (l:List Int):Bool:=decide (∀ x∈l,0≤x∧x≤255)
theorem ab_cons (x:Int) (l:List Int):ab (x::l)=(decide (0≤x∧x≤255)&&ab l):=by
 rw [Bool.eq_iff_iff]
 simp [ab,List.forall_mem_cons]
theorem ab_nil:ab []=true:=by simp [ab]
theorem isByte_eq (a:Int):Rq.f a=some (decide (0≤a∧a≤255)):=by
 unfold Rq.f
 by_cases h:a ≥ 0
 ·rw [if_pos h]
  have:(0≤a∧a≤255)↔a≤255:=⟨fun h=>h.2,fun h'=>⟨h,h'⟩⟩
  simp [this]
 ·rw [if_neg h]
  have:¬ (0≤a∧a≤255):=fun h'=>h h'.1
  simp [this]
theorem baseValid_eq (a b:Int):Rf.f a b=some (decide ((0≤a∧a≤99999)∧(0≤b∧b≤99999))):=by
 unfold Rf.f
 rw [Rs,Rs]
 by_cases h : 0≤a∧a≤99999 <;> simp [h]
theorem idValid_eqB (a:Int):Q5.f a=some (decide (0≤a∧a≤254)):=by
 unfold Q5.f
 rw [Rs]
 rfl
theorem implAll_loop (l:List Int) (hl:l.length≤1000000000000000):∀ (d i:Nat),l.length - i=d→i≤l.length→Ev (fun k=>Q4.l0 k l (l.length:Int) (i:Int)) (ab (l.drop i)):=by
 intro d
 induction d with
 | zero=>
  intro i hd hi
  rw [show l.drop i = [] from List.drop_eq_nil_of_le (by omega),ab_nil]
  refine ev_succ ?_
  simp only [Q4.l0,if_neg (show ¬ (i:Int) < (l.length:Int) by omega)]
  exact ev_some _
 | succ d ih=>
  intro i hd hi
  have e1:wrap64 ((i:Int)+1)=((i+1:Nat):Int):=by rw [wrap_id (by omega) (by omega)];omega
  rw [drop_int (show i < l.length by omega),ab_cons]
  refine ev_succ ?_
  simp only [Q4.l0,if_pos (show (i:Int) < (l.length:Int) by omega),if_pos (show (0:Int)≤i by omega),isByte_eq,bsome,decide_eq_true_eq,e1]
  by_cases h : 0≤rd l (i:Int)∧rd l (i:Int)≤255
  ·simp only [if_pos h,decide_eq_true h,Bool.true_and]
   exact ih (i+1) (by omega) (by omega)
  ·simp only [if_neg h,decide_eq_false h,Bool.false_and]
   exact ev_some _
theorem implAll (l:List Int) (hl:l.length≤1000000000000000):Ev (fun k=>Q4.f k l) (ab l):=by
 unfold Q4.f
 have:=implAll_loop l hl l.length 0 (by omega) (by omega)
 simpa using this
theorem specAll_loop (l:List Int) (hl:l.length≤1000000000000000):∀ (d i:Nat),l.length - i=d→i≤l.length→Ev (fun k=>Q7.l0 k l (i:Int)) (ab (l.drop i)):=by
 intro d
 induction d with
 | zero=>
  intro i hd hi
  rw [show l.drop i = [] from List.drop_eq_nil_of_le (by omega),ab_nil]
  refine ev_succ ?_
  simp only [Q7.l0,if_neg (show ¬ (i:Int) < (l.length:Int) by omega)]
  exact ev_some _
 | succ d ih=>
  intro i hd hi
  have e1:wrap64 ((i:Int)+1)=((i+1:Nat):Int):=by rw [wrap_id (by omega) (by omega)];omega
  rw [drop_int (show i < l.length by omega),ab_cons]
  refine ev_succ ?_
  simp only [Q7.l0,if_pos (show (i:Int) < (l.length:Int) by omega),if_pos (show (0:Int)≤i by omega),spec_l6In_eq,bsome,decide_eq_true_eq,e1]
  by_cases h : 0≤rd l (i:Int)∧rd l (i:Int)≤255
  ·simp only [if_pos h,decide_eq_true h,Bool.true_and]
   exact ih (i+1) (by omega) (by omega)
  ·simp only [if_neg h,decide_eq_false h,Bool.false_and]
   exact ev_some _
theorem specAll (l:List Int) (hl:l.length≤1000000000000000):Ev (fun k=>Q7.f k l) (ab l):=by
 unfold Q7.f
 have:=specAll_loop l hl l.length 0 (by omega) (by omega)
 simpa using this
def pv (has:Bool) (l:List Int):Bool:=if has=true then decide (l.length≤12)&&ab l else decide (l.length=0)
theorem implPart (has:Bool) (l:List Int) (hl:l.length≤1000000000000000):Ev (fun k=>Q9.f k has l) (pv has l):=by
 unfold Q9.f pv
 cases has with
 | true=>
  simp only [if_true]
  by_cases h:(l.length:Int)≤12
  ·simp only [if_pos h,decide_eq_true (show l.length≤12 by omega),Bool.true_and]
   exact Ev.bind (implAll l hl) (ev_some _)
  ·simp only [if_neg h,decide_eq_false (show ¬ l.length≤12 by omega),Bool.false_and]
   exact ev_some _
 | false=>
  simp only [Bool.false_eq_true,if_false]
  rw [show ((l.length:Int)==0)=decide (l.length=0) by rw [Bool.eq_iff_iff];simp]
  exact ev_some _
theorem specPart (has:Bool) (l:List Int) (hl:l.length≤1000000000000000):Ev (fun k=>Rh.f k has l) (pv has l):=by
 unfold Rh.f pv
 cases has with
 | true=>
  simp only [if_true]
  refine Ev.bind (specAll l hl) ?_
  by_cases h:ab l=true
  ·simp only [if_pos h,h,Bool.and_true]
   rw [show decide ((l.length:Int)≤12)=decide (l.length≤12) by rw [decide_eq_decide];omega]
   exact ev_some _
  ·simp only [if_neg h,show ab l=false by simpa using h,Bool.and_false]
   exact ev_some _
 | false=>
  simp only [Bool.false_eq_true,if_false]
  by_cases h:l.length=0
  ·simp only [if_pos (show (l.length:Int)=0 by omega),decide_eq_true h]
   refine Ev.bind (specAll l hl) ?_
   have hn:l = []:=List.length_eq_zero_iff.1 h
   subst hn
   simp only [ab_nil,if_true]
   exact ev_some _
  ·simp only [if_neg (show ¬ (l.length:Int)=0 by omega),decide_eq_false h]
   exact ev_some _
abbrev Rc:=S75
abbrev rr (l:List Rc) (i:Int):Rc:=Qa l i
theorem rr_nat (l:List Rc) (j:Nat) (h:j < l.length):rr l (j:Int)=l[j]:=by
 unfold rr Qa
 rw [Int.toNat_natCast,List.getD_eq_getElem?_getD,List.getElem?_eq_getElem h]
 rfl
def smallR (r:Rc):Prop:=r.f3.length≤1000000000000000∧r.f5.length≤1000000000000000
def smallRs (l:List Rc):Prop:=l.length≤1000000000000000∧∀ r∈l,smallR r
theorem smallRs_at {l:List Rc} (h:smallRs l) (j:Nat) (hj:j < l.length):smallR (rr l (j:Int)):=by
 rw [rr_nat l j hj]
 exact h.2 _ (List.getElem_mem hj)
def rv (r:Rc):Bool:=decide ((0≤r.f0∧r.f0≤99999)∧(0≤r.f1∧r.f1≤99999))&&(pv r.f2 r.f3&&pv r.f4 r.f5)
theorem implRec (r:Rc) (h:smallR r):Ev (fun k=>Ra.f k r.f0 r.f1 r.f2 r.f3 r.f4 r.f5) (rv r):=by
 unfold Ra.f rv
 simp only [baseValid_eq,bsome,decide_eq_true_eq]
 by_cases h0:(0≤r.f0∧r.f0≤99999)∧(0≤r.f1∧r.f1≤99999)
 ·simp only [if_pos h0,decide_eq_true h0,Bool.true_and]
  refine Ev.bind (implPart _ _ h.1) ?_
  by_cases h1:pv r.f2 r.f3=true
  ·simp only [if_pos h1,h1,Bool.true_and]
   exact Ev.bind (implPart _ _ h.2) (ev_some _)
  ·simp only [if_neg h1,show pv r.f2 r.f3=false by simpa using h1,Bool.false_and]
   exact ev_some _
 ·simp only [if_neg h0,decide_eq_false h0,Bool.false_and]
  exact ev_some _
theorem specRec (r:Rc) (h:smallR r):Ev (fun k=>Rb.f k r.f0 r.f1 r.f2 r.f3 r.f4 r.f5) (rv r):=by
 unfold Rb.f rv
 simp only [spec_l6In_eq,bsome,decide_eq_true_eq]
 by_cases h0 : 0≤r.f0∧r.f0≤99999
 ·by_cases h1 : 0≤r.f1∧r.f1≤99999
  ·simp only [if_pos h0,if_pos h1,decide_eq_true (show (0≤r.f0∧r.f0≤99999)∧(0≤r.f1∧r.f1≤99999) from ⟨h0,h1⟩),Bool.true_and]
   refine Ev.bind (specPart _ _ h.1) ?_
   by_cases h2:pv r.f2 r.f3=true
   ·simp only [if_pos h2,h2,Bool.true_and]
    exact Ev.bind (specPart _ _ h.2) (ev_some _)
   ·simp only [if_neg h2,show pv r.f2 r.f3=false by simpa using h2,Bool.false_and]
    exact ev_some _
  ·simp only [if_pos h0,if_neg h1,decide_eq_false (show ¬ ((0≤r.f0∧r.f0≤99999)∧(0≤r.f1∧r.f1≤99999)) from fun h=>h1 h.2),Bool.false_and]
   exact ev_some _
 ·simp only [if_neg h0,decide_eq_false (show ¬ ((0≤r.f0∧r.f0≤99999)∧(0≤r.f1∧r.f1≤99999)) from fun h=>h0 h.1),Bool.false_and]
  exact ev_some _
def RF (l:List Rc) (i:Nat):Prop:=∀ j,i≤j→j < l.length→rv (rr l j)=true∧(0 < j→(rr l ((j:Int) - 1)).f0 < (rr l j).f0)
theorem RF_end {l:List Rc} {i:Nat} (h:l.length≤i):RF l i:=fun j h1 h2=>by omega
theorem RF_step {l:List Rc} {i:Nat} (h:i < l.length):RF l i↔(rv (rr l i)=true∧(0 < i→(rr l ((i:Int) - 1)).f0 < (rr l i).f0))∧RF l (i+1):=by
 constructor
 ·intro hv
  exact ⟨hv i (Nat.le_refl _) h,fun j h1 h2=>hv j (by omega) h2⟩
 ·rintro ⟨h1,h2⟩ j h3 h4
  by_cases e:j=i
  ·subst e;exact h1
  ·exact h2 j (by omega) h4
theorem implRecs_loop (l:List Rc) (hl:smallRs l) (a0 a1:Bool) (a2 a3 a4:Int):∀ (d i:Nat),l.length - i=d→i≤l.length→Evs (fun k=>Qd.l0 k l (l.length:Int) (i:Int) a0 a1 a2 a3 a4 l) (fun b=>b=true↔RF l i):=by
 intro d
 induction d with
 | zero=>
  intro i hd hi
  refine Evs.succ ?_
  simp only [Qd.l0,if_neg (show ¬ (i:Int) < (l.length:Int) by omega)]
  exact Evs.done (by simp;exact RF_end (by omega))
 | succ d ih=>
  intro i hd hi
  have hll:=hl.1
  have hn:=ih (i+1) (by omega) (by omega)
  have e1:wrap64 ((i:Int)+1)=((i+1:Nat):Int):=by rw [wrap_id (by omega) (by omega)];omega
  have e2:wrap64 ((i:Int) - 1)=(i:Int) - 1:=wrap_id (by omega) (by omega)
  rw [RF_step (show i < l.length by omega)]
  refine Evs.succ ?_
  simp only [Qd.l0,if_pos (show (i:Int) < (l.length:Int) by omega),if_pos (show (0:Int)≤i by omega),e1,e2]
  refine Evs.bind (Evs.of (implRec (rr l (i:Int)) (smallRs_at hl i (by omega))) rfl:Evs _ (fun x=>x=rv (rr l (i:Int)))) ?_
  rintro _ rfl
  by_cases h1:rv (rr l (i:Int))=true
  ·simp only [if_pos h1]
   by_cases h0:(i:Int) > 0
   ·simp only [if_pos h0,if_pos (show 0≤(i:Int) - 1 by omega),if_pos (show (i:Int) - 1 < (l.length:Int) by omega)]
    by_cases h2:(rr l ((i:Int) - 1)).f0 ≥ (rr l (i:Int)).f0
    ·simp only [if_pos h2]
     refine Evs.done ?_
     simp only [Bool.false_eq_true,false_iff]
     rintro ⟨⟨_,h3⟩,_⟩
     have:=h3 (by omega)
     omega
    ·simp only [if_neg h2]
     refine hn.mono fun b hb=>?_
     rw [hb]
     exact ⟨fun h=>⟨⟨h1,fun _=>by omega⟩,h⟩,fun h=>h.2⟩
   ·simp only [if_neg h0]
    refine hn.mono fun b hb=>?_
    rw [hb]
    exact ⟨fun h=>⟨⟨h1,fun h'=>absurd h' (by omega)⟩,h⟩,fun h=>h.2⟩
  ·simp only [if_neg h1]
   exact Evs.done (by simp only [Bool.false_eq_true,false_iff];exact fun h=>h1 h.1.1)
theorem specRecs_loop (l:List Rc) (hl:smallRs l):∀ (d i:Nat),l.length - i=d→i≤l.length→Evs (fun k=>Qg.l0 k l (i:Int)) (fun b=>b=true↔RF l i∧1≤l.length∧l.length≤6):=by
 intro d
 induction d with
 | zero=>
  intro i hd hi
  refine Evs.succ ?_
  simp only [Qg.l0,if_neg (show ¬ (i:Int) < (l.length:Int) by omega),spec_l6In_eq,bsome]
  exact Evs.done (by simp only [decide_eq_true_eq];exact ⟨fun h=>⟨RF_end (by omega),by omega,by omega⟩,fun h=>by have:=h.2;omega⟩)
 | succ d ih=>
  intro i hd hi
  have hll:=hl.1
  have hn:=ih (i+1) (by omega) (by omega)
  have e1:wrap64 ((i:Int)+1)=((i+1:Nat):Int):=by rw [wrap_id (by omega) (by omega)];omega
  have e2:wrap64 ((i:Int) - 1)=(i:Int) - 1:=wrap_id (by omega) (by omega)
  rw [RF_step (show i < l.length by omega)]
  refine Evs.succ ?_
  simp only [Qg.l0,if_pos (show (i:Int) < (l.length:Int) by omega),if_pos (show (0:Int)≤i by omega),e1,e2]
  refine Evs.bind (Evs.of (specRec (rr l (i:Int)) (smallRs_at hl i (by omega))) rfl:Evs _ (fun x=>x=rv (rr l (i:Int)))) ?_
  rintro _ rfl
  by_cases h1:rv (rr l (i:Int))=true
  ·simp only [if_pos h1]
   by_cases h0:(i:Int) > 0
   ·simp only [if_pos h0,if_pos (show 0≤(i:Int) - 1 by omega),if_pos (show (i:Int) - 1 < (l.length:Int) by omega)]
    by_cases h2:(rr l ((i:Int) - 1)).f0 ≥ (rr l (i:Int)).f0
    ·simp only [if_pos h2]
     refine Evs.done ?_
     simp only [Bool.false_eq_true,false_iff]
     rintro ⟨⟨⟨_,h3⟩,_⟩,_⟩
     have:=h3 (by omega)
     omega
    ·simp only [if_neg h2]
     refine hn.mono fun b hb=>?_
     rw [hb]
     exact ⟨fun h=>⟨⟨⟨h1,fun _=>by omega⟩,h.1⟩,h.2⟩,fun h=>⟨h.1.2,h.2⟩⟩
   ·simp only [if_neg h0]
    refine hn.mono fun b hb=>?_
    rw [hb]
    exact ⟨fun h=>⟨⟨⟨h1,fun h'=>absurd h' (by omega)⟩,h.1⟩,h.2⟩,fun h=>⟨h.1.2,h.2⟩⟩
  ·simp only [if_neg h1]
   exact Evs.done (by simp only [Bool.false_eq_true,false_iff];exact fun h=>h1 h.1.1.1)
def VB (a1:Bool) (a2 a3 a4:Int) (l:List Rc):Prop:=
 (if a2=255 then a3=0∧a4=0∧a1=false else (0≤a2∧a2≤254)∧(0≤a3∧a3≤99)∧(0≤a4∧a4≤9999))∧(1≤l.length∧l.length≤6)∧(a1=true→l.length=1)∧RF l 0
theorem implB_j0 (a0 a1:Bool) (a2 a3 a4:Int) (l:List Rc) (hl:smallRs l):Evs (fun k=>Qd.j0 k a0 a1 a2 a3 a4 l) (fun b=>b=true↔(1≤l.length∧l.length≤6)∧(a1=true→l.length=1)∧RF l 0):=by
 have hr:=implRecs_loop l hl a0 a1 a2 a3 a4 l.length 0 (by omega) (by omega)
 refine Evs.succ ?_
 simp only [Qd.j0,Rs,bsome,decide_eq_true_eq]
 by_cases h : 1≤(l.length:Int)∧(l.length:Int)≤6
 ·simp only [if_pos h]
  cases a1 with
  | true=>
   simp only [if_true]
   refine Evs.succ ?_
   by_cases h1:l.length=1
   ·simp only [Qd.j1,show ((l.length:Int) != 1)=false by rw [h1];rfl,Bool.false_eq_true,if_false]
    refine hr.mono fun b hb=>?_
    rw [hb]
    exact ⟨fun h2=>⟨by omega,fun _=>h1,h2⟩,fun h2=>h2.2.2⟩
   ·simp only [Qd.j1,show ((l.length:Int) != 1)=true by simp;omega,if_true]
    exact Evs.done (by simp only [Bool.false_eq_true,false_iff];exact fun h2=>h1 (h2.2.1 trivial))
  | false=>
   simp only [Bool.false_eq_true,if_false]
   refine Evs.succ ?_
   simp only [Qd.j1,Bool.false_eq_true,if_false]
   refine hr.mono fun b hb=>?_
   rw [hb]
   exact ⟨fun h2=>⟨by omega,(fun h3=>h3.elim),h2⟩,fun h2=>h2.2.2⟩
 ·simp only [if_neg h]
  refine Evs.succ ?_
  simp only [Qd.j1,if_true]
  exact Evs.done (by simp only [Bool.false_eq_true,false_iff];exact fun h2=>h ⟨by have:=h2.1.1;omega,by have:=h2.1.2;omega⟩)
theorem implB_evs (a0 a1:Bool) (a2 a3 a4:Int) (l:List Rc) (hl:smallRs l):Evs (fun k=>Qd.f k a0 a1 a2 a3 a4 l) (fun b=>b=true↔VB a1 a2 a3 a4 l):=by
 have hj:=implB_j0 a0 a1 a2 a3 a4 l hl
 unfold Qd.f VB
 by_cases h:a2=255
 ·simp only [if_pos h]
  by_cases h3:a3=0
  ·simp only [if_pos h3]
   by_cases h4:a4=0
   ·simp only [if_pos h4]
    cases a1 with
    | true=>
     simp only [if_true]
     exact Evs.done (by simp)
    | false=>
     simp only [Bool.false_eq_true,if_false]
     refine hj.mono fun b hb=>?_
     rw [hb]
     exact ⟨fun h2=>⟨⟨h3,h4,trivial⟩,h2.1,(fun h5=>h5.elim),h2.2.2⟩,fun h2=>⟨h2.2.1,(fun h5=>by cases h5),h2.2.2.2⟩⟩
   ·simp only [if_neg h4]
    exact Evs.done (by simp only [Bool.false_eq_true,false_iff];exact fun h2=>h4 h2.1.2.1)
  ·simp only [if_neg h3]
   exact Evs.done (by simp only [Bool.false_eq_true,false_iff];exact fun h2=>h3 h2.1.1)
 ·simp only [if_neg h,idValid_eqB,Rs,bsome,decide_eq_true_eq]
  by_cases h2 : 0≤a2∧a2≤254
  ·simp only [if_pos h2]
   by_cases h3 : 0≤a3∧a3≤99
   ·simp only [if_pos h3]
    by_cases h4 : 0≤a4∧a4≤9999
    ·simp only [if_pos h4]
     refine hj.mono fun b hb=>?_
     rw [hb]
     exact ⟨fun h5=>⟨⟨h2,h3,h4⟩,h5⟩,fun h5=>h5.2⟩
    ·simp only [if_neg h4]
     exact Evs.done (by simp only [Bool.false_eq_true,false_iff];exact fun h5=>h4 h5.1.2.2)
   ·simp only [if_neg h3]
    exact Evs.done (by simp only [Bool.false_eq_true,false_iff];exact fun h5=>h3 h5.1.2.1)
  ·simp only [if_neg h2]
   exact Evs.done (by simp only [Bool.false_eq_true,false_iff];exact fun h5=>h2 h5.1.1)
theorem specB_j0_true (a0 a1:Bool) (a2 a3 a4:Int) (l:List Rc):Evs (fun k=>Qr.j0 k true a0 a1 a2 a3 a4 l) (fun b=>b=false):=by
 refine Evs.succ ?_
 simp only [Qr.j0,if_true]
 exact Evs.done rfl
theorem specB_evs (a0 a1:Bool) (a2 a3 a4:Int) (l:List Rc) (hl:smallRs l):Evs (fun k=>Qr.f k a0 a1 a2 a3 a4 l) (fun b=>b=true↔VB a1 a2 a3 a4 l):=by
 have hr:=specRecs_loop l hl l.length 0 (by omega) (by omega)
 have no:∀ {P:Prop},¬ P→∀ b:Bool,b=false→(b=true↔P):=fun hP b hb=>by rw [hb];simp only [Bool.false_eq_true,false_iff];exact hP
 unfold Qr.f
 unfold Qg.f
 refine Evs.bind hr ?_
 intro t ht
 by_cases h:t=true
 ·obtain ⟨hRF,hl1⟩:=ht.1 h
  simp only [if_pos h,spec_l6In_eq,bsome,decide_eq_true_eq]
  by_cases h2 : 0≤a2∧a2≤255
  ·simp only [if_pos h2]
   by_cases h3 : 0≤a3∧a3≤99
   ·simp only [if_pos h3]
    by_cases h4 : 0≤a4∧a4≤9999
    ·simp only [decide_eq_true h4,Bool.not_true]
     refine Evs.succ ?_
     simp only [Qr.j0,Bool.false_eq_true,if_false]
     unfold VB
     by_cases h5:a2=255
     ·simp only [if_pos h5]
      by_cases h6:a3=0
      ·simp only [if_pos h6]
       by_cases h7:a4=0
       ·simp only [if_pos h7]
        refine Evs.done ?_
        cases a1
        ·simp;exact ⟨⟨h6,h7⟩,hl1,hRF⟩
        ·simp
       ·simp only [if_neg h7]
        exact Evs.done (no (fun h8=>h7 h8.1.2.1) _ rfl)
      ·simp only [if_neg h6]
       exact Evs.done (no (fun h8=>h6 h8.1.1) _ rfl)
     ·simp only [if_neg h5]
      cases a1 with
      | true=>
       simp only [if_true]
       refine Evs.done ?_
       simp only [beq_iff_eq]
       exact ⟨fun h8=>⟨⟨by omega,h3,h4⟩,hl1,fun _=>by omega,hRF⟩,fun h8=>by have:=h8.2.2.1 trivial;omega⟩
      | false=>
       simp only [Bool.false_eq_true,if_false]
       refine Evs.done ?_
       simp only [true_iff]
       exact ⟨⟨by omega,h3,h4⟩,hl1,(fun h8=>h8.elim),hRF⟩
    ·simp only [decide_eq_false h4,Bool.not_false]
     refine (specB_j0_true a0 a1 a2 a3 a4 l).mono (no ?_)
     unfold VB
     split
     ·rintro ⟨⟨_,h8,_⟩,_⟩
      exact h4 (by omega)
     ·exact fun h8=>h4 h8.1.2.2
   ·simp only [if_neg h3]
    refine (specB_j0_true a0 a1 a2 a3 a4 l).mono (no ?_)
    unfold VB
    split
    ·rintro ⟨⟨h8,_,_⟩,_⟩
     exact h3 (by omega)
    ·exact fun h8=>h3 h8.1.2.1
  ·simp only [if_neg h2]
   refine (specB_j0_true a0 a1 a2 a3 a4 l).mono (no ?_)
   unfold VB
   split
   ·rename_i h8
    exact fun _=>h2 (by omega)
   ·exact fun h8=>h2 (by have:=h8.1.1;omega)
 ·simp only [if_neg h]
  refine (specB_j0_true a0 a1 a2 a3 a4 l).mono (no ?_)
  exact fun h8=>h (ht.2 ⟨h8.2.2.2,h8.2.1⟩)
open Classical in
noncomputable def vb (a1:Bool) (a2 a3 a4:Int) (l:List Rc):Bool:=decide (VB a1 a2 a3 a4 l)
theorem vb_iff (a1:Bool) (a2 a3 a4:Int) (l:List Rc):vb a1 a2 a3 a4 l=true↔VB a1 a2 a3 a4 l:=by unfold vb;simp
theorem implB (a0 a1:Bool) (a2 a3 a4:Int) (l:List Rc) (hl:smallRs l):Ev (fun k=>Qd.f k a0 a1 a2 a3 a4 l) (vb a1 a2 a3 a4 l):=by
 obtain ⟨b,hb,h⟩:=implB_evs a0 a1 a2 a3 a4 l hl
 rw [show vb a1 a2 a3 a4 l=b by rw [Bool.eq_iff_iff,vb_iff,h]]
 exact hb
theorem specB (a0 a1:Bool) (a2 a3 a4:Int) (l:List Rc) (hl:smallRs l):Ev (fun k=>Qr.f k a0 a1 a2 a3 a4 l) (vb a1 a2 a3 a4 l):=by
 obtain ⟨b,hb,h⟩:=specB_evs a0 a1 a2 a3 a4 l hl
 rw [show vb a1 a2 a3 a4 l=b by rw [Bool.eq_iff_iff,vb_iff,h]]
 exact hb
end Go.Proofs.Ytmophgccpnpgfaa.Q
namespace Go.Proofs.Ytmophgccpnpgfaa.T
open Go.RowKit Go.Proofs.YtmophgccpnpgfaaW.PrintWords Go.Proofs.YtmophgccpnpgfaaW.PrintLast Go.Proofs.YtmophgccpnpgfaaW.PrintMore

set_option linter.unusedVariables false
set_option linter.unusedSimpArgs false
theorem eqA67 (d:Nat) (w:World) (x0 y0:Int) (x1 y1:Int) (x2 y2:Int) :
  (Op.equalIn (d+2) 67 (.agg #[.int .i64 x0,.int .i64 x1,.int .i64 x2]) (.agg #[.int .i64 y0,.int .i64 y1,.int .i64 y2])).run Try.prog w = .ok (x0==y0&&(x1==y1&&(x2==y2))) w:=by
 refine eqA_of Try.underlying67 (by kernel_rfl) ?_;refine eqf_cons (by rfl) (by go_simp;rfl) (by go_simp;rfl) (by go_simp) ?_;refine eqf_cons (by rfl) (by go_simp;rfl) (by go_simp;rfl) (by go_simp) ?_;exact eqf_last (by rfl) (by go_simp;rfl) (by go_simp;rfl) (by go_simp)
end Go.Proofs.Ytmophgccpnpgfaa.T
namespace Go.Proofs.Ytmophgccpnpgfaa.T
open Go.RowKit Go.Proofs.YtmophgccpnpgfaaW.PrintWords Go.Proofs.YtmophgccpnpgfaaW.PrintLast Go.Proofs.YtmophgccpnpgfaaW.PrintMore

set_option linter.unusedVariables false
set_option linter.unusedSimpArgs false
attribute [local go_sem high] eqA67
end Go.Proofs.Ytmophgccpnpgfaa.T
namespace Go.Proofs.Ytmophgccpnpgfaa.Q
open Go.RowKit Go.Proofs.Ytmophgccpnpgfaa.T Go.Proofs.YtmophgccpnpgfaaW.PrintWords Go.Proofs.YtmophgccpnpgfaaW.PrintLast
set_option linter.unusedVariables false
set_option linter.unusedSimpArgs false
theorem VP_mem {l:List Pr} (h:VP l):∀ t∈l,okP t:=((VP_iff l).1 h).2.1
theorem VP_sorted {l:List Pr} (h:VP l):l.Pairwise ltP:=((VP_iff l).1 h).2.2
theorem VP_ids {l:List Pr} (h:VP l):idsOk l=true:=by
 unfold idsOk
 rw [List.all_eq_true]
 intro t ht
 have:=(VP_mem h t ht).1
 simp
 omega
theorem VB_prod {a1:Bool} {a2 a3 a4:Int} {rs:List Rc} (h:VB a1 a2 a3 a4 rs) : 0≤a2∧a2≤255:=by
 have:=h.1
 split at this
 ·omega
 ·omega
theorem prodOk_of {l:List Pr} (h:VP l) {a1:Bool} {a2 a3 a4:Int} {rs:List Rc} (hb:VB a1 a2 a3 a4 rs):prodOk l a2=true:=by
 have:=VB_prod hb
 unfold prodOk
 rw [VP_ids h]
 simp
 omega
def slotOf (t:Pr):SlotV:=⟨true,t.f0,t.f1,t.f2⟩
theorem fold_not:∀ (l:List Pr) (f:Nat→SlotV) (i:Nat),(∀ t∈l,t.f0.toNat≠i)→l.foldl slotPut f i=f i
 | [],f,i,h=>rfl
 | a::l,f,i,h=>by
  rw [List.foldl_cons,fold_not l (slotPut f a) i (fun t ht=>h t (List.mem_cons_of_mem _ ht))]
  unfold slotPut
  rw [if_neg (fun e=>h a List.mem_cons_self e.symm)]
theorem fold_mem:∀ (l:List Pr) (f:Nat→SlotV),l.Pairwise ltP→(∀ t∈l,0≤t.f0)→∀ t∈l,l.foldl slotPut f t.f0.toNat=slotOf t
 | [],f,hs,h0,t,ht=>by cases ht
 | a::l,f,hs,h0,t,ht=>by
  rw [List.foldl_cons]
  rw [List.pairwise_cons] at hs
  rcases List.mem_cons.1 ht with rfl|ht
  ·rw [fold_not l _ _ (fun s hs'=>by
    have h1:=hs.1 s hs'
    have h2:=h0 s (List.mem_cons_of_mem _ hs')
    have h3:=h0 t List.mem_cons_self
    unfold ltP at h1
    omega)]
   unfold slotPut slotOf
   rw [if_pos rfl]
  ·exact fold_mem l _ hs.2 (fun s hs'=>h0 s (List.mem_cons_of_mem _ hs')) t ht
theorem slotFn_mem {l:List Pr} (h:VP l) (t:Pr) (ht:t∈l):slotFn l t.f0.toNat=slotOf t:=fold_mem l _ (VP_sorted h) (fun s hs=>(VP_mem h s hs).1.1) t ht
theorem slotFn_not {l:List Pr} (h:VP l) (i:Nat) (hi:∀ t∈l,t.f0≠(i:Int)):slotFn l i=slot0:=by
 unfold slotFn
 rw [fold_not l _ i (fun t ht e=>hi t ht (by have:=(VP_mem h t ht).1.1;omega))]
def findP (l:List Pr) (p:Int):Option Pr:=l.find? (fun t=>t.f0==p)
theorem findP_some {l:List Pr} {p:Int} {t:Pr} (h:findP l p=some t):t∈l∧t.f0=p:=by
 unfold findP at h
 exact ⟨List.mem_of_find?_eq_some h,by have:=List.find?_some h;simpa using this⟩
theorem findP_none {l:List Pr} {p:Int} (h:findP l p=none):∀ t∈l,t.f0≠p:=by
 intro t ht
 have:=List.find?_eq_none.1 h t ht
 simpa using this
def codeP (l:List Pr) (p e s:Int):Int:=
 if p=255 then 4 else match findP l p with
  | some t=>if t.f1 > e then 3 else if t.f1=e then seqCode s t.f2 else seqCode s 0
  | none=>seqCode s 0
theorem codeAt_eq {l:List Pr} (h:VP l) (p e s:Int) (h0 : 0≤p):codeAt (slotFn l) p e s=codeP l p e s:=by
 unfold codeAt codeP
 by_cases hp:p=255
 ·rw [if_pos hp,if_pos hp]
 ·rw [if_neg hp,if_neg hp]
  cases hf:findP l p with
  | none=>
   rw [slotFn_not h p.toNat (fun t ht=>by have:=findP_none hf t ht;omega)]
   rfl
  | some t=>
   obtain ⟨h1,h2⟩:=findP_some hf
   subst h2
   rw [slotFn_mem h t h1]
   rfl
theorem codeP_ne5 (l:List Pr) (p e s:Int):codeP l p e s≠5:=by
 unfold codeP seqCode
 split
 ·omega
 ·split <;> repeat' (split <;> try omega)
noncomputable def pcode (l:List Pr) (a1:Bool) (a2 a3 a4:Int) (rs:List Rc):Int:=if vp l=true then (if vb a1 a2 a3 a4 rs=true then codeP l a2 a3 a4 else 5) else 5
def atP (l:List Pr) (x:Int):Int:=match l.findIdx? (fun t=>t.f0==x) with
 | some i=>i
 | none=>-1
theorem atP_cases (l:List Pr) (x:Int):(atP l x = -1∧findP l x=none∧∀ j,j < l.length→(rp l (j:Int)).f0≠x)∨∃ i:Nat,i < l.length∧atP l x=i∧findP l x=some (rp l (i:Int))∧(rp l (i:Int)).f0=x∧∀ j,j < i→(rp l (j:Int)).f0≠x:=by
 unfold atP findP
 cases h:l.findIdx? (fun t=>t.f0==x) with
 | none=>
  rw [List.findIdx?_eq_none_iff] at h
  refine .inl ⟨rfl,List.find?_eq_none.2 (fun t ht=>by have:=h t ht;simpa using this),fun j hj=>?_⟩
  have:=h l[j] (List.getElem_mem hj)
  rw [rp_nat l j hj]
  simpa using this
 | some i=>
  rw [List.findIdx?_eq_some_iff_getElem] at h
  obtain ⟨hi,h1,h2⟩:=h
  refine .inr ⟨i,hi,rfl,?_,?_,fun j hj=>?_⟩
  ·rw [rp_nat l i hi,List.find?_eq_some_iff_getElem]
   exact ⟨h1,i,hi,rfl,fun j hj=>by have:=h2 j hj;simpa using this⟩
  ·rw [rp_nat l i hi];simpa using h1
  ·rw [rp_nat l j (by omega)]
   have:=h2 j hj
   simpa using this
theorem specAtP_loop (l:List Pr) (x:Int) (hl:l.length≤1000000000000):∀ (d i:Nat),l.length - i=d→i≤l.length→(∀ j,j < i→(rp l (j:Int)).f0≠x)→Ev (fun k=>Q6.l0 k l x (i:Int)) (atP l x):=by
 intro d
 induction d with
 | zero=>
  intro i hd hi hn
  refine ev_succ ?_
  simp only [Q6.l0,if_neg (show ¬ (i:Int) < (l.length:Int) by omega)]
  rcases atP_cases l x with ⟨h,_⟩|⟨j,hj,h,_,h1,_⟩
  ·rw [h];exact ev_some _
  ·exact absurd h1 (hn j (by omega))
 | succ d ih=>
  intro i hd hi hn
  have e1:wrap64 ((i:Int)+1)=((i+1:Nat):Int):=by rw [wrap_id (by omega) (by omega)];omega
  refine ev_succ ?_
  by_cases h:(rp l (i:Int)).f0=x
  ·simp only [Q6.l0,if_pos (show (i:Int) < (l.length:Int) by omega),if_pos (show (0:Int)≤i by omega),if_pos h]
   rcases atP_cases l x with ⟨_,_,h2⟩|⟨j,hj,h2,_,h3,h4⟩
   ·exact absurd h (h2 i (by omega))
   ·have:j=i:=by
     rcases Nat.lt_trichotomy j i with h5|h5|h5
     ·exact absurd h3 (hn j h5)
     ·exact h5
     ·exact absurd h (h4 i h5)
    rw [h2,this]
    exact ev_some _
  ·simp only [Q6.l0,if_pos (show (i:Int) < (l.length:Int) by omega),if_pos (show (0:Int)≤i by omega),if_neg h,e1]
   refine ih (i+1) (by omega) (by omega) (fun j hj=>?_)
   by_cases e:j=i
   ·subst e;exact h
   ·exact hn j (by omega)
theorem specAtP (l:List Pr) (x:Int) (hl:l.length≤1000000000000):Ev (fun k=>Q6.f k l x) (atP l x):=by
 unfold Q6.f
 exact specAtP_loop l x hl l.length 0 (by omega) (by omega) (fun j hj=>by omega)
theorem spec_seq (n:Int) (a0 a1:Bool) (a2 a3 a4:Int) (rs:List Rc):Ev (fun k=>Q0.j0 k n a0 a1 a2 a3 a4 rs) (seqCode a4 n):=by
 refine ev_succ ?_
 unfold seqCode
 simp only [Q0.j0]
 by_cases h:a4 < n
 ·simp only [if_pos h];exact ev_some _
 ·simp only [if_neg h]
  by_cases h2:a4 > n
  ·simp only [if_pos h2];exact ev_some _
  ·simp only [if_neg h2];exact ev_some _
theorem specCode (l:List Pr) (hl:l.length≤1000000000000) (a0 a1:Bool) (a2 a3 a4:Int) (rs:List Rc):Ev (fun k=>Q0.f k l a0 a1 a2 a3 a4 rs) (codeP l a2 a3 a4):=by
 unfold Q0.f codeP
 by_cases hp:a2=255
 ·simp only [if_pos hp];exact ev_some _
 ·simp only [if_neg hp]
  refine Ev.bind (specAtP l a2 hl) ?_
  rcases atP_cases l a2 with ⟨h,hf,_⟩|⟨i,hi,h,hf,h1,_⟩
  ·rw [h,hf]
   simp only [if_neg (show ¬ ((-1:Int) ≥ 0) by omega)]
   exact spec_seq _ _ _ _ _ _ _
  ·rw [h,hf]
   simp only [if_pos (show (i:Int) ≥ 0 by omega),if_pos (show (0:Int)≤i by omega),if_pos (show (i:Int) < (l.length:Int) by omega)]
   by_cases h2:a3 < (rp l (i:Int)).f1
   ·simp only [if_pos h2,if_pos (show (rp l (i:Int)).f1 > a3 from h2)];exact ev_some _
   ·simp only [if_neg h2,if_neg (show ¬ (rp l (i:Int)).f1 > a3 from h2)]
    by_cases h3:a3=(rp l (i:Int)).f1
    ·simp only [if_pos h3,if_pos h3.symm]
     exact spec_seq _ _ _ _ _ _ _
    ·simp only [if_neg h3,if_neg (fun h4=>h3 (Eq.symm h4))]
     exact spec_seq _ _ _ _ _ _ _
theorem specCheck (l:List Pr) (hl:l.length≤1000000000000) (a0 a1:Bool) (a2 a3 a4:Int) (rs:List Rc) (hr:smallRs rs):Ev (fun k=>Q3.f k l a0 a1 a2 a3 a4 rs) (pcode l a1 a2 a3 a4 rs):=by
 unfold Q3.f pcode
 refine Ev.bind (specPValid l hl) ?_
 by_cases h:vp l=true
 ·simp only [if_pos h]
  refine Ev.bind (specB a0 a1 a2 a3 a4 rs hr) ?_
  by_cases h2:vb a1 a2 a3 a4 rs=true
  ·simp only [if_pos h2]
   exact Ev.bind (specCode l hl a0 a1 a2 a3 a4 rs) (ev_some _)
  ·simp only [if_neg h2]
   exact ev_some _
 ·simp only [if_neg h]
  exact ev_some _
theorem pcode_cases (l:List Pr) (a1:Bool) (a2 a3 a4:Int) (rs:List Rc) (h:pcode l a1 a2 a3 a4 rs≠5):VP l∧VB a1 a2 a3 a4 rs∧pcode l a1 a2 a3 a4 rs=codeP l a2 a3 a4:=by
 unfold pcode at h ⊢
 by_cases h1:vp l=true
 ·by_cases h2:vb a1 a2 a3 a4 rs=true
  ·rw [if_pos h1,if_pos h2]
   exact ⟨(vp_iff l).1 h1,(vb_iff _ _ _ _ _).1 h2,rfl⟩
  ·rw [if_pos h1,if_neg h2] at h
   exact absurd rfl h
 ·rw [if_neg h1] at h
  exact absurd rfl h
theorem pcode_of {l:List Pr} (h:VP l) {a1:Bool} {a2 a3 a4:Int} {rs:List Rc} (hb:VB a1 a2 a3 a4 rs):pcode l a1 a2 a3 a4 rs=codeP l a2 a3 a4:=by
 unfold pcode
 rw [if_pos ((vp_iff l).2 h),if_pos ((vb_iff _ _ _ _ _).2 hb)]
end Go.Proofs.Ytmophgccpnpgfaa.Q
namespace Go.Proofs.Ytmophgccpnpgfaa.Q
open Go.RowKit Go.Proofs.Ytmophgccpnpgfaa.T Go.Proofs.YtmophgccpnpgfaaW.PrintWords Go.Proofs.YtmophgccpnpgfaaW.PrintLast
set_option linter.unusedVariables false
set_option linter.unusedSimpArgs false
abbrev ltk (p:Int) (s:Pr):Bool:=decide (s.f0 < p)
abbrev gtk (p:Int) (s:Pr):Bool:=decide (s.f0 > p)
abbrev nek (p:Int) (s:Pr):Bool:=decide (s.f0≠p)
def insP (l:List Pr) (t:Pr):List Pr:=l.filter (ltk t.f0)++t::l.filter (gtk t.f0)
theorem insP_mem {l:List Pr} {t s:Pr} : s∈insP l t↔s=t∨(s∈l∧s.f0≠t.f0):=by
 unfold insP
 simp only [List.mem_append,List.mem_cons,List.mem_filter,decide_eq_true_eq]
 constructor
 ·rintro (⟨h,h2⟩|h|⟨h,h2⟩)
  ·exact .inr ⟨h,by omega⟩
  ·exact .inl h
  ·exact .inr ⟨h,by omega⟩
 ·rintro (h|⟨h,h2⟩)
  ·exact .inr (.inl h)
  ·rcases Int.lt_or_gt_of_ne h2 with h3|h3
   ·exact .inl ⟨h,h3⟩
   ·exact .inr (.inr ⟨h,h3⟩)
theorem insP_sorted {l:List Pr} (h:l.Pairwise ltP) (t:Pr):(insP l t).Pairwise ltP:=by
 unfold insP
 rw [List.pairwise_append]
 refine ⟨h.filter _,?_,?_⟩
 ·rw [List.pairwise_cons]
  refine ⟨fun s hs=>?_,h.filter _⟩
  have:=(List.mem_filter.1 hs).2
  simp only [decide_eq_true_eq] at this
  exact this
 ·intro s hs u hu
  have h1:=(List.mem_filter.1 hs).2
  simp only [decide_eq_true_eq] at h1
  rcases List.mem_cons.1 hu with rfl|hu
  ·exact h1
  ·have h2:=(List.mem_filter.1 hu).2
   simp only [decide_eq_true_eq] at h2
   exact Int.lt_trans h1 h2
theorem insP_len (l:List Pr) (t:Pr):(insP l t).length≤l.length+l.length+1:=by
 unfold insP
 have h1:=List.length_filter_le (ltk t.f0) l
 have h2:=List.length_filter_le (gtk t.f0) l
 simp only [List.length_append,List.length_cons]
 omega
theorem sorted_at:∀ {l:List Pr},l.Pairwise ltP→∀ t∈l,l.filter (ltk (t.f0+1))=l.filter (ltk t.f0) ++ [t]
 | [],_,t,ht=>by cases ht
 | a::l,h,t,ht=>by
  rw [List.pairwise_cons] at h
  rcases List.mem_cons.1 ht with rfl|ht
  ·rw [List.filter_cons_of_pos (by simp only [decide_eq_true_eq];omega),List.filter_cons_of_neg (by simp),List.filter_eq_nil_iff.2,List.filter_eq_nil_iff.2]
   ·rfl
   ·intro s hs
    have:=h.1 s hs
    unfold ltP at this
    simp only [decide_eq_true_eq]
    omega
   ·intro s hs
    have:=h.1 s hs
    unfold ltP at this
    simp only [decide_eq_true_eq]
    omega
  ·have h1:=h.1 t ht
   unfold ltP at h1
   rw [List.filter_cons_of_pos (by simp only [decide_eq_true_eq];omega),List.filter_cons_of_pos (by simp only [decide_eq_true_eq];omega),sorted_at h.2 t ht]
   rfl
theorem slotList_of {F:Nat→SlotV} {l:List Pr} (hs:l.Pairwise ltP) (h0:∀ t∈l,0≤t.f0∧t.f0 < 255) (h1:∀ t∈l,F t.f0.toNat=slotOf t) (h2:∀ i:Nat,i < 255→(∀ t∈l,t.f0≠(i:Int))→(F i).u=false) :
  ∀ n:Nat,n≤255→slotList F n=l.filter (ltk (n:Int)):=by
 intro n
 induction n with
 | zero=>
  intro _
  rw [List.filter_eq_nil_iff.2]
  ·rfl
  ·intro t ht
   have:=h0 t ht
   simp only [decide_eq_true_eq]
   omega
 | succ n ih=>
  intro hn
  have ih:=ih (by omega)
  by_cases hex:∃ t∈l,t.f0=(n:Int)
  ·obtain ⟨t,ht,hk⟩:=hex
   have hf:=h1 t ht
   rw [hk,Int.toNat_natCast] at hf
   rw [slotList_yes F n (by rw [hf];rfl),ih,hf]
   have h3:=sorted_at hs t ht
   rw [hk] at h3
   rw [show ((n+1:Nat):Int)=(n:Int)+1 by omega,h3]
   rfl
  ·have hno:∀ t∈l,t.f0≠(n:Int):=fun t ht hk=>hex ⟨t,ht,hk⟩
   rw [slotList_no F n (h2 n (by omega) hno),ih]
   refine List.filter_congr (fun t ht=>?_)
   have:=hno t ht
   rw [decide_eq_decide]
   omega
theorem slotList_all {F:Nat→SlotV} {l:List Pr} (hs:l.Pairwise ltP) (h0:∀ t∈l,0≤t.f0∧t.f0 < 255) (h1:∀ t∈l,F t.f0.toNat=slotOf t) (h2:∀ i:Nat,i < 255→(∀ t∈l,t.f0≠(i:Int))→(F i).u=false):slotList F 255=l:=by
 rw [slotList_of hs h0 h1 h2 255 (by omega),List.filter_eq_self]
 intro t ht
 have:=h0 t ht
 simp only [decide_eq_true_eq]
 omega
theorem slotList_back {l:List Pr} (h:VP l):slotList (slotFn l) 255=l:=
 slotList_all (VP_sorted h) (fun t ht=>by have:=(VP_mem h t ht).1;omega) (slotFn_mem h) (fun i _ hi=>by rw [slotFn_not h i hi];rfl)
theorem slotList_set {l:List Pr} (h:VP l) (p e n:Int) (h0 : 0≤p) (h1:p < 255):slotList (slotSet (slotFn l) p e n) 255=insP l ⟨p,e,n⟩:=by
 refine slotList_all (insP_sorted (VP_sorted h) _) ?_ ?_ ?_
 ·intro s hs
  rcases insP_mem.1 hs with rfl|⟨hs,_⟩
  ·exact ⟨h0,h1⟩
  ·have:=(VP_mem h s hs).1
   omega
 ·intro s hs
  unfold slotSet
  rcases insP_mem.1 hs with rfl|⟨hs,hne⟩
  ·rw [if_pos rfl]
   rfl
  ·have:=(VP_mem h s hs).1
   dsimp only at hne
   rw [if_neg (by omega)]
   exact slotFn_mem h s hs
 ·intro i hi hno
  have hp:p≠(i:Int):=hno ⟨p,e,n⟩ (insP_mem.2 (.inl rfl))
  unfold slotSet
  rw [if_neg (by omega),slotFn_not h i (fun t ht=>by
   by_cases hk:t.f0=p
   ·omega
   ·exact hno t (insP_mem.2 (.inr ⟨ht,hk⟩)))]
  rfl
def insGo (t:Pr):List Pr→List Pr
 | []=>[t]
 | a::r=>if a.f0 ≥ t.f0 then t::(a::r).filter (nek t.f0) else a::insGo t r
theorem insGo_eq (t:Pr):∀ {l:List Pr},l.Pairwise ltP→insGo t l=insP l t
 | [],_=>rfl
 | a::l,h=>by
  rw [List.pairwise_cons] at h
  unfold insGo insP
  by_cases ha:a.f0 ≥ t.f0
  ·have hnil:(a::l).filter (ltk t.f0) = []:=by
    rw [List.filter_eq_nil_iff]
    intro s hs
    simp only [decide_eq_true_eq]
    rcases List.mem_cons.1 hs with rfl|hs
    ·omega
    ·have:=h.1 s hs
     unfold ltP at this
     omega
   rw [if_pos ha,hnil,List.nil_append]
   congr 1
   refine List.filter_congr (fun s hs=>?_)
   rw [decide_eq_decide]
   rcases List.mem_cons.1 hs with rfl|hs
   ·omega
   ·have:=h.1 s hs
    unfold ltP at this
    omega
  ·rw [if_neg ha,List.filter_cons_of_pos (by simp only [decide_eq_true_eq];omega),List.filter_cons_of_neg (by simp only [decide_eq_true_eq];omega),insGo_eq t h.2]
   rfl
theorem specPut_done (l:List Pr) (hl:l.length≤1000000000) (p e n:Int):∀ (d i:Nat) (out:List Pr),l.length - i=d→i≤l.length→out.length≤i+1→Ev (fun k=>Qk.l0 k l out true (i:Int) p e n) (out++(l.drop i).filter (nek p)):=by
 intro d
 induction d with
 | zero=>
  intro i out hd hi ho
  refine ev_succ ?_
  rw [show l.drop i = [] from List.drop_eq_nil_of_le (by omega),List.filter_nil,List.append_nil]
  simp only [Qk.l0,if_neg (show ¬ (i:Int) < (l.length:Int) by omega),if_true]
  exact ev_some _
 | succ d ih=>
  intro i out hd hi ho
  have e1:wrap64 ((i:Int)+1)=((i+1:Nat):Int):=by rw [wrap_id (by omega) (by omega)];omega
  refine ev_succ ?_
  rw [drop_atP (show i < l.length by omega)]
  simp only [Qk.l0,if_pos (show (i:Int) < (l.length:Int) by omega),if_true]
  refine ev_succ ?_
  simp only [Qk.j1,Bool.false_eq_true,if_false,if_pos (show (i:Int) < (l.length:Int) by omega),if_pos (show (0:Int)≤i by omega),e1]
  by_cases h:(rp l (i:Int)).f0=p
  ·rw [List.filter_cons_of_neg (by simp only [decide_eq_true_eq];omega)]
   simp only [if_pos h]
   exact ih (i+1) out (by omega) (by omega) (by omega)
  ·rw [List.filter_cons_of_pos (by simp only [decide_eq_true_eq];exact h)]
   simp only [if_neg h,if_pos (show out.length < 5864062014805 by omega)]
   have:=ih (i+1) (out ++ [rp l (i:Int)]) (by omega) (by omega) (by simp;omega)
   rw [List.append_assoc] at this
   exact this
theorem specPut_go (l:List Pr) (hl:l.length≤1000000000) (p e n:Int):∀ (d i:Nat) (out:List Pr),l.length - i=d→i≤l.length→out.length≤i→Ev (fun k=>Qk.l0 k l out false (i:Int) p e n) (out++insGo ⟨p,e,n⟩ (l.drop i)):=by
 intro d
 induction d with
 | zero=>
  intro i out hd hi ho
  refine ev_succ ?_
  rw [show l.drop i = [] from List.drop_eq_nil_of_le (by omega)]
  simp only [Qk.l0,if_neg (show ¬ (i:Int) < (l.length:Int) by omega),Bool.false_eq_true,if_false,if_pos (show out.length < 5864062014805 by omega)]
  exact ev_some _
 | succ d ih=>
  intro i out hd hi ho
  have e1:wrap64 ((i:Int)+1)=((i+1:Nat):Int):=by rw [wrap_id (by omega) (by omega)];omega
  refine ev_succ ?_
  rw [drop_atP (show i < l.length by omega)]
  unfold insGo
  simp only [Qk.l0,if_pos (show (i:Int) < (l.length:Int) by omega),Bool.false_eq_true,if_false,if_pos (show (0:Int)≤i by omega)]
  refine ev_succ ?_
  by_cases hge:(rp l (i:Int)).f0 ≥ p
  ·simp only [Qk.j1,decide_eq_true hge,if_true,if_pos hge,if_pos (show out.length < 5864062014805 by omega),bsome,if_pos (show (i:Int) < (l.length:Int) by omega),if_pos (show (0:Int)≤i by omega),e1]
   by_cases h:(rp l (i:Int)).f0=p
   ·rw [List.filter_cons_of_neg (by simp only [decide_eq_true_eq];omega)]
    simp only [if_pos h]
    have:=specPut_done l hl p e n d (i+1) (out ++ [⟨p,e,n⟩]) (by omega) (by omega) (by simp;omega)
    rw [List.append_assoc] at this
    exact this
   ·rw [List.filter_cons_of_pos (by simp only [decide_eq_true_eq];exact h)]
    simp only [if_neg h,if_pos (show (out ++ [(⟨p,e,n⟩:Pr)]).length < 5864062014805 by simp;omega)]
    have:=specPut_done l hl p e n d (i+1) (out ++ [⟨p,e,n⟩] ++ [rp l (i:Int)]) (by omega) (by omega) (by simp;omega)
    have h2:out ++ [(⟨p,e,n⟩:Pr)] ++ [rp l (i:Int)]++(l.drop (i+1)).filter (nek p)=out++(⟨p,e,n⟩:Pr)::rp l (i:Int)::(l.drop (i+1)).filter (nek p):=by simp
    rw [h2] at this
    exact this
  ·simp only [Qk.j1,decide_eq_false hge,Bool.false_eq_true,if_false,if_neg hge,if_pos (show (i:Int) < (l.length:Int) by omega),if_pos (show (0:Int)≤i by omega),if_neg (show ¬ (rp l (i:Int)).f0=p by omega),if_pos (show out.length < 5864062014805 by omega),e1]
   have:=ih (i+1) (out ++ [rp l (i:Int)]) (by omega) (by omega) (by simp;omega)
   rw [List.append_assoc] at this
   exact this
theorem specPutP (l:List Pr) (h:VP l) (p e n:Int):Ev (fun k=>Qk.f k l p e n) (insP l ⟨p,e,n⟩):=by
 unfold Qk.f
 have h20:=h.1
 have:=specPut_go l (by omega) p e n l.length 0 [] (by omega) (by omega) (by simp)
 rw [← insGo_eq _ (VP_sorted h)]
 simpa using this
abbrev newP (a2 a3 a4:Int) (rs:List Rc):Pr:=⟨a2,a3,wrap64 (a4+(rs.length:Int))⟩
noncomputable def pput (l:List Pr) (a1:Bool) (a2 a3 a4:Int) (rs:List Rc):List Pr×Int:=
 if pcode l a1 a2 a3 a4 rs=5 then ([],5) else if pcode l a1 a2 a3 a4 rs=0 then (if vp (insP l (newP a2 a3 a4 rs))=true then (insP l (newP a2 a3 a4 rs),0) else ([],5)) else (l,pcode l a1 a2 a3 a4 rs)
theorem codeP_zero {l:List Pr} {p e s:Int} (h:codeP l p e s=0):p≠255:=by
 rintro rfl
 have h2:codeP l 255 e s=4:=by unfold codeP;rw [if_pos rfl]
 rw [h2] at h
 omega
theorem implPutB (l:List Pr) (hl:l.length≤1000000000) (a0 a1:Bool) (a2 a3 a4:Int) (rs:List Rc) (hr:smallRs rs):Ev (fun k=>Rd.f k l a0 a1 a2 a3 a4 rs) (pput l a1 a2 a3 a4 rs):=by
 unfold Rd.f
 refine Ev.bind (implPValid l (by omega)) ?_
 by_cases h:vp l=true
 ·simp only [if_pos h]
  refine Ev.bind (implB a0 a1 a2 a3 a4 rs hr) ?_
  by_cases h2:vb a1 a2 a3 a4 rs=true
  ·have hV:=(vp_iff l).1 h
   have hB:=(vb_iff _ _ _ _ _).1 h2
   have hp:=VB_prod hB
   have hc:=codeAt_eq hV a2 a3 a4 hp.1
   have hpc:=pcode_of hV hB
   have h5:=codeP_ne5 l a2 a3 a4
   simp only [if_pos h2,if_pos (prodOk_of hV hB),hc]
   unfold pput
   rw [hpc,if_neg h5]
   unfold putSlots
   by_cases hz:codeP l a2 a3 a4=0
   ·have hne:=codeP_zero hz
    simp only [hc,if_pos hz,slotList_set hV a2 a3 _ hp.1 (by omega)]
    have h20:=hV.1
    have hln:=insP_len l (⟨a2,a3,wrap64 (a4+(rs.length:Int))⟩:Pr)
    refine Ev.bind (implPValid _ (by omega)) ?_
    by_cases hv:vp (insP l (newP a2 a3 a4 rs))=true
    ·simp only [if_pos hv,hz]
     exact ev_some _
    ·simp only [if_neg hv]
     exact ev_some _
   ·simp only [hc,if_neg hz,slotList_back hV]
    refine Ev.bind (implPValid l (by omega)) ?_
    simp only [if_pos h]
    exact ev_some _
  ·simp only [if_neg h2]
   have:pcode l a1 a2 a3 a4 rs=5:=by unfold pcode;rw [if_pos h,if_neg h2]
   unfold pput
   rw [if_pos this]
   exact ev_some _
 ·simp only [if_neg h]
  have:pcode l a1 a2 a3 a4 rs=5:=by unfold pcode;rw [if_neg h]
  unfold pput
  rw [if_pos this]
  exact ev_some _
theorem specPutB (l:List Pr) (hl:l.length≤1000000000) (a0 a1:Bool) (a2 a3 a4:Int) (rs:List Rc) (hr:smallRs rs):Ev (fun k=>Rg.f k l a0 a1 a2 a3 a4 rs) (pput l a1 a2 a3 a4 rs):=by
 unfold Rg.f pput
 refine Ev.bind (specCheck l (by omega) a0 a1 a2 a3 a4 rs hr) ?_
 by_cases h5:pcode l a1 a2 a3 a4 rs=5
 ·simp only [if_pos h5]
  exact ev_some _
 ·obtain ⟨hV,hB,hpc⟩:=pcode_cases l a1 a2 a3 a4 rs h5
  have h:=(vp_iff l).2 hV
  simp only [if_neg h5,bsome,List.length_nil,List.nil_append,if_pos (show 0+l.length < 5864062014805 by omega)]
  by_cases hz:pcode l a1 a2 a3 a4 rs=0
  ·simp only [if_pos hz]
   refine Ev.bind (specPutP l hV a2 a3 _) ?_
   have h20:=hV.1
   have hln:=insP_len l (⟨a2,a3,wrap64 (a4+(rs.length:Int))⟩:Pr)
   refine Ev.bind (specPValid _ (by omega)) ?_
   by_cases hv:vp (insP l (newP a2 a3 a4 rs))=true
   ·simp only [if_pos hv,hz]
    exact ev_some _
   ·simp only [if_neg hv]
    exact ev_some _
  ·simp only [if_neg hz]
   refine Ev.bind (specPValid l (by omega)) ?_
   simp only [if_pos h]
   exact ev_some _
theorem pput_cases (l:List Pr) (a1:Bool) (a2 a3 a4:Int) (rs:List Rc):pput l a1 a2 a3 a4 rs=([],5) ∨
  (VP l∧VB a1 a2 a3 a4 rs∧codeP l a2 a3 a4=0∧VP (insP l (newP a2 a3 a4 rs))∧pput l a1 a2 a3 a4 rs=(insP l (newP a2 a3 a4 rs),0)) ∨
  (VP l∧VB a1 a2 a3 a4 rs∧codeP l a2 a3 a4≠0∧pput l a1 a2 a3 a4 rs=(l,codeP l a2 a3 a4)):=by
 unfold pput
 by_cases h5:pcode l a1 a2 a3 a4 rs=5
 ·rw [if_pos h5]
  exact .inl rfl
 ·obtain ⟨hV,hB,hpc⟩:=pcode_cases l a1 a2 a3 a4 rs h5
  rw [if_neg h5,hpc]
  by_cases hz:codeP l a2 a3 a4=0
  ·rw [if_pos hz]
   by_cases hv:vp (insP l (newP a2 a3 a4 rs))=true
   ·rw [if_pos hv]
    exact .inr (.inl ⟨hV,hB,hz,(vp_iff _).1 hv,rfl⟩)
   ·rw [if_neg hv]
    exact .inl rfl
  ·rw [if_neg hz]
   exact .inr (.inr ⟨hV,hB,hz,rfl⟩)
abbrev Bt:=S26
abbrev rb (l:List Bt) (i:Int):Bt:=Qb l i
theorem rb_nat (l:List Bt) (j:Nat) (h:j < l.length):rb l (j:Int)=l[j]:=by
 unfold rb Qb
 rw [Int.toNat_natCast,List.getD_eq_getElem?_getD,List.getElem?_eq_getElem h]
 rfl
theorem drop_atB {l:List Bt} {i:Nat} (h:i < l.length):l.drop i=rb l i::l.drop (i+1):=by
 rw [List.drop_eq_getElem_cons h,rb_nat l i h]
noncomputable def stepB (now:List Pr) (b:Bt):List Pr×Int:=pput now b.f1 b.f2 b.f3 b.f4 b.f5
noncomputable def nextB (now:List Pr) (b:Bt):List Pr:=if (stepB now b).2=5 then now else (stepB now b).1
noncomputable def fin:List Bt→List Pr→List Pr
 | [],now=>now
 | b::r,now=>fin r (nextB now b)
noncomputable def cds:List Bt→List Pr→List Int
 | [],_=>[]
 | b::r,now=>(stepB now b).2::cds r (nextB now b)
theorem cds_len:∀ (l:List Bt) (now:List Pr),(cds l now).length=l.length
 | [],_=>rfl
 | b::r,now=>by simp [cds,cds_len r]
theorem VP_nil:VP ([]:List Pr):=⟨by simp,fun j _ h=>by simp at h⟩
theorem nextB_valid {now:List Pr} (h:VP now) (b:Bt):VP (nextB now b):=by
 unfold nextB stepB
 rcases pput_cases now b.f1 b.f2 b.f3 b.f4 b.f5 with hp|⟨_,_,_,h2,hp⟩|⟨_,_,_,hp⟩
 ·rw [hp,if_pos rfl];exact h
 ·rw [hp,if_neg (show ¬ (0:Int)=5 by decide)];exact h2
 ·rw [hp]
  split
  ·exact h
  ·exact h
theorem fin_valid:∀ (l:List Bt) {now:List Pr},VP now→VP (fin l now)
 | [],now,h=>h
 | b::r,now,h=>fin_valid r (nextB_valid h b)
def smallBs (l:List Bt):Prop:=l.length≤2000000∧∀ b∈l,smallRs b.f5
theorem smallBs_at {l:List Bt} (h:smallBs l) (j:Nat) (hj:j < l.length):smallRs (rb l (j:Int)).f5:=by
 rw [rb_nat l j hj]
 exact h.2 _ (List.getElem_mem hj)
theorem implRun_loop (l:List Bt) (hl:smallBs l):∀ (d i:Nat) (now:List Pr) (codes:List Int),l.length - i=d→i≤l.length→VP now→codes.length≤i→Ev (fun k=>Qf.l0 k now codes l (l.length:Int) (i:Int)) (fin (l.drop i) now,codes++cds (l.drop i) now):=by
 intro d
 induction d with
 | zero=>
  intro i now codes hd hi hV hc
  rw [show l.drop i = [] from List.drop_eq_nil_of_le (by omega)]
  refine ev_succ ?_
  simp only [Qf.l0,if_neg (show ¬ (i:Int) < (l.length:Int) by omega),fin,cds,List.append_nil]
  exact ev_some _
 | succ d ih=>
  intro i now codes hd hi hV hc
  have hll:=hl.1
  have e1:wrap64 ((i:Int)+1)=((i+1:Nat):Int):=by rw [wrap_id (by omega) (by omega)];omega
  rw [drop_atB (show i < l.length by omega)]
  have hp:=implPutB now (by have:=hV.1;omega) (rb l (i:Int)).f0 (rb l (i:Int)).f1 (rb l (i:Int)).f2 (rb l (i:Int)).f3 (rb l (i:Int)).f4 (rb l (i:Int)).f5 (smallBs_at hl i (by omega))
  have ih2:=ih (i+1) (nextB now (rb l (i:Int))) (codes ++ [(stepB now (rb l (i:Int))).2]) (by omega) (by omega) (nextB_valid hV _) (by simp;omega)
  rw [List.append_assoc] at ih2
  refine ev_succ ?_
  simp only [Qf.l0,if_pos (show (i:Int) < (l.length:Int) by omega),if_pos (show (0:Int)≤i by omega),e1,if_pos (show codes.length < 17592186044416 by omega)]
  refine Ev.bind hp ?_
  by_cases h5:(stepB now (rb l (i:Int))).2=5
  ·have h5' : (pput now (rb l (i:Int)).f1 (rb l (i:Int)).f2 (rb l (i:Int)).f3 (rb l (i:Int)).f4 (rb l (i:Int)).f5).2=5:=h5
   simp only [if_pos h5']
   have hn:nextB now (rb l (i:Int))=now:=by unfold nextB;rw [if_pos h5]
   rw [hn] at ih2
   simp only [fin,cds,hn]
   exact ih2
  ·have h5' : ¬ (pput now (rb l (i:Int)).f1 (rb l (i:Int)).f2 (rb l (i:Int)).f3 (rb l (i:Int)).f4 (rb l (i:Int)).f5).2=5:=h5
   simp only [if_neg h5']
   have hn:nextB now (rb l (i:Int))=(stepB now (rb l (i:Int))).1:=by unfold nextB;rw [if_neg h5]
   rw [hn] at ih2
   simp only [fin,cds,hn]
   exact ih2
theorem implRun (l:List Bt) (hl:smallBs l):Ev (fun k=>Qf.f k l) (fin l [],cds l []):=by
 unfold Qf.f
 have:=implRun_loop l hl l.length 0 [] [] (by omega) (by omega) VP_nil (by simp)
 simpa using this
theorem specRun_loop (l:List Bt) (hl:smallBs l):∀ (d i:Nat) (now:List Pr) (codes:List Int),l.length - i=d→i≤l.length→VP now→codes.length≤i→Ev (fun k=>Qi.l0 k l now codes (i:Int)) (fin (l.drop i) now,codes++cds (l.drop i) now):=by
 intro d
 induction d with
 | zero=>
  intro i now codes hd hi hV hc
  rw [show l.drop i = [] from List.drop_eq_nil_of_le (by omega)]
  refine ev_succ ?_
  simp only [Qi.l0,if_neg (show ¬ (i:Int) < (l.length:Int) by omega),fin,cds,List.append_nil]
  exact ev_some _
 | succ d ih=>
  intro i now codes hd hi hV hc
  have hll:=hl.1
  have e1:wrap64 ((i:Int)+1)=((i+1:Nat):Int):=by rw [wrap_id (by omega) (by omega)];omega
  rw [drop_atB (show i < l.length by omega)]
  have hp:=specPutB now (by have:=hV.1;omega) (rb l (i:Int)).f0 (rb l (i:Int)).f1 (rb l (i:Int)).f2 (rb l (i:Int)).f3 (rb l (i:Int)).f4 (rb l (i:Int)).f5 (smallBs_at hl i (by omega))
  have ih2:=ih (i+1) (nextB now (rb l (i:Int))) (codes ++ [(stepB now (rb l (i:Int))).2]) (by omega) (by omega) (nextB_valid hV _) (by simp;omega)
  rw [List.append_assoc] at ih2
  refine ev_succ ?_
  simp only [Qi.l0,if_pos (show (i:Int) < (l.length:Int) by omega),if_pos (show (0:Int)≤i by omega),e1,if_pos (show codes.length < 17592186044416 by omega)]
  refine Ev.bind hp ?_
  by_cases h5:(stepB now (rb l (i:Int))).2=5
  ·have h5' : (pput now (rb l (i:Int)).f1 (rb l (i:Int)).f2 (rb l (i:Int)).f3 (rb l (i:Int)).f4 (rb l (i:Int)).f5).2=5:=h5
   simp only [if_pos h5']
   have hn:nextB now (rb l (i:Int))=now:=by unfold nextB;rw [if_pos h5]
   rw [hn] at ih2
   simp only [fin,cds,hn]
   exact ih2
  ·have h5' : ¬ (pput now (rb l (i:Int)).f1 (rb l (i:Int)).f2 (rb l (i:Int)).f3 (rb l (i:Int)).f4 (rb l (i:Int)).f5).2=5:=h5
   simp only [if_neg h5']
   have hn:nextB now (rb l (i:Int))=(stepB now (rb l (i:Int))).1:=by unfold nextB;rw [if_neg h5]
   rw [hn] at ih2
   simp only [fin,cds,hn]
   exact ih2
theorem specRun (l:List Bt) (hl:smallBs l):Ev (fun k=>Qi.f k l) (fin l [],cds l []):=by
 unfold Qi.f
 have:=specRun_loop l hl l.length 0 [] [] (by omega) (by omega) VP_nil (by simp)
 simpa using this
abbrev Lr:=S94
def toR (x:Lr):Rc:=⟨x.f0,x.f1,x.f2,x.f3,x.f4,x.f5⟩
theorem rdLr (l:List Lr) (j:Nat) (h:j < l.length):Qv l (j:Int)=l[j]:=by
 unfold Qv
 rw [Int.toNat_natCast,List.getD_eq_getElem?_getD,List.getElem?_eq_getElem h]
 rfl
def sz (a:Int) (P:Prop) (r:Int):Prop:=r = -1∨(0≤r∧r≤a∧P)
theorem szInts (l:List Int) (hl:l.length≤9223372036854775807) (a:Int) (h0 : 0≤a) (h1:a≤1048576):∃ r,Re.f l a=some r∧sz a (l.length≤1048576) r:=by
 have e:wrap64 (a - (l.length:Int))=a - (l.length:Int):=wrap_id (by omega) (by omega)
 unfold Re.f
 rw [e]
 by_cases h:a - (l.length:Int) < 0
 ·rw [if_pos h];exact ⟨_,rfl,Or.inl rfl⟩
 ·rw [if_neg h];exact ⟨_,rfl,Or.inr ⟨by omega,by omega,by omega⟩⟩
def okR (x:Lr):Prop:=x.f3.length≤1048576∧x.f5.length≤1048576
def bigR (x:Lr):Prop:=x.f3.length≤9223372036854775807∧x.f5.length≤9223372036854775807
theorem szRec (x:Lr) (hx:bigR x) (a:Int) (h0 : 0≤a) (h1:a≤1048576):∃ r,Rk.f x.f0 x.f1 x.f2 x.f3 x.f4 x.f5 a=some r∧sz a (okR x) r:=by
 obtain ⟨r1,e1,p1⟩:=szInts x.f3 hx.1 a h0 h1
 unfold Rk.f
 rw [e1]
 rw [bsome]
 rcases p1 with rfl|⟨q0,q1,q2⟩
 ·rw [if_pos (by omega)];exact ⟨_,rfl,Or.inl rfl⟩
 ·rw [if_neg (by omega)]
  obtain ⟨r2,e2,p2⟩:=szInts x.f5 hx.2 r1 q0 (by omega)
  rw [e2]
  rw [bsome]
  rcases p2 with rfl|⟨s0,s1,s2⟩
  ·rw [if_pos (by omega)];exact ⟨_,rfl,Or.inl rfl⟩
  ·rw [if_neg (by omega)];exact ⟨_,rfl,Or.inr ⟨s0,by omega,q2,s2⟩⟩
theorem szRecs_loop (l:List Lr) (hl:l.length≤1048576) (hx:∀ x∈l,bigR x):∀ (d i:Nat) (a:Int),l.length - i=d→i≤l.length→0≤a→a≤1048576→Evs (fun k=>Qz.l0 k l a (i:Int)) (sz a (∀ j,i≤j→(h:j < l.length)→okR l[j])):=by
 intro d
 induction d with
 | zero=>
  intro i a hd hi h0 h1
  refine Evs.succ ?_
  simp only [Qz.l0,if_neg (show ¬ (i:Int) < (l.length:Int) by omega)]
  exact Evs.done (Or.inr ⟨h0,Int.le_refl _,fun j hj h=>by omega⟩)
 | succ d ih=>
  intro i a hd hi h0 h1
  have hlt:i < l.length:=by omega
  have e1:wrap64 ((i:Int)+1)=((i+1:Nat):Int):=by rw [wrap_id (by omega) (by omega)];omega
  refine Evs.succ ?_
  obtain ⟨r,er,pr⟩:=szRec l[i] (hx _ (List.getElem_mem hlt)) a h0 h1
  simp only [Qz.l0,if_pos (show (i:Int) < (l.length:Int) by omega),if_pos (show (0:Int)≤(i:Int) by omega),rdLr l i hlt,er,bsome,e1]
  rcases pr with rfl|⟨q0,q1,q2⟩
  ·simp only [if_pos (show (-1:Int) < 0 by omega)]
   exact Evs.done (Or.inl rfl)
  ·simp only [if_neg (show ¬ r < 0 by omega)]
   refine (ih (i+1) r (by omega) (by omega) q0 (by omega)).mono fun r2 h2=>?_
   rcases h2 with h2|⟨s0,s1,s2⟩
   ·exact Or.inl h2
   ·refine Or.inr ⟨s0,by omega,fun j hj h=>?_⟩
    by_cases he:j=i
    ·subst he;exact q2
    ·exact s2 j (by omega) h
theorem szRecs (l:List Lr) (hl:l.length≤9223372036854775807) (hx:∀ x∈l,bigR x) (a:Int) (h0 : 0≤a) (h1:a≤1048576):Evs (fun k=>Qz.f k l a) (sz a (l.length≤1048576∧∀ x∈l,okR x)):=by
 have e:wrap64 (a - (l.length:Int))=a - (l.length:Int):=wrap_id (by omega) (by omega)
 unfold Qz.f
 simp only [e]
 by_cases h:a - (l.length:Int) < 0
 ·simp only [if_pos h];exact Evs.done (Or.inl rfl)
 ·simp only [if_neg h]
  refine (szRecs_loop l (by omega) hx l.length 0 _ rfl (by omega) (by omega) (by omega)).mono fun r hr=>?_
  rcases hr with hr|⟨s0,s1,s2⟩
  ·exact Or.inl hr
  ·refine Or.inr ⟨s0,by omega,by omega,fun x hx2=>?_⟩
   obtain ⟨j,hj,rfl⟩:=List.getElem_of_mem hx2
   exact s2 j (Nat.zero_le _) hj
theorem set_midR {α:Type} (a:List α) (x y : α) (b:List α) (i:Nat) (h:i=a.length):(a++x::b).set i y=a++y::b:=by
 subst h
 simp
theorem fill_step {α:Type} (l:List α) (z : α) (i:Nat) (h:i < l.length):(l.take i++List.replicate (l.length - i) z).set i l[i]=l.take (i+1)++List.replicate (l.length - (i+1)) z:=by
 have e:l.length - i=(l.length - (i+1))+1:=by omega
 rw [e,List.replicate_succ,set_midR _ _ _ _ _ (by rw [length_take];omega)]
 have h2:l.take (i+1)=l.take i ++ [l[i]]:=by simp
 rw [h2,List.append_assoc]
 rfl
theorem fill_len {α:Type} (l:List α) (z : α) (i:Nat) (h:i≤l.length):(l.take i++List.replicate (l.length - i) z).length=l.length:=by
 rw [List.length_append,length_take,List.length_replicate]
 omega
theorem toInts (l:List Int) (hl:l.length≤1048576):Ev (fun k=>Q2.f k l) l:=by
 have loop:∀ (d i:Nat),l.length - i=d→i≤l.length→Ev (fun k=>Q2.l0 k l (l.take i++List.replicate (l.length - i) 0) (i:Int)) l:=by
  intro d
  induction d with
  | zero=>
   intro i hd hi
   refine ev_succ ?_
   simp only [Q2.l0,if_neg (show ¬ (i:Int) < (l.length:Int) by omega)]
   have:l.take i++List.replicate (l.length - i) 0=l:=by rw [List.take_of_length_le (by omega),hd];simp
   rw [this]
   exact ev_some _
  | succ d ih=>
   intro i hd hi
   have hlt:i < l.length:=by omega
   have e1:wrap64 ((i:Int)+1)=((i+1:Nat):Int):=by rw [wrap_id (by omega) (by omega)];omega
   refine ev_succ ?_
   simp only [Q2.l0,if_pos (show (i:Int) < (l.length:Int) by omega),if_pos (show (0:Int)≤(i:Int) by omega),fill_len l 0 i hi,e1,Int.toNat_natCast,rd_nat l i hlt,fill_step l 0 i hlt]
   exact ih (i+1) (by omega) (by omega)
 unfold Q2.f
 simp only [if_pos (show 0≤(l.length:Int) by omega),Int.toNat_natCast,if_pos (show l.length≤35184372088832 by omega)]
 exact loop l.length 0 rfl (by omega)
theorem toRec (x:Lr) (hx:okR x):Ev (fun k=>Ro.f k x.f0 x.f1 x.f2 x.f3 x.f4 x.f5) (x.f0,x.f1,x.f2,x.f3,x.f4,x.f5):=by
 unfold Ro.f
 refine Ev.bind (toInts x.f3 hx.1) ?_
 exact Ev.bind (toInts x.f5 hx.2) (ev_some _)
theorem toRecs (l:List Lr) (hl:l.length≤1048576) (hx:∀ x∈l,okR x):Ev (fun k=>Qw.f k l) (l.map toR):=by
 have hml:(l.map toR).length=l.length:=List.length_map ..
 have loop:∀ (d i:Nat),l.length - i=d→i≤l.length→Ev (fun k=>Qw.l0 k l ((l.map toR).take i++List.replicate ((l.map toR).length - i) z75) (i:Int)) (l.map toR):=by
  intro d
  induction d with
  | zero=>
   intro i hd hi
   refine ev_succ ?_
   simp only [Qw.l0,if_neg (show ¬ (i:Int) < (l.length:Int) by omega)]
   have:(l.map toR).take i++List.replicate ((l.map toR).length - i) z75=l.map toR:=by rw [List.take_of_length_le (by omega),hml,hd];simp
   rw [this]
   exact ev_some _
  | succ d ih=>
   intro i hd hi
   have hlt:i < l.length:=by omega
   have e1:wrap64 ((i:Int)+1)=((i+1:Nat):Int):=by rw [wrap_id (by omega) (by omega)];omega
   have hfs:=fill_step (l.map toR) z75 i (by omega)
   have hfl:=fill_len (l.map toR) z75 i (by omega)
   refine ev_succ ?_
   simp only [Qw.l0,if_pos (show (i:Int) < (l.length:Int) by omega),if_pos (show (0:Int)≤(i:Int) by omega),rdLr l i hlt,e1,hfl,Int.toNat_natCast]
   refine Ev.bind (toRec l[i] (hx _ (List.getElem_mem hlt))) ?_
   simp only [if_pos (show (i:Int) < ((l.map toR).length:Int) by omega)]
   have hg:(l.map toR)[i]=toR l[i]:=by simp
   rw [hg] at hfs
   rw [show (⟨l[i].f0,l[i].f1,l[i].f2,l[i].f3,l[i].f4,l[i].f5⟩:Rc)=toR l[i] from rfl,hfs]
   exact ih (i+1) (by omega) (by omega)
 unfold Qw.f
 simp only [if_pos (show 0≤(l.length:Int) by omega),Int.toNat_natCast,if_pos (show l.length≤3518437208883 by omega)]
 have:=loop l.length 0 rfl (by omega)
 rw [hml] at this
 exact this
theorem eqInts_self (a:List Int) (hs:a.length≤1048576):Ev (fun k=>Qq.f k a a) true:=by
 have loop:∀ (d i:Nat),a.length - i=d→i≤a.length→Ev (fun k=>Qq.l0 k a a (i:Int)) true:=by
  intro d
  induction d with
  | zero=>
   intro i hd hi
   refine ev_succ ?_
   simp only [Qq.l0,if_neg (show ¬ (i:Int) < (a.length:Int) by omega)]
   exact ev_some _
  | succ d ih=>
   intro i hd hi
   have e1:wrap64 ((i:Int)+1)=((i+1:Nat):Int):=by rw [wrap_id (by omega) (by omega)];omega
   refine ev_succ ?_
   simp only [Qq.l0,if_pos (show (i:Int) < (a.length:Int) by omega),if_pos (show (0:Int)≤(i:Int) by omega),if_true,e1]
   exact ih (i+1) (by omega) (by omega)
 unfold Qq.f
 simp only [if_true]
 exact loop a.length 0 rfl (by omega)
def okRc (x:Rc):Prop:=x.f3.length≤1048576∧x.f5.length≤1048576
theorem eqRec_self (x:Rc) (hx:okRc x):Ev (fun k=>Rl.f k x.f0 x.f1 x.f2 x.f3 x.f4 x.f5 x.f0 x.f1 x.f2 x.f3 x.f4 x.f5) true:=by
 unfold Rl.f
 simp only [if_true,bne_self_eq_false,Bool.false_eq_true,if_false]
 refine Ev.bind (eqInts_self x.f3 hx.1) ?_
 simp only [if_true]
 refine Ev.bind (eqInts_self x.f5 hx.2) ?_
 simp only [if_true]
 exact ev_some _
theorem eqRecs_self (a:List Rc) (hs:a.length≤1048576) (hx:∀ x∈a,okRc x):Ev (fun k=>Qm.f k a a) true:=by
 have loop:∀ (d i:Nat),a.length - i=d→i≤a.length→Ev (fun k=>Qm.l0 k a a (i:Int)) true:=by
  intro d
  induction d with
  | zero=>
   intro i hd hi
   refine ev_succ ?_
   simp only [Qm.l0,if_neg (show ¬ (i:Int) < (a.length:Int) by omega)]
   exact ev_some _
  | succ d ih=>
   intro i hd hi
   have hlt:i < a.length:=by omega
   have e1:wrap64 ((i:Int)+1)=((i+1:Nat):Int):=by rw [wrap_id (by omega) (by omega)];omega
   refine ev_succ ?_
   simp only [Qm.l0,if_pos (show (i:Int) < (a.length:Int) by omega),if_pos (show (0:Int)≤(i:Int) by omega),e1]
   refine Ev.bind (eqRec_self (rr a (i:Int)) (by rw [rr_nat a i hlt];exact hx _ (List.getElem_mem hlt))) ?_
   simp only [if_true]
   exact ih (i+1) (by omega) (by omega)
 unfold Qm.f
 simp only [if_true]
 exact loop a.length 0 rfl (by omega)
theorem maxLen_le:maxLen≤9223372036854775807:=by unfold maxLen;omega
abbrev Lb:=S38
def toB (x:Lb):Bt:=⟨x.f0,x.f1,x.f2,x.f3,x.f4,x.f5.map toR⟩
theorem rdLb (l:List Lb) (j:Nat) (h:j < l.length):Qy l (j:Int)=l[j]:=by
 unfold Qy
 rw [Int.toNat_natCast,List.getD_eq_getElem?_getD,List.getElem?_eq_getElem h]
 rfl
def okB (x:Lb):Prop:=x.f5.length≤1048576∧∀ y∈x.f5,okR y
def bigB (x:Lb):Prop:=x.f5.length≤9223372036854775807∧∀ y∈x.f5,bigR y
theorem szBat (x:Lb) (hx:bigB x) (a:Int) (h0 : 0≤a) (h1:a≤1048576):Evs (fun k=>Rm.f k x.f0 x.f1 x.f2 x.f3 x.f4 x.f5 a) (sz a (okB x)):=by
 unfold Rm.f
 refine Evs.bind (szRecs x.f5 hx.1 hx.2 a h0 h1) ?_
 intro r hr
 rcases hr with rfl|⟨s0,s1,s2⟩
 ·simp only [if_pos (show (-1:Int) < 0 by omega)];exact Evs.done (Or.inl rfl)
 ·simp only [if_neg (show ¬ r < 0 by omega)];exact Evs.done (Or.inr ⟨s0,s1,s2⟩)
theorem szBats_loop (l:List Lb) (hl:l.length≤1048576) (hx:∀ x∈l,bigB x):∀ (d i:Nat) (a:Int),l.length - i=d→i≤l.length→0≤a→a≤1048576→Evs (fun k=>Q1.l0 k l a (i:Int)) (sz a (∀ j,i≤j→(h:j < l.length)→okB l[j])):=by
 intro d
 induction d with
 | zero=>
  intro i a hd hi h0 h1
  refine Evs.succ ?_
  simp only [Q1.l0,if_neg (show ¬ (i:Int) < (l.length:Int) by omega)]
  exact Evs.done (Or.inr ⟨h0,Int.le_refl _,fun j hj h=>by omega⟩)
 | succ d ih=>
  intro i a hd hi h0 h1
  have hlt:i < l.length:=by omega
  have e1:wrap64 ((i:Int)+1)=((i+1:Nat):Int):=by rw [wrap_id (by omega) (by omega)];omega
  refine Evs.succ ?_
  simp only [Q1.l0,if_pos (show (i:Int) < (l.length:Int) by omega),if_pos (show (0:Int)≤(i:Int) by omega),rdLb l i hlt,e1]
  refine Evs.bind (szBat l[i] (hx _ (List.getElem_mem hlt)) a h0 h1) ?_
  intro r pr
  rcases pr with rfl|⟨q0,q1,q2⟩
  ·simp only [if_pos (show (-1:Int) < 0 by omega)]
   exact Evs.done (Or.inl rfl)
  ·simp only [if_neg (show ¬ r < 0 by omega)]
   refine (ih (i+1) r (by omega) (by omega) q0 (by omega)).mono fun r2 h2=>?_
   rcases h2 with h2|⟨s0,s1,s2⟩
   ·exact Or.inl h2
   ·refine Or.inr ⟨s0,by omega,fun j hj h=>?_⟩
    by_cases he:j=i
    ·subst he;exact q2
    ·exact s2 j (by omega) h
theorem szBats (l:List Lb) (hl:l.length≤9223372036854775807) (hx:∀ x∈l,bigB x) (a:Int) (h0 : 0≤a) (h1:a≤1048576):Evs (fun k=>Q1.f k l a) (sz a (l.length≤1048576∧∀ x∈l,okB x)):=by
 have e:wrap64 (a - (l.length:Int))=a - (l.length:Int):=wrap_id (by omega) (by omega)
 unfold Q1.f
 simp only [e]
 by_cases h:a - (l.length:Int) < 0
 ·simp only [if_pos h];exact Evs.done (Or.inl rfl)
 ·simp only [if_neg h]
  refine (szBats_loop l (by omega) hx l.length 0 _ rfl (by omega) (by omega) (by omega)).mono fun r hr=>?_
  rcases hr with hr|⟨s0,s1,s2⟩
  ·exact Or.inl hr
  ·refine Or.inr ⟨s0,by omega,by omega,fun x hx2=>?_⟩
   obtain ⟨j,hj,rfl⟩:=List.getElem_of_mem hx2
   exact s2 j (Nat.zero_le _) hj
theorem toBat (x:Lb) (hx:okB x):Ev (fun k=>Rt.f k x.f0 x.f1 x.f2 x.f3 x.f4 x.f5) (x.f0,x.f1,x.f2,x.f3,x.f4,x.f5.map toR):=by
 unfold Rt.f
 exact Ev.bind (toRecs x.f5 hx.1 hx.2) (ev_some _)
theorem toBats (l:List Lb) (hl:l.length≤1048576) (hx:∀ x∈l,okB x):Ev (fun k=>Qo.f k l) (l.map toB):=by
 have hml:(l.map toB).length=l.length:=List.length_map ..
 have loop:∀ (d i:Nat),l.length - i=d→i≤l.length→Ev (fun k=>Qo.l0 k l ((l.map toB).take i++List.replicate ((l.map toB).length - i) z26) (i:Int)) (l.map toB):=by
  intro d
  induction d with
  | zero=>
   intro i hd hi
   refine ev_succ ?_
   simp only [Qo.l0,if_neg (show ¬ (i:Int) < (l.length:Int) by omega)]
   have:(l.map toB).take i++List.replicate ((l.map toB).length - i) z26=l.map toB:=by rw [List.take_of_length_le (by omega),hml,hd];simp
   rw [this]
   exact ev_some _
  | succ d ih=>
   intro i hd hi
   have hlt:i < l.length:=by omega
   have e1:wrap64 ((i:Int)+1)=((i+1:Nat):Int):=by rw [wrap_id (by omega) (by omega)];omega
   have hfs:=fill_step (l.map toB) z26 i (by omega)
   have hfl:=fill_len (l.map toB) z26 i (by omega)
   refine ev_succ ?_
   simp only [Qo.l0,if_pos (show (i:Int) < (l.length:Int) by omega),if_pos (show (0:Int)≤(i:Int) by omega),rdLb l i hlt,e1,hfl,Int.toNat_natCast]
   refine Ev.bind (toBat l[i] (hx _ (List.getElem_mem hlt))) ?_
   simp only [if_pos (show (i:Int) < ((l.map toB).length:Int) by omega)]
   have hg:(l.map toB)[i]=toB l[i]:=by simp
   rw [hg] at hfs
   rw [show (⟨l[i].f0,l[i].f1,l[i].f2,l[i].f3,l[i].f4,l[i].f5.map toR⟩:Bt)=toB l[i] from rfl,hfs]
   exact ih (i+1) (by omega) (by omega)
 unfold Qo.f
 simp only [if_pos (show 0≤(l.length:Int) by omega),Int.toNat_natCast,if_pos (show l.length≤5026338869833 by omega)]
 have:=loop l.length 0 rfl (by omega)
 rw [hml] at this
 exact this
def okBt (x:Bt):Prop:=x.f5.length≤1048576∧∀ y∈x.f5,okRc y
theorem eqBat_self (x:Bt) (hx:okBt x):Ev (fun k=>Rn.f k x.f0 x.f1 x.f2 x.f3 x.f4 x.f5 x.f0 x.f1 x.f2 x.f3 x.f4 x.f5) true:=by
 unfold Rn.f
 simp only [if_true,bne_self_eq_false,Bool.false_eq_true,if_false]
 refine Ev.bind (eqRecs_self x.f5 hx.1 hx.2) ?_
 simp only [if_true]
 exact ev_some _
theorem eqBats_self (a:List Bt) (hs:a.length≤1048576) (hx:∀ x∈a,okBt x):Ev (fun k=>Qs.f k a a) true:=by
 have loop:∀ (d i:Nat),a.length - i=d→i≤a.length→Ev (fun k=>Qs.l0 k a a (i:Int)) true:=by
  intro d
  induction d with
  | zero=>
   intro i hd hi
   refine ev_succ ?_
   simp only [Qs.l0,if_neg (show ¬ (i:Int) < (a.length:Int) by omega)]
   exact ev_some _
  | succ d ih=>
   intro i hd hi
   have hlt:i < a.length:=by omega
   have e1:wrap64 ((i:Int)+1)=((i+1:Nat):Int):=by rw [wrap_id (by omega) (by omega)];omega
   refine ev_succ ?_
   simp only [Qs.l0,if_pos (show (i:Int) < (a.length:Int) by omega),if_pos (show (0:Int)≤(i:Int) by omega),e1]
   refine Ev.bind (eqBat_self (rb a (i:Int)) (by rw [rb_nat a i hlt];exact hx _ (List.getElem_mem hlt))) ?_
   simp only [if_true]
   exact ih (i+1) (by omega) (by omega)
 unfold Qs.f
 simp only [if_true]
 exact loop a.length 0 rfl (by omega)
theorem okBt_of (x:Lb) (h:okB x):okBt (toB x):=by
 refine ⟨by show (x.f5.map toR).length≤1048576;rw [List.length_map];exact h.1,fun y hy=>?_⟩
 obtain ⟨z,hz,rfl⟩:=List.mem_map.1 hy
 exact h.2 z hz
theorem smallRs_of (x:Lb) (h:okB x):smallRs (toB x).f5:=by
 have h2:=okBt_of x h
 exact ⟨by have:=h2.1;omega,fun y hy=>⟨by have:=(h2.2 y hy).1;omega,by have:=(h2.2 y hy).2;omega⟩⟩
theorem bigB_of {x:Lb} (h:WF38 x):bigB x:=by
 have hm:=maxLen_le
 unfold WF38 at h
 have h5:=h.2.2.2.2.2
 refine ⟨Nat.le_trans h5.1 hm,fun y hy=>?_⟩
 have h6:=h5.2 y hy
 unfold WF94 at h6
 exact ⟨Nat.le_trans h6.2.2.2.1.1 hm,Nat.le_trans h6.2.2.2.2.2.1 hm⟩
end Go.Proofs.Ytmophgccpnpgfaa.Q
namespace Go.Proofs.Ytmophgccpnpgfaa.T
open Go.RowKit Go.Proofs.YtmophgccpnpgfaaW.PrintWords Go.Proofs.YtmophgccpnpgfaaW.PrintLast Go.Proofs.YtmophgccpnpgfaaW.PrintMore

set_option linter.unusedVariables false
set_option linter.unusedSimpArgs false
end Go.Proofs.Ytmophgccpnpgfaa.T
namespace Go.Proofs.Ytmophgccpnpgfaa.Q
open Go.RowKit Go.Proofs.Ytmophgccpnpgfaa.T Go.Proofs.YtmophgccpnpgfaaW.PrintWords Go.Proofs.YtmophgccpnpgfaaW.PrintLast
set_option linter.unusedVariables false
set_option linter.unusedSimpArgs false
theorem set_mid {α:Type} (a:List α) (x y : α) (b:List α) (i:Nat) (h:i=a.length):(a++x::b).set i y=a++y::b:=by
 subst h
 simp
theorem eqProds_loop (a b:List Pr) (hl:a.length=b.length) (hs:a.length≤1048576):∀ (d i:Nat),a.length - i=d→i≤a.length→Ev (fun k=>Qe.l0 k a b (i:Int)) (decide (a.drop i=b.drop i)):=by
 intro d
 induction d with
 | zero=>
  intro i hd hi
  rw [show a.drop i = [] from List.drop_eq_nil_of_le (by omega),show b.drop i = [] from List.drop_eq_nil_of_le (by omega)]
  refine ev_succ ?_
  simp only [Qe.l0,if_neg (show ¬ (i:Int) < (a.length:Int) by omega),decide_true]
  exact ev_some _
 | succ d ih=>
  intro i hd hi
  have hlt:(i:Int) < (a.length:Int):=by omega
  have e1:wrap64 ((i:Int)+1)=((i+1:Nat):Int):=by rw [wrap_id (by omega) (by omega)];omega
  rw [drop_atP (show i < a.length by omega),drop_atP (show i < b.length by omega)]
  refine ev_succ ?_
  simp only [Qe.l0,if_pos hlt,if_pos (show (0:Int)≤i by omega),if_pos (show (i:Int) < (b.length:Int) by omega),Rj.f,e1]
  by_cases h0:(rp a i).f0=(rp b i).f0
  ·by_cases h1:(rp a i).f1=(rp b i).f1
   ·by_cases h2:(rp a i).f2=(rp b i).f2
    ·simp only [if_pos h0,if_pos h1,if_pos h2,bsome,if_true]
     have:=ih (i+1) (by omega) (by omega)
     simpa [Pr_ext h0 h1 h2] using this
    ·have hne:¬ rp a i=rp b i:=fun h=>h2 (by rw [h])
     simp only [if_pos h0,if_pos h1,if_neg h2,bsome,Bool.false_eq_true,if_false]
     rw [decide_eq_false (by simp [hne])]
     exact ev_some _
   ·have hne:¬ rp a i=rp b i:=fun h=>h1 (by rw [h])
    simp only [if_pos h0,if_neg h1,bsome,Bool.false_eq_true,if_false]
    rw [decide_eq_false (by simp [hne])]
    exact ev_some _
  ·have hne:¬ rp a i=rp b i:=fun h=>h0 (by rw [h])
   simp only [if_neg h0,bsome,Bool.false_eq_true,if_false]
   rw [decide_eq_false (by simp [hne])]
   exact ev_some _
theorem eqProds (a b:List Pr) (hs:a.length≤1048576):Ev (fun k=>Qe.f k a b) (decide (a=b)):=by
 unfold Qe.f
 by_cases h:(a.length:Int)=(b.length:Int)
 ·simp only [if_pos h]
  have:=eqProds_loop a b (by omega) hs a.length 0 (by omega) (by omega)
  simpa using this
 ·simp only [if_neg h]
  rw [decide_eq_false (fun e=>h (by rw [e]))]
  exact ev_some _
theorem eqProds_self (a:List Pr) (hs:a.length≤1048576):Ev (fun k=>Qe.f k a a) true:=by
 have:=eqProds a a hs
 rwa [decide_eq_true rfl] at this
def marksP:Nat→Int→List Pr
 | 0,_=>[]
 | n+1,a=>⟨a,a+1,a+1+1⟩::marksP n (a+1+1+1)
theorem marksP_length:∀ (n:Nat) (a:Int),(marksP n a).length=n
 | 0,_=>rfl
 | n+1,a=>by simp [marksP,marksP_length n]
theorem marksP_snoc:∀ (n:Nat) (a:Int),marksP (n+1) a=marksP n a ++ [⟨a+3 * n,a+3 * n+1,a+3 * n+1+1⟩]
 | 0,a=>by simp [marksP]
 | n+1,a=>by
  rw [marksP,marksP_snoc n,marksP]
  simp
  omega
theorem marksP_at:∀ (n:Nat) (a:Int) (j:Nat) (h:j < (marksP n a).length),(marksP n a)[j]=⟨a+3 * j,a+3 * j+1,a+3 * j+1+1⟩
 | 0,a,j,h=>by simp [marksP] at h
 | n+1,a,0,h=>by simp [marksP]
 | n+1,a,j+1,h=>by
  have:=marksP_at n (a+1+1+1) j (by simpa [marksP] using h)
  simp only [marksP,List.getElem_cons_succ]
  rw [this]
  congr 1 <;> omega
theorem dropP_at {l:List Pr} {i:Nat} (h:i < l.length):∃ x,l.drop i=x::l.drop (i+1):=⟨l[i],List.drop_eq_getElem_cons h⟩
theorem markP_loop (l:List Pr) (hl:l.length≤1048576):∀ (d i:Nat),l.length - i=d→i≤l.length→Ev (fun k=>Ql.l0 k (marksP i 1++l.drop i) (1+3 * (i:Int)) (i:Int)) (1+3 * (l.length:Int),marksP l.length 1):=by
 intro d
 induction d with
 | zero=>
  intro i hd hi
  obtain rfl:i=l.length:=by omega
  refine ev_succ ?_
  simp only [Ql.l0,List.drop_length,List.append_nil,marksP_length,if_neg (show ¬ (l.length:Int) < (l.length:Int) by omega)]
  exact ev_some _
 | succ d ih=>
  intro i hd hi
  have e1:wrap64 ((i:Int)+1)=((i+1:Nat):Int):=by rw [wrap_id (by omega) (by omega)];omega
  have e2:wrap64 (1+3 * (i:Int)+1)=1+3 * (i:Int)+1:=wrap_id (by omega) (by omega)
  have e3:wrap64 (1+3 * (i:Int)+1+1)=1+3 * (i:Int)+1+1:=wrap_id (by omega) (by omega)
  have e4:wrap64 (1+3 * (i:Int)+1+1+1)=1+3 * ((i+1:Nat):Int):=by rw [wrap_id (by omega) (by omega)];omega
  have hlen:(marksP i 1++l.drop i).length=l.length:=by simp [marksP_length];omega
  refine ev_succ ?_
  obtain ⟨x,hd1⟩:=dropP_at (show i < l.length by omega)
  have hr:∀ (x:Pr) (r:List Pr),Qc (marksP i 1++x::r) (i:Int)=x:=by
   intro x r
   unfold Qc
   rw [Int.toNat_natCast,List.getD_eq_getElem?_getD,List.getElem?_append_right (by rw [marksP_length];omega),marksP_length]
   simp
  simp only [Ql.l0,hlen,if_pos (show (i:Int) < (l.length:Int) by omega),if_pos (show (0:Int)≤i by omega),bsome,e1,e2,e3,e4,Int.toNat_natCast]
  rw [hd1,hr]
  rw [set_mid _ _ _ _ _ (marksP_length i 1).symm,hr,set_mid _ _ _ _ _ (marksP_length i 1).symm,hr,set_mid _ _ _ _ _ (marksP_length i 1).symm]
  have:=ih (i+1) (by omega) (by omega)
  rw [marksP_snoc,List.append_assoc] at this
  exact this
theorem heldP_loop (n:Nat) (hn:n≤1048576):∀ (d i:Nat),n - i=d→i≤n→Ev (fun k=>Qh.l0 k (marksP n 1) (1+3 * (i:Int)) (i:Int)) (1+3 * (n:Int)):=by
 intro d
 induction d with
 | zero=>
  intro i hd hi
  obtain rfl:i=n:=by omega
  refine ev_succ ?_
  simp only [Qh.l0,marksP_length,if_neg (show ¬ (i:Int) < (i:Int) by omega)]
  exact ev_some _
 | succ d ih=>
  intro i hd hi
  have e1:wrap64 ((i:Int)+1)=((i+1:Nat):Int):=by rw [wrap_id (by omega) (by omega)];omega
  have e2:wrap64 (1+3 * (i:Int)+1)=1+3 * (i:Int)+1:=wrap_id (by omega) (by omega)
  have e3:wrap64 (1+3 * (i:Int)+1+1)=1+3 * (i:Int)+1+1:=wrap_id (by omega) (by omega)
  have e4:wrap64 (1+3 * (i:Int)+1+1+1)=1+3 * ((i+1:Nat):Int):=by rw [wrap_id (by omega) (by omega)];omega
  have hr:Qc (marksP n 1) (i:Int)=⟨1+3 * (i:Int),1+3 * (i:Int)+1,1+3 * (i:Int)+1+1⟩:=by
   unfold Qc
   rw [Int.toNat_natCast,List.getD_eq_getElem?_getD,List.getElem?_eq_getElem (by rw [marksP_length];omega),Option.getD_some,marksP_at]
  refine ev_succ ?_
  simp only [Qh.l0,marksP_length,if_pos (show (i:Int) < (n:Int) by omega),if_pos (show (0:Int)≤i by omega),hr,e1,e2,e3,e4,if_true]
  exact ih (i+1) (by omega) (by omega)
theorem markProds (l:List Pr) (hl:l.length≤1048576):∃ l',Ev (fun k=>Ql.f k l 1) (1+3 * (l.length:Int),l')∧Ev (fun k=>Qh.f k l' 1) (1+3 * (l.length:Int)):=by
 refine ⟨marksP l.length 1,?_,?_⟩
 ·have:=markP_loop l hl l.length 0 (by omega) (by omega)
  simpa [marksP,Ql.f] using this
 ·have:=heldP_loop l.length hl l.length 0 (by omega) (by omega)
  simpa [Qh.f] using this
end Go.Proofs.Ytmophgccpnpgfaa.Q
namespace Go.Proofs.Ytmophgccpnpgfaa.Pure
open Go.RowKit Go.Proofs.Ytmophgccpnpgfaa.T Go.Proofs.YtmophgccpnpgfaaW.PrintWords Go.Proofs.YtmophgccpnpgfaaW.PrintLast Go.Proofs.Ytmophgccpnpgfaa.Q
set_option linter.unusedVariables false
set_option linter.unusedSimpArgs false
theorem cntR_boundU (len:Nat→Nat×Nat):∀ n,(∀ i,i < n→(len i).1≤1048576∧(len i).2≤1048576)→cntR len n≤n * 2097156
 | 0,_=>Nat.le_refl _
 | n+1,h=>by
  have h1:=cntR_boundU len n (fun i hi=>h i (by omega))
  have h2:=h n (by omega)
  have h3:cntR len (n+1)=cntR len n+(4+(len n).1+(len n).2):=rfl
  omega
theorem cntB_boundU (num:Nat→Nat) (len:Nat→Nat→Nat×Nat):∀ n,(∀ i,i < n→num i≤1048576∧∀ j,j < num i→(len i j).1≤1048576∧(len i j).2≤1048576)→cntB num len n≤n * 2199027449861
 | 0,_=>Nat.le_refl _
 | n+1,h=>by
  have h1:=cntB_boundU num len n (fun i hi=>h i (by omega))
  have h2:=h n (by omega)
  have h4:=cntR_boundU (len n) (num n) h2.2
  have h3:cntB num len (n+1)=cntB num len n+(5+cntR (len n) (num n)):=rfl
  omega
theorem markBatchS_f (l:List Bt) (hl:l.length≤1048576) (hx:∀ x∈l,okBt x):∃ z,Ri.f l 1=some z∧0≤z:=by
 have hb:=cntB_boundU (numB l) (lenB l) l.length (fun i hi=>by
  have e:Qb l (i:Int)=l[i]:=rb_nat l i hi
  have h:=hx _ (List.getElem_mem hi)
  rw [← e] at h
  refine ⟨h.1,fun j hj=>?_⟩
  have e2:Qa (Qb l (i:Int)).f5 (j:Int)=(Qb l (i:Int)).f5[j]:=rr_nat _ j hj
  have h2:=h.2 _ (List.getElem_mem hj)
  rw [← e2] at h2
  exact h2)
 have ho:okMarkB l 1=true:=by
  unfold okMarkB
  rw [decide_eq_true_eq]
  omega
 unfold Ri.f
 rw [if_pos ho]
 exact ⟨_,rfl,by omega⟩
def marksI:Nat→Int→List Int
 | 0,_=>[]
 | n+1,a=>a::marksI n (a+1)
theorem marksI_length:∀ (n:Nat) (a:Int),(marksI n a).length=n
 | 0,_=>rfl
 | n+1,a=>by simp [marksI,marksI_length n]
theorem marksI_snoc:∀ (n:Nat) (a:Int),marksI (n+1) a=marksI n a ++ [a+n]
 | 0,a=>by simp [marksI]
 | n+1,a=>by
  rw [marksI,marksI_snoc n,marksI]
  simp
  omega
theorem marksI_at:∀ (n:Nat) (a:Int) (j:Nat) (h:j < (marksI n a).length),(marksI n a)[j]=a+j
 | 0,a,j,h=>by simp [marksI] at h
 | n+1,a,0,h=>by simp [marksI]
 | n+1,a,j+1,h=>by
  have:=marksI_at n (a+1) j (by simpa [marksI] using h)
  simp only [marksI,List.getElem_cons_succ]
  rw [this]
  omega
theorem markI_loop (l:List Int) (hl:l.length≤1048576) (a:Int) (h0 : 0≤a) (h1:a≤1000000000):∀ (d i:Nat),l.length - i=d→i≤l.length→Ev (fun k=>Qx.l0 k (marksI i a++l.drop i) (a+(i:Int)) (i:Int)) (a+(l.length:Int),marksI l.length a):=by
 intro d
 induction d with
 | zero=>
  intro i hd hi
  obtain rfl:i=l.length:=by omega
  refine ev_succ ?_
  simp only [Qx.l0,List.drop_length,List.append_nil,marksI_length,if_neg (show ¬ (l.length:Int) < (l.length:Int) by omega)]
  exact ev_some _
 | succ d ih=>
  intro i hd hi
  have e1:wrap64 ((i:Int)+1)=((i+1:Nat):Int):=by rw [wrap_id (by omega) (by omega)];omega
  have e2:wrap64 (a+(i:Int)+1)=a+((i+1:Nat):Int):=by rw [wrap_id (by omega) (by omega)];omega
  have hlen:(marksI i a++l.drop i).length=l.length:=by simp [marksI_length];omega
  refine ev_succ ?_
  have hd1:l.drop i=l[i]'(by omega)::l.drop (i+1):=List.drop_eq_getElem_cons (by omega)
  simp only [Qx.l0,hlen,if_pos (show (i:Int) < (l.length:Int) by omega),if_pos (show (0:Int)≤i by omega),e1,e2,Int.toNat_natCast]
  rw [hd1,set_mid _ _ _ _ _ (marksI_length i a).symm]
  have:=ih (i+1) (by omega) (by omega)
  rw [marksI_snoc,List.append_assoc] at this
  exact this
theorem heldI_loop (n:Nat) (hn:n≤1048576) (a:Int) (h0 : 0≤a) (h1:a≤1000000000):∀ (d i:Nat),n - i=d→i≤n→Ev (fun k=>Qt.l0 k (marksI n a) (a+(i:Int)) (i:Int)) (a+(n:Int)):=by
 intro d
 induction d with
 | zero=>
  intro i hd hi
  obtain rfl:i=n:=by omega
  refine ev_succ ?_
  simp only [Qt.l0,marksI_length,if_neg (show ¬ (i:Int) < (i:Int) by omega)]
  exact ev_some _
 | succ d ih=>
  intro i hd hi
  have e1:wrap64 ((i:Int)+1)=((i+1:Nat):Int):=by rw [wrap_id (by omega) (by omega)];omega
  have e2:wrap64 (a+(i:Int)+1)=a+((i+1:Nat):Int):=by rw [wrap_id (by omega) (by omega)];omega
  have hr:rd (marksI n a) (i:Int)=a+(i:Int):=by
   unfold rd
   rw [Int.toNat_natCast,List.getD_eq_getElem?_getD,List.getElem?_eq_getElem (by rw [marksI_length];omega),Option.getD_some,marksI_at]
  refine ev_succ ?_
  simp only [Qt.l0,marksI_length,if_pos (show (i:Int) < (n:Int) by omega),if_pos (show (0:Int)≤i by omega),hr,e1,e2,if_true]
  exact ih (i+1) (by omega) (by omega)
theorem markInts (l:List Int) (hl:l.length≤1048576) (a:Int) (h0 : 0≤a) (h1:a≤1000000000):∃ l',Ev (fun k=>Qx.f k l a) (a+(l.length:Int),l')∧Ev (fun k=>Qt.f k l' a) (a+(l.length:Int)):=by
 refine ⟨marksI l.length a,?_,?_⟩
 ·have:=markI_loop l hl a h0 h1 l.length 0 (by omega) (by omega)
  simpa [marksI,Qx.f] using this
 ·have:=heldI_loop l.length hl a h0 h1 l.length 0 (by omega) (by omega)
  simpa [Qt.f] using this
theorem FnExactProducersRun:∀ (l0:List (S38)),l0.length≤maxLen→(∀ v∈l0,WF38 v)→∃ k,laws_FnExactProducersRun.f k l0=some true:=by
 intro l0 hl hw
 refine Ev.rounds ?_
 unfold laws_FnExactProducersRun.f
 obtain ⟨r,h1,p1⟩:=szBats l0 (Nat.le_trans hl maxLen_le) (fun x hx=>bigB_of (hw x hx)) 1048576 (by omega) (by omega)
 refine Ev.bind h1 ?_
 rcases p1 with rfl|⟨s0,s1,s2,s3⟩
 ·simp only [if_pos (show (-1:Int) < 0 by omega)]
  exact ev_some _
 ·simp only [if_neg (show ¬ r < 0 by omega)]
  have ht:=toBats l0 s2 s3
  have hml:(l0.map toB).length=l0.length:=List.length_map ..
  have hs:smallBs (l0.map toB):=by
   refine ⟨by omega,fun b hb=>?_⟩
   obtain ⟨x,hx,rfl⟩:=List.mem_map.1 hb
   exact smallRs_of x (s3 x hx)
  have hk:∀ b∈l0.map toB,okBt b:=fun b hb=>by
   obtain ⟨x,hx,rfl⟩:=List.mem_map.1 hb
   exact okBt_of x (s3 x hx)
  have e1:=implRun (l0.map toB) hs
  have e2:=specRun (l0.map toB) hs
  have hcl:(cds (l0.map toB) []).length≤1048576:=by rw [cds_len];omega
  have hfl:(fin (l0.map toB) []).length≤1048576:=by have:=(fin_valid (l0.map toB) VP_nil).1;omega
  obtain ⟨o,ho⟩:∃ o,o=fin (l0.map toB) []:=⟨_,rfl⟩
  obtain ⟨c,hc⟩:∃ c,c=cds (l0.map toB) []:=⟨_,rfl⟩
  rw [← ho,← hc] at e1 e2
  rw [← ho] at hfl
  rw [← hc] at hcl
  clear ho hc
  have eo:=eqProds_self o hfl
  have ec:=eqInts_self c hcl
  have eb:=eqBats_self (l0.map toB) (by omega) hk
  obtain ⟨z,hz,hz0⟩:=markBatchS_f (l0.map toB) (by omega) hk
  obtain ⟨lo,hmo,hho⟩:=markProds o hfl
  obtain ⟨lc,hmc,hhc⟩:=markInts c hcl (1+3 * (o.length:Int)) (by omega) (by omega)
  refine Ev.bind ht ?_
  refine Ev.bind e2 ?_
  refine Ev.bind ht ?_
  refine Ev.bind e1 ?_
  refine Ev.bind eo ?_
  simp only [if_true]
  refine Ev.bind ec ?_
  simp only [Bool.not_true]
  refine ev_succ ?_
  simp only [laws_FnExactProducersRun.j0,Bool.false_eq_true,if_false]
  refine Ev.bind ht ?_
  refine Ev.bind eb ?_
  simp only [if_true,hz,bsome,if_neg (show ¬ z < 0 by omega)]
  refine Ev.bind eo ?_
  simp only [if_true]
  refine Ev.bind ec ?_
  simp only [Bool.not_true]
  refine ev_succ ?_
  simp only [laws_FnExactProducersRun.j1,Bool.false_eq_true,if_false]
  refine Ev.bind hmo ?_
  refine Ev.bind hmc ?_
  refine Ev.bind hho ?_
  simp only [if_neg (show ¬ (1+3 * (o.length:Int)) < 0 by omega)]
  refine Ev.bind hhc ?_
  simp only [if_neg (show ¬ (1+3 * (o.length:Int)+(c.length:Int)) < 0 by omega),if_true]
  refine Ev.bind ht ?_
  refine Ev.bind e1 ?_
  refine Ev.bind eo ?_
  simp only [if_true]
  refine Ev.bind ec ?_
  simp only [Bool.not_true]
  refine ev_succ ?_
  simp only [laws_FnExactProducersRun.j2,Bool.false_eq_true,if_false]
  refine Ev.bind hho ?_
  simp only [if_neg (show ¬ (1+3 * (o.length:Int)) < 0 by omega)]
  refine Ev.bind hhc ?_
  simp only [if_neg (show ¬ (1+3 * (o.length:Int)+(c.length:Int)) < 0 by omega),if_true]
  exact ev_some _
end Go.Proofs.Ytmophgccpnpgfaa.Pure
namespace Go.Proofs.Ytmophgccpnpgfaa.fnExactProducersRun
open Go.ChangeShapes Go.WideShapes Go.ChangeAt Go.RowKit
open Go.ChangeMaps (open_string shut_string)
open Go.Proofs.YtmophgccpnpgfaaW.PrintWords
set_option linter.unusedVariables false
theorem own:ownKnob Try.prog.godebug=none:=by kernel_rfl
theorem laidOut:laidOutB Try.prog=true:=by kernel_rfl
theorem lifted (os:Os) (started:os.Started) (H:Type) (enc:TypeId×Value→H) :
  ReturnsInHanded {} Try.checked os 5 .any (Rows.fnExactProducersRunSpec.pre6 enc Try.prog Try.f5 Rows.fnExactProducersRunRow.domain false) (Rows.fnExactProducersRunSpec.post enc Try.prog Try.f5 false true false false):=by
 refine returnsInHanded_of_change_sized (C:=Try.checked) own started (by kernel_rfl) Try.func5
  (ChangeSpec.witness6 (enc:=enc) (C:=Try.checked) false ⟨#[],#[.slice none 0 0],[]⟩ 8 (by kernel_rfl) (by kernel_rfl) (by kernel_rfl) (by kernel_rfl)) ?_
 intro W base args ds gs before hval0 hW hcnd hsz0 _
 have hval:∀ (j:Nat) t v,Try.f5.params[j]? = some t→args[j]? = some v→Value.okWide Try.prog W .any base t v:=hval0
 have hW':=hW
 obtain ⟨p,q,hA0,hV,rfl,hfz,hnd⟩:=hW
 have hA:DataW.TrodAll enc Try.prog W 0 (fun _=>true) true Try.f5.params.toList args.toList ds p:=hA0
 rw [Try.params5] at hA hval
 obtain ⟨v0,vs0,d0,ds0,p0,q0,hargs,rfl,rfl,h0,r0⟩:=trodAll_cons hA
 obtain ⟨rfl,rfl,rfl⟩:=trodAll_nil r0
 obtain rfl:args = #[v0]:=by cases args;simp_all
 obtain ⟨rfl,rfl⟩:=trodVars_none hV
 obtain ⟨a0,len0,cap0,rfl⟩:=okWide_slice Try.underlying47 (hval 0 47 v0 rfl rfl)
 have k0:=h0
 have lt0:∀ x∈p0,x.block < W.heap.size:=by obtain ⟨m,hm⟩:=k0;exact DataW.trod_lt m _ _ _ hm
 obtain ⟨fu0,hf0⟩:=h0
 obtain ⟨l0,⟨A0,c0,hE0,hc0,hC0⟩,hm0,hw0⟩:=(Q.Opens.slice Try.underlying47 T.opens38 (by kernel_rfl)) _ enc W _ _ _ _ _ _ hf0
 replace hE0:([.slice a0 len0 cap0]:List Value) = [.slice A0 l0.length c0]:=hE0
 simp only [List.cons.injEq,Value.slice.injEq,and_true] at hE0
 obtain ⟨rfl,rfl,rfl⟩:=hE0
 clear hA0 hval0 hsz0
 obtain ⟨k,h⟩:=Pure.FnExactProducersRun l0 hm0 hw0
 refine (T.laws_FnExactProducersRun.calls k _ _ l0 true W hC0 hc0 h).mono ?_
 rintro e W' ⟨rfl,bel⟩
 exact ⟨_,rfl,_,_,_,[],_,[],hW',trodAll_mk1 (shut_bool Try.underlying4 _),(trodAll_cons_mk (Below.trod laidOut (by kernel_rfl) (of_decide_eq_true (by kernel_rfl)) k0 bel lt0) trodAll_mk0),rfl,bel.frame _,fun h=>by cases h⟩
theorem closed:joinedFacts Try.prog 5 Try.f5 Rows.fnExactProducersRunSpec Rows.fnExactProducersRunRow=true:=
 Head.closed_of _ _ _ _ _ (by kernel_rfl) (by kernel_rfl) (by kernel_rfl) (by kernel_rfl) (by kernel_rfl) (by kernel_rfl) (by kernel_rfl) (by kernel_rfl) (by kernel_rfl) (by kernel_rfl) (by kernel_rfl) (by kernel_rfl) (by kernel_rfl) (by kernel_rfl) (by kernel_rfl) (by kernel_rfl) (by kernel_rfl) (by kernel_rfl) (by kernel_rfl) (by kernel_rfl) (by kernel_rfl) (by kernel_rfl) (by kernel_rfl) (by kernel_rfl) (by kernel_rfl) Head.may_enter (by rw [Head.lifts_final];kernel_rfl) (by rw [Head.make_is];kernel_rfl) (by kernel_rfl) (by kernel_rfl) (by kernel_rfl) (by kernel_rfl)
theorem over:Rows.fnExactProducersRunRow.holds Try.pinned (OpenSpec.ofChange Rows.fnExactProducersRunSpec):=
 OpenClaim.holds_of_wide 5 Try.f5 rfl rfl rfl rfl rfl rfl rfl ⟨rfl,rfl,rfl,rfl,rfl⟩ rfl rfl rfl rfl rfl (by kernel_rfl) Try.func5 closed
  (of_decide_eq_true (by kernel_rfl)) (by unfold Func.isWrapper;first|(rw [if_pos (by decide +kernel)];kernel_rfl)|(rw [if_neg (by decide +kernel)];exact ⟨rfl,rfl⟩))
  (fun os started H enc _=>lifted os started H enc)
theorem proved:Rows.FnExactProducersRunSaid:=over
end Go.Proofs.Ytmophgccpnpgfaa.fnExactProducersRun
namespace Go.Proofs.Ytmophgccpnpgfaa
theorem fnExactProducersRun_holds:Rows.FnExactProducersRunSaid:=fnExactProducersRun.proved
end Go.Proofs.Ytmophgccpnpgfaa
