/- The law FnStableRecordsRead holds (part 6 of 7; merged by pack2.py). -/
import Derived.Test.YticpnjhkdfdkkaaFnStableRecordsReadK4
open List (setIfInBounds_toArray set_cons_zero set_cons_succ map_toArray map_cons map_nil length_drop length_take)
namespace Go.Proofs.Yticpnjhkdfdkkaa.UQ
open Go.RowKit Go.Proofs.Yticpnjhkdfdkkaa.U Go.Proofs.YticpnjhkdfdkkaaW.PrintWords Go.Proofs.YticpnjhkdfdkkaaW.PrintLast
set_option linter.unusedVariables false
set_option linter.unusedSimpArgs false
theorem lim2 {n c:Nat} (h:n≤2000) (hc : 2000 < c):n < c:=by omega
theorem part_loop (bs:List Int) (hb:Bytes bs) (hl:bs.length≤2000):∀ (d:Nat) (l:List Int) (n i p:Int),n - i≤d→0≤i→(l.length:Int)≤i→(l.length:Int)≤12→n≤12→0≤p→p+2 * d≤900000000 →
  Evs (fun k=>spec_l91Part.l0 k l n i bs p) (fun r=>r.2.1.length≤12∧p≤r.2.2∧r.2.2≤p+2 * d):=by
 intro d
 induction d with
 | zero=>
  intro l n i p hd hi hll h12 hn h0 h1
  refine Evs.succ ?_
  simp only [spec_l91Part.l0,if_neg (show ¬ i < n by omega)]
  exact Evs.done ⟨by dsimp only;omega,by dsimp only;omega,by dsimp only;omega⟩
 | succ d ih=>
  intro l n i p hd hi hll h12 hn h0 h1
  refine Evs.succ ?_
  by_cases hlt:i < n
  ·have e1:wrap64 (i+1)=i+1:=wrap_id (by omega) (by omega)
   simp only [spec_l91Part.l0,if_pos hlt,bsome,e1]
   refine Evs.bind (pick_evs bs p 256 hb hl h0 (by omega) (by omega)) ?_
   rintro ⟨u,_⟩ ⟨u0,u1,rfl⟩
   refine Evs.bind (pick_evs bs (p+1) 4 hb hl (by omega) (by omega) (by omega)) ?_
   rintro ⟨v,_⟩ ⟨v0,v1,rfl⟩
   simp only [if_pos v0,if_pos (show v < (([1,2,3,u]:List Int).length:Int) from v1),if_pos (show l.length < 17592186044416 from lim2 (by omega) (by omega))]
   have h:=ih (l ++ [rd [1,2,3,u] v]) n (i+1) (p+1+1) (by omega) (by omega) (by simp;omega) (by simp;omega) hn (by omega) (by omega)
   exact h.mono (fun r hr=>⟨hr.1,by have:=hr.2.1;omega,by have:=hr.2.2;omega⟩)
  ·simp only [spec_l91Part.l0,if_neg hlt]
   exact Evs.done ⟨by dsimp only;omega,by dsimp only;omega,by dsimp only;omega⟩
theorem part_evs (bs:List Int) (hb:Bytes bs) (hl:bs.length≤2000) (p:Int) (h0 : 0≤p) (h1:p≤800000000):Evs (fun k=>spec_l91Part.f k bs p) (fun r=>r.2.1.length≤12∧p≤r.2.2∧r.2.2≤p+30):=by
 unfold spec_l91Part.f
 refine Evs.bind (pick_evs bs p 4 hb hl h0 (by omega) (by omega)) ?_
 rintro ⟨u,_⟩ ⟨u0,u1,rfl⟩
 by_cases hu:u=0
 ·simp only [if_pos hu]
  exact Evs.done ⟨by simp,by dsimp only;omega,by dsimp only;omega⟩
 ·simp only [if_neg hu,bsome]
  refine Evs.bind (pick_evs bs (p+1) 5 hb hl (by omega) (by omega) (by omega)) ?_
  rintro ⟨v,_⟩ ⟨v0,v1,rfl⟩
  refine Evs.bind (pick_evs bs (p+1+1) 12 hb hl (by omega) (by omega) (by omega)) ?_
  rintro ⟨x,_⟩ ⟨x0,x1,rfl⟩
  by_cases hx:x=0
  ·simp only [if_pos hx]
   refine Evs.succ ?_
   simp only [spec_l91Part.j0]
   have h:=part_loop bs hb hl 12 [] 12 0 (p+1+1+1) (by omega) (by omega) (by simp) (by simp) (by omega) (by omega) (by omega)
   exact h.mono (fun r hr=>⟨hr.1,by have:=hr.2.1;omega,by have:=hr.2.2;omega⟩)
  ·simp only [if_neg hx]
   refine Evs.succ ?_
   simp only [spec_l91Part.j0]
   have h:=part_loop bs hb hl 12 [] v 0 (p+1+1+1) (by omega) (by omega) (by simp) (by simp) (by omega) (by omega) (by omega)
   exact h.mono (fun r hr=>⟨hr.1,by have:=hr.2.1;omega,by have:=hr.2.2;omega⟩)
def drawnR (n:Nat) (l:List Rc):Prop:=l.length≤n∧∀ r∈l,r.f3.length≤12∧r.f5.length≤12
theorem drawnR_small {n:Nat} (hn:n≤100000) {l:List Rc} (h:drawnR n l):smallRs l:=⟨by have:=h.1;omega,fun r hr=>⟨by have:=(h.2 r hr).1;omega,by have:=(h.2 r hr).2;omega⟩⟩
theorem drawnR_add {n:Nat} {l:List Rc} (h:drawnR n l) {r:Rc} (h3:r.f3.length≤12) (h5:r.f5.length≤12):drawnR (n+1) (l ++ [r]):=by
 refine ⟨by have:=h.1;simp;omega,fun x hx=>?_⟩
 rcases List.mem_append.1 hx with hx|hx
 ·exact h.2 x hx
 ·rw [List.mem_singleton.1 hx]
  exact ⟨h3,h5⟩
theorem drawnR_mono {n m:Nat} {l:List Rc} (h:drawnR n l) (hm:n≤m):drawnR m l:=⟨by have:=h.1;omega,h.2⟩
theorem recs_loop (bs:List Int) (hb:Bytes bs) (hl:bs.length≤2000) (n:Int) (hn:n≤100):∀ (d:Nat) (o:Int) (l:List Rc) (t i p:Int),n - i≤d→0≤i→drawnR i.toNat l→(0 < i→0 < l.length)→0≤p→p+70 * d≤700000000 →
  Evs (fun k=>spec_l91Records.l0 k o l n t i bs p) (fun r=>drawnR (max i n).toNat r.1∧(0 < max i n→0 < r.1.length)∧p≤r.2∧r.2≤p+70 * d):=by
 intro d
 induction d with
 | zero=>
  intro o l t i p hd hi hll hpos h0 h1
  refine Evs.succ ?_
  simp only [spec_l91Records.l0,if_neg (show ¬ i < n by omega)]
  exact Evs.done ⟨by dsimp only;exact drawnR_mono hll (by omega),by dsimp only;intro h;exact hpos (by omega),by dsimp only;omega,by dsimp only;omega⟩
 | succ d ih=>
  intro o l t i p hd hi hll hpos h0 h1
  refine Evs.succ ?_
  by_cases hlt:i < n
  ·have e1:wrap64 (i+1)=i+1:=wrap_id (by omega) (by omega)
   have hlen:=hll.1
   simp only [spec_l91Records.l0,if_pos hlt]
   refine Evs.bind (part_evs bs hb hl p h0 (by omega)) ?_
   rintro ⟨kh,kl,p1⟩ ⟨hk,q0,q1⟩
   dsimp only at hk q0 q1 ⊢
   refine Evs.bind (part_evs bs hb hl p1 (by omega) (by omega)) ?_
   rintro ⟨vh,vl,p2⟩ ⟨hv,q2,q3⟩
   dsimp only at hv q2 q3 ⊢
   have main:∀ (c:Bool) (q:Int),0≤q→p≤q→q≤p2+1→Evs (fun k=>spec_l91Records.j1 k o l n t i vh vl c bs q o t kh kl false) (fun r=>drawnR (max i n).toNat r.1∧(0 < max i n→0 < r.1.length)∧p≤r.2∧r.2≤p+70 * (d+1:Nat)):=by
    intro c q hq0 hq1 hq2
    refine Evs.succ ?_
    have hlim:l.length < 1759218604441:=lim2 (by omega) (by omega)
    cases c with
    | true=>
     simp only [spec_l91Records.j1,if_true,if_pos hlim,e1]
     refine Evs.bind (pick_evs bs q 3 hb hl (by omega) (by omega) (by omega)) ?_
     rintro ⟨u,_⟩ ⟨u0,u1,rfl⟩
     refine Evs.bind (pick_evs bs (q+1) 5 hb hl (by omega) (by omega) (by omega)) ?_
     rintro ⟨v,_⟩ ⟨v0,v1,rfl⟩
     refine Evs.bind (pick_evs bs (q+1+1) 30 hb hl (by omega) (by omega) (by omega)) ?_
     rintro ⟨x,_⟩ ⟨x0,x1,rfl⟩
     have h:=ih (wrap64 (wrap64 (o+1)+wrap64 (Int.tdiv v 4))) (l ++ [⟨o,t,kh,[u],vh,vl⟩]) (mx (wrap64 (wrap64 (t+x) - 6)) 0) (i+1) (q+1+1+1) (by omega) (by omega) (drawnR_mono (drawnR_add hll (by simp) hv) (by omega)) (fun _=>by simp) (by omega) (by omega)
     rw [show max (i+1) n=max i n by omega] at h
     exact h.mono (fun r hr=>⟨hr.1,hr.2.1,by have:=hr.2.2.1;omega,by have:=hr.2.2.2;omega⟩)
    | false=>
     simp only [spec_l91Records.j1,Bool.false_eq_true,if_false,if_pos hlim,e1]
     refine Evs.bind (pick_evs bs q 5 hb hl (by omega) (by omega) (by omega)) ?_
     rintro ⟨v,_⟩ ⟨v0,v1,rfl⟩
     refine Evs.bind (pick_evs bs (q+1) 30 hb hl (by omega) (by omega) (by omega)) ?_
     rintro ⟨x,_⟩ ⟨x0,x1,rfl⟩
     have h:=ih (wrap64 (wrap64 (o+1)+wrap64 (Int.tdiv v 4))) (l ++ [⟨o,t,kh,kl,vh,vl⟩]) (mx (wrap64 (wrap64 (t+x) - 6)) 0) (i+1) (q+1+1) (by omega) (by omega) (drawnR_mono (drawnR_add hll hk hv) (by omega)) (fun _=>by simp) (by omega) (by omega)
     rw [show max (i+1) n=max i n by omega] at h
     exact h.mono (fun r hr=>⟨hr.1,hr.2.1,by have:=hr.2.2.1;omega,by have:=hr.2.2.2;omega⟩)
   by_cases hkh:kh=true
   ·simp only [if_pos hkh]
    refine Evs.bind (pick_evs bs p2 2 hb hl (by omega) (by omega) (by omega)) ?_
    rintro ⟨u,_⟩ ⟨u0,u1,rfl⟩
    exact main (u==0) (p2+1) (by omega) (by omega) (by omega)
   ·simp only [if_neg hkh]
    exact main false p2 (by omega) (by omega) (by omega)
  ·simp only [spec_l91Records.l0,if_neg hlt]
   exact Evs.done ⟨by dsimp only;exact drawnR_mono hll (by omega),by dsimp only;intro h;exact hpos (by omega),by dsimp only;omega,by dsimp only;omega⟩
theorem recs_evs (bs:List Int) (hb:Bytes bs) (hl:bs.length≤2000) (p o m:Int) (h0 : 0≤p) (h1:p≤600000000) (hm : 1≤m) (hm2:m≤10):Evs (fun k=>spec_l91Records.f k bs p o m) (fun r=>drawnR m.toNat r.1∧0 < r.1.length∧p≤r.2∧r.2≤p+800):=by
 unfold spec_l91Records.f
 refine Evs.bind (pick_evs bs p m hb hl h0 (by omega) hm) ?_
 rintro ⟨u,_⟩ ⟨u0,u1,rfl⟩
 refine Evs.bind (pick_evs bs (p+1) 200 hb hl (by omega) (by omega) (by omega)) ?_
 rintro ⟨v,_⟩ ⟨v0,v1,rfl⟩
 simp only [show wrap64 (1+u)=1+u from wrap_id (by omega) (by omega)]
 have h:=recs_loop bs hb hl (1+u) (by omega) 10 o [] v 0 (p+1+1) (by omega) (by omega) ⟨by simp,fun r hr=>by cases hr⟩ (fun h=>by omega) (by omega) (by omega)
 exact h.mono (fun r hr=>⟨drawnR_mono hr.1 (by omega),hr.2.1 (by omega),by have:=hr.2.2.1;omega,by have:=hr.2.2.2;omega⟩)
abbrev Bt:=S27
abbrev rb (l:List Bt) (i:Int):Bt:=rd_T27 l i
theorem rb_nat (l:List Bt) (j:Nat) (h:j < l.length):rb l (j:Int)=l[j]:=by
 unfold rb rd_T27
 rw [Int.toNat_natCast,List.getD_eq_getElem?_getD,List.getElem?_eq_getElem h]
 rfl
def smallBs (l:List Bt):Prop:=l.length≤2000000∧∀ b∈l,smallRs b.f5
theorem smallBs_at {l:List Bt} (h:smallBs l) (j:Nat) (hj:j < l.length):smallRs (rb l (j:Int)).f5:=by
 rw [rb_nat l j hj]
 exact h.2 _ (List.getElem_mem hj)
def fOff (b:Bt):Int:=(rr b.f5 0).f0
def lOff (b:Bt):Int:=(rr b.f5 ((b.f5.length:Int) - 1)).f0
def vB (b:Bt):Prop:=VB b.f1 b.f2 b.f3 b.f4 b.f5
theorem vB_pos {b:Bt} (h:vB b) : 1≤b.f5.length∧b.f5.length≤6:=h.2.1
theorem first_eq {b:Bt} (h:vB b):impl_Batch_first.f b.f0 b.f1 b.f2 b.f3 b.f4 b.f5=some (fOff b):=by
 have:=vB_pos h
 unfold impl_Batch_first.f
 rw [if_pos (show 0 < (b.f5.length:Int) by omega)]
 rfl
theorem last_eq {b:Bt} (h:vB b):impl_Batch_last.f b.f0 b.f1 b.f2 b.f3 b.f4 b.f5=some (lOff b):=by
 have:=vB_pos h
 have e:wrap64 ((b.f5.length:Int) - 1)=(b.f5.length:Int) - 1:=wrap_id (by omega) (by omega)
 unfold impl_Batch_last.f
 rw [e,if_pos (show 0≤(b.f5.length:Int) - 1 by omega),if_pos (show (b.f5.length:Int) - 1 < (b.f5.length:Int) by omega)]
 rfl
theorem lastS_eq {b:Bt} (h:vB b):spec_l12Last.f b.f0 b.f1 b.f2 b.f3 b.f4 b.f5=some (lOff b):=by
 have:=vB_pos h
 have e:wrap64 ((b.f5.length:Int) - 1)=(b.f5.length:Int) - 1:=wrap_id (by omega) (by omega)
 unfold spec_l12Last.f
 rw [e,if_pos (show 0≤(b.f5.length:Int) - 1 by omega),if_pos (show (b.f5.length:Int) - 1 < (b.f5.length:Int) by omega)]
 rfl
theorem RF_lt {l:List Rc} (h:RF l 0):∀ (d i:Nat),i+d+1 < l.length→(rr l (i:Int)).f0 < (rr l ((i+d+1:Nat):Int)).f0
 | 0,i,hi=>by
  have:=(h (i+1) (by omega) hi).2 (by omega)
  rw [show ((i+1:Nat):Int) - 1=(i:Int) by omega] at this
  exact this
 | d+1,i,hi=>by
  have h1:=RF_lt h d i (by omega)
  have:=(h (i+d+2) (by omega) (by omega)).2 (by omega)
  rw [show ((i+d+2:Nat):Int) - 1=((i+d+1:Nat):Int) by omega] at this
  exact Int.lt_trans h1 this
theorem fOff_le {b:Bt} (h:vB b):fOff b≤lOff b:=by
 have hp:=vB_pos h
 unfold fOff lOff
 by_cases h1:b.f5.length=1
 ·rw [h1]
  exact Int.le_refl _
 ·have:=RF_lt h.2.2.2 (b.f5.length - 2) 0 (by omega)
  rw [show ((0+(b.f5.length - 2)+1:Nat):Int)=(b.f5.length:Int) - 1 by omega] at this
  exact Int.le_of_lt this
theorem lOff_range {b:Bt} (h:vB b) : 0≤lOff b∧lOff b≤99999:=by
 have hp:=vB_pos h
 have:=(h.2.2.2 (b.f5.length - 1) (Nat.zero_le _) (by omega)).1
 unfold rv at this
 rw [Bool.and_eq_true,decide_eq_true_eq] at this
 rw [show ((b.f5.length - 1:Nat):Int)=(b.f5.length:Int) - 1 by omega] at this
 exact this.1.1
def LF (l:List Bt) (i:Nat):Prop:=∀ j,i≤j→j < l.length→vB (rb l j)∧(0 < j→lOff (rb l ((j:Int) - 1)) < fOff (rb l j))
def VL (l:List Bt):Prop:=l.length≤8∧LF l 0
theorem LF_end {l:List Bt} {i:Nat} (h:l.length≤i):LF l i:=fun j h1 h2=>by omega
theorem LF_step {l:List Bt} {i:Nat} (h:i < l.length):LF l i↔(vB (rb l i)∧(0 < i→lOff (rb l ((i:Int) - 1)) < fOff (rb l i)))∧LF l (i+1):=by
 constructor
 ·intro hl
  exact ⟨hl i (Nat.le_refl _) h,fun j h1 h2=>hl j (by omega) h2⟩
 ·rintro ⟨h0,h1⟩ j hj1 hj2
  by_cases he:j=i
  ·subst he;exact h0
  ·exact h1 j (by omega) hj2
open Classical in
noncomputable def vl (l:List Bt):Bool:=decide (VL l)
theorem vl_iff (l:List Bt):vl l=true↔VL l:=by unfold vl;simp
theorem vl_of {b:Bool} {l:List Bt} (h:b=true↔VL l):b=vl l:=by
 rw [Bool.eq_iff_iff,h,vl_iff]
theorem vb_vB (b:Bt):vb b.f1 b.f2 b.f3 b.f4 b.f5=true↔vB b:=vb_iff _ _ _ _ _
theorem implLog_loop (l:List Bt) (hl:smallBs l):∀ (d i:Nat),l.length - i=d→i≤l.length→(∀ j,j < i→vB (rb l (j:Int)))→Evs (fun k=>impl_LogValid.l0 k l l (l.length:Int) (i:Int)) (fun b=>b=true↔LF l i):=by
 have hs:=hl.1
 intro d
 induction d with
 | zero=>
  intro i hd hi _
  refine Evs.succ ?_
  simp only [impl_LogValid.l0,if_neg (show ¬ (i:Int) < (l.length:Int) by omega)]
  exact Evs.done ⟨fun _=>LF_end (by omega),fun _=>rfl⟩
 | succ d ih=>
  intro i hd hi hv
  have hlt:i < l.length:=by omega
  have e1:wrap64 ((i:Int)+1)=((i+1:Nat):Int):=by rw [wrap_id (by omega) (by omega)];omega
  refine Evs.succ ?_
  simp only [impl_LogValid.l0,if_pos (show (i:Int) < (l.length:Int) by omega),if_pos (show (0:Int)≤(i:Int) by omega),e1]
  refine Evs.bind (Evs.of (implB (rb l i).f0 (rb l i).f1 (rb l i).f2 (rb l i).f3 (rb l i).f4 (rb l i).f5 (smallBs_at hl i hlt)) rfl) ?_
  rintro _ rfl
  by_cases hb:vB (rb l i)
  ·have hb2:=(vb_vB (rb l i)).2 hb
   simp only [if_pos hb2]
   have hv2:∀ j,j < i+1→vB (rb l (j:Int)):=fun j hj=>by
    by_cases he:j=i
    ·subst he;exact hb
    ·exact hv j (by omega)
   by_cases h0:i=0
   ·subst h0
    simp only [if_neg (show ¬ ((0:Nat):Int) > 0 by omega)]
    refine (ih 1 (by omega) (by omega) hv2).mono fun b hb3=>?_
    rw [hb3,LF_step hlt]
    exact ⟨fun h=>⟨⟨hb,fun h=>absurd h (by omega)⟩,h⟩,fun h=>h.2⟩
   ·have e2:wrap64 ((i:Int) - 1)=(i:Int) - 1:=wrap_id (by omega) (by omega)
    have hp:vB (rb l ((i:Int) - 1)):=by have:=hv (i - 1) (by omega);rwa [show ((i - 1:Nat):Int)=(i:Int) - 1 by omega] at this
    have f1:=last_eq hp
    have f2:=first_eq hb
    simp only [if_pos (show (i:Int) > 0 by omega),e2,if_pos (show 0≤(i:Int) - 1 by omega),if_pos (show (i:Int) - 1 < (l.length:Int) by omega)]
    rw [show (rd_T27 l ((i:Int) - 1))=rb l ((i:Int) - 1) from rfl,show (rd_T27 l (i:Int))=rb l (i:Int) from rfl,f1,f2]
    simp only [bsome]
    by_cases hc:lOff (rb l ((i:Int) - 1)) ≥ fOff (rb l i)
    ·simp only [if_pos hc]
     refine Evs.done ?_
     rw [LF_step hlt]
     simp only [Bool.false_eq_true,false_iff]
     intro h
     have:=h.1.2 (by omega)
     omega
    ·simp only [if_neg hc]
     refine (ih (i+1) (by omega) (by omega) hv2).mono fun b hb3=>?_
     rw [hb3,LF_step hlt]
     exact ⟨fun h=>⟨⟨hb,fun _=>by omega⟩,h⟩,fun h=>h.2⟩
  ·have hb2:¬ vb (rb l i).f1 (rb l i).f2 (rb l i).f3 (rb l i).f4 (rb l i).f5=true:=fun h=>hb ((vb_vB (rb l i)).1 h)
   simp only [if_neg hb2]
   refine Evs.done ?_
   rw [LF_step hlt]
   simp only [Bool.false_eq_true,false_iff]
   exact fun h=>hb h.1.1
theorem implLog (l:List Bt) (hl:smallBs l):Ev (fun k=>impl_LogValid.f k l) (vl l):=by
 have hs:=hl.1
 unfold impl_LogValid.f
 by_cases h:(l.length:Int) > 8
 ·simp only [if_pos h]
  have:vl l=false:=by rw [← Bool.not_eq_true,vl_iff];exact fun h2=>by have:=h2.1;omega
  rw [this]
  exact ev_some _
 ·simp only [if_neg h]
  obtain ⟨b,h1,h2⟩:=implLog_loop l hl l.length 0 (by omega) (by omega) (fun j hj=>by omega)
  have:b=vl l:=vl_of (h2.trans ⟨fun h3=>⟨by omega,h3⟩,fun h3=>h3.2⟩)
  rw [← this]
  exact h1
theorem specLog_loop (l:List Bt) (hl:smallBs l):∀ (d i:Nat),l.length - i=d→i≤l.length→(∀ j,j < i→vB (rb l (j:Int)))→Evs (fun k=>spec_LogValid.l0 k l (i:Int)) (fun b=>b=true↔LF l i∧l.length≤8):=by
 have hs:=hl.1
 intro d
 induction d with
 | zero=>
  intro i hd hi _
  refine Evs.succ ?_
  simp only [spec_LogValid.l0,if_neg (show ¬ (i:Int) < (l.length:Int) by omega)]
  refine Evs.done ?_
  rw [decide_eq_true_eq]
  exact ⟨fun h=>⟨LF_end (by omega),by omega⟩,fun h=>by omega⟩
 | succ d ih=>
  intro i hd hi hv
  have hlt:i < l.length:=by omega
  have e1:wrap64 ((i:Int)+1)=((i+1:Nat):Int):=by rw [wrap_id (by omega) (by omega)];omega
  refine Evs.succ ?_
  simp only [spec_LogValid.l0,if_pos (show (i:Int) < (l.length:Int) by omega),if_pos (show (0:Int)≤(i:Int) by omega),e1]
  refine Evs.bind (Evs.of (specB (rb l i).f0 (rb l i).f1 (rb l i).f2 (rb l i).f3 (rb l i).f4 (rb l i).f5 (smallBs_at hl i hlt)) rfl) ?_
  rintro _ rfl
  by_cases hb:vB (rb l i)
  ·have hb2:=(vb_vB (rb l i)).2 hb
   simp only [if_pos hb2]
   have hv2:∀ j,j < i+1→vB (rb l (j:Int)):=fun j hj=>by
    by_cases he:j=i
    ·subst he;exact hb
    ·exact hv j (by omega)
   by_cases h0:i=0
   ·subst h0
    simp only [if_neg (show ¬ ((0:Nat):Int) > 0 by omega)]
    refine (ih 1 (by omega) (by omega) hv2).mono fun b hb3=>?_
    rw [hb3,LF_step hlt]
    exact ⟨fun h=>⟨⟨⟨hb,fun h=>absurd h (by omega)⟩,h.1⟩,h.2⟩,fun h=>⟨h.1.2,h.2⟩⟩
   ·have e2:wrap64 ((i:Int) - 1)=(i:Int) - 1:=wrap_id (by omega) (by omega)
    have hp:vB (rb l ((i:Int) - 1)):=by have:=hv (i - 1) (by omega);rwa [show ((i - 1:Nat):Int)=(i:Int) - 1 by omega] at this
    have f1:=lastS_eq hp
    have hpos:=(vB_pos hb).1
    simp only [if_pos (show (i:Int) > 0 by omega),e2,if_pos (show 0≤(i:Int) - 1 by omega),if_pos (show (i:Int) - 1 < (l.length:Int) by omega)]
    rw [show (rd_T27 l ((i:Int) - 1))=rb l ((i:Int) - 1) from rfl,show (rd_T27 l (i:Int))=rb l (i:Int) from rfl,f1]
    simp only [bsome,if_pos (show 0 < ((rb l (i:Int)).f5.length:Int) by omega)]
    by_cases hc:lOff (rb l ((i:Int) - 1)) ≥ fOff (rb l i)
    ·simp only [if_pos (show lOff (rb l ((i:Int) - 1)) ≥ (rd_T34 (rb l (i:Int)).f5 0).f0 from hc)]
     refine Evs.done ?_
     rw [LF_step hlt]
     simp only [Bool.false_eq_true,false_iff]
     intro h
     have:=h.1.1.2 (by omega)
     omega
    ·simp only [if_neg (show ¬ lOff (rb l ((i:Int) - 1)) ≥ (rd_T34 (rb l (i:Int)).f5 0).f0 from hc)]
     refine (ih (i+1) (by omega) (by omega) hv2).mono fun b hb3=>?_
     rw [hb3,LF_step hlt]
     exact ⟨fun h=>⟨⟨⟨hb,fun _=>by omega⟩,h.1⟩,h.2⟩,fun h=>⟨h.1.2,h.2⟩⟩
  ·have hb2:¬ vb (rb l i).f1 (rb l i).f2 (rb l i).f3 (rb l i).f4 (rb l i).f5=true:=fun h=>hb ((vb_vB (rb l i)).1 h)
   simp only [if_neg hb2]
   refine Evs.done ?_
   rw [LF_step hlt]
   simp only [Bool.false_eq_true,false_iff]
   exact fun h=>hb h.1.1.1
theorem specLog (l:List Bt) (hl:smallBs l):Ev (fun k=>spec_LogValid.f k l) (vl l):=by
 unfold spec_LogValid.f
 obtain ⟨b,h1,h2⟩:=specLog_loop l hl l.length 0 (by omega) (by omega) (fun j hj=>by omega)
 have:b=vl l:=vl_of (h2.trans ⟨fun h3=>⟨h3.2,h3.1⟩,fun h3=>⟨h3.2,h3.1⟩⟩)
 rw [← this]
 exact h1
theorem VL_at {l:List Bt} (h:VL l) (j:Nat) (hj:j < l.length):vB (rb l (j:Int)):=(h.2 j (Nat.zero_le _) hj).1
theorem VL_lt {l:List Bt} (h:VL l):∀ (d i:Nat),i+d+1 < l.length→fOff (rb l (i:Int)) < fOff (rb l ((i+d+1:Nat):Int))
 | 0,i,hi=>by
  have h1:=(h.2 (i+1) (Nat.zero_le _) hi).2 (by omega)
  rw [show ((i+1:Nat):Int) - 1=(i:Int) by omega] at h1
  have:=fOff_le (VL_at h i (by omega))
  exact Int.lt_of_le_of_lt this h1
 | d+1,i,hi=>by
  have h0:=VL_lt h d i (by omega)
  have h1:=(h.2 (i+d+2) (Nat.zero_le _) (by omega)).2 (by omega)
  rw [show ((i+d+2:Nat):Int) - 1=((i+d+1:Nat):Int) by omega] at h1
  have:=fOff_le (VL_at h (i+d+1) (by omega))
  exact Int.lt_trans h0 (Int.lt_of_le_of_lt this h1)
theorem VL_lt' {l:List Bt} (h:VL l) {i j:Nat} (hij:i < j) (hj:j < l.length):fOff (rb l (i:Int)) < fOff (rb l (j:Int)):=by
 have:=VL_lt h (j - i - 1) i (by omega)
 rwa [show i+(j - i - 1)+1=j by omega] at this
theorem markRow_small (o t:Int) (g:Bool):smallRs (markRow o t g):=by
 refine ⟨by simp [markRow],fun r hr=>?_⟩
 rw [List.mem_singleton.1 hr]
 exact ⟨by simp,by simp⟩
noncomputable def markB (p e o t:Int) (g:Bool):Bool×Bool×Int×Int×Int×List Rc×Bool:=if vb true p e 0 (markRow o t g)=true then (false,true,p,e,0,markRow o t g,true) else (false,false,0,0,0,[],false)
theorem specMark (p e o t:Int) (g:Bool):Ev (fun k=>spec_MarkBatch.f k p e o t g) (markB p e o t g):=by
 have h:=specB false true p e 0 (markRow o t g) (markRow_small o t g)
 unfold spec_MarkBatch.f markB
 refine Ev.bind h ?_
 by_cases hv:vb true p e 0 (markRow o t g)=true
 ·simp only [if_pos hv];exact ev_some _
 ·simp only [if_neg hv];exact ev_some _
def drawnBs (n:Nat) (l:List Bt):Prop:=l.length≤n∧∀ b∈l,drawnR 5 b.f5
theorem drawnBs_add {n:Nat} {l:List Bt} (h:drawnBs n l) {b:Bt} (hb:drawnR 5 b.f5):drawnBs (n+1) (l ++ [b]):=by
 refine ⟨by have:=h.1;simp;omega,fun x hx=>?_⟩
 rcases List.mem_append.1 hx with hx|hx
 ·exact h.2 x hx
 ·rw [List.mem_singleton.1 hx];exact hb
theorem drawnBs_mono {n m:Nat} {l:List Bt} (h:drawnBs n l) (hm:n≤m):drawnBs m l:=⟨by have:=h.1;omega,h.2⟩
theorem drawnBs_small {l:List Bt} (h:drawnBs 10 l):smallBs l:=⟨by have:=h.1;omega,fun b hb=>drawnR_small (by omega) (h.2 b hb)⟩
theorem drawnBs_set {n:Nat} {l:List Bt} (h:drawnBs n l) (i:Nat) {b:Bt} (hb:drawnR 5 b.f5):drawnBs n (l.set i b):=by
 refine ⟨by rw [List.length_set];exact h.1,fun x hx=>?_⟩
 rcases List.mem_or_eq_of_mem_set hx with hx|hx
 ·exact h.2 x hx
 ·rw [hx];exact hb
theorem markRow_drawn (o t:Int) (g:Bool):drawnR 5 (markRow o t g):=by
 refine ⟨by simp [markRow],fun r hr=>?_⟩
 rw [List.mem_singleton.1 hr]
 exact ⟨by simp,by simp⟩
theorem decided_loop (bs:List Int) (hb:Bytes bs) (hl:bs.length≤2000) (n:Int) (hn:n≤10) (hn2 : 1≤n):∀ (d:Nat) (l:List Bt) (o i p:Int),n - i≤d→0≤i→i≤n→drawnBs i.toNat l→(0 < i→0 < l.length)→0≤p→p+1000 * d≤400000000 →
  Evs (fun k=>spec_l92Decided.l0 k l n o i bs p) (fun r=>drawnBs 10 r.1):=by
 intro d
 induction d with
 | zero=>
  intro l o i p hd hi hin hdr hpos h0 h1
  refine Evs.succ ?_
  simp only [spec_l92Decided.l0,if_neg (show ¬ i < n by omega)]
  refine Evs.bind (pick_evs bs p 24 hb hl h0 (by omega) (by omega)) ?_
  rintro ⟨u,_⟩ ⟨u0,u1,rfl⟩
  by_cases hu:u=0
  ·have hlp:=hpos (by omega)
   simp only [if_pos hu,if_pos (show 0 < (l.length:Int) by omega)]
   refine Evs.done (drawnBs_set (drawnBs_mono hdr (by omega)) _ ?_)
   show drawnR 5 (rb l ((0:Nat):Int)).f5
   rw [rb_nat l 0 hlp]
   exact hdr.2 _ (List.getElem_mem hlp)
  ·simp only [if_neg hu]
   exact Evs.done (drawnBs_mono hdr (by omega))
 | succ d ih=>
  intro l o i p hd hi hin hdr hpos h0 h1
  by_cases hlt:i < n
  ·have e1:wrap64 (i+1)=i+1:=wrap_id (by omega) (by omega)
   have hlen:=hdr.1
   refine Evs.succ ?_
   simp only [spec_l92Decided.l0,if_pos hlt]
   refine Evs.bind (pick_evs bs p 2 hb hl h0 (by omega) (by omega)) ?_
   rintro ⟨u,_⟩ ⟨u0,u1,rfl⟩
   refine Evs.bind (recs_evs bs hb hl (p+1) o 2 (by omega) (by omega) (by omega) (by omega)) ?_
   rintro ⟨rs,q⟩ ⟨hd4,hrp,q0,q1⟩
   dsimp only at hd4 hrp q0 q1 ⊢
   have hlen2:=hd4.1
   refine Evs.bind (pick_evs bs q 6 hb hl (by omega) (by omega) (by omega)) ?_
   rintro ⟨v,_⟩ ⟨v0,v1,rfl⟩
   have next:∀ (b:Bt) (o' p' : Int),drawnR 5 b.f5→0≤p'→p' ≤ p+1000→Evs (fun k=>spec_l92Decided.l0 k (l ++ [b]) n o' (i+1) bs p') (fun r=>drawnBs 10 r.1):=fun b o' p' hb' h0' h1'=>
    ih (l ++ [b]) o' (i+1) p' (by omega) (by omega) (by omega) (drawnBs_mono (drawnBs_add hdr hb') (by omega)) (fun _=>by simp) h0' (by omega)
   have hlim:l.length < 2513169434916:=lim2 (by omega) (by omega)
   have w1:∀ x:List Rc,0 < x.length→x.length≤5→wrap64 ((x.length:Int) - 1)=(x.length:Int) - 1:=fun x hx hx2=>wrap_id (by omega) (by omega)
   have main:∀ c:Bool,Evs (fun k=>spec_l92Decided.j1 k l n o i v c bs (q+1) false false u 0 0 rs) (fun r=>drawnBs 10 r.1):=by
    intro c
    refine Evs.succ ?_
    cases c with
    | true=>
     simp only [spec_l92Decided.j1,if_true]
     refine Evs.bind (pick_evs bs (q+1) 2 hb hl (by omega) (by omega) (by omega)) ?_
     rintro ⟨a,_⟩ ⟨a0,a1,rfl⟩
     refine Evs.bind (pick_evs bs (q+1+1) 100 hb hl (by omega) (by omega) (by omega)) ?_
     rintro ⟨c1,_⟩ ⟨c0,c2,rfl⟩
     refine Evs.bind (pick_evs bs (q+1+1+1) 2 hb hl (by omega) (by omega) (by omega)) ?_
     rintro ⟨e,_⟩ ⟨e0,e2,rfl⟩
     refine Evs.bind (Evs.of (specMark a 0 o c1 (e==0)) rfl) ?_
     rintro _ rfl
     unfold markB
     by_cases hv:vb true a 0 0 (markRow o c1 (e==0))=true
     ·have hml:(markRow o c1 (e==0)).length=1:=by simp [markRow]
      simp only [if_pos hv,if_true,if_pos hlim,w1 _ (show 0 < (markRow o c1 (e==0)).length by omega) (by omega),if_pos (show 0≤((markRow o c1 (e==0)).length:Int) - 1 by omega),if_pos (show ((markRow o c1 (e==0)).length:Int) - 1 < ((markRow o c1 (e==0)).length:Int) by omega),e1]
      exact next _ _ _ (markRow_drawn _ _ _) (by omega) (by omega)
     ·simp only [if_neg hv,Bool.false_eq_true,if_false,if_pos hlim,w1 rs hrp (by omega),if_pos (show 0≤(rs.length:Int) - 1 by omega),if_pos (show (rs.length:Int) - 1 < (rs.length:Int) by omega),e1]
      exact next _ _ _ (drawnR_mono hd4 (by omega)) (by omega) (by omega)
    | false=>
     simp only [spec_l92Decided.j1,Bool.false_eq_true,if_false]
     by_cases hv2:v=2
     ·simp only [if_pos hv2,if_pos hlim,w1 rs hrp (by omega),if_pos (show 0≤(rs.length:Int) - 1 by omega),if_pos (show (rs.length:Int) - 1 < (rs.length:Int) by omega),e1]
      exact next _ _ _ (drawnR_mono hd4 (by omega)) (by omega) (by omega)
     ·simp only [if_neg hv2,if_pos hlim,w1 rs hrp (by omega),if_pos (show 0≤(rs.length:Int) - 1 by omega),if_pos (show (rs.length:Int) - 1 < (rs.length:Int) by omega),e1]
      exact next _ _ _ (drawnR_mono hd4 (by omega)) (by omega) (by omega)
   by_cases hv0:v=0
   ·simp only [if_pos hv0];exact main _
   ·simp only [if_neg hv0];exact main _
  ·have hni:i=n:=by omega
   subst hni
   refine Evs.succ ?_
   simp only [spec_l92Decided.l0,if_neg (show ¬ i < i by omega)]
   refine Evs.bind (pick_evs bs p 24 hb hl h0 (by omega) (by omega)) ?_
   rintro ⟨u,_⟩ ⟨u0,u1,rfl⟩
   by_cases hu:u=0
   ·have hlp:=hpos (by omega)
    simp only [if_pos hu,if_pos (show 0 < (l.length:Int) by omega)]
    refine Evs.done (drawnBs_set (drawnBs_mono hdr (by omega)) _ ?_)
    show drawnR 5 (rb l ((0:Nat):Int)).f5
    rw [rb_nat l 0 hlp]
    exact hdr.2 _ (List.getElem_mem hlp)
   ·simp only [if_neg hu]
    exact Evs.done (drawnBs_mono hdr (by omega))
theorem decided_evs (bs:List Int) (hb:Bytes bs) (hl:bs.length≤2000):Evs (fun k=>spec_l92Decided.f k bs 0) (fun r=>drawnBs 10 r.1):=by
 unfold spec_l92Decided.f
 refine Evs.bind (pick_evs bs 0 6 hb hl (by omega) (by omega) (by omega)) ?_
 rintro ⟨u,_⟩ ⟨u0,u1,rfl⟩
 refine Evs.bind (pick_evs bs (0+1) 5 hb hl (by omega) (by omega) (by omega)) ?_
 rintro ⟨v,_⟩ ⟨v0,v1,rfl⟩
 have e:wrap64 (2+u)=2+u:=wrap_id (by omega) (by omega)
 simp only [e]
 exact decided_loop bs hb hl (2+u) (by omega) (by omega) 10 [] v 0 (0+1+1) (by omega) (by omega) (by omega) ⟨by simp,fun b hb=>by cases hb⟩ (fun h=>by omega) (by omega) (by omega)
abbrev pr (l:List Bt) (i:Nat):Int:=(rb l (i:Int)).f2
abbrev mk (l:List Bt) (i:Nat):Bool:=(rb l (i:Int)).f1
def nm (l:List Bt):Nat→Nat→Option Nat
 | 0,_=>none
 | k+1,i=>match nm l k i with
  | some j=>some j
  | none=>if i < k∧mk l k=true∧pr l k=pr l i then some k else none
theorem nm_succ_some {l:List Bt} {k i j:Nat} (h:nm l k i=some j):nm l (k+1) i=some j:=by simp only [nm,h]
theorem nm_le {l:List Bt} {i j:Nat} : ∀ {k m:Nat},nm l k i=some j→k≤m→nm l m i=some j:=by
 intro k m h hk
 induction m with
 | zero=>
  have:k=0:=by omega
  subst this;exact h
 | succ m ih=>
  by_cases he:k=m+1
  ·subst he;exact h
  ·exact nm_succ_some (ih (by omega))
theorem nm_some {l:List Bt} {i j:Nat} : ∀ {k:Nat},nm l k i=some j→i < j∧j < k∧mk l j=true∧pr l j=pr l i
 | 0,h=>by simp [nm] at h
 | k+1,h=>by
  simp only [nm] at h
  cases hn:nm l k i with
  | some j'=>
   rw [hn] at h
   obtain rfl:=Option.some.inj h
   have:=nm_some hn
   exact ⟨this.1,by omega,this.2.2⟩
  | none=>
   rw [hn] at h
   dsimp only at h
   split at h
   ·rename_i hc
    obtain rfl:=Option.some.inj h
    exact ⟨hc.1,by omega,hc.2⟩
   ·cases h
theorem nm_self {l:List Bt} : ∀ {k i:Nat},k≤i+1→nm l k i=none
 | 0,_,_=>rfl
 | k+1,i,h=>by
  simp only [nm,nm_self (show k≤i+1 by omega)]
  rw [if_neg (by omega)]
def wAt (l:List Bt) (k i:Nat):Int:=if pr l i=255 then 1 else if mk l i=true then 3 else match nm l k i with
 | none=>0
 | some j=>if tellsP (rb l (j:Int))=true then 1 else 2
def bAt (l:List Bt) (k i:Nat):Int:=if pr l i=255 then -1 else if mk l i=true then -1 else match nm l k i with
 | none=>-1
 | some j=>(j:Int)
def opens (l:List Bt) (k i:Nat):Bool:=decide (pr l i≠255)&&(!mk l i&&(nm l k i).isNone)
theorem fold_fin (l:List Bt) (i:Nat):∀ (xs:List Nat) (s:FSt),(∀ x∈xs,x < s.ws.length∧x < s.bs.length) →
  (xs.foldl (fin1 l i) s).op=s.op++xs.filter (fun x=>decide (pr l x≠pr l i)) ∧
  (∀ y,(xs.foldl (fin1 l i) s).ws.getD y 0=if y∈xs∧pr l y=pr l i then (if tellsP (rb l (i:Int))=true then 1 else 2) else s.ws.getD y 0) ∧
  (∀ y,(xs.foldl (fin1 l i) s).bs.getD y 0=if y∈xs∧pr l y=pr l i then (i:Int) else s.bs.getD y 0)
 | [],s,_=>by simp
 | x::xs,s,h=>by
  have hx:=h x (by simp)
  by_cases hp:pr l x=pr l i
  ·have hf:fin1 l i s x=⟨s.ws.set x (if tellsP (rb l (i:Int))=true then 1 else 2),s.bs.set x (i:Int),s.op⟩:=if_pos hp
   have ih:=fold_fin l i xs (fin1 l i s x) (fun y hy=>by rw [hf];simpa using h y (by simp [hy]))
   rw [List.foldl_cons]
   rw [hf] at ih ⊢
   refine ⟨?_,fun y=>?_,fun y=>?_⟩
   ·rw [ih.1];simp [hp]
   ·rw [ih.2.1 y]
    by_cases hy:y=x
    ·subst hy
     simp [hp,List.getD_eq_getElem?_getD,List.getElem?_set_self hx.1]
    ·simp [hy,List.getD_eq_getElem?_getD,List.getElem?_set_ne (Ne.symm hy)]
   ·rw [ih.2.2 y]
    by_cases hy:y=x
    ·subst hy
     simp [hp,List.getD_eq_getElem?_getD,List.getElem?_set_self hx.2]
    ·simp [hy,List.getD_eq_getElem?_getD,List.getElem?_set_ne (Ne.symm hy)]
  ·have hf:fin1 l i s x=⟨s.ws,s.bs,s.op ++ [x]⟩:=if_neg hp
   have ih:=fold_fin l i xs (fin1 l i s x) (fun y hy=>by rw [hf];exact h y (by simp [hy]))
   rw [List.foldl_cons]
   rw [hf] at ih ⊢
   refine ⟨?_,fun y=>?_,fun y=>?_⟩
   ·rw [ih.1];simp [hp]
   ·rw [ih.2.1 y]
    by_cases hy:y=x
    ·subst hy;simp [hp]
    ·simp [hy]
   ·rw [ih.2.2 y]
    by_cases hy:y=x
    ·subst hy;simp [hp]
    ·simp [hy]
structure FP (l:List Bt) (k:Nat) (s:FSt):Prop where
 op:s.op=(List.range k).filter (opens l k)
 ws:∀ i,i < k→s.ws.getD i 0=wAt l k i
 wz:∀ i,k≤i→s.ws.getD i 0=0
 bs:∀ i,i < k→s.bs.getD i 0=bAt l k i
theorem nm_step {l:List Bt} {k i:Nat} (h:¬ (mk l k=true∧pr l k=pr l i)):nm l (k+1) i=nm l k i:=by
 cases hn:nm l k i with
 | some j=>exact nm_succ_some hn
 | none=>simp only [nm,hn];rw [if_neg (fun h2=>h h2.2)]
theorem FP_step {l:List Bt} {k:Nat} (hk:k < l.length) {s:FSt} (hok:FOk l.length k s) (h:FP l k s):FP l (k+1) (fstep l s k):=by
 have hlw:=hok.lw
 have hlb:=hok.lb
 have gs:∀ (a:List Int) (i x:Nat) (v:Int),x < a.length→(a.set x v).getD i 0=if i=x then v else a.getD i 0:=by
  intro a i x v hx
  by_cases hi:i=x
  ·subst hi;simp [List.getD_eq_getElem?_getD,List.getElem?_set_self hx]
  ·simp [hi,List.getD_eq_getElem?_getD,List.getElem?_set_ne (Ne.symm hi)]
 unfold fstep
 by_cases h255:pr l k=255
 ·rw [if_pos h255]
  have same:∀ i,pr l i≠255→nm l (k+1) i=nm l k i:=fun i hi=>nm_step (fun h2=>hi (h2.2.symm.trans h255))
  refine ⟨?_,fun i hi=>?_,fun i hi=>?_,fun i hi=>?_⟩
  ·dsimp only
   rw [h.op,List.range_succ,List.filter_append]
   have h1 : [k].filter (opens l (k+1)) = []:=by simp [opens,h255]
   rw [h1,List.append_nil]
   refine List.filter_congr (fun i hi=>?_)
   unfold opens
   by_cases hp:pr l i=255
   ·simp [hp]
   ·rw [same i hp]
  ·dsimp only
   rw [gs _ _ _ _ (by omega)]
   by_cases he:i=k
   ·rw [if_pos he,he];unfold wAt;rw [if_pos h255]
   ·rw [if_neg he,h.ws i (by omega)]
    unfold wAt
    by_cases hp:pr l i=255
    ·rw [if_pos hp,if_pos hp]
    ·rw [if_neg hp,if_neg hp,same i hp]
  ·dsimp only
   rw [gs _ _ _ _ (by omega),if_neg (by omega)]
   exact h.wz i (by omega)
  ·dsimp only
   rw [gs _ _ _ _ (by omega)]
   by_cases he:i=k
   ·rw [if_pos he,he];unfold bAt;rw [if_pos h255]
   ·rw [if_neg he,h.bs i (by omega)]
    unfold bAt
    by_cases hp:pr l i=255
    ·rw [if_pos hp,if_pos hp]
    ·rw [if_neg hp,if_neg hp,same i hp]
 ·rw [if_neg h255]
  by_cases hm:mk l k=false
  ·rw [if_pos hm]
   have same:∀ i,nm l (k+1) i=nm l k i:=fun i=>nm_step (fun h2=>by rw [hm] at h2;cases h2.1)
   have hk0:nm l (k+1) k=none:=nm_self (Nat.le_refl _)
   refine ⟨?_,fun i hi=>?_,fun i hi=>?_,fun i hi=>?_⟩
   ·dsimp only
    rw [h.op,List.range_succ,List.filter_append]
    have h1 : [k].filter (opens l (k+1)) = [k]:=by simp [opens,h255,hm,hk0]
    rw [h1]
    congr 1
    refine List.filter_congr (fun i hi=>?_)
    unfold opens
    rw [same i]
   ·dsimp only
    by_cases he:i=k
    ·rw [he,h.wz k (Nat.le_refl _)]
     unfold wAt
     rw [if_neg h255,if_neg (by rw [hm];simp),hk0]
    ·rw [h.ws i (by omega)]
     unfold wAt
     rw [same i]
   ·dsimp only
    exact h.wz i (by omega)
   ·dsimp only
    rw [gs _ _ _ _ (by omega)]
    by_cases he:i=k
    ·rw [if_pos he,he];unfold bAt;rw [if_neg h255,if_neg (by rw [hm];simp),hk0]
    ·rw [if_neg he,h.bs i (by omega)]
     unfold bAt
     rw [same i]
  ·have hm' : mk l k=true:=by simpa using hm
   rw [if_neg hm]
   have hop:∀ x,x∈s.op↔x < k∧pr l x≠255∧mk l x=false∧nm l k x=none:=by
    intro x
    rw [h.op,List.mem_filter,List.mem_range]
    simp [opens]
   have hF:=fold_fin l k s.op ⟨s.ws.set k 3,s.bs.set k (-1),[]⟩ (fun x hx=>by
    have:=hok.op x hx
    simp only [List.length_set]
    omega)
   dsimp only at hF
   have hn:∀ i,i < k→nm l (k+1) i=match nm l k i with|some j=>some j|none=>if pr l k=pr l i then some k else none:=by
    intro i hi
    simp only [nm]
    cases nm l k i with
    | some j=>rfl
    | none=>simp [hi,hm']
   refine ⟨?_,fun i hi=>?_,fun i hi=>?_,fun i hi=>?_⟩
   ·rw [hF.1,List.nil_append,h.op,List.range_succ,List.filter_append,List.filter_filter]
    have h1 : [k].filter (opens l (k+1)) = []:=by simp [opens,hm']
    rw [h1,List.append_nil]
    refine List.filter_congr (fun i hi=>?_)
    rw [List.mem_range] at hi
    unfold opens
    rw [hn i hi]
    cases hni:nm l k i with
    | some j=>simp
    | none=>
     by_cases hp:pr l k=pr l i
     ·simp [hp]
     ·have hp2:¬ pr l i=pr l k:=fun e=>hp e.symm
      simp [hp,hp2]
   ·rw [hF.2.1 i]
    by_cases he:i=k
    ·subst he
     rw [if_neg (by rw [hop];omega),gs _ _ _ _ (by omega),if_pos rfl]
     unfold wAt
     rw [if_neg h255,if_pos hm']
    ·have hik:i < k:=by omega
     rw [gs _ _ _ _ (by omega),if_neg he,h.ws i hik]
     unfold wAt
     by_cases hp:pr l i=255
     ·rw [if_neg (by rw [hop];exact fun h2=>h2.1.2.1 hp),if_pos hp,if_pos hp]
     ·rw [if_neg hp,if_neg hp]
      by_cases hmi:mk l i=true
      ·rw [if_neg (by rw [hop];intro h2;rw [hmi] at h2;cases h2.1.2.2.1),if_pos hmi,if_pos hmi]
      ·rw [if_neg hmi,if_neg hmi,hn i hik]
       cases hni:nm l k i with
       | some j=>rw [if_neg (by rw [hop,hni];intro h2;cases h2.1.2.2.2)]
       | none=>
        by_cases hpk:pr l i=pr l k
        ·rw [if_pos ⟨(hop i).2 ⟨hik,hp,by simpa using hmi,hni⟩,hpk⟩]
         simp [hpk]
        ·rw [if_neg (fun h2=>hpk h2.2)]
         have hp2:¬ pr l k=pr l i:=fun e=>hpk e.symm
         simp [hp2]
   ·rw [hF.2.1 i,if_neg (by rw [hop];omega),gs _ _ _ _ (by omega),if_neg (by omega)]
    exact h.wz i (by omega)
   ·rw [hF.2.2 i]
    by_cases he:i=k
    ·subst he
     rw [if_neg (by rw [hop];omega),gs _ _ _ _ (by omega),if_pos rfl]
     unfold bAt
     rw [if_neg h255,if_pos hm']
    ·have hik:i < k:=by omega
     rw [gs _ _ _ _ (by omega),if_neg he,h.bs i hik]
     unfold bAt
     by_cases hp:pr l i=255
     ·rw [if_neg (by rw [hop];exact fun h2=>h2.1.2.1 hp),if_pos hp,if_pos hp]
     ·rw [if_neg hp,if_neg hp]
      by_cases hmi:mk l i=true
      ·rw [if_neg (by rw [hop];intro h2;rw [hmi] at h2;cases h2.1.2.2.1),if_pos hmi,if_pos hmi]
      ·rw [if_neg hmi,if_neg hmi,hn i hik]
       cases hni:nm l k i with
       | some j=>rw [if_neg (by rw [hop,hni];intro h2;cases h2.1.2.2.2)]
       | none=>
        by_cases hpk:pr l i=pr l k
        ·rw [if_pos ⟨(hop i).2 ⟨hik,hp,by simpa using hmi,hni⟩,hpk⟩]
         simp [hpk]
        ·rw [if_neg (fun h2=>hpk h2.2)]
         have hp2:¬ pr l k=pr l i:=fun e=>hpk e.symm
         simp [hp2]
theorem FP_all (l:List Bt):∀ k,k≤l.length→FP l k (fatesTo l k)
 | 0,_=>⟨by simp [fatesTo,fates0],fun i h=>by omega,fun i h=>by simp [fatesTo,fates0,List.getD_eq_getElem?_getD,List.getElem?_replicate];split <;> rfl,fun i h=>by omega⟩
 | k+1,h=>by
  rw [fatesTo_succ]
  exact FP_step (by omega) (fates_ok l k (by omega)) (FP_all l k (by omega))
theorem fates_len (l:List Bt):(fatesTo l l.length).ws.length=l.length∧(fatesTo l l.length).bs.length=l.length:=⟨(fates_ok l _ (Nat.le_refl _)).lw,(fates_ok l _ (Nat.le_refl _)).lb⟩
theorem fates_w (l:List Bt) (i:Nat) (h:i < l.length):rd (fatesTo l l.length).ws (i:Int)=wAt l l.length i:=by
 have:=(FP_all l l.length (Nat.le_refl _)).ws i h
 unfold rd
 rwa [Int.toNat_natCast]
theorem fates_fit {l:List Bt} (h:VL l):impl_fatesOf.f l=some ((fatesTo l l.length).ws,(fatesTo l l.length).bs):=by
 unfold impl_fatesOf.f
 rw [if_pos]
 unfold fatesFit
 rw [Bool.and_eq_true,decide_eq_true_eq,List.all_eq_true]
 refine ⟨by have:=h.1;omega,fun b hb=>?_⟩
 obtain ⟨j,hj,rfl⟩:=List.getElem_of_mem hb
 have:=(vB_pos (VL_at h j hj)).1
 rw [rb_nat l j hj] at this
 exact decide_eq_true (by omega)
end Go.Proofs.Yticpnjhkdfdkkaa.UQ
namespace Go.Proofs.Yticpnjhkdfdkkaa.U
open Go.RowKit Go.Proofs.YticpnjhkdfdkkaaW.PrintWords Go.Proofs.YticpnjhkdfdkkaaW.PrintLast Go.Proofs.YticpnjhkdfdkkaaW.PrintMore
attribute [local go_sem] max2_int max_two
set_option linter.unusedVariables false
set_option linter.unusedSimpArgs false
end Go.Proofs.Yticpnjhkdfdkkaa.U
namespace Go.Proofs.Yticpnjhkdfdkkaa.U
open Go.RowKit Go.Proofs.YticpnjhkdfdkkaaW.PrintWords Go.Proofs.YticpnjhkdfdkkaaW.PrintLast Go.Proofs.YticpnjhkdfdkkaaW.PrintMore
attribute [local go_sem] max2_int max_two
set_option linter.unusedVariables false
set_option linter.unusedSimpArgs false
end Go.Proofs.Yticpnjhkdfdkkaa.U
namespace Go.Proofs.Yticpnjhkdfdkkaa.UQ
open Go.RowKit Go.Proofs.Yticpnjhkdfdkkaa.U Go.Proofs.YticpnjhkdfdkkaaW.PrintWords Go.Proofs.YticpnjhkdfdkkaaW.PrintLast
set_option linter.unusedVariables false
set_option linter.unusedSimpArgs false
def nmI:Option Nat→Int
 | none=>-1
 | some j=>(j:Int)
theorem specMark_loop (l:List Bt) (hl:l.length≤2000000) (i:Nat) (hi:i < l.length):∀ (d j:Nat),l.length - j=d→i < j→j≤l.length→nm l j i=none→Ev (fun k=>spec_l22Mark.l0 k l (i:Int) (j:Int)) (nmI (nm l l.length i)):=by
 intro d
 induction d with
 | zero=>
  intro j hd h1 h2 hn
  have hj:j=l.length:=by omega
  subst hj
  refine ev_succ ?_
  simp only [spec_l22Mark.l0,if_neg (show ¬ (l.length:Int) < (l.length:Int) by omega),hn]
  exact ev_some _
 | succ d ih=>
  intro j hd h1 h2 hn
  have e1:wrap64 ((j:Int)+1)=((j+1:Nat):Int):=by rw [wrap_id (by omega) (by omega)];omega
  refine ev_succ ?_
  simp only [spec_l22Mark.l0,if_pos (show (j:Int) < (l.length:Int) by omega),if_pos (show (0:Int)≤(j:Int) by omega),e1]
  have next:¬ (mk l j=true∧pr l j=pr l i)→Ev (fun k=>spec_l22Mark.l0 k l (i:Int) ((j+1:Nat):Int)) (nmI (nm l l.length i)):=fun h=>ih (j+1) (by omega) (by omega) (by omega) (by rw [nm_step h];exact hn)
  by_cases hm:mk l j=true
  ·simp only [if_pos (show (rd_T27 l (j:Int)).f1=true from hm),if_pos (show (0:Int)≤(i:Int) by omega),if_pos (show (i:Int) < (l.length:Int) by omega)]
   by_cases hp:pr l j=pr l i
   ·simp only [if_pos (show (rd_T27 l (j:Int)).f2=(rd_T27 l (i:Int)).f2 from hp)]
    have h3:nm l (j+1) i=some j:=by simp only [nm,hn];rw [if_pos ⟨h1,hm,hp⟩]
    rw [nm_le h3 (by omega)]
    exact ev_some _
   ·simp only [if_neg (show ¬ (rd_T27 l (j:Int)).f2=(rd_T27 l (i:Int)).f2 from hp)]
    exact next (fun h=>hp h.2)
  ·simp only [if_neg (show ¬ (rd_T27 l (j:Int)).f1=true from hm)]
   exact next (fun h=>hm h.1)
theorem specMarkAt (l:List Bt) (hl:l.length≤2000000) (i:Nat) (hi:i < l.length):Ev (fun k=>spec_l22Mark.f k l (i:Int)) (nmI (nm l l.length i)):=by
 unfold spec_l22Mark.f
 have e1:wrap64 ((i:Int)+1)=((i+1:Nat):Int):=by rw [wrap_id (by omega) (by omega)];omega
 rw [e1]
 exact specMark_loop l hl i hi _ (i+1) rfl (by omega) (by omega) (nm_self (Nat.le_refl _))
theorem ours_eq (b:Bt):spec_l22Ours.f b.f0 b.f1 b.f2 b.f3 b.f4 b.f5=some (decide (b.f2≠255) && !b.f1):=by
 unfold spec_l22Ours.f
 by_cases h:b.f2=255
 ·rw [if_pos h];simp [h]
 ·rw [if_neg h];simp [h]
theorem nmI_neg (o:Option Nat):nmI o < 0↔o=none:=by
 cases o with
 | none=>simp [nmI]
 | some j=>
  simp only [nmI];constructor
  ·intro h;omega
  ·intro h;cases h
theorem opens_iff (l:List Bt) (k i:Nat):opens l k i=true↔pr l i≠255∧mk l i=false∧nm l k i=none:=by
 unfold opens
 simp
theorem wAt_zero (l:List Bt) (k i:Nat):wAt l k i=0↔opens l k i=true:=by
 rw [opens_iff]
 unfold wAt
 by_cases h:pr l i=255
 ·simp [h]
 ·by_cases h2:mk l i=true
  ·simp [h,h2]
  ·cases h3:nm l k i with
   | none=>simp [h,h2]
   | some j=>by_cases h4:tellsP (rb l (j:Int))=true <;> simp [h,h2,h4]
def tailP (l:List Bt):Int:=if l.length=0 then 0 else lOff (rb l ((l.length:Int) - 1))+1
def EndP (l:List Bt) (r:Int):Prop:=(∃ i,i < l.length∧opens l l.length i=true∧(∀ j,j < i→opens l l.length j=false)∧r=fOff (rb l (i:Int)))∨((∀ j,j < l.length→opens l l.length j=false)∧r=tailP l)
theorem VL_last {l:List Bt} (h:VL l) (h0:l.length≠0):vB (rb l ((l.length:Int) - 1)):=by
 have:=VL_at h (l.length - 1) (by omega)
 rwa [show ((l.length - 1:Nat):Int)=(l.length:Int) - 1 by omega] at this
theorem vl_true {l:List Bt} (h:VL l):vl l=true:=(vl_iff l).2 h
theorem vl_false {l:List Bt} (h:¬ VL l):vl l=false:=by rw [← Bool.not_eq_true,vl_iff];exact h
theorem specEnd_loop (l:List Bt) (hl:smallBs l) (h:VL l):∀ (d i:Nat),l.length - i=d→i≤l.length→(∀ j,j < i→opens l l.length j=false)→Evs (fun k=>spec_l22End.l0 k l (i:Int)) (EndP l):=by
 have hs:=hl.1
 intro d
 induction d with
 | zero=>
  intro i hd hi ho
  refine Evs.succ ?_
  simp only [spec_l22End.l0,if_neg (show ¬ (i:Int) < (l.length:Int) by omega)]
  by_cases h0:l.length=0
  ·simp only [if_pos (show (l.length:Int)=0 by omega)]
   exact Evs.done (.inr ⟨fun j hj=>by omega,by unfold tailP;rw [if_pos h0]⟩)
  ·have e:wrap64 ((l.length:Int) - 1)=(l.length:Int) - 1:=wrap_id (by omega) (by omega)
   have hv:=VL_last h h0
   have hr:=lOff_range hv
   have e2:wrap64 (lOff (rb l ((l.length:Int) - 1))+1)=lOff (rb l ((l.length:Int) - 1))+1:=wrap_id (by omega) (by omega)
   have f:=lastS_eq hv
   simp only [if_neg (show ¬ (l.length:Int)=0 by omega),e,if_pos (show 0≤(l.length:Int) - 1 by omega),if_pos (show (l.length:Int) - 1 < (l.length:Int) by omega)]
   rw [show (rd_T27 l ((l.length:Int) - 1))=rb l ((l.length:Int) - 1) from rfl,f]
   simp only [bsome,e2]
   exact Evs.done (.inr ⟨fun j hj=>ho j (by omega),by unfold tailP;rw [if_neg h0]⟩)
 | succ d ih=>
  intro i hd hi ho
  have hlt:i < l.length:=by omega
  have e1:wrap64 ((i:Int)+1)=((i+1:Nat):Int):=by rw [wrap_id (by omega) (by omega)];omega
  have next:opens l l.length i=false→Evs (fun k=>spec_l22End.l0 k l ((i+1:Nat):Int)) (EndP l):=fun hz=>ih (i+1) (by omega) (by omega) (fun j hj=>by
   by_cases he:j=i
   ·subst he;exact hz
   ·exact ho j (by omega))
  refine Evs.succ ?_
  have f:=ours_eq (rb l (i:Int))
  simp only [spec_l22End.l0,if_pos (show (i:Int) < (l.length:Int) by omega),if_pos (show (0:Int)≤(i:Int) by omega),e1]
  rw [show (rd_T27 l (i:Int))=rb l (i:Int) from rfl,f]
  simp only [bsome]
  by_cases hu:(decide ((rb l (i:Int)).f2≠255) && !(rb l (i:Int)).f1)=true
  ·simp only [if_pos hu]
   refine Evs.bind (Evs.of (specMarkAt l hs i hlt) rfl) ?_
   rintro _ rfl
   have hu2:pr l i≠255∧mk l i=false:=by simpa using hu
   cases hn:nm l l.length i with
   | none=>
    have hpos:=(vB_pos (VL_at h i hlt)).1
    simp only [if_pos ((nmI_neg none).2 rfl),if_pos (show 0 < ((rb l (i:Int)).f5.length:Int) by omega)]
    exact Evs.done (.inl ⟨i,hlt,(opens_iff _ _ _).2 ⟨hu2.1,hu2.2,hn⟩,ho,rfl⟩)
   | some j=>
    simp only [if_neg (show ¬ nmI (some j) < 0 from fun h2=>by have:=(nmI_neg _).1 h2;cases this)]
    exact next (by rw [← Bool.not_eq_true,opens_iff,hn];exact fun h2=>by cases h2.2.2)
  ·simp only [if_neg hu]
   exact next (by rw [← Bool.not_eq_true,opens_iff];exact fun h2=>hu (by simp [h2.1,h2.2.1]))
end Go.Proofs.Yticpnjhkdfdkkaa.UQ
namespace Go.Proofs.Yticpnjhkdfdkkaa.UQ
open Go.RowKit Go.Proofs.Yticpnjhkdfdkkaa.U Go.Proofs.YticpnjhkdfdkkaaW.PrintWords Go.Proofs.YticpnjhkdfdkkaaW.PrintLast
set_option linter.unusedVariables false
set_option linter.unusedSimpArgs false
theorem clone_eq (l:List Int) (h:l.length≤1048576):slices_Clone_int_int.f l=some l:=by
 unfold slices_Clone_int_int.f
 rw [if_pos (by omega)]
def okc (r:Rc):Prop:=r.f3.length≤1048576∧r.f5.length≤1048576
theorem copyRec (r:Rc) (h:okc r):impl_Record_copyOf.f r.f0 r.f1 r.f2 r.f3 r.f4 r.f5=some (r.f0,r.f1,r.f2,r.f3,r.f4,r.f5):=by
 unfold impl_Record_copyOf.f
 rw [clone_eq _ h.1,bsome,clone_eq _ h.2,bsome]
theorem take_snoc {α:Type} (l:List α) (i:Nat) (h:i < l.length):l.take i ++ [l[i]]=l.take (i+1):=by
 rw [List.take_add_one,List.getElem?_eq_getElem h]
 rfl
theorem copyRecs_loop (l:List Rc) (hl:l.length≤1048576) (hx:∀ r∈l,okc r):∀ (d i:Nat),l.length - i=d→i≤l.length→Ev (fun k=>impl_copyRecords.l0 k (l.take i) l (l.length:Int) (i:Int)) l:=by
 intro d
 induction d with
 | zero=>
  intro i hd hi
  refine ev_succ ?_
  simp only [impl_copyRecords.l0,if_neg (show ¬ (i:Int) < (l.length:Int) by omega)]
  rw [List.take_of_length_le (by omega)]
  exact ev_some _
 | succ d ih=>
  intro i hd hi
  have hlt:i < l.length:=by omega
  have e1:wrap64 ((i:Int)+1)=((i+1:Nat):Int):=by rw [wrap_id (by omega) (by omega)];omega
  have hr:rd_T34 l (i:Int)=l[i]:=rr_nat l i hlt
  have next:=ih (i+1) (by omega) (by omega)
  refine ev_succ ?_
  simp only [impl_copyRecords.l0,if_pos (show (i:Int) < (l.length:Int) by omega),if_pos (show (0:Int)≤(i:Int) by omega),e1,hr,copyRec l[i] (hx _ (List.getElem_mem hlt)),bsome,if_pos (show (l.take i).length < 1759218604441 by rw [length_take];omega)]
  rw [← take_snoc l i hlt] at next
  exact next
theorem copyRecs (l:List Rc) (hl:l.length≤1048576) (hx:∀ r∈l,okc r):Ev (fun k=>impl_copyRecords.f k l) l:=by
 unfold impl_copyRecords.f
 simp only [if_pos (show (0:Int)≤(l.length:Int) by omega),if_pos (show ((l.length:Int)).toNat≤3518437208883 by omega)]
 exact copyRecs_loop l hl hx l.length 0 (by omega) (by omega)
theorem pv_len {has:Bool} {l:List Int} (h:pv has l=true):l.length≤12:=by
 unfold pv at h
 split at h
 ·simp only [Bool.and_eq_true,decide_eq_true_eq] at h
  exact h.1
 ·simp only [decide_eq_true_eq] at h
  omega
theorem rv_okc {r:Rc} (h:rv r=true):okc r:=by
 unfold rv at h
 simp only [Bool.and_eq_true] at h
 have h1:=pv_len h.2.1
 have h2:=pv_len h.2.2
 exact ⟨by omega,by omega⟩
theorem vB_okc {b:Bt} (h:vB b):∀ r∈b.f5,okc r:=by
 intro r hr
 obtain ⟨j,hj,rfl⟩:=List.getElem_of_mem hr
 have:=(h.2.2.2 j (Nat.zero_le _) hj).1
 rw [rr_nat b.f5 j hj] at this
 exact rv_okc this
def rAt (l:List Bt) (i:Nat):List Rc:=if wAt l l.length i=1 then (rb l (i:Int)).f5 else []
def recTo (l:List Bt) (i:Nat):List Rc:=((List.range i).map (rAt l)).flatten
theorem recTo_succ (l:List Bt) (i:Nat):recTo l (i+1)=recTo l i++rAt l i:=by
 unfold recTo
 rw [List.range_succ,List.map_append,List.flatten_append]
 simp
theorem rAt_len {l:List Bt} (h:VL l) (i:Nat) (hi:i < l.length):(rAt l i).length≤6:=by
 unfold rAt
 split
 ·exact (vB_pos (VL_at h i hi)).2
 ·simp
theorem recTo_len {l:List Bt} (h:VL l):∀ i,i≤l.length→(recTo l i).length≤6 * i
 | 0,_=>by simp [recTo]
 | i+1,hi=>by
  rw [recTo_succ,List.length_append]
  have h1:=recTo_len h i (by omega)
  have h2:=rAt_len h i (by omega)
  omega
theorem recTo_mem {l:List Bt} {r:Rc} : ∀ {i:Nat},r∈recTo l i→∃ q,q < i∧wAt l l.length q=1∧r∈(rb l (q:Int)).f5
 | 0,hr=>by simp [recTo] at hr
 | i+1,hr=>by
  rw [recTo_succ] at hr
  rcases List.mem_append.1 hr with h|h
  ·obtain ⟨q,h1,h2⟩:=recTo_mem h
   exact ⟨q,by omega,h2⟩
  ·unfold rAt at h
   split at h
   ·exact ⟨i,by omega,by assumption,h⟩
   ·simp at h
def StR (l:List Bt) (r:List Rc):Prop:=∃ e,e≤l.length∧(∀ j,j < e→opens l l.length j=false)∧(e < l.length→opens l l.length e=true)∧r=recTo l e
theorem implStab_loop (l:List Bt) (hl:smallBs l) (h:VL l):∀ (d i:Nat),l.length - i=d→i≤l.length→(∀ j,j < i→opens l l.length j=false)→Evs (fun k=>impl_StableRecords.l0 k l (recTo l i) (fatesTo l l.length).ws (l.length:Int) (i:Int)) (StR l):=by
 have hs:=h.1
 have hw:=(fates_len l).1
 intro d
 induction d with
 | zero=>
  intro i hd hi ho
  refine Evs.succ ?_
  simp only [impl_StableRecords.l0,if_neg (show ¬ (i:Int) < (l.length:Int) by omega)]
  exact Evs.done ⟨i,hi,ho,fun h=>by omega,rfl⟩
 | succ d ih=>
  intro i hd hi ho
  have hlt:i < l.length:=by omega
  have e1:wrap64 ((i:Int)+1)=((i+1:Nat):Int):=by rw [wrap_id (by omega) (by omega)];omega
  refine Evs.succ ?_
  simp only [impl_StableRecords.l0,if_pos (show (i:Int) < (l.length:Int) by omega),if_pos (show (0:Int)≤(i:Int) by omega),hw,e1,fates_w l i hlt]
  by_cases hz:opens l l.length i=true
  ·simp only [if_pos ((wAt_zero l l.length i).2 hz)]
   exact Evs.done ⟨i,hi,ho,fun _=>hz,rfl⟩
  ·have hnext:∀ j,j < i+1→opens l l.length j=false:=fun j hj=>by
    by_cases he:j=i
    ·subst he;simpa using hz
    ·exact ho j (by omega)
   have next:=ih (i+1) (by omega) (by omega) hnext
   simp only [if_neg (fun h2=>hz ((wAt_zero l l.length i).1 h2))]
   by_cases h1:wAt l l.length i=1
   ·have hv:=VL_at h i hlt
    have hp:=(vB_pos hv).2
    have hc:Ev (fun k=>impl_copyRecords.f k (rd_T27 l (i:Int)).f5) (rb l (i:Int)).f5:=copyRecs (rb l (i:Int)).f5 (by omega) (vB_okc hv)
    have hlen:=recTo_len h i (by omega)
    simp only [if_pos h1]
    refine Evs.bind (Evs.of hc rfl) ?_
    rintro _ rfl
    simp only [if_pos (show (recTo l i).length+(rb l (i:Int)).f5.length < 1759218604441 by omega)]
    rw [recTo_succ,show rAt l i=(rb l (i:Int)).f5 from if_pos h1] at next
    exact next
   ·simp only [if_neg h1]
    rw [recTo_succ,show rAt l i = [] from if_neg h1,List.append_nil] at next
    exact next
theorem implStab (l:List Bt) (hl:smallBs l) (h:VL l):Evs (fun k=>impl_StableRecords.f k l) (StR l):=by
 have h2:=(fates_len l).1
 unfold impl_StableRecords.f
 simp only [bsome]
 refine Evs.bind (Evs.of (implLog l hl) rfl) ?_
 rintro _ rfl
 rw [vl_true h]
 simp only [if_true,fates_fit h,bsome,h2]
 exact implStab_loop l hl h l.length 0 (by omega) (by omega) (fun j hj=>by omega)
theorem implStab_not (l:List Bt) (hl:smallBs l) (h:¬ VL l):Ev (fun k=>impl_StableRecords.f k l) []:=by
 unfold impl_StableRecords.f
 simp only [bsome]
 refine Ev.bind (implLog l hl) ?_
 rw [vl_false h]
 simp only [Bool.false_eq_true,if_false]
 exact ev_some _
theorem StR_unique {l:List Bt} {r r' : List Rc} (h:StR l r) (h' : StR l r'):r=r':=by
 obtain ⟨e,h1,h2,h3,rfl⟩:=h
 obtain ⟨e',h1',h2',h3',rfl⟩:=h'
 rcases Nat.lt_trichotomy e e' with h|h|h
 ·have:=h2' e h;rw [h3 (by omega)] at this;cases this
 ·rw [h]
 ·have:=h2 e' h;rw [h3' (by omega)] at this;cases this
theorem StR_len {l:List Bt} (h:VL l) {r:List Rc} (hr:StR l r):r.length≤48:=by
 obtain ⟨e,h1,_,_,rfl⟩:=hr
 have:=recTo_len h e h1
 have:=h.1
 omega
theorem recTo_okc {l:List Bt} (h:VL l) {i:Nat} (hi:i≤l.length):∀ r∈recTo l i,okc r:=by
 intro r hr
 obtain ⟨q,h1,_,h2⟩:=recTo_mem hr
 exact vB_okc (VL_at h q (by omega)) r h2
theorem StR_okc {l:List Bt} (h:VL l) {r:List Rc} (hr:StR l r):∀ x∈r,okc x:=by
 obtain ⟨e,h1,_,_,rfl⟩:=hr
 exact recTo_okc h h1
theorem StR_small {l:List Bt} (h:VL l) {r:List Rc} (hr:StR l r):smallRs r:=by
 have:=StR_len h hr
 exact ⟨by omega,fun x hx=>by have:=StR_okc h hr x hx;exact ⟨by have:=this.1;omega,by have:=this.2;omega⟩⟩
theorem fine_eq' {b:Bt} (h:vB b):spec_l22Fine.f b.f0 b.f1 b.f2 b.f3 b.f4 b.f5=some (tellsP b):=by
 have hp:=vB_pos h
 unfold spec_l22Fine.f tellsP
 rw [if_pos (show 0 < (b.f5.length:Int) by omega)]
 generalize (rd_T34 b.f5 0).f5=v
 by_cases hl:(v.length:Int)=1
 ·rw [if_pos hl,if_pos (show 0 < (v.length:Int) by omega)]
  obtain ⟨x,rfl⟩:∃ x,v = [x]:=List.length_eq_one_iff.1 (by omega)
  simp [rd]
  rfl
 ·rw [if_neg hl,decide_eq_false (fun e=>hl (by rw [e];rfl))]
theorem l12Copy_eq (r:Rc) (h:okc r):spec_l12Copy.f r.f0 r.f1 r.f2 r.f3 r.f4 r.f5=some (r.f0,r.f1,r.f2,r.f3,r.f4,r.f5):=by
 have h1:=h.1
 have h2:=h.2
 unfold spec_l12Copy.f
 simp only [bsome,List.length_nil,Nat.zero_add,List.nil_append]
 rw [if_pos (by omega),if_pos (by omega)]
theorem specStab_l1 (l:List Bt) (i:Nat) (hi:i < l.length) (x:List Rc) (hx:x.length≤1000) (hp:(rb l (i:Int)).f5.length≤6) (hc:∀ r∈(rb l (i:Int)).f5,okc r) (R:List Rc) (e1:wrap64 ((i:Int)+1)=((i+1:Nat):Int)) (next:Ev (fun k=>spec_StableRecords.l0 k l (x++(rb l (i:Int)).f5) ((i+1:Nat):Int)) R) :
  ∀ (d j:Nat),(rb l (i:Int)).f5.length - j=d→j≤(rb l (i:Int)).f5.length→Ev (fun k=>spec_StableRecords.l1 k l (x++(rb l (i:Int)).f5.take j) (i:Int) (j:Int)) R:=by
 intro d
 induction d with
 | zero=>
  intro j hd hj
  refine ev_succ ?_
  simp only [spec_StableRecords.l1,if_pos (show (0:Int)≤(i:Int) by omega),if_pos (show (i:Int) < (l.length:Int) by omega),if_neg (show ¬ (j:Int) < ((rd_T27 l (i:Int)).f5.length:Int) from (show ¬ (j:Int) < ((rb l (i:Int)).f5.length:Int) by omega)),e1]
  rw [List.take_of_length_le (by omega)]
  exact next
 | succ d ih=>
  intro j hd hj
  have hlt:j < (rb l (i:Int)).f5.length:=by omega
  have e2:wrap64 ((j:Int)+1)=((j+1:Nat):Int):=by rw [wrap_id (by omega) (by omega)];omega
  have hr:rd_T34 (rd_T27 l (i:Int)).f5 (j:Int)=(rb l (i:Int)).f5[j]:=rr_nat _ j hlt
  have nx:=ih (j+1) (by omega) (by omega)
  refine ev_succ ?_
  simp only [spec_StableRecords.l1,if_pos (show (0:Int)≤(i:Int) by omega),if_pos (show (i:Int) < (l.length:Int) by omega),if_pos (show (j:Int) < ((rd_T27 l (i:Int)).f5.length:Int) from (show (j:Int) < ((rb l (i:Int)).f5.length:Int) by omega)),if_pos (show (0:Int)≤(j:Int) by omega),e2,hr,l12Copy_eq _ (hc _ (List.getElem_mem hlt)),bsome,if_pos (show (x++(rb l (i:Int)).f5.take j).length < 1759218604441 by rw [List.length_append,length_take];omega)]
  rw [← take_snoc _ j hlt,← List.append_assoc] at nx
  exact nx
structure AtEnd (l:List Bt) (e:Nat) (r:Int):Prop where
 le:e≤l.length
 before:∀ j,j < e→opens l l.length j=false
 there:e < l.length→opens l l.length e=true
 val:EndP l r
 cut:∀ j,j < l.length→(fOff (rb l (j:Int)) ≥ r↔e≤j)
theorem at_end {l:List Bt} (h:VL l) {r:Int} (he:EndP l r):∃ e,AtEnd l e r:=by
 rcases he with ⟨i,hi,ho,hf,rfl⟩|⟨ha,rfl⟩
 ·refine ⟨i,by omega,hf,fun _=>ho,.inl ⟨i,hi,ho,hf,rfl⟩,fun j hj=>⟨fun hge=>?_,fun hij=>?_⟩⟩
  ·rcases Nat.lt_or_ge j i with h1|h1
   ·have:=VL_lt' h h1 hi;omega
   ·exact h1
  ·by_cases hji:i=j
   ·rw [hji];exact Int.le_refl _
   ·have:=VL_lt' h (show i < j by omega) hj;omega
 ·refine ⟨l.length,Nat.le_refl _,ha,fun h=>by omega,.inr ⟨ha,rfl⟩,fun j hj=>⟨fun hge=>?_,fun hij=>by omega⟩⟩
  have h1:fOff (rb l (j:Int)) < tailP l:=by
   unfold tailP
   rw [if_neg (by omega)]
   have h1:fOff (rb l (j:Int))≤fOff (rb l ((l.length - 1:Nat):Int)):=by
    by_cases he:j=l.length - 1
    ·rw [he];omega
    ·have:=VL_lt' h (show j < l.length - 1 by omega) (by omega)
     omega
   have h2:=fOff_le (VL_at h (l.length - 1) (by omega))
   rw [show ((l.length - 1:Nat):Int)=(l.length:Int) - 1 by omega] at h1 h2
   omega
  omega
theorem specStab_loop (l:List Bt) (hl:smallBs l) (h:VL l) (e:Nat) (r:Int) (he:AtEnd l e r) (hr:Ev (fun k=>spec_l22End.f k l) r):∀ (d i:Nat),l.length - i=d→i≤l.length→Ev (fun k=>spec_StableRecords.l0 k l (recTo l (min i e)) (i:Int)) (recTo l e):=by
 have h8:=h.1
 intro d
 induction d with
 | zero=>
  intro i hd hi
  refine ev_succ ?_
  simp only [spec_StableRecords.l0,if_neg (show ¬ (i:Int) < (l.length:Int) by omega)]
  refine ev_succ ?_
  simp only [spec_StableRecords.j1,Bool.false_eq_true,if_false]
  rw [show min i e=e by have:=he.le;omega]
  exact ev_some _
 | succ d ih=>
  intro i hd hi
  have hlt:i < l.length:=by omega
  have e1:wrap64 ((i:Int)+1)=((i+1:Nat):Int):=by rw [wrap_id (by omega) (by omega)];omega
  have hv:=VL_at h i hlt
  have hpos : 0 < ((rd_T27 l (i:Int)).f5.length:Int):=by
   have : 1≤(rb l (i:Int)).f5.length:=(vB_pos hv).1
   show 0 < ((rb l (i:Int)).f5.length:Int)
   omega
  have next:=ih (i+1) (by omega) (by omega)
  have hlen:=recTo_len h (min i e) (by omega)
  refine ev_succ ?_
  simp only [spec_StableRecords.l0,if_pos (show (i:Int) < (l.length:Int) by omega)]
  refine Ev.bind (specLog l hl) ?_
  rw [vl_true h]
  refine ev_succ ?_
  simp only [spec_StableRecords.j1,if_true,if_pos (show (i:Int) < (l.length:Int) by omega),if_pos (show (0:Int)≤(i:Int) by omega),if_pos hpos]
  have skip:rAt l i = []∨e≤i→Ev (fun k=>spec_StableRecords.l0 k l (recTo l (min i e)) ((i+1:Nat):Int)) (recTo l e):=fun hs=>by
   rcases hs with hs|hs
   ·rcases Nat.lt_or_ge i e with hie|hie
    ·rw [show min (i+1) e=i+1 by omega,recTo_succ,hs,List.append_nil] at next
     rw [show min i e=i by omega]
     exact next
    ·rw [show min (i+1) e=e by omega] at next
     rw [show min i e=e by omega]
     exact next
   ·rw [show min (i+1) e=e by omega] at next
    rw [show min i e=e by omega]
    exact next
  have take:i < e→rAt l i=(rb l (i:Int)).f5→Ev (fun k=>spec_StableRecords.l1 k l (recTo l (min i e)) (i:Int) 0) (recTo l e):=fun hie ht=>by
   rw [show min (i+1) e=i+1 by omega,recTo_succ,ht] at next
   rw [show min i e=i by omega]
   have:=specStab_l1 l i hlt (recTo l i) (by rw [show min i e=i by omega] at hlen;omega) (vB_pos hv).2 (vB_okc hv) (recTo l e) e1 next (rb l (i:Int)).f5.length 0 (by omega) (by omega)
   rw [List.take_zero,List.append_nil] at this
   exact this
  by_cases hm:mk l i=true
  ·simp only [if_pos (show (rd_T27 l (i:Int)).f1=true from hm)]
   refine ev_succ ?_
   simp only [spec_StableRecords.j2,if_true,e1]
   refine skip (.inl ?_)
   have hp:pr l i≠255:=fun hp=>by
    have h1:(if (rb l (i:Int)).f2=255 then (rb l (i:Int)).f3=0∧(rb l (i:Int)).f4=0∧(rb l (i:Int)).f1=false else _):=hv.1
    rw [if_pos hp] at h1
    have h2:mk l i=false:=h1.2.2
    rw [hm] at h2
    cases h2
   exact if_neg (by unfold wAt;rw [if_neg hp,if_pos hm];omega)
  ·simp only [if_neg (show ¬ (rd_T27 l (i:Int)).f1=true from hm)]
   refine Ev.bind hr ?_
   refine ev_succ ?_
   by_cases hge:fOff (rb l (i:Int)) ≥ r
   ·rw [show (decide ((rd_T34 (rd_T27 l (i:Int)).f5 0).f0 ≥ r))=true from decide_eq_true hge]
    simp only [spec_StableRecords.j2,if_true,e1]
    exact skip (.inr ((he.cut i hlt).1 hge))
   ·have hie:i < e:=by
     rcases Nat.lt_or_ge i e with h1|h1
     ·exact h1
     ·exact absurd ((he.cut i hlt).2 h1) hge
    rw [show (decide ((rd_T34 (rd_T27 l (i:Int)).f5 0).f0 ≥ r))=false from decide_eq_false hge]
    simp only [spec_StableRecords.j2,Bool.false_eq_true,if_false,if_pos (show (i:Int) < (l.length:Int) by omega),if_pos (show (0:Int)≤(i:Int) by omega)]
    have hours:spec_l22Ours.f (rd_T27 l (i:Int)).f0 (rd_T27 l (i:Int)).f1 (rd_T27 l (i:Int)).f2 (rd_T27 l (i:Int)).f3 (rd_T27 l (i:Int)).f4 (rd_T27 l (i:Int)).f5=some (decide (pr l i≠255) && !mk l i):=ours_eq (rb l (i:Int))
    rw [hours]
    simp only [bsome]
    by_cases hp:pr l i=255
    ·simp only [hp,ne_eq,not_true_eq_false,decide_false,Bool.false_and,Bool.false_eq_true,if_false]
     refine ev_succ ?_
     simp only [spec_StableRecords.j3,Bool.false_eq_true,if_false]
     exact take hie (if_pos (by unfold wAt;rw [if_pos hp]))
    ·have hmf:mk l i=false:=by simpa using hm
     rw [show (decide (pr l i≠255) && !mk l i)=true by rw [hmf];simpa using hp]
     simp only [if_true]
     refine Ev.bind (specMarkAt l (by omega) i hlt) ?_
     cases hn:nm l l.length i with
     | none=>
      have:=he.before i hie
      rw [(opens_iff l l.length i).2 ⟨hp,hmf,hn⟩] at this
      cases this
     | some j=>
      have hj:=nm_some hn
      have hvj:=VL_at h j hj.2.1
      have hf:spec_l22Fine.f (rd_T27 l (j:Int)).f0 (rd_T27 l (j:Int)).f1 (rd_T27 l (j:Int)).f2 (rd_T27 l (j:Int)).f3 (rd_T27 l (j:Int)).f4 (rd_T27 l (j:Int)).f5=some (tellsP (rb l (j:Int))):=fine_eq' hvj
      simp only [nmI,if_pos (show (0:Int)≤(j:Int) by omega),if_pos (show (j:Int) < (l.length:Int) by omega),hf,bsome]
      refine ev_succ ?_
      by_cases ht:tellsP (rb l (j:Int))=true
      ·rw [ht]
       simp only [spec_StableRecords.j3,Bool.not_true,Bool.false_eq_true,if_false]
       exact take hie (if_pos (by unfold wAt;rw [if_neg hp,if_neg hm,hn];simp only [if_pos ht]))
      ·have htf:tellsP (rb l (j:Int))=false:=by simpa using ht
       rw [htf]
       simp only [spec_StableRecords.j3,Bool.not_false,if_true,e1]
       exact skip (.inl (if_neg (by unfold wAt;rw [if_neg hp,if_neg hm,hn];simp only [if_neg ht];omega)))
theorem specStab (l:List Bt) (hl:smallBs l) (h:VL l):Evs (fun k=>spec_StableRecords.f k l) (StR l):=by
 obtain ⟨r,hr,he⟩:=specEnd_loop l hl h l.length 0 (by omega) (by omega) (fun j hj=>by omega)
 obtain ⟨e,hat⟩:=at_end h he
 have hr2:Ev (fun k=>spec_l22End.f k l) r:=hr
 have:=specStab_loop l hl h e r hat hr2 l.length 0 (by omega) (by omega)
 exact Evs.of (show Ev (fun k=>spec_StableRecords.f k l) (recTo l e) by simpa [spec_StableRecords.f,recTo] using this) ⟨e,hat.le,hat.before,hat.there,rfl⟩
theorem specStab_not (l:List Bt) (hl:smallBs l) (h:¬ VL l):Ev (fun k=>spec_StableRecords.f k l) []:=by
 unfold spec_StableRecords.f
 refine ev_succ ?_
 by_cases h0:(0:Int) < (l.length:Int)
 ·simp only [spec_StableRecords.l0,if_pos h0]
  refine Ev.bind (specLog l hl) ?_
  rw [vl_false h]
  refine ev_succ ?_
  simp only [spec_StableRecords.j1,Bool.false_eq_true,if_false]
  exact ev_some _
 ·simp only [spec_StableRecords.l0,if_neg h0]
  refine ev_succ ?_
  simp only [spec_StableRecords.j1,Bool.false_eq_true,if_false]
  exact ev_some _
theorem sameInts_loop (a b:List Int) (hl:a.length=b.length) (hs:a.length≤1000000000000000):∀ (d i:Nat),a.length - i=d→i≤a.length→Ev (fun k=>laws_sameInts.l0 k a b (i:Int)) (decide (a.drop i=b.drop i)):=by
 intro d
 induction d with
 | zero=>
  intro i hd hi
  rw [show a.drop i = [] from List.drop_eq_nil_of_le (by omega),show b.drop i = [] from List.drop_eq_nil_of_le (by omega)]
  refine ev_succ ?_
  simp only [laws_sameInts.l0,if_neg (show ¬ (i:Int) < (a.length:Int) by omega),decide_true]
  exact ev_some _
 | succ d ih=>
  intro i hd hi
  have hlt:(i:Int) < (a.length:Int):=by omega
  have e1:wrap64 ((i:Int)+1)=((i+1:Nat):Int):=by rw [wrap_id (by omega) (by omega)];omega
  rw [drop_int (show i < a.length by omega),drop_int (show i < b.length by omega)]
  refine ev_succ ?_
  simp only [laws_sameInts.l0,if_pos hlt,if_pos (show (0:Int)≤i by omega),if_pos (show (i:Int) < (b.length:Int) by omega),e1]
  by_cases h0:rd a i=rd b i
  ·simp only [if_pos h0]
   have:=ih (i+1) (by omega) (by omega)
   simpa [h0] using this
  ·simp only [if_neg h0]
   rw [decide_eq_false (by simp [h0])]
   exact ev_some _
theorem sameInts (a b:List Int) (hs:a.length≤1000000000000000):Ev (fun k=>laws_sameInts.f k a b) (decide (a=b)):=by
 unfold laws_sameInts.f
 by_cases h:(a.length:Int)=(b.length:Int)
 ·simp only [if_pos h]
  have:=sameInts_loop a b (by omega) hs a.length 0 (by omega) (by omega)
  simpa using this
 ·simp only [if_neg h]
  rw [decide_eq_false (fun e=>h (by rw [e]))]
  exact ev_some _
theorem Rc_ext {a b:Rc} (h0:a.f0=b.f0) (h1:a.f1=b.f1) (h2:a.f2=b.f2) (h3:a.f3=b.f3) (h4:a.f4=b.f4) (h5:a.f5=b.f5):a=b:=by
 cases a
 cases b
 simp_all
instance:DecidableEq Rc:=fun a b=>decidable_of_iff (a.f0=b.f0∧a.f1=b.f1∧a.f2=b.f2∧a.f3=b.f3∧a.f4=b.f4∧a.f5=b.f5) ⟨fun h=>Rc_ext h.1 h.2.1 h.2.2.1 h.2.2.2.1 h.2.2.2.2.1 h.2.2.2.2.2,fun h=>by rw [h];simp⟩
theorem sameRec (a b:Rc) (hs:smallR a):Ev (fun k=>laws_sameRecord.f k a.f0 a.f1 a.f2 a.f3 a.f4 a.f5 b.f0 b.f1 b.f2 b.f3 b.f4 b.f5) (decide (a=b)):=by
 unfold laws_sameRecord.f
 by_cases h0:a.f0=b.f0
 ·by_cases h1:a.f1=b.f1
  ·by_cases h2:a.f2=b.f2
   ·by_cases h4:a.f4=b.f4
    ·simp only [if_pos h0,if_pos h1,if_pos (show (a.f2==b.f2)=true by simpa using h2),if_pos (show (a.f4==b.f4)=true by simpa using h4)]
     refine Ev.bind (sameInts a.f3 b.f3 hs.1) ?_
     by_cases h3:a.f3=b.f3
     ·simp only [if_pos (decide_eq_true h3)]
      refine Ev.bind (sameInts a.f5 b.f5 hs.2) ?_
      by_cases h5:a.f5=b.f5
      ·rw [decide_eq_true h5,decide_eq_true (Rc_ext h0 h1 h2 h3 h4 h5)]
       exact ev_some _
      ·rw [decide_eq_false h5,decide_eq_false (fun e=>h5 (by rw [e]))]
       exact ev_some _
     ·simp only [decide_eq_false h3,Bool.false_eq_true,if_false]
      rw [decide_eq_false (fun e=>h3 (by rw [e]))]
      exact ev_some _
    ·simp only [if_pos h0,if_pos h1,if_pos (show (a.f2==b.f2)=true by simpa using h2),if_neg (show ¬ (a.f4==b.f4)=true by simpa using h4)]
     rw [decide_eq_false (fun e=>h4 (by rw [e]))]
     exact ev_some _
   ·simp only [if_pos h0,if_pos h1,if_neg (show ¬ (a.f2==b.f2)=true by simpa using h2)]
    rw [decide_eq_false (fun e=>h2 (by rw [e]))]
    exact ev_some _
  ·simp only [if_pos h0,if_neg h1]
   rw [decide_eq_false (fun e=>h1 (by rw [e]))]
   exact ev_some _
 ·simp only [if_neg h0]
  rw [decide_eq_false (fun e=>h0 (by rw [e]))]
  exact ev_some _
theorem drop_rec {l:List Rc} {i:Nat} (h:i < l.length):l.drop i=rr l i::l.drop (i+1):=by
 rw [List.drop_eq_getElem_cons h,rr_nat l i h]
theorem sameRecs_loop (a b:List Rc) (hl:a.length=b.length) (hs:smallRs a):∀ (d i:Nat),a.length - i=d→i≤a.length→Ev (fun k=>laws_sameRecords.l0 k a b (i:Int)) (decide (a.drop i=b.drop i)):=by
 have hlen:=hs.1
 intro d
 induction d with
 | zero=>
  intro i hd hi
  rw [show a.drop i = [] from List.drop_eq_nil_of_le (by omega),show b.drop i = [] from List.drop_eq_nil_of_le (by omega)]
  refine ev_succ ?_
  simp only [laws_sameRecords.l0,if_neg (show ¬ (i:Int) < (a.length:Int) by omega),decide_true]
  exact ev_some _
 | succ d ih=>
  intro i hd hi
  have hlt:(i:Int) < (a.length:Int):=by omega
  have e1:wrap64 ((i:Int)+1)=((i+1:Nat):Int):=by rw [wrap_id (by omega) (by omega)];omega
  rw [drop_rec (show i < a.length by omega),drop_rec (show i < b.length by omega)]
  refine ev_succ ?_
  simp only [laws_sameRecords.l0,if_pos hlt,if_pos (show (0:Int)≤i by omega),if_pos (show (i:Int) < (b.length:Int) by omega),e1]
  refine Ev.bind (sameRec (rr a i) (rr b i) (smallRs_at hs i (by omega))) ?_
  by_cases h0:rr a i=rr b i
  ·simp only [if_pos (decide_eq_true h0)]
   have:=ih (i+1) (by omega) (by omega)
   simpa [h0] using this
  ·simp only [decide_eq_false h0,Bool.false_eq_true,if_false]
   rw [decide_eq_false (by simp [h0])]
   exact ev_some _
theorem sameRecs (a b:List Rc) (hs:smallRs a):Ev (fun k=>laws_sameRecords.f k a b) (decide (a=b)):=by
 unfold laws_sameRecords.f
 by_cases h:(a.length:Int)=(b.length:Int)
 ·simp only [if_pos h]
  have:=sameRecs_loop a b (by omega) hs a.length 0 (by omega) (by omega)
  simpa using this
 ·simp only [if_neg h]
  rw [decide_eq_false (fun e=>h (by rw [e]))]
  exact ev_some _
end Go.Proofs.Yticpnjhkdfdkkaa.UQ
