/- The law FnStateLast holds (part 6 of 7; merged by pack2.py). -/
import Derived.Test.YtkhjmhdgcmffaaaFnStateLastK4
open List (setIfInBounds_toArray set_cons_zero set_cons_succ map_toArray map_cons map_nil length_drop length_take)
namespace Go.Proofs.Ytkhjmhdgcmffaaa.UQ
open Go.RowKit Go.Proofs.Ytkhjmhdgcmffaaa.U Go.Proofs.YtkhjmhdgcmffaaaW.PrintWords Go.Proofs.YtkhjmhdgcmffaaaW.PrintLast
set_option linter.unusedVariables false
set_option linter.unusedSimpArgs false
theorem lim2 {n c:Nat} (h:n≤2000) (hc : 2000 < c):n < c:=by omega
theorem part_loop (bs:List Int) (hb:Bytes bs) (hl:bs.length≤2000):∀ (d:Nat) (l:List Int) (n i p:Int),n - i≤d→0≤i→(l.length:Int)≤i→(l.length:Int)≤12→n≤12→0≤p→p+2 * d≤900000000 →
  Evs (fun k=>Qp.l0 k l n i bs p) (fun r=>r.2.1.length≤12∧p≤r.2.2∧r.2.2≤p+2 * d):=by
 intro d
 induction d with
 | zero=>
  intro l n i p hd hi hll h12 hn h0 h1
  refine Evs.succ ?_
  simp only [Qp.l0,if_neg (show ¬ i < n by omega)]
  exact Evs.done ⟨by dsimp only;omega,by dsimp only;omega,by dsimp only;omega⟩
 | succ d ih=>
  intro l n i p hd hi hll h12 hn h0 h1
  refine Evs.succ ?_
  by_cases hlt:i < n
  ·have e1:wrap64 (i+1)=i+1:=wrap_id (by omega) (by omega)
   simp only [Qp.l0,if_pos hlt,bsome,e1]
   refine Evs.bind (pick_evs bs p 256 hb hl h0 (by omega) (by omega)) ?_
   rintro ⟨u,_⟩ ⟨u0,u1,rfl⟩
   refine Evs.bind (pick_evs bs (p+1) 4 hb hl (by omega) (by omega) (by omega)) ?_
   rintro ⟨v,_⟩ ⟨v0,v1,rfl⟩
   simp only [if_pos v0,if_pos (show v < (([1,2,3,u]:List Int).length:Int) from v1),if_pos (show l.length < 17592186044416 from lim2 (by omega) (by omega))]
   have h:=ih (l ++ [rd [1,2,3,u] v]) n (i+1) (p+1+1) (by omega) (by omega) (by simp;omega) (by simp;omega) hn (by omega) (by omega)
   exact h.mono (fun r hr=>⟨hr.1,by have:=hr.2.1;omega,by have:=hr.2.2;omega⟩)
  ·simp only [Qp.l0,if_neg hlt]
   exact Evs.done ⟨by dsimp only;omega,by dsimp only;omega,by dsimp only;omega⟩
theorem part_evs (bs:List Int) (hb:Bytes bs) (hl:bs.length≤2000) (p:Int) (h0 : 0≤p) (h1:p≤800000000):Evs (fun k=>Qp.f k bs p) (fun r=>r.2.1.length≤12∧p≤r.2.2∧r.2.2≤p+30):=by
 unfold Qp.f
 refine Evs.bind (pick_evs bs p 4 hb hl h0 (by omega) (by omega)) ?_
 rintro ⟨u,_⟩ ⟨u0,u1,rfl⟩
 by_cases hu:u=0
 ·simp only [if_pos hu]
  exact Evs.done ⟨by simp,by dsimp only;omega,by dsimp only;omega⟩
 ·simp only [if_neg hu,bsome]
  refine Evs.bind (pick_evs bs (p+1) 5 hb hl (by omega) (by omega) (by omega)) ?_
  rintro ⟨v,_⟩ ⟨v0,v1,rfl⟩
  refine Evs.bind (pick_evs bs (p+1+1) 12 hb hl (by omega) (by omega) (by omega)) ?_
  rintro ⟨x,_⟩ ⟨x0,x1,rfl⟩
  by_cases hx:x=0
  ·simp only [if_pos hx]
   refine Evs.succ ?_
   simp only [Qp.j0]
   have h:=part_loop bs hb hl 12 [] 12 0 (p+1+1+1) (by omega) (by omega) (by simp) (by simp) (by omega) (by omega) (by omega)
   exact h.mono (fun r hr=>⟨hr.1,by have:=hr.2.1;omega,by have:=hr.2.2;omega⟩)
  ·simp only [if_neg hx]
   refine Evs.succ ?_
   simp only [Qp.j0]
   have h:=part_loop bs hb hl 12 [] v 0 (p+1+1+1) (by omega) (by omega) (by simp) (by simp) (by omega) (by omega) (by omega)
   exact h.mono (fun r hr=>⟨hr.1,by have:=hr.2.1;omega,by have:=hr.2.2;omega⟩)
def drawnR (n:Nat) (l:List Rc):Prop:=l.length≤n∧∀ r∈l,r.f3.length≤12∧r.f5.length≤12
theorem drawnR_small {n:Nat} (hn:n≤100000) {l:List Rc} (h:drawnR n l):smallRs l:=⟨by have:=h.1;omega,fun r hr=>⟨by have:=(h.2 r hr).1;omega,by have:=(h.2 r hr).2;omega⟩⟩
theorem drawnR_add {n:Nat} {l:List Rc} (h:drawnR n l) {r:Rc} (h3:r.f3.length≤12) (h5:r.f5.length≤12):drawnR (n+1) (l ++ [r]):=by
 refine ⟨by have:=h.1;simp;omega,fun x hx=>?_⟩
 rcases List.mem_append.1 hx with hx|hx
 ·exact h.2 x hx
 ·rw [List.mem_singleton.1 hx]
  exact ⟨h3,h5⟩
theorem drawnR_mono {n m:Nat} {l:List Rc} (h:drawnR n l) (hm:n≤m):drawnR m l:=⟨by have:=h.1;omega,h.2⟩
theorem recs_loop (bs:List Int) (hb:Bytes bs) (hl:bs.length≤2000) (n:Int) (hn:n≤100):∀ (d:Nat) (o:Int) (l:List Rc) (t i p:Int),n - i≤d→0≤i→drawnR i.toNat l→(0 < i→0 < l.length)→0≤p→p+70 * d≤700000000 →
  Evs (fun k=>Qg.l0 k o l n t i bs p) (fun r=>drawnR (max i n).toNat r.1∧(0 < max i n→0 < r.1.length)∧p≤r.2∧r.2≤p+70 * d):=by
 intro d
 induction d with
 | zero=>
  intro o l t i p hd hi hll hpos h0 h1
  refine Evs.succ ?_
  simp only [Qg.l0,if_neg (show ¬ i < n by omega)]
  exact Evs.done ⟨by dsimp only;exact drawnR_mono hll (by omega),by dsimp only;intro h;exact hpos (by omega),by dsimp only;omega,by dsimp only;omega⟩
 | succ d ih=>
  intro o l t i p hd hi hll hpos h0 h1
  refine Evs.succ ?_
  by_cases hlt:i < n
  ·have e1:wrap64 (i+1)=i+1:=wrap_id (by omega) (by omega)
   have hlen:=hll.1
   simp only [Qg.l0,if_pos hlt]
   refine Evs.bind (part_evs bs hb hl p h0 (by omega)) ?_
   rintro ⟨kh,kl,p1⟩ ⟨hk,q0,q1⟩
   dsimp only at hk q0 q1 ⊢
   refine Evs.bind (part_evs bs hb hl p1 (by omega) (by omega)) ?_
   rintro ⟨vh,vl,p2⟩ ⟨hv,q2,q3⟩
   dsimp only at hv q2 q3 ⊢
   have main:∀ (c:Bool) (q:Int),0≤q→p≤q→q≤p2+1→Evs (fun k=>Qg.j1 k o l n t i vh vl c bs q o t kh kl false) (fun r=>drawnR (max i n).toNat r.1∧(0 < max i n→0 < r.1.length)∧p≤r.2∧r.2≤p+70 * (d+1:Nat)):=by
    intro c q hq0 hq1 hq2
    refine Evs.succ ?_
    have hlim:l.length < 1759218604441:=lim2 (by omega) (by omega)
    cases c with
    | true=>
     simp only [Qg.j1,if_true,if_pos hlim,e1]
     refine Evs.bind (pick_evs bs q 3 hb hl (by omega) (by omega) (by omega)) ?_
     rintro ⟨u,_⟩ ⟨u0,u1,rfl⟩
     refine Evs.bind (pick_evs bs (q+1) 5 hb hl (by omega) (by omega) (by omega)) ?_
     rintro ⟨v,_⟩ ⟨v0,v1,rfl⟩
     refine Evs.bind (pick_evs bs (q+1+1) 30 hb hl (by omega) (by omega) (by omega)) ?_
     rintro ⟨x,_⟩ ⟨x0,x1,rfl⟩
     have h:=ih (wrap64 (wrap64 (o+1)+wrap64 (Int.tdiv v 4))) (l ++ [⟨o,t,kh,[u],vh,vl⟩]) (mx (wrap64 (wrap64 (t+x) - 6)) 0) (i+1) (q+1+1+1) (by omega) (by omega) (drawnR_mono (drawnR_add hll (by simp) hv) (by omega)) (fun _=>by simp) (by omega) (by omega)
     rw [show max (i+1) n=max i n by omega] at h
     exact h.mono (fun r hr=>⟨hr.1,hr.2.1,by have:=hr.2.2.1;omega,by have:=hr.2.2.2;omega⟩)
    | false=>
     simp only [Qg.j1,Bool.false_eq_true,if_false,if_pos hlim,e1]
     refine Evs.bind (pick_evs bs q 5 hb hl (by omega) (by omega) (by omega)) ?_
     rintro ⟨v,_⟩ ⟨v0,v1,rfl⟩
     refine Evs.bind (pick_evs bs (q+1) 30 hb hl (by omega) (by omega) (by omega)) ?_
     rintro ⟨x,_⟩ ⟨x0,x1,rfl⟩
     have h:=ih (wrap64 (wrap64 (o+1)+wrap64 (Int.tdiv v 4))) (l ++ [⟨o,t,kh,kl,vh,vl⟩]) (mx (wrap64 (wrap64 (t+x) - 6)) 0) (i+1) (q+1+1) (by omega) (by omega) (drawnR_mono (drawnR_add hll hk hv) (by omega)) (fun _=>by simp) (by omega) (by omega)
     rw [show max (i+1) n=max i n by omega] at h
     exact h.mono (fun r hr=>⟨hr.1,hr.2.1,by have:=hr.2.2.1;omega,by have:=hr.2.2.2;omega⟩)
   by_cases hkh:kh=true
   ·simp only [if_pos hkh]
    refine Evs.bind (pick_evs bs p2 2 hb hl (by omega) (by omega) (by omega)) ?_
    rintro ⟨u,_⟩ ⟨u0,u1,rfl⟩
    exact main (u==0) (p2+1) (by omega) (by omega) (by omega)
   ·simp only [if_neg hkh]
    exact main false p2 (by omega) (by omega) (by omega)
  ·simp only [Qg.l0,if_neg hlt]
   exact Evs.done ⟨by dsimp only;exact drawnR_mono hll (by omega),by dsimp only;intro h;exact hpos (by omega),by dsimp only;omega,by dsimp only;omega⟩
theorem recs_evs (bs:List Int) (hb:Bytes bs) (hl:bs.length≤2000) (p o m:Int) (h0 : 0≤p) (h1:p≤600000000) (hm : 1≤m) (hm2:m≤10):Evs (fun k=>Qg.f k bs p o m) (fun r=>drawnR m.toNat r.1∧0 < r.1.length∧p≤r.2∧r.2≤p+800):=by
 unfold Qg.f
 refine Evs.bind (pick_evs bs p m hb hl h0 (by omega) hm) ?_
 rintro ⟨u,_⟩ ⟨u0,u1,rfl⟩
 refine Evs.bind (pick_evs bs (p+1) 200 hb hl (by omega) (by omega) (by omega)) ?_
 rintro ⟨v,_⟩ ⟨v0,v1,rfl⟩
 simp only [show wrap64 (1+u)=1+u from wrap_id (by omega) (by omega)]
 have h:=recs_loop bs hb hl (1+u) (by omega) 10 o [] v 0 (p+1+1) (by omega) (by omega) ⟨by simp,fun r hr=>by cases hr⟩ (fun h=>by omega) (by omega) (by omega)
 exact h.mono (fun r hr=>⟨drawnR_mono hr.1 (by omega),hr.2.1 (by omega),by have:=hr.2.2.1;omega,by have:=hr.2.2.2;omega⟩)
def drawnB (p:Int) (c:Int) (r:Bool×Bool×Int×Int×Int×List Rc×Int):Prop:=drawnR 5 r.2.2.2.2.2.1∧0 < r.2.2.2.2.2.1.length∧p≤r.2.2.2.2.2.2∧r.2.2.2.2.2.2≤p+c∧0≤r.2.2.1
theorem batch_j0 (bs:List Int) (hb:Bytes bs) (hl:bs.length≤2000) (p:Int) (h0 : 0≤p) (h1:p≤600000000) (a0 a1:Bool) (a2 a3 a4:Int) (l:List Rc) (hd:drawnR 4 l) (hpos : 0 < l.length) (ha2 : 0≤a2):Evs (fun k=>Ql.j0 k bs p a0 a1 a2 a3 a4 l) (drawnB p 2):=by
 have hlen:=hd.1
 refine Evs.succ ?_
 simp only [Ql.j0]
 refine Evs.bind (pick_evs bs p 40 hb hl h0 (by omega) (by omega)) ?_
 rintro ⟨u,_⟩ ⟨u0,u1,rfl⟩
 by_cases hu:u=0
 ·simp only [if_pos hu,bsome]
  refine Evs.bind (pick_evs bs (p+1) 3 hb hl (by omega) (by omega) (by omega)) ?_
  rintro ⟨v,_⟩ ⟨v0,v1,rfl⟩
  simp only [if_pos v0,if_pos (show v < (([(-1),1,100]:List Int).length:Int) from v1)]
  exact Evs.done ⟨drawnR_mono hd (by omega),hpos,by dsimp only;omega,by dsimp only;omega,ha2⟩
 ·simp only [if_neg hu]
  by_cases hu1:u=1
  ·simp only [if_pos hu1,if_pos (show 0 < (l.length:Int) by omega),if_pos (show l.length < 1759218604441 from lim2 (by omega) (by omega))]
   have h0m:Qb l 0∈l:=by
    show rr l ((0:Nat):Int)∈l
    rw [rr_nat l 0 hpos]
    exact List.getElem_mem hpos
   exact Evs.done ⟨drawnR_add hd (hd.2 _ h0m).1 (hd.2 _ h0m).2,by simp,by dsimp only;omega,by dsimp only;omega,ha2⟩
  ·simp only [if_neg hu1]
   by_cases hu2:u=2
   ·simp only [if_pos hu2]
    exact Evs.done ⟨drawnR_mono hd (by omega),hpos,by dsimp only;omega,by dsimp only;omega,ha2⟩
   ·simp only [if_neg hu2]
    exact Evs.done ⟨drawnR_mono hd (by omega),hpos,by dsimp only;omega,by dsimp only;omega,ha2⟩
theorem drawnB_mono {p q c c' : Int} {r:Bool×Bool×Int×Int×Int×List Rc×Int} (h:drawnB p c r) (h1:q≤p) (h2:p+c≤q+c'):drawnB q c' r:=⟨h.1,h.2.1,by have:=h.2.2.1;omega,by have:=h.2.2.2.1;omega,h.2.2.2.2⟩
theorem batch_evs (bs:List Int) (hb:Bytes bs) (hl:bs.length≤2000) (p o:Int) (h0 : 0≤p) (h1:p≤500000000):Evs (fun k=>Ql.f k bs p o) (drawnB p 900):=by
 unfold Ql.f
 refine Evs.bind (pick_evs bs p 2 hb hl h0 (by omega) (by omega)) ?_
 rintro ⟨u,_⟩ ⟨u0,u1,rfl⟩
 refine Evs.bind (recs_evs bs hb hl (p+1) o 4 (by omega) (by omega) (by omega) (by omega)) ?_
 rintro ⟨l,q⟩ ⟨hd,hpos,q0,q1⟩
 dsimp only at hd hpos q0 q1 ⊢
 refine Evs.bind (pick_evs bs q 3 hb hl (by omega) (by omega) (by omega)) ?_
 rintro ⟨v,_⟩ ⟨v0,v1,rfl⟩
 by_cases hv:v=0
 ·simp only [if_pos hv]
  refine Evs.bind (pick_evs bs (q+1) 3 hb hl (by omega) (by omega) (by omega)) ?_
  rintro ⟨x,_⟩ ⟨x0,x1,rfl⟩
  refine Evs.bind (pick_evs bs (q+1+1) 3 hb hl (by omega) (by omega) (by omega)) ?_
  rintro ⟨y,_⟩ ⟨y0,y1,rfl⟩
  refine Evs.bind (pick_evs bs (q+1+1+1) 5 hb hl (by omega) (by omega) (by omega)) ?_
  rintro ⟨z,_⟩ ⟨z0,z1,rfl⟩
  refine Evs.bind (pick_evs bs (q+1+1+1+1) 3 hb hl (by omega) (by omega) (by omega)) ?_
  rintro ⟨s,_⟩ ⟨s0,s1,rfl⟩
  by_cases hs:s=0
  ·simp only [if_pos hs]
   refine Evs.bind (pick_evs bs (q+1+1+1+1+1) 200 hb hl (by omega) (by omega) (by omega)) ?_
   rintro ⟨t,_⟩ ⟨t0,t1,rfl⟩
   refine Evs.bind (pick_evs bs (q+1+1+1+1+1+1) 2 hb hl (by omega) (by omega) (by omega)) ?_
   rintro ⟨e,_⟩ ⟨e0,e1,rfl⟩
   refine (batch_j0 bs hb hl _ (by omega) (by omega) _ _ _ _ _ _ ⟨by simp,fun r hr=>?_⟩ (by simp) x0).mono (fun r hr=>drawnB_mono hr (by omega) (by omega))
   rw [List.mem_singleton.1 hr]
   exact ⟨by simp,by simp⟩
  ·simp only [if_neg hs]
   exact (batch_j0 bs hb hl _ (by omega) (by omega) _ _ _ _ _ _ hd hpos (by omega)).mono (fun r hr=>drawnB_mono hr (by omega) (by omega))
 ·simp only [if_neg hv]
  exact (batch_j0 bs hb hl _ (by omega) (by omega) _ _ _ _ _ _ hd hpos (by omega)).mono (fun r hr=>drawnB_mono hr (by omega) (by omega))
abbrev Bt:=S34
abbrev rb (l:List Bt) (i:Int):Bt:=Qa l i
theorem rb_nat (l:List Bt) (j:Nat) (h:j < l.length):rb l (j:Int)=l[j]:=by
 unfold rb Qa
 rw [Int.toNat_natCast,List.getD_eq_getElem?_getD,List.getElem?_eq_getElem h]
 rfl
def smallBs (l:List Bt):Prop:=l.length≤2000000∧∀ b∈l,smallRs b.f5
theorem smallBs_at {l:List Bt} (h:smallBs l) (j:Nat) (hj:j < l.length):smallRs (rb l (j:Int)).f5:=by
 rw [rb_nat l j hj]
 exact h.2 _ (List.getElem_mem hj)
def fOff (b:Bt):Int:=(rr b.f5 0).f0
def lOff (b:Bt):Int:=(rr b.f5 ((b.f5.length:Int) - 1)).f0
def vB (b:Bt):Prop:=VB b.f1 b.f2 b.f3 b.f4 b.f5
theorem vB_pos {b:Bt} (h:vB b) : 1≤b.f5.length∧b.f5.length≤6:=h.2.1
theorem first_eq {b:Bt} (h:vB b):Q0.f b.f0 b.f1 b.f2 b.f3 b.f4 b.f5=some (fOff b):=by
 have:=vB_pos h
 unfold Q0.f
 rw [if_pos (show 0 < (b.f5.length:Int) by omega)]
 rfl
theorem last_eq {b:Bt} (h:vB b):Q2.f b.f0 b.f1 b.f2 b.f3 b.f4 b.f5=some (lOff b):=by
 have:=vB_pos h
 have e:wrap64 ((b.f5.length:Int) - 1)=(b.f5.length:Int) - 1:=wrap_id (by omega) (by omega)
 unfold Q2.f
 rw [e,if_pos (show 0≤(b.f5.length:Int) - 1 by omega),if_pos (show (b.f5.length:Int) - 1 < (b.f5.length:Int) by omega)]
 rfl
theorem lastS_eq {b:Bt} (h:vB b):Q8.f b.f0 b.f1 b.f2 b.f3 b.f4 b.f5=some (lOff b):=by
 have:=vB_pos h
 have e:wrap64 ((b.f5.length:Int) - 1)=(b.f5.length:Int) - 1:=wrap_id (by omega) (by omega)
 unfold Q8.f
 rw [e,if_pos (show 0≤(b.f5.length:Int) - 1 by omega),if_pos (show (b.f5.length:Int) - 1 < (b.f5.length:Int) by omega)]
 rfl
theorem RF_lt {l:List Rc} (h:RF l 0):∀ (d i:Nat),i+d+1 < l.length→(rr l (i:Int)).f0 < (rr l ((i+d+1:Nat):Int)).f0
 | 0,i,hi=>by
  have:=(h (i+1) (by omega) hi).2 (by omega)
  rw [show ((i+1:Nat):Int) - 1=(i:Int) by omega] at this
  exact this
 | d+1,i,hi=>by
  have h1:=RF_lt h d i (by omega)
  have:=(h (i+d+2) (by omega) (by omega)).2 (by omega)
  rw [show ((i+d+2:Nat):Int) - 1=((i+d+1:Nat):Int) by omega] at this
  exact Int.lt_trans h1 this
theorem fOff_le {b:Bt} (h:vB b):fOff b≤lOff b:=by
 have hp:=vB_pos h
 unfold fOff lOff
 by_cases h1:b.f5.length=1
 ·rw [h1]
  exact Int.le_refl _
 ·have:=RF_lt h.2.2.2 (b.f5.length - 2) 0 (by omega)
  rw [show ((0+(b.f5.length - 2)+1:Nat):Int)=(b.f5.length:Int) - 1 by omega] at this
  exact Int.le_of_lt this
def LF (l:List Bt) (i:Nat):Prop:=∀ j,i≤j→j < l.length→vB (rb l j)∧(0 < j→lOff (rb l ((j:Int) - 1)) < fOff (rb l j))
def VL (l:List Bt):Prop:=l.length≤8∧LF l 0
theorem LF_end {l:List Bt} {i:Nat} (h:l.length≤i):LF l i:=fun j h1 h2=>by omega
theorem LF_step {l:List Bt} {i:Nat} (h:i < l.length):LF l i↔(vB (rb l i)∧(0 < i→lOff (rb l ((i:Int) - 1)) < fOff (rb l i)))∧LF l (i+1):=by
 constructor
 ·intro hl
  exact ⟨hl i (Nat.le_refl _) h,fun j h1 h2=>hl j (by omega) h2⟩
 ·rintro ⟨h0,h1⟩ j hj1 hj2
  by_cases he:j=i
  ·subst he;exact h0
  ·exact h1 j (by omega) hj2
open Classical in
noncomputable def vl (l:List Bt):Bool:=decide (VL l)
theorem vl_iff (l:List Bt):vl l=true↔VL l:=by unfold vl;simp
theorem vl_of {b:Bool} {l:List Bt} (h:b=true↔VL l):b=vl l:=by
 rw [Bool.eq_iff_iff,h,vl_iff]
theorem vb_vB (b:Bt):vb b.f1 b.f2 b.f3 b.f4 b.f5=true↔vB b:=vb_iff _ _ _ _ _
theorem implLog_loop (l:List Bt) (hl:smallBs l):∀ (d i:Nat),l.length - i=d→i≤l.length→(∀ j,j < i→vB (rb l (j:Int)))→Evs (fun k=>Qn.l0 k l l (l.length:Int) (i:Int)) (fun b=>b=true↔LF l i):=by
 have hs:=hl.1
 intro d
 induction d with
 | zero=>
  intro i hd hi _
  refine Evs.succ ?_
  simp only [Qn.l0,if_neg (show ¬ (i:Int) < (l.length:Int) by omega)]
  exact Evs.done ⟨fun _=>LF_end (by omega),fun _=>rfl⟩
 | succ d ih=>
  intro i hd hi hv
  have hlt:i < l.length:=by omega
  have e1:wrap64 ((i:Int)+1)=((i+1:Nat):Int):=by rw [wrap_id (by omega) (by omega)];omega
  refine Evs.succ ?_
  simp only [Qn.l0,if_pos (show (i:Int) < (l.length:Int) by omega),if_pos (show (0:Int)≤(i:Int) by omega),e1]
  refine Evs.bind (Evs.of (implB (rb l i).f0 (rb l i).f1 (rb l i).f2 (rb l i).f3 (rb l i).f4 (rb l i).f5 (smallBs_at hl i hlt)) rfl) ?_
  rintro _ rfl
  by_cases hb:vB (rb l i)
  ·have hb2:=(vb_vB (rb l i)).2 hb
   simp only [if_pos hb2]
   have hv2:∀ j,j < i+1→vB (rb l (j:Int)):=fun j hj=>by
    by_cases he:j=i
    ·subst he;exact hb
    ·exact hv j (by omega)
   by_cases h0:i=0
   ·subst h0
    simp only [if_neg (show ¬ ((0:Nat):Int) > 0 by omega)]
    refine (ih 1 (by omega) (by omega) hv2).mono fun b hb3=>?_
    rw [hb3,LF_step hlt]
    exact ⟨fun h=>⟨⟨hb,fun h=>absurd h (by omega)⟩,h⟩,fun h=>h.2⟩
   ·have e2:wrap64 ((i:Int) - 1)=(i:Int) - 1:=wrap_id (by omega) (by omega)
    have hp:vB (rb l ((i:Int) - 1)):=by have:=hv (i - 1) (by omega);rwa [show ((i - 1:Nat):Int)=(i:Int) - 1 by omega] at this
    have f1:=last_eq hp
    have f2:=first_eq hb
    simp only [if_pos (show (i:Int) > 0 by omega),e2,if_pos (show 0≤(i:Int) - 1 by omega),if_pos (show (i:Int) - 1 < (l.length:Int) by omega)]
    rw [show (Qa l ((i:Int) - 1))=rb l ((i:Int) - 1) from rfl,show (Qa l (i:Int))=rb l (i:Int) from rfl,f1,f2]
    simp only [bsome]
    by_cases hc:lOff (rb l ((i:Int) - 1)) ≥ fOff (rb l i)
    ·simp only [if_pos hc]
     refine Evs.done ?_
     rw [LF_step hlt]
     simp only [Bool.false_eq_true,false_iff]
     intro h
     have:=h.1.2 (by omega)
     omega
    ·simp only [if_neg hc]
     refine (ih (i+1) (by omega) (by omega) hv2).mono fun b hb3=>?_
     rw [hb3,LF_step hlt]
     exact ⟨fun h=>⟨⟨hb,fun _=>by omega⟩,h⟩,fun h=>h.2⟩
  ·have hb2:¬ vb (rb l i).f1 (rb l i).f2 (rb l i).f3 (rb l i).f4 (rb l i).f5=true:=fun h=>hb ((vb_vB (rb l i)).1 h)
   simp only [if_neg hb2]
   refine Evs.done ?_
   rw [LF_step hlt]
   simp only [Bool.false_eq_true,false_iff]
   exact fun h=>hb h.1.1
theorem implLog (l:List Bt) (hl:smallBs l):Ev (fun k=>Qn.f k l) (vl l):=by
 have hs:=hl.1
 unfold Qn.f
 by_cases h:(l.length:Int) > 8
 ·simp only [if_pos h]
  have:vl l=false:=by rw [← Bool.not_eq_true,vl_iff];exact fun h2=>by have:=h2.1;omega
  rw [this]
  exact ev_some _
 ·simp only [if_neg h]
  obtain ⟨b,h1,h2⟩:=implLog_loop l hl l.length 0 (by omega) (by omega) (fun j hj=>by omega)
  have:b=vl l:=vl_of (h2.trans ⟨fun h3=>⟨by omega,h3⟩,fun h3=>h3.2⟩)
  rw [← this]
  exact h1
theorem specLog_loop (l:List Bt) (hl:smallBs l):∀ (d i:Nat),l.length - i=d→i≤l.length→(∀ j,j < i→vB (rb l (j:Int)))→Evs (fun k=>Qo.l0 k l (i:Int)) (fun b=>b=true↔LF l i∧l.length≤8):=by
 have hs:=hl.1
 intro d
 induction d with
 | zero=>
  intro i hd hi _
  refine Evs.succ ?_
  simp only [Qo.l0,if_neg (show ¬ (i:Int) < (l.length:Int) by omega)]
  refine Evs.done ?_
  rw [decide_eq_true_eq]
  exact ⟨fun h=>⟨LF_end (by omega),by omega⟩,fun h=>by omega⟩
 | succ d ih=>
  intro i hd hi hv
  have hlt:i < l.length:=by omega
  have e1:wrap64 ((i:Int)+1)=((i+1:Nat):Int):=by rw [wrap_id (by omega) (by omega)];omega
  refine Evs.succ ?_
  simp only [Qo.l0,if_pos (show (i:Int) < (l.length:Int) by omega),if_pos (show (0:Int)≤(i:Int) by omega),e1]
  refine Evs.bind (Evs.of (specB (rb l i).f0 (rb l i).f1 (rb l i).f2 (rb l i).f3 (rb l i).f4 (rb l i).f5 (smallBs_at hl i hlt)) rfl) ?_
  rintro _ rfl
  by_cases hb:vB (rb l i)
  ·have hb2:=(vb_vB (rb l i)).2 hb
   simp only [if_pos hb2]
   have hv2:∀ j,j < i+1→vB (rb l (j:Int)):=fun j hj=>by
    by_cases he:j=i
    ·subst he;exact hb
    ·exact hv j (by omega)
   by_cases h0:i=0
   ·subst h0
    simp only [if_neg (show ¬ ((0:Nat):Int) > 0 by omega)]
    refine (ih 1 (by omega) (by omega) hv2).mono fun b hb3=>?_
    rw [hb3,LF_step hlt]
    exact ⟨fun h=>⟨⟨⟨hb,fun h=>absurd h (by omega)⟩,h.1⟩,h.2⟩,fun h=>⟨h.1.2,h.2⟩⟩
   ·have e2:wrap64 ((i:Int) - 1)=(i:Int) - 1:=wrap_id (by omega) (by omega)
    have hp:vB (rb l ((i:Int) - 1)):=by have:=hv (i - 1) (by omega);rwa [show ((i - 1:Nat):Int)=(i:Int) - 1 by omega] at this
    have f1:=lastS_eq hp
    have hpos:=(vB_pos hb).1
    simp only [if_pos (show (i:Int) > 0 by omega),e2,if_pos (show 0≤(i:Int) - 1 by omega),if_pos (show (i:Int) - 1 < (l.length:Int) by omega)]
    rw [show (Qa l ((i:Int) - 1))=rb l ((i:Int) - 1) from rfl,show (Qa l (i:Int))=rb l (i:Int) from rfl,f1]
    simp only [bsome,if_pos (show 0 < ((rb l (i:Int)).f5.length:Int) by omega)]
    by_cases hc:lOff (rb l ((i:Int) - 1)) ≥ fOff (rb l i)
    ·simp only [if_pos (show lOff (rb l ((i:Int) - 1)) ≥ (Qb (rb l (i:Int)).f5 0).f0 from hc)]
     refine Evs.done ?_
     rw [LF_step hlt]
     simp only [Bool.false_eq_true,false_iff]
     intro h
     have:=h.1.1.2 (by omega)
     omega
    ·simp only [if_neg (show ¬ lOff (rb l ((i:Int) - 1)) ≥ (Qb (rb l (i:Int)).f5 0).f0 from hc)]
     refine (ih (i+1) (by omega) (by omega) hv2).mono fun b hb3=>?_
     rw [hb3,LF_step hlt]
     exact ⟨fun h=>⟨⟨⟨hb,fun _=>by omega⟩,h.1⟩,h.2⟩,fun h=>⟨h.1.2,h.2⟩⟩
  ·have hb2:¬ vb (rb l i).f1 (rb l i).f2 (rb l i).f3 (rb l i).f4 (rb l i).f5=true:=fun h=>hb ((vb_vB (rb l i)).1 h)
   simp only [if_neg hb2]
   refine Evs.done ?_
   rw [LF_step hlt]
   simp only [Bool.false_eq_true,false_iff]
   exact fun h=>hb h.1.1.1
theorem specLog (l:List Bt) (hl:smallBs l):Ev (fun k=>Qo.f k l) (vl l):=by
 unfold Qo.f
 obtain ⟨b,h1,h2⟩:=specLog_loop l hl l.length 0 (by omega) (by omega) (fun j hj=>by omega)
 have:b=vl l:=vl_of (h2.trans ⟨fun h3=>⟨h3.2,h3.1⟩,fun h3=>⟨h3.2,h3.1⟩⟩)
 rw [← this]
 exact h1
theorem VL_at {l:List Bt} (h:VL l) (j:Nat) (hj:j < l.length):vB (rb l (j:Int)):=(h.2 j (Nat.zero_le _) hj).1
theorem VL_lt {l:List Bt} (h:VL l):∀ (d i:Nat),i+d+1 < l.length→fOff (rb l (i:Int)) < fOff (rb l ((i+d+1:Nat):Int))
 | 0,i,hi=>by
  have h1:=(h.2 (i+1) (Nat.zero_le _) hi).2 (by omega)
  rw [show ((i+1:Nat):Int) - 1=(i:Int) by omega] at h1
  have:=fOff_le (VL_at h i (by omega))
  exact Int.lt_of_le_of_lt this h1
 | d+1,i,hi=>by
  have h0:=VL_lt h d i (by omega)
  have h1:=(h.2 (i+d+2) (Nat.zero_le _) (by omega)).2 (by omega)
  rw [show ((i+d+2:Nat):Int) - 1=((i+d+1:Nat):Int) by omega] at h1
  have:=fOff_le (VL_at h (i+d+1) (by omega))
  exact Int.lt_trans h0 (Int.lt_of_le_of_lt this h1)
theorem VL_lt' {l:List Bt} (h:VL l) {i j:Nat} (hij:i < j) (hj:j < l.length):fOff (rb l (i:Int)) < fOff (rb l (j:Int)):=by
 have:=VL_lt h (j - i - 1) i (by omega)
 rwa [show i+(j - i - 1)+1=j by omega] at this
def drawnBs (n:Nat) (l:List Bt):Prop:=l.length≤n∧∀ b∈l,drawnR 5 b.f5
theorem drawnBs_add {n:Nat} {l:List Bt} (h:drawnBs n l) {b:Bt} (hb:drawnR 5 b.f5):drawnBs (n+1) (l ++ [b]):=by
 refine ⟨by have:=h.1;simp;omega,fun x hx=>?_⟩
 rcases List.mem_append.1 hx with hx|hx
 ·exact h.2 x hx
 ·rw [List.mem_singleton.1 hx];exact hb
theorem drawnBs_mono {n m:Nat} {l:List Bt} (h:drawnBs n l) (hm:n≤m):drawnBs m l:=⟨by have:=h.1;omega,h.2⟩
theorem drawnBs_small {l:List Bt} (h:drawnBs 10 l):smallBs l:=⟨by have:=h.1;omega,fun b hb=>drawnR_small (by omega) (h.2 b hb)⟩
theorem drawnBs_set {n:Nat} {l:List Bt} (h:drawnBs n l) (i:Nat) {b:Bt} (hb:drawnR 5 b.f5):drawnBs n (l.set i b):=by
 refine ⟨by rw [List.length_set];exact h.1,fun x hx=>?_⟩
 rcases List.mem_or_eq_of_mem_set hx with hx|hx
 ·exact h.2 x hx
 ·rw [hx];exact hb
theorem lim3 {n c:Nat} (h:n≤10) (hc : 2000 < c):n < c:=by omega
theorem log_end (bs:List Int) (hb:Bytes bs) (hl:bs.length≤2000) (l:List Bt) (n o i p:Int) (hn:n≤9) (hi:¬ i < n) (hdr:drawnBs 9 l) (hle:n≤l.length) (h0 : 0≤p) (h1:p≤900000000) :
  Evs (fun k=>Qh.l0 k l n o i bs p) (fun r=>drawnBs 10 r.1):=by
 refine Evs.succ ?_
 simp only [Qh.l0,if_neg hi]
 by_cases h1n:n > 1
 ·simp only [if_pos h1n]
  refine Evs.bind (pick_evs bs p 30 hb hl h0 (by omega) (by omega)) ?_
  rintro ⟨u,_⟩ ⟨u0,u1,rfl⟩
  by_cases hu:u=0
  ·simp only [if_pos hu,if_pos (show 0 < (l.length:Int) by omega),if_pos (show 1 < (l.length:Int) by omega)]
   refine Evs.done (drawnBs_set (drawnBs_mono hdr (by omega)) _ ?_)
   show drawnR 5 (rb l ((0:Nat):Int)).f5
   rw [rb_nat l 0 (by omega)]
   exact hdr.2 _ (List.getElem_mem (by omega))
  ·simp only [if_neg hu]
   exact Evs.done (drawnBs_mono hdr (by omega))
 ·simp only [if_neg h1n]
  exact Evs.done (drawnBs_mono hdr (by omega))
theorem log_loop (bs:List Int) (hb:Bytes bs) (hl:bs.length≤2000) (n:Int) (hn:n≤9):∀ (d:Nat) (l:List Bt) (o i p:Int),n - i≤d→0≤i→i≤max n 0→drawnBs i.toNat l→(l.length:Int)=i→0≤p→p+2000 * d≤400000000 →
  Evs (fun k=>Qh.l0 k l n o i bs p) (fun r=>drawnBs 10 r.1):=by
 intro d
 induction d with
 | zero=>
  intro l o i p hd hi hin hdr hle h0 h1
  exact log_end bs hb hl l n o i p hn (by omega) (drawnBs_mono hdr (by omega)) (by omega) h0 (by omega)
 | succ d ih=>
  intro l o i p hd hi hin hdr hle h0 h1
  by_cases hlt:i < n
  ·have e1:wrap64 (i+1)=i+1:=wrap_id (by omega) (by omega)
   have hlim:l.length < 2513169434916:=lim3 (by omega) (by omega)
   refine Evs.succ ?_
   simp only [Qh.l0,if_pos hlt]
   refine Evs.bind (batch_evs bs hb hl p o h0 (by omega)) ?_
   rintro ⟨a0,a1,a2,a3,a4,rs,q⟩ ⟨hd5,hrp,q0,q1,-⟩
   dsimp only at hd5 hrp q0 q1 ⊢
   have hlen5:=hd5.1
   refine Evs.bind (pick_evs bs q 20 hb hl (by omega) (by omega) (by omega)) ?_
   rintro ⟨u,_⟩ ⟨u0,u1,rfl⟩
   have main:∀ c:Bool,Evs (fun k=>Qh.j2 k l n o i c bs (q+1) a0 a1 a2 a3 a4 rs) (fun r=>drawnBs 10 r.1):=by
    intro c
    refine Evs.succ ?_
    cases c with
    | true=>
     simp only [Qh.j2,if_true]
     refine Evs.bind (recs_evs bs hb hl (q+1) o 2 (by omega) (by omega) (by omega) (by omega)) ?_
     rintro ⟨ss,t⟩ ⟨hd2,hsp,t0,t1⟩
     dsimp only at hd2 hsp t0 t1 ⊢
     have hlen2:=hd2.1
     have e2:wrap64 ((ss.length:Int) - 1)=(ss.length:Int) - 1:=wrap_id (by omega) (by omega)
     simp only [if_pos hlim,e2,if_pos (show 0≤(ss.length:Int) - 1 by omega),if_pos (show (ss.length:Int) - 1 < (ss.length:Int) by omega)]
     refine Evs.bind (pick_evs bs t 4 hb hl (by omega) (by omega) (by omega)) ?_
     rintro ⟨v,_⟩ ⟨v0,v1,rfl⟩
     simp only [e1]
     refine ih _ _ (i+1) (t+1) (by omega) (by omega) (by omega) ?_ (by simp;omega) (by omega) (by omega)
     rw [show (i+1).toNat=i.toNat+1 by omega]
     exact drawnBs_add hdr (drawnR_mono hd2 (by omega))
    | false=>
     have e2:wrap64 ((rs.length:Int) - 1)=(rs.length:Int) - 1:=wrap_id (by omega) (by omega)
     simp only [Qh.j2,Bool.false_eq_true,if_false,if_pos hlim,e2,if_pos (show 0≤(rs.length:Int) - 1 by omega),if_pos (show (rs.length:Int) - 1 < (rs.length:Int) by omega)]
     refine Evs.bind (pick_evs bs (q+1) 4 hb hl (by omega) (by omega) (by omega)) ?_
     rintro ⟨v,_⟩ ⟨v0,v1,rfl⟩
     simp only [e1]
     refine ih _ _ (i+1) (q+1+1) (by omega) (by omega) (by omega) ?_ (by simp;omega) (by omega) (by omega)
     rw [show (i+1).toNat=i.toNat+1 by omega]
     exact drawnBs_add hdr hd5
   by_cases hu:u > 0
   ·simp only [if_pos hu]
    obtain ⟨b,hb2⟩:∃ b,Ev (fun k=>Qi.f k a0 a1 a2 a3 a4 rs) b:=⟨_,specB a0 a1 a2 a3 a4 rs (drawnR_small (by omega) hd5)⟩
    refine Evs.bind (Evs.of (Q:=fun x=>x=b) hb2 rfl) ?_
    rintro _ rfl
    exact main _
   ·simp only [if_neg hu]
    exact main _
  ·exact log_end bs hb hl l n o i p hn hlt (drawnBs_mono hdr (by omega)) (by omega) h0 (by omega)
theorem log_evs (bs:List Int) (hb:Bytes bs) (hl:bs.length≤2000):Evs (fun k=>Qh.f k bs 0) (fun r=>drawnBs 10 r.1):=by
 have main:∀ (n p:Int),n≤9→0≤p→p≤100→Evs (fun k=>Qh.j0 k [] n bs p) (fun r=>drawnBs 10 r.1):=by
  intro n p hn h0 h1
  refine Evs.succ ?_
  simp only [Qh.j0]
  refine Evs.bind (pick_evs bs p 10 hb hl h0 (by omega) (by omega)) ?_
  rintro ⟨u,_⟩ ⟨u0,u1,rfl⟩
  exact log_loop bs hb hl n hn 10 [] u 0 (p+1) (by omega) (by omega) (by omega) ⟨by simp,fun b hb=>by cases hb⟩ (by simp) (by omega) (by omega)
 unfold Qh.f
 simp only [bsome]
 refine Evs.bind (pick_evs bs 0 5 hb hl (by omega) (by omega) (by omega)) ?_
 rintro ⟨u,_⟩ ⟨u0,u1,rfl⟩
 refine Evs.bind (pick_evs bs (0+1) 16 hb hl (by omega) (by omega) (by omega)) ?_
 rintro ⟨v,_⟩ ⟨v0,v1,rfl⟩
 by_cases hv:v=0
 ·simp only [if_pos hv]
  refine Evs.bind (pick_evs bs (0+1+1) 3 hb hl (by omega) (by omega) (by omega)) ?_
  rintro ⟨x,_⟩ ⟨x0,x1,rfl⟩
  simp only [if_pos x0,if_pos (show x < (([0,8,9]:List Int).length:Int) from x1)]
  refine main _ _ ?_ (by omega) (by omega)
  have:x=0∨x=1∨x=2:=by omega
  rcases this with rfl|rfl|rfl <;> decide
 ·simp only [if_neg hv]
  rw [show wrap64 (1+u)=1+u from wrap_id (by omega) (by omega)]
  exact main _ _ (by omega) (by omega) (by omega)
theorem sameInts_loop (a b:List Int) (hl:a.length=b.length) (hs:a.length≤1000000000000000):∀ (d i:Nat),a.length - i=d→i≤a.length→Ev (fun k=>Qq.l0 k a b (i:Int)) (decide (a.drop i=b.drop i)):=by
 intro d
 induction d with
 | zero=>
  intro i hd hi
  rw [show a.drop i = [] from List.drop_eq_nil_of_le (by omega),show b.drop i = [] from List.drop_eq_nil_of_le (by omega)]
  refine ev_succ ?_
  simp only [Qq.l0,if_neg (show ¬ (i:Int) < (a.length:Int) by omega),decide_true]
  exact ev_some _
 | succ d ih=>
  intro i hd hi
  have hlt:(i:Int) < (a.length:Int):=by omega
  have e1:wrap64 ((i:Int)+1)=((i+1:Nat):Int):=by rw [wrap_id (by omega) (by omega)];omega
  rw [drop_int (show i < a.length by omega),drop_int (show i < b.length by omega)]
  refine ev_succ ?_
  simp only [Qq.l0,if_pos hlt,if_pos (show (0:Int)≤i by omega),if_pos (show (i:Int) < (b.length:Int) by omega),e1]
  by_cases h0:rd a i=rd b i
  ·simp only [if_pos h0]
   have:=ih (i+1) (by omega) (by omega)
   simpa [h0] using this
  ·simp only [if_neg h0]
   rw [decide_eq_false (by simp [h0])]
   exact ev_some _
theorem sameInts (a b:List Int) (hs:a.length≤1000000000000000):Ev (fun k=>Qq.f k a b) (decide (a=b)):=by
 unfold Qq.f
 by_cases h:(a.length:Int)=(b.length:Int)
 ·simp only [if_pos h]
  have:=sameInts_loop a b (by omega) hs a.length 0 (by omega) (by omega)
  simpa using this
 ·simp only [if_neg h]
  rw [decide_eq_false (fun e=>h (by rw [e]))]
  exact ev_some _
theorem Rc_ext {a b:Rc} (h0:a.f0=b.f0) (h1:a.f1=b.f1) (h2:a.f2=b.f2) (h3:a.f3=b.f3) (h4:a.f4=b.f4) (h5:a.f5=b.f5):a=b:=by
 cases a
 cases b
 simp_all
instance:DecidableEq Rc:=fun a b=>decidable_of_iff (a.f0=b.f0∧a.f1=b.f1∧a.f2=b.f2∧a.f3=b.f3∧a.f4=b.f4∧a.f5=b.f5) ⟨fun h=>Rc_ext h.1 h.2.1 h.2.2.1 h.2.2.2.1 h.2.2.2.2.1 h.2.2.2.2.2,fun h=>by rw [h];simp⟩
theorem sameRec (a b:Rc) (hs:smallR a):Ev (fun k=>Rb.f k a.f0 a.f1 a.f2 a.f3 a.f4 a.f5 b.f0 b.f1 b.f2 b.f3 b.f4 b.f5) (decide (a=b)):=by
 unfold Rb.f
 by_cases h0:a.f0=b.f0
 ·by_cases h1:a.f1=b.f1
  ·by_cases h2:a.f2=b.f2
   ·by_cases h4:a.f4=b.f4
    ·simp only [if_pos h0,if_pos h1,if_pos (show (a.f2==b.f2)=true by simpa using h2),if_pos (show (a.f4==b.f4)=true by simpa using h4)]
     refine Ev.bind (sameInts a.f3 b.f3 hs.1) ?_
     by_cases h3:a.f3=b.f3
     ·simp only [if_pos (decide_eq_true h3)]
      refine Ev.bind (sameInts a.f5 b.f5 hs.2) ?_
      by_cases h5:a.f5=b.f5
      ·rw [decide_eq_true h5,decide_eq_true (Rc_ext h0 h1 h2 h3 h4 h5)]
       exact ev_some _
      ·rw [decide_eq_false h5,decide_eq_false (fun e=>h5 (by rw [e]))]
       exact ev_some _
     ·simp only [decide_eq_false h3,Bool.false_eq_true,if_false]
      rw [decide_eq_false (fun e=>h3 (by rw [e]))]
      exact ev_some _
    ·simp only [if_pos h0,if_pos h1,if_pos (show (a.f2==b.f2)=true by simpa using h2),if_neg (show ¬ (a.f4==b.f4)=true by simpa using h4)]
     rw [decide_eq_false (fun e=>h4 (by rw [e]))]
     exact ev_some _
   ·simp only [if_pos h0,if_pos h1,if_neg (show ¬ (a.f2==b.f2)=true by simpa using h2)]
    rw [decide_eq_false (fun e=>h2 (by rw [e]))]
    exact ev_some _
  ·simp only [if_pos h0,if_neg h1]
   rw [decide_eq_false (fun e=>h1 (by rw [e]))]
   exact ev_some _
 ·simp only [if_neg h0]
  rw [decide_eq_false (fun e=>h0 (by rw [e]))]
  exact ev_some _
theorem drop_rec {l:List Rc} {i:Nat} (h:i < l.length):l.drop i=rr l i::l.drop (i+1):=by
 rw [List.drop_eq_getElem_cons h,rr_nat l i h]
theorem sameRecs_loop (a b:List Rc) (hl:a.length=b.length) (hs:smallRs a):∀ (d i:Nat),a.length - i=d→i≤a.length→Ev (fun k=>Qj.l0 k a b (i:Int)) (decide (a.drop i=b.drop i)):=by
 have hlen:=hs.1
 intro d
 induction d with
 | zero=>
  intro i hd hi
  rw [show a.drop i = [] from List.drop_eq_nil_of_le (by omega),show b.drop i = [] from List.drop_eq_nil_of_le (by omega)]
  refine ev_succ ?_
  simp only [Qj.l0,if_neg (show ¬ (i:Int) < (a.length:Int) by omega),decide_true]
  exact ev_some _
 | succ d ih=>
  intro i hd hi
  have hlt:(i:Int) < (a.length:Int):=by omega
  have e1:wrap64 ((i:Int)+1)=((i+1:Nat):Int):=by rw [wrap_id (by omega) (by omega)];omega
  rw [drop_rec (show i < a.length by omega),drop_rec (show i < b.length by omega)]
  refine ev_succ ?_
  simp only [Qj.l0,if_pos hlt,if_pos (show (0:Int)≤i by omega),if_pos (show (i:Int) < (b.length:Int) by omega),e1]
  refine Ev.bind (sameRec (rr a i) (rr b i) (smallRs_at hs i (by omega))) ?_
  by_cases h0:rr a i=rr b i
  ·simp only [if_pos (decide_eq_true h0)]
   have:=ih (i+1) (by omega) (by omega)
   simpa [h0] using this
  ·simp only [decide_eq_false h0,Bool.false_eq_true,if_false]
   rw [decide_eq_false (by simp [h0])]
   exact ev_some _
theorem sameRecs (a b:List Rc) (hs:smallRs a):Ev (fun k=>Qj.f k a b) (decide (a=b)):=by
 unfold Qj.f
 by_cases h:(a.length:Int)=(b.length:Int)
 ·simp only [if_pos h]
  have:=sameRecs_loop a b (by omega) hs a.length 0 (by omega) (by omega)
  simpa using this
 ·simp only [if_neg h]
  rw [decide_eq_false (fun e=>h (by rw [e]))]
  exact ev_some _
end Go.Proofs.Ytkhjmhdgcmffaaa.UQ
