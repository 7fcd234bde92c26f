/- The law FnJoinNotCard holds (part 8 of 8; merged by pack2.py). -/
import Derived.Test.YtlckpbjldmkibaaDoorCards
import Derived.Test.YtlckpbjldmkibaaDoorTie
import Derived.ProofKit
import Derived.OpenShut
import Derived.ShutString
import Derived.ChangeOld
import Derived.ChangeVars
import Derived.LaidMore
import Derived.LaidLaws
import Derived.LaidHandle
import Derived.Stop.Joined
import Derived.Stop.LaidErr
import Derived.SevenTiedAt
import Derived.Test.YtlckpbjldmkibaaDoorFnJoinNotCardK6
set_option maxRecDepth 1000000
open List (setIfInBounds_toArray set_cons_zero set_cons_succ map_toArray map_cons map_nil length_drop length_take)
namespace Go.Proofs.YtlckpbjldmkibaaDoor.Q
open Go.RowKit Go.Proofs.YtlckpbjldmkibaaDoor.T Go.Proofs.YtlckpbjldmkibaaDoorW.PrintWords Go.Proofs.YtlckpbjldmkibaaDoorW.PrintLast
set_option linter.unusedVariables false
set_option linter.unusedSimpArgs false
theorem lim2 {n c:Nat} (h:n≤2000) (hc : 2000 < c):n < c:=by omega
theorem part_loop (bs:List Int) (hb:Bytes bs) (hl:bs.length≤2000):∀ (d:Nat) (l:List Int) (n i p:Int),n - i≤d→0≤i→(l.length:Int)≤i→(l.length:Int)≤12→n≤12→0≤p→p+2 * d≤900000000 →
  Evs (fun k=>Qk.l0 k l n i bs p) (fun r=>r.2.1.length≤12∧p≤r.2.2∧r.2.2≤p+2 * d):=by
 intro d
 induction d with
 | zero=>
  intro l n i p hd hi hll h12 hn h0 h1
  refine Evs.succ ?_
  simp only [Qk.l0,if_neg (show ¬ i < n by omega)]
  exact Evs.done ⟨by dsimp only;omega,by dsimp only;omega,by dsimp only;omega⟩
 | succ d ih=>
  intro l n i p hd hi hll h12 hn h0 h1
  refine Evs.succ ?_
  by_cases hlt:i < n
  ·have e1:wrap64 (i+1)=i+1:=wrap_id (by omega) (by omega)
   simp only [Qk.l0,if_pos hlt,bsome,e1]
   refine Evs.bind (pick_evs bs p 256 hb hl h0 (by omega) (by omega)) ?_
   rintro ⟨u,_⟩ ⟨u0,u1,rfl⟩
   refine Evs.bind (pick_evs bs (p+1) 4 hb hl (by omega) (by omega) (by omega)) ?_
   rintro ⟨v,_⟩ ⟨v0,v1,rfl⟩
   simp only [if_pos v0,if_pos (show v < (([1,2,3,u]:List Int).length:Int) from v1),if_pos (show l.length < 17592186044416 from lim2 (by omega) (by omega))]
   have h:=ih (l ++ [rd [1,2,3,u] v]) n (i+1) (p+1+1) (by omega) (by omega) (by simp;omega) (by simp;omega) hn (by omega) (by omega)
   exact h.mono (fun r hr=>⟨hr.1,by have:=hr.2.1;omega,by have:=hr.2.2;omega⟩)
  ·simp only [Qk.l0,if_neg hlt]
   exact Evs.done ⟨by dsimp only;omega,by dsimp only;omega,by dsimp only;omega⟩
theorem part_evs (bs:List Int) (hb:Bytes bs) (hl:bs.length≤2000) (p:Int) (h0 : 0≤p) (h1:p≤800000000):Evs (fun k=>Qk.f k bs p) (fun r=>r.2.1.length≤12∧p≤r.2.2∧r.2.2≤p+30):=by
 unfold Qk.f
 refine Evs.bind (pick_evs bs p 4 hb hl h0 (by omega) (by omega)) ?_
 rintro ⟨u,_⟩ ⟨u0,u1,rfl⟩
 by_cases hu:u=0
 ·simp only [if_pos hu]
  exact Evs.done ⟨by simp,by dsimp only;omega,by dsimp only;omega⟩
 ·simp only [if_neg hu,bsome]
  refine Evs.bind (pick_evs bs (p+1) 5 hb hl (by omega) (by omega) (by omega)) ?_
  rintro ⟨v,_⟩ ⟨v0,v1,rfl⟩
  refine Evs.bind (pick_evs bs (p+1+1) 12 hb hl (by omega) (by omega) (by omega)) ?_
  rintro ⟨x,_⟩ ⟨x0,x1,rfl⟩
  by_cases hx:x=0
  ·simp only [if_pos hx]
   refine Evs.succ ?_
   simp only [Qk.j0]
   have h:=part_loop bs hb hl 12 [] 12 0 (p+1+1+1) (by omega) (by omega) (by simp) (by simp) (by omega) (by omega) (by omega)
   exact h.mono (fun r hr=>⟨hr.1,by have:=hr.2.1;omega,by have:=hr.2.2;omega⟩)
  ·simp only [if_neg hx]
   refine Evs.succ ?_
   simp only [Qk.j0]
   have h:=part_loop bs hb hl 12 [] v 0 (p+1+1+1) (by omega) (by omega) (by simp) (by simp) (by omega) (by omega) (by omega)
   exact h.mono (fun r hr=>⟨hr.1,by have:=hr.2.1;omega,by have:=hr.2.2;omega⟩)
def drawnR (n:Nat) (l:List Rc):Prop:=l.length≤n∧∀ r∈l,r.f3.length≤12∧r.f5.length≤12
theorem drawnR_add {n:Nat} {l:List Rc} (h:drawnR n l) {r:Rc} (h3:r.f3.length≤12) (h5:r.f5.length≤12):drawnR (n+1) (l ++ [r]):=by
 refine ⟨by have:=h.1;simp;omega,fun x hx=>?_⟩
 rcases List.mem_append.1 hx with hx|hx
 ·exact h.2 x hx
 ·rw [List.mem_singleton.1 hx]
  exact ⟨h3,h5⟩
theorem drawnR_mono {n m:Nat} {l:List Rc} (h:drawnR n l) (hm:n≤m):drawnR m l:=⟨by have:=h.1;omega,h.2⟩
theorem recs_loop (bs:List Int) (hb:Bytes bs) (hl:bs.length≤2000) (n:Int) (hn:n≤100):∀ (d:Nat) (o:Int) (l:List Rc) (t i p:Int),n - i≤d→0≤i→drawnR i.toNat l→(0 < i→0 < l.length)→0≤p→p+70 * d≤700000000 →
  Evs (fun k=>Qf.l0 k o l n t i bs p) (fun r=>drawnR (max i n).toNat r.1∧(0 < max i n→0 < r.1.length)∧p≤r.2∧r.2≤p+70 * d):=by
 intro d
 induction d with
 | zero=>
  intro o l t i p hd hi hll hpos h0 h1
  refine Evs.succ ?_
  simp only [Qf.l0,if_neg (show ¬ i < n by omega)]
  exact Evs.done ⟨by dsimp only;exact drawnR_mono hll (by omega),by dsimp only;intro h;exact hpos (by omega),by dsimp only;omega,by dsimp only;omega⟩
 | succ d ih=>
  intro o l t i p hd hi hll hpos h0 h1
  refine Evs.succ ?_
  by_cases hlt:i < n
  ·have e1:wrap64 (i+1)=i+1:=wrap_id (by omega) (by omega)
   have hlen:=hll.1
   simp only [Qf.l0,if_pos hlt]
   refine Evs.bind (part_evs bs hb hl p h0 (by omega)) ?_
   rintro ⟨kh,kl,p1⟩ ⟨hk,q0,q1⟩
   dsimp only at hk q0 q1 ⊢
   refine Evs.bind (part_evs bs hb hl p1 (by omega) (by omega)) ?_
   rintro ⟨vh,vl,p2⟩ ⟨hv,q2,q3⟩
   dsimp only at hv q2 q3 ⊢
   have main:∀ (c:Bool) (q:Int),0≤q→p≤q→q≤p2+1→Evs (fun k=>Qf.j1 k o l n t i vh vl c bs q o t kh kl false) (fun r=>drawnR (max i n).toNat r.1∧(0 < max i n→0 < r.1.length)∧p≤r.2∧r.2≤p+70 * (d+1:Nat)):=by
    intro c q hq0 hq1 hq2
    refine Evs.succ ?_
    have hlim:l.length < 1759218604441:=lim2 (by omega) (by omega)
    cases c with
    | true=>
     simp only [Qf.j1,if_true,if_pos hlim,e1]
     refine Evs.bind (pick_evs bs q 3 hb hl (by omega) (by omega) (by omega)) ?_
     rintro ⟨u,_⟩ ⟨u0,u1,rfl⟩
     refine Evs.bind (pick_evs bs (q+1) 5 hb hl (by omega) (by omega) (by omega)) ?_
     rintro ⟨v,_⟩ ⟨v0,v1,rfl⟩
     refine Evs.bind (pick_evs bs (q+1+1) 30 hb hl (by omega) (by omega) (by omega)) ?_
     rintro ⟨x,_⟩ ⟨x0,x1,rfl⟩
     have h:=ih (wrap64 (wrap64 (o+1)+wrap64 (Int.tdiv v 4))) (l ++ [⟨o,t,kh,[u],vh,vl⟩]) (mx (wrap64 (wrap64 (t+x) - 6)) 0) (i+1) (q+1+1+1) (by omega) (by omega) (drawnR_mono (drawnR_add hll (by simp) hv) (by omega)) (fun _=>by simp) (by omega) (by omega)
     rw [show max (i+1) n=max i n by omega] at h
     exact h.mono (fun r hr=>⟨hr.1,hr.2.1,by have:=hr.2.2.1;omega,by have:=hr.2.2.2;omega⟩)
    | false=>
     simp only [Qf.j1,Bool.false_eq_true,if_false,if_pos hlim,e1]
     refine Evs.bind (pick_evs bs q 5 hb hl (by omega) (by omega) (by omega)) ?_
     rintro ⟨v,_⟩ ⟨v0,v1,rfl⟩
     refine Evs.bind (pick_evs bs (q+1) 30 hb hl (by omega) (by omega) (by omega)) ?_
     rintro ⟨x,_⟩ ⟨x0,x1,rfl⟩
     have h:=ih (wrap64 (wrap64 (o+1)+wrap64 (Int.tdiv v 4))) (l ++ [⟨o,t,kh,kl,vh,vl⟩]) (mx (wrap64 (wrap64 (t+x) - 6)) 0) (i+1) (q+1+1) (by omega) (by omega) (drawnR_mono (drawnR_add hll hk hv) (by omega)) (fun _=>by simp) (by omega) (by omega)
     rw [show max (i+1) n=max i n by omega] at h
     exact h.mono (fun r hr=>⟨hr.1,hr.2.1,by have:=hr.2.2.1;omega,by have:=hr.2.2.2;omega⟩)
   by_cases hkh:kh=true
   ·simp only [if_pos hkh]
    refine Evs.bind (pick_evs bs p2 2 hb hl (by omega) (by omega) (by omega)) ?_
    rintro ⟨u,_⟩ ⟨u0,u1,rfl⟩
    exact main (u==0) (p2+1) (by omega) (by omega) (by omega)
   ·simp only [if_neg hkh]
    exact main false p2 (by omega) (by omega) (by omega)
  ·simp only [Qf.l0,if_neg hlt]
   exact Evs.done ⟨by dsimp only;exact drawnR_mono hll (by omega),by dsimp only;intro h;exact hpos (by omega),by dsimp only;omega,by dsimp only;omega⟩
theorem recs_evs (bs:List Int) (hb:Bytes bs) (hl:bs.length≤2000) (p o m:Int) (h0 : 0≤p) (h1:p≤600000000) (hm : 1≤m) (hm2:m≤10):Evs (fun k=>Qf.f k bs p o m) (fun r=>drawnR m.toNat r.1∧0 < r.1.length∧p≤r.2∧r.2≤p+800):=by
 unfold Qf.f
 refine Evs.bind (pick_evs bs p m hb hl h0 (by omega) hm) ?_
 rintro ⟨u,_⟩ ⟨u0,u1,rfl⟩
 refine Evs.bind (pick_evs bs (p+1) 200 hb hl (by omega) (by omega) (by omega)) ?_
 rintro ⟨v,_⟩ ⟨v0,v1,rfl⟩
 simp only [show wrap64 (1+u)=1+u from wrap_id (by omega) (by omega)]
 have h:=recs_loop bs hb hl (1+u) (by omega) 10 o [] v 0 (p+1+1) (by omega) (by omega) ⟨by simp,fun r hr=>by cases hr⟩ (fun h=>by omega) (by omega) (by omega)
 exact h.mono (fun r hr=>⟨drawnR_mono hr.1 (by omega),hr.2.1 (by omega),by have:=hr.2.2.1;omega,by have:=hr.2.2.2;omega⟩)
def drawnB (p:Int) (c:Int) (r:Bool×Bool×Int×Int×Int×List Rc×Int):Prop:=drawnR 5 r.2.2.2.2.2.1∧0 < r.2.2.2.2.2.1.length∧p≤r.2.2.2.2.2.2∧r.2.2.2.2.2.2≤p+c∧0≤r.2.2.1
theorem batch_j0 (bs:List Int) (hb:Bytes bs) (hl:bs.length≤2000) (p:Int) (h0 : 0≤p) (h1:p≤600000000) (a0 a1:Bool) (a2 a3 a4:Int) (l:List Rc) (hd:drawnR 4 l) (hpos : 0 < l.length) (ha2 : 0≤a2):Evs (fun k=>Qe.j0 k bs p a0 a1 a2 a3 a4 l) (drawnB p 2):=by
 have hlen:=hd.1
 refine Evs.succ ?_
 simp only [Qe.j0]
 refine Evs.bind (pick_evs bs p 40 hb hl h0 (by omega) (by omega)) ?_
 rintro ⟨u,_⟩ ⟨u0,u1,rfl⟩
 by_cases hu:u=0
 ·simp only [if_pos hu,bsome]
  refine Evs.bind (pick_evs bs (p+1) 3 hb hl (by omega) (by omega) (by omega)) ?_
  rintro ⟨v,_⟩ ⟨v0,v1,rfl⟩
  simp only [if_pos v0,if_pos (show v < (([(-1),1,100]:List Int).length:Int) from v1)]
  exact Evs.done ⟨drawnR_mono hd (by omega),hpos,by dsimp only;omega,by dsimp only;omega,ha2⟩
 ·simp only [if_neg hu]
  by_cases hu1:u=1
  ·simp only [if_pos hu1,if_pos (show 0 < (l.length:Int) by omega),if_pos (show l.length < 1759218604441 from lim2 (by omega) (by omega))]
   have h0m:Qb l 0∈l:=by
    show rr l ((0:Nat):Int)∈l
    rw [rr_nat l 0 hpos]
    exact List.getElem_mem hpos
   exact Evs.done ⟨drawnR_add hd (hd.2 _ h0m).1 (hd.2 _ h0m).2,by simp,by dsimp only;omega,by dsimp only;omega,ha2⟩
  ·simp only [if_neg hu1]
   by_cases hu2:u=2
   ·simp only [if_pos hu2]
    exact Evs.done ⟨drawnR_mono hd (by omega),hpos,by dsimp only;omega,by dsimp only;omega,ha2⟩
   ·simp only [if_neg hu2]
    exact Evs.done ⟨drawnR_mono hd (by omega),hpos,by dsimp only;omega,by dsimp only;omega,ha2⟩
theorem drawnB_mono {p q c c' : Int} {r:Bool×Bool×Int×Int×Int×List Rc×Int} (h:drawnB p c r) (h1:q≤p) (h2:p+c≤q+c'):drawnB q c' r:=⟨h.1,h.2.1,by have:=h.2.2.1;omega,by have:=h.2.2.2.1;omega,h.2.2.2.2⟩
theorem batch_evs (bs:List Int) (hb:Bytes bs) (hl:bs.length≤2000) (p o:Int) (h0 : 0≤p) (h1:p≤500000000):Evs (fun k=>Qe.f k bs p o) (drawnB p 900):=by
 unfold Qe.f
 refine Evs.bind (pick_evs bs p 2 hb hl h0 (by omega) (by omega)) ?_
 rintro ⟨u,_⟩ ⟨u0,u1,rfl⟩
 refine Evs.bind (recs_evs bs hb hl (p+1) o 4 (by omega) (by omega) (by omega) (by omega)) ?_
 rintro ⟨l,q⟩ ⟨hd,hpos,q0,q1⟩
 dsimp only at hd hpos q0 q1 ⊢
 refine Evs.bind (pick_evs bs q 3 hb hl (by omega) (by omega) (by omega)) ?_
 rintro ⟨v,_⟩ ⟨v0,v1,rfl⟩
 by_cases hv:v=0
 ·simp only [if_pos hv]
  refine Evs.bind (pick_evs bs (q+1) 3 hb hl (by omega) (by omega) (by omega)) ?_
  rintro ⟨x,_⟩ ⟨x0,x1,rfl⟩
  refine Evs.bind (pick_evs bs (q+1+1) 3 hb hl (by omega) (by omega) (by omega)) ?_
  rintro ⟨y,_⟩ ⟨y0,y1,rfl⟩
  refine Evs.bind (pick_evs bs (q+1+1+1) 5 hb hl (by omega) (by omega) (by omega)) ?_
  rintro ⟨z,_⟩ ⟨z0,z1,rfl⟩
  refine Evs.bind (pick_evs bs (q+1+1+1+1) 3 hb hl (by omega) (by omega) (by omega)) ?_
  rintro ⟨s,_⟩ ⟨s0,s1,rfl⟩
  by_cases hs:s=0
  ·simp only [if_pos hs]
   refine Evs.bind (pick_evs bs (q+1+1+1+1+1) 200 hb hl (by omega) (by omega) (by omega)) ?_
   rintro ⟨t,_⟩ ⟨t0,t1,rfl⟩
   refine Evs.bind (pick_evs bs (q+1+1+1+1+1+1) 2 hb hl (by omega) (by omega) (by omega)) ?_
   rintro ⟨e,_⟩ ⟨e0,e1,rfl⟩
   refine (batch_j0 bs hb hl _ (by omega) (by omega) _ _ _ _ _ _ ⟨by simp,fun r hr=>?_⟩ (by simp) x0).mono (fun r hr=>drawnB_mono hr (by omega) (by omega))
   rw [List.mem_singleton.1 hr]
   exact ⟨by simp,by simp⟩
  ·simp only [if_neg hs]
   exact (batch_j0 bs hb hl _ (by omega) (by omega) _ _ _ _ _ _ hd hpos (by omega)).mono (fun r hr=>drawnB_mono hr (by omega) (by omega))
 ·simp only [if_neg hv]
  exact (batch_j0 bs hb hl _ (by omega) (by omega) _ _ _ _ _ _ hd hpos (by omega)).mono (fun r hr=>drawnB_mono hr (by omega) (by omega))
theorem sameInts_loop (a b:List Int) (hl:a.length=b.length) (hs:a.length≤1000000000000000):∀ (d i:Nat),a.length - i=d→i≤a.length→Ev (fun k=>Qq.l0 k a b (i:Int)) (decide (a.drop i=b.drop i)):=by
 intro d
 induction d with
 | zero=>
  intro i hd hi
  rw [show a.drop i = [] from List.drop_eq_nil_of_le (by omega),show b.drop i = [] from List.drop_eq_nil_of_le (by omega)]
  refine ev_succ ?_
  simp only [Qq.l0,if_neg (show ¬ (i:Int) < (a.length:Int) by omega),decide_true]
  exact ev_some _
 | succ d ih=>
  intro i hd hi
  have hlt:(i:Int) < (a.length:Int):=by omega
  have e1:wrap64 ((i:Int)+1)=((i+1:Nat):Int):=by rw [wrap_id (by omega) (by omega)];omega
  rw [drop_int (show i < a.length by omega),drop_int (show i < b.length by omega)]
  refine ev_succ ?_
  simp only [Qq.l0,if_pos hlt,if_pos (show (0:Int)≤i by omega),if_pos (show (i:Int) < (b.length:Int) by omega),e1]
  by_cases h0:rd a i=rd b i
  ·simp only [if_pos h0]
   have:=ih (i+1) (by omega) (by omega)
   simpa [h0] using this
  ·simp only [if_neg h0]
   rw [decide_eq_false (by simp [h0])]
   exact ev_some _
theorem sameInts (a b:List Int) (hs:a.length≤1000000000000000):Ev (fun k=>Qq.f k a b) (decide (a=b)):=by
 unfold Qq.f
 by_cases h:(a.length:Int)=(b.length:Int)
 ·simp only [if_pos h]
  have:=sameInts_loop a b (by omega) hs a.length 0 (by omega) (by omega)
  simpa using this
 ·simp only [if_neg h]
  rw [decide_eq_false (fun e=>h (by rw [e]))]
  exact ev_some _
theorem Rc_ext {a b:Rc} (h0:a.f0=b.f0) (h1:a.f1=b.f1) (h2:a.f2=b.f2) (h3:a.f3=b.f3) (h4:a.f4=b.f4) (h5:a.f5=b.f5):a=b:=by
 cases a
 cases b
 simp_all
instance:DecidableEq Rc:=fun a b=>decidable_of_iff (a.f0=b.f0∧a.f1=b.f1∧a.f2=b.f2∧a.f3=b.f3∧a.f4=b.f4∧a.f5=b.f5) ⟨fun h=>Rc_ext h.1 h.2.1 h.2.2.1 h.2.2.2.1 h.2.2.2.2.1 h.2.2.2.2.2,fun h=>by rw [h];simp⟩
theorem sameRec (a b:Rc) (hs:smallR a):Ev (fun k=>Rf.f k a.f0 a.f1 a.f2 a.f3 a.f4 a.f5 b.f0 b.f1 b.f2 b.f3 b.f4 b.f5) (decide (a=b)):=by
 unfold Rf.f
 by_cases h0:a.f0=b.f0
 ·by_cases h1:a.f1=b.f1
  ·by_cases h2:a.f2=b.f2
   ·by_cases h4:a.f4=b.f4
    ·simp only [if_pos h0,if_pos h1,if_pos (show (a.f2==b.f2)=true by simpa using h2),if_pos (show (a.f4==b.f4)=true by simpa using h4)]
     refine Ev.bind (sameInts a.f3 b.f3 hs.1) ?_
     by_cases h3:a.f3=b.f3
     ·simp only [if_pos (decide_eq_true h3)]
      refine Ev.bind (sameInts a.f5 b.f5 hs.2) ?_
      by_cases h5:a.f5=b.f5
      ·rw [decide_eq_true h5,decide_eq_true (Rc_ext h0 h1 h2 h3 h4 h5)]
       exact ev_some _
      ·rw [decide_eq_false h5,decide_eq_false (fun e=>h5 (by rw [e]))]
       exact ev_some _
     ·simp only [decide_eq_false h3,Bool.false_eq_true,if_false]
      rw [decide_eq_false (fun e=>h3 (by rw [e]))]
      exact ev_some _
    ·simp only [if_pos h0,if_pos h1,if_pos (show (a.f2==b.f2)=true by simpa using h2),if_neg (show ¬ (a.f4==b.f4)=true by simpa using h4)]
     rw [decide_eq_false (fun e=>h4 (by rw [e]))]
     exact ev_some _
   ·simp only [if_pos h0,if_pos h1,if_neg (show ¬ (a.f2==b.f2)=true by simpa using h2)]
    rw [decide_eq_false (fun e=>h2 (by rw [e]))]
    exact ev_some _
  ·simp only [if_pos h0,if_neg h1]
   rw [decide_eq_false (fun e=>h1 (by rw [e]))]
   exact ev_some _
 ·simp only [if_neg h0]
  rw [decide_eq_false (fun e=>h0 (by rw [e]))]
  exact ev_some _
theorem drop_rec {l:List Rc} {i:Nat} (h:i < l.length):l.drop i=rr l i::l.drop (i+1):=by
 rw [List.drop_eq_getElem_cons h,rr_nat l i h]
theorem sameRecs_loop (a b:List Rc) (hl:a.length=b.length) (hs:smallRs a):∀ (d i:Nat),a.length - i=d→i≤a.length→Ev (fun k=>Ql.l0 k a b (i:Int)) (decide (a.drop i=b.drop i)):=by
 have hlen:=hs.1
 intro d
 induction d with
 | zero=>
  intro i hd hi
  rw [show a.drop i = [] from List.drop_eq_nil_of_le (by omega),show b.drop i = [] from List.drop_eq_nil_of_le (by omega)]
  refine ev_succ ?_
  simp only [Ql.l0,if_neg (show ¬ (i:Int) < (a.length:Int) by omega),decide_true]
  exact ev_some _
 | succ d ih=>
  intro i hd hi
  have hlt:(i:Int) < (a.length:Int):=by omega
  have e1:wrap64 ((i:Int)+1)=((i+1:Nat):Int):=by rw [wrap_id (by omega) (by omega)];omega
  rw [drop_rec (show i < a.length by omega),drop_rec (show i < b.length by omega)]
  refine ev_succ ?_
  simp only [Ql.l0,if_pos hlt,if_pos (show (0:Int)≤i by omega),if_pos (show (i:Int) < (b.length:Int) by omega),e1]
  refine Ev.bind (sameRec (rr a i) (rr b i) (smallRs_at hs i (by omega))) ?_
  by_cases h0:rr a i=rr b i
  ·simp only [if_pos (decide_eq_true h0)]
   have:=ih (i+1) (by omega) (by omega)
   simpa [h0] using this
  ·simp only [decide_eq_false h0,Bool.false_eq_true,if_false]
   rw [decide_eq_false (by simp [h0])]
   exact ev_some _
theorem sameRecs (a b:List Rc) (hs:smallRs a):Ev (fun k=>Ql.f k a b) (decide (a=b)):=by
 unfold Ql.f
 by_cases h:(a.length:Int)=(b.length:Int)
 ·simp only [if_pos h]
  have:=sameRecs_loop a b (by omega) hs a.length 0 (by omega) (by omega)
  simpa using this
 ·simp only [if_neg h]
  rw [decide_eq_false (fun e=>h (by rw [e]))]
  exact ev_some _
theorem clone_eq (l:List Int) (h:l.length≤1048576):slices_Clone_int_int.f l=some l:=by
 unfold slices_Clone_int_int.f
 rw [if_pos (by omega)]
def okc (r:Rc):Prop:=r.f3.length≤1048576∧r.f5.length≤1048576
theorem copyRec (r:Rc) (h:okc r):Rb.f r.f0 r.f1 r.f2 r.f3 r.f4 r.f5=some (r.f0,r.f1,r.f2,r.f3,r.f4,r.f5):=by
 unfold Rb.f
 rw [clone_eq _ h.1,bsome,clone_eq _ h.2,bsome]
theorem take_snoc {α:Type} (l:List α) (i:Nat) (h:i < l.length):l.take i ++ [l[i]]=l.take (i+1):=by
 rw [List.take_add_one,List.getElem?_eq_getElem h]
 rfl
theorem copyRecs_loop (l:List Rc) (hl:l.length≤1048576) (hx:∀ r∈l,okc r):∀ (d i:Nat),l.length - i=d→i≤l.length→Ev (fun k=>Qn.l0 k (l.take i) l (l.length:Int) (i:Int)) l:=by
 intro d
 induction d with
 | zero=>
  intro i hd hi
  refine ev_succ ?_
  simp only [Qn.l0,if_neg (show ¬ (i:Int) < (l.length:Int) by omega)]
  rw [List.take_of_length_le (by omega)]
  exact ev_some _
 | succ d ih=>
  intro i hd hi
  have hlt:i < l.length:=by omega
  have e1:wrap64 ((i:Int)+1)=((i+1:Nat):Int):=by rw [wrap_id (by omega) (by omega)];omega
  have hr:Qb l (i:Int)=l[i]:=rr_nat l i hlt
  have next:=ih (i+1) (by omega) (by omega)
  refine ev_succ ?_
  simp only [Qn.l0,if_pos (show (i:Int) < (l.length:Int) by omega),if_pos (show (0:Int)≤(i:Int) by omega),e1,hr,copyRec l[i] (hx _ (List.getElem_mem hlt)),bsome,if_pos (show (l.take i).length < 1759218604441 by rw [length_take];omega)]
  rw [← take_snoc l i hlt] at next
  exact next
theorem copyRecs (l:List Rc) (hl:l.length≤1048576) (hx:∀ r∈l,okc r):Ev (fun k=>Qn.f k l) l:=by
 unfold Qn.f
 simp only [if_pos (show (0:Int)≤(l.length:Int) by omega),if_pos (show ((l.length:Int)).toNat≤3518437208883 by omega)]
 exact copyRecs_loop l hl hx l.length 0 (by omega) (by omega)
theorem l12Copy_eq (r:Rc) (h:okc r):Rk.f r.f0 r.f1 r.f2 r.f3 r.f4 r.f5=some (r.f0,r.f1,r.f2,r.f3,r.f4,r.f5):=by
 have h1:=h.1
 have h2:=h.2
 unfold Rk.f
 simp only [bsome,List.length_nil,Nat.zero_add,List.nil_append]
 rw [if_pos (by omega),if_pos (by omega)]
theorem sameBatch_self (b0 b1:Bool) (b2 b3 b4:Int) (b5:List Rc) (hb:smallRs b5):Ev (fun k=>Qu.f k b0 b1 b2 b3 b4 b5 b0 b1 b2 b3 b4 b5) true:=by
 unfold Qu.f
 simp only [beq_self_eq_true,if_true]
 have h:=sameRecs b5 b5 hb
 rw [decide_eq_true rfl] at h
 exact Ev.bind h (ev_some _)
theorem RF_lt {l:List Rc} (h:RF l 0):∀ (d i:Nat),i+d+1 < l.length→(rr l (i:Int)).f0 < (rr l ((i+d+1:Nat):Int)).f0
 | 0,i,hi=>by
  have:=(h (i+1) (by omega) hi).2 (by omega)
  rw [show ((i+1:Nat):Int) - 1=(i:Int) by omega] at this
  exact this
 | d+1,i,hi=>by
  have h1:=RF_lt h d i (by omega)
  have:=(h (i+d+2) (by omega) (by omega)).2 (by omega)
  rw [show ((i+d+2:Nat):Int) - 1=((i+d+1:Nat):Int) by omega] at this
  exact Int.lt_trans h1 this
theorem RF_turn {l m:List Rc} (hl : 1≤l.length) (hm : 1≤m.length) (h1:RF (l++m) 0) (h2:RF (m++l) 0):False:=by
 have e:∀ (x y:List Rc),1≤x.length→1≤y.length→RF (x++y) 0→(rr x ((0:Nat):Int)).f0 < (rr y ((0:Nat):Int)).f0:=by
  intro x y hx hy h
  have h3:=RF_lt h (x.length - 1) 0 (by rw [List.length_append];omega)
  rw [show 0+(x.length - 1)+1=x.length by omega,rr_nat (x++y) 0 (by rw [List.length_append];omega),rr_nat (x++y) x.length (by rw [List.length_append];omega)] at h3
  rw [rr_nat x 0 (by omega),rr_nat y 0 (by omega)]
  have e1:(x++y)[0]'(by rw [List.length_append];omega)=x[0]:=List.getElem_append_left (by omega)
  have e2:(x++y)[x.length]'(by rw [List.length_append];omega)=y[0]:=by
   rw [List.getElem_append_right (Nat.le_refl _)]
   simp
  rw [e1,e2] at h3
  exact h3
 have a1:=e l m hl hm h1
 have a2:=e m l hm hl h2
 omega
def fewR (l:List Rc):Prop:=l.length≤5∧∀ r∈l,r.f3.length≤12∧r.f5.length≤12
theorem fewR_okc {l:List Rc} (h:fewR l):∀ r∈l,okc r:=fun r hr=>by have:=h.2 r hr;exact ⟨by omega,by omega⟩
theorem fewR_small {l:List Rc} (h:fewR l):smallRs l:=⟨by have:=h.1;omega,fun r hr=>by have:=h.2 r hr;exact ⟨by omega,by omega⟩⟩
theorem few2_small {l m:List Rc} (h:fewR l) (h2:fewR m):smallRs (l++m):=by
 refine ⟨by rw [List.length_append];have:=h.1;have:=h2.1;omega,fun r hr=>?_⟩
 rcases List.mem_append.1 hr with hr|hr
 ·exact (fewR_small h).2 r hr
 ·exact (fewR_small h2).2 r hr
open Classical in
noncomputable def cj (a0 a1:Bool) (a2 a3 a4:Int) (l:List Rc) (b0 b1:Bool) (b2 b3 b4:Int) (m:List Rc):Bool:=decide (VB a1 a2 a3 a4 l∧VB b1 b2 b3 b4 m∧a2=255∧b2=255∧a0=b0∧VB a1 a2 a3 a4 (l++m))
noncomputable def joinR (a0 a1:Bool) (a2 a3 a4:Int) (l:List Rc) (b0 b1:Bool) (b2 b3 b4:Int) (m:List Rc):Bool×Bool×Int×Int×Int×List Rc×Bool:=
 if cj a0 a1 a2 a3 a4 l b0 b1 b2 b3 b4 m=true then (a0,false,255,0,0,l++m,true) else (false,false,0,0,0,[],false)
theorem VB_free {a1:Bool} {a2 a3 a4:Int} {l:List Rc} (h:VB a1 a2 a3 a4 l) (h2:a2=255):a1=false∧a3=0∧a4=0:=by
 have:=h.1
 rw [if_pos h2] at this
 exact ⟨this.2.2,this.1,this.2.1⟩
theorem joinR_no {a0 a1:Bool} {a2 a3 a4:Int} {l:List Rc} {b0 b1:Bool} {b2 b3 b4:Int} {m:List Rc} (h:¬ (VB a1 a2 a3 a4 l∧VB b1 b2 b3 b4 m∧a2=255∧b2=255∧a0=b0∧VB a1 a2 a3 a4 (l++m))):joinR a0 a1 a2 a3 a4 l b0 b1 b2 b3 b4 m=(false,false,0,0,0,[],false):=by
 unfold joinR cj
 rw [if_neg (by simpa using h)]
theorem joinR_yes {a0 a1:Bool} {a2 a3 a4:Int} {l:List Rc} {b0 b1:Bool} {b2 b3 b4:Int} {m:List Rc} (h:VB a1 a2 a3 a4 l∧VB b1 b2 b3 b4 m∧a2=255∧b2=255∧a0=b0∧VB a1 a2 a3 a4 (l++m)):joinR a0 a1 a2 a3 a4 l b0 b1 b2 b3 b4 m=(a0,false,255,0,0,l++m,true):=by
 unfold joinR cj
 rw [if_pos (by simpa using h)]
theorem vb_no {a1:Bool} {a2 a3 a4:Int} {l:List Rc} (h:¬ VB a1 a2 a3 a4 l):vb a1 a2 a3 a4 l=false:=by rw [← Bool.not_eq_true,vb_iff];exact h
theorem vb_yes {a1:Bool} {a2 a3 a4:Int} {l:List Rc} (h:VB a1 a2 a3 a4 l):vb a1 a2 a3 a4 l=true:=(vb_iff _ _ _ _ _).2 h
theorem ijoin_true (a0 a1:Bool) (a2 a3 a4:Int) (l:List Rc) (b0 b1:Bool) (b2 b3 b4:Int) (m:List Rc):Ev (fun k=>Qg.j0 k true a0 a1 a2 a3 a4 l b0 b1 b2 b3 b4 m) (false,false,0,0,0,[],true):=by
 refine ev_succ ?_
 simp only [Qg.j0,if_true]
 exact ev_some _
theorem ijoin_false (a0 a1:Bool) (a2 a3 a4:Int) (l:List Rc) (b0 b1:Bool) (b2 b3 b4:Int) (m:List Rc) (hl:fewR l) (hm:fewR m):Ev (fun k=>Qg.j0 k false a0 a1 a2 a3 a4 l b0 b1 b2 b3 b4 m) (if vb a1 a2 a3 a4 (l++m)=true then (a0,a1,a2,a3,a4,l++m,false) else (false,false,0,0,0,[],true)):=by
 have h1:=hl.1
 have h2:=hm.1
 refine ev_succ ?_
 simp only [Qg.j0,Bool.false_eq_true,if_false]
 refine Ev.bind (g:=fun k=>Ra.f k a0 a1 a2 a3 a4 l) (a:=(a0,a1,a2,a3,a4,l)) ?_ ?_
 ·unfold Ra.f
  exact Ev.bind (copyRecs l (by omega) (fewR_okc hl)) (ev_some _)
 refine Ev.bind (copyRecs m (by omega) (fewR_okc hm)) ?_
 simp only [if_pos (show l.length+m.length < 1759218604441 by omega),bsome]
 refine Ev.bind (implB a0 a1 a2 a3 a4 (l++m) (few2_small hl hm)) ?_
 by_cases hv:vb a1 a2 a3 a4 (l++m)=true
 ·simp only [if_pos hv]
  exact ev_some _
 ·simp only [if_neg hv]
  exact ev_some _
theorem implJoin (a0 a1:Bool) (a2 a3 a4:Int) (l:List Rc) (b0 b1:Bool) (b2 b3 b4:Int) (m:List Rc) (hl:fewR l) (hm:fewR m):Ev (fun k=>Qs.f k a0 a1 a2 a3 a4 l b0 b1 b2 b3 b4 m) (joinR a0 a1 a2 a3 a4 l b0 b1 b2 b3 b4 m):=by
 have ha:=implB a0 a1 a2 a3 a4 l (fewR_small hl)
 have hb:=implB b0 b1 b2 b3 b4 m (fewR_small hm)
 have hno:=ijoin_true a0 a1 a2 a3 a4 l b0 b1 b2 b3 b4 m
 have fin:∀ (x0 x1:Bool) (x2 x3 x4:Int) (x5:List Rc) (e:Bool),Ev (fun k=>Qg.f k a0 a1 a2 a3 a4 l b0 b1 b2 b3 b4 m) (x0,x1,x2,x3,x4,x5,e)→Ev (fun k=>Qs.f k a0 a1 a2 a3 a4 l b0 b1 b2 b3 b4 m) (if e=true then (false,false,0,0,0,[],false) else (x0,x1,x2,x3,x4,x5,true)):=by
  intro x0 x1 x2 x3 x4 x5 e h
  unfold Qs.f
  refine Ev.bind h ?_
  simp only [errors_Is.f,if_true,bsome]
  cases e
  ·exact ev_some _
  ·exact ev_some _
 by_cases h1:VB a1 a2 a3 a4 l
 ·by_cases h2:VB b1 b2 b3 b4 m
  ·by_cases h3:a2=255
   ·by_cases h4:b2=255
    ·by_cases h5:a0=b0
     ·have hf:=ijoin_false a0 a1 a2 a3 a4 l b0 b1 b2 b3 b4 m hl hm
      by_cases h6:VB a1 a2 a3 a4 (l++m)
      ·rw [joinR_yes ⟨h1,h2,h3,h4,h5,h6⟩]
       rw [if_pos (vb_yes h6)] at hf
       obtain ⟨f1,f3,f4⟩:=VB_free h1 h3
       have h:=fin a0 a1 a2 a3 a4 (l++m) false (by
        unfold Qg.f
        refine Ev.bind ha ?_
        simp only [vb_yes h1,if_true]
        refine Ev.bind hb ?_
        simp only [vb_yes h2,if_true,if_pos h3,if_pos h4,h5,bne_self_eq_false]
        rw [h5] at hf
        exact hf)
       rw [f1,f3,f4,h3] at h
       rw [f1,f3,f4,h3]
       exact h
      ·rw [joinR_no (fun h=>h6 h.2.2.2.2.2)]
       rw [if_neg (by rw [vb_no h6];simp)] at hf
       have h:=fin false false 0 0 0 [] true (by
        unfold Qg.f
        refine Ev.bind ha ?_
        simp only [vb_yes h1,if_true]
        refine Ev.bind hb ?_
        simp only [vb_yes h2,if_true,if_pos h3,if_pos h4,h5,bne_self_eq_false]
        rw [h5] at hf
        exact hf)
       exact h
     ·rw [joinR_no (fun h=>h5 h.2.2.2.2.1)]
      have hne:(a0 != b0)=true:=by simpa using h5
      exact fin false false 0 0 0 [] true (by
       unfold Qg.f
       refine Ev.bind ha ?_
       simp only [vb_yes h1,if_true]
       refine Ev.bind hb ?_
       simp only [vb_yes h2,if_true,if_pos h3,if_pos h4,hne]
       exact hno)
    ·rw [joinR_no (fun h=>h4 h.2.2.2.1)]
     exact fin false false 0 0 0 [] true (by
      unfold Qg.f
      refine Ev.bind ha ?_
      simp only [vb_yes h1,if_true]
      refine Ev.bind hb ?_
      simp only [vb_yes h2,if_true,if_pos h3,if_neg h4]
      exact hno)
   ·rw [joinR_no (fun h=>h3 h.2.2.1)]
    exact fin false false 0 0 0 [] true (by
     unfold Qg.f
     refine Ev.bind ha ?_
     simp only [vb_yes h1,if_true]
     refine Ev.bind hb ?_
     simp only [vb_yes h2,if_true,if_neg h3]
     exact hno)
  ·rw [joinR_no (fun h=>h2 h.2.1)]
   exact fin false false 0 0 0 [] true (by
    unfold Qg.f
    refine Ev.bind ha ?_
    simp only [vb_yes h1,if_true]
    refine Ev.bind hb ?_
    simp only [vb_no h2,Bool.false_eq_true,if_false]
    exact hno)
 ·rw [joinR_no (fun h=>h1 h.1)]
  exact fin false false 0 0 0 [] true (by
   unfold Qg.f
   refine Ev.bind ha ?_
   simp only [vb_no h1,Bool.false_eq_true,if_false]
   exact hno)
theorem free_loop (a0:Bool) (l:List Rc) (hl:l.length≤1048576) (hx:∀ r∈l,okc r):∀ (d i:Nat),l.length - i=d→i≤l.length→Ev (fun k=>Qm.l0 k l (i:Int) a0 false 255 0 0 (l.take i)) (a0,false,255,0,0,l):=by
 intro d
 induction d with
 | zero=>
  intro i hd hi
  refine ev_succ ?_
  simp only [Qm.l0,if_neg (show ¬ (i:Int) < (l.length:Int) by omega)]
  rw [List.take_of_length_le (by omega)]
  exact ev_some _
 | succ d ih=>
  intro i hd hi
  have hlt:i < l.length:=by omega
  have e1:wrap64 ((i:Int)+1)=((i+1:Nat):Int):=by rw [wrap_id (by omega) (by omega)];omega
  have hr:Qb l (i:Int)=l[i]:=rr_nat l i hlt
  have next:=ih (i+1) (by omega) (by omega)
  refine ev_succ ?_
  simp only [Qm.l0,if_pos (show (i:Int) < (l.length:Int) by omega),if_pos (show (0:Int)≤(i:Int) by omega),e1,hr,l12Copy_eq l[i] (hx _ (List.getElem_mem hlt)),bsome,if_pos (show (l.take i).length < 1759218604441 by rw [length_take];omega)]
  rw [← take_snoc l i hlt] at next
  exact next
theorem freeR (a0:Bool) (l:List Rc) (hl:l.length≤1048576) (hx:∀ r∈l,okc r):Ev (fun k=>Qm.f k a0 l) (a0,false,255,0,0,l):=by
 unfold Qm.f
 exact free_loop a0 l hl hx l.length 0 (by omega) (by omega)
theorem sjoin_true (a0 a1:Bool) (a2 a3 a4:Int) (l:List Rc) (b0 b1:Bool) (b2 b3 b4:Int) (m:List Rc):Ev (fun k=>Qi.j0 k true a0 a1 a2 a3 a4 l b0 b1 b2 b3 b4 m) (false,false,0,0,0,[],false):=by
 refine ev_succ ?_
 simp only [Qi.j0,if_true]
 exact ev_some _
theorem sjoin_false (a0 a1:Bool) (a2 a3 a4:Int) (l:List Rc) (b0 b1:Bool) (b2 b3 b4:Int) (m:List Rc) (hl:fewR l) (hm:fewR m):Ev (fun k=>Qi.j0 k false a0 a1 a2 a3 a4 l b0 b1 b2 b3 b4 m) (if vb false 255 0 0 (l++m)=true then (a0,false,255,0,0,l++m,true) else (false,false,0,0,0,[],false)):=by
 have h1:=hl.1
 have h2:=hm.1
 refine ev_succ ?_
 simp only [Qi.j0,Bool.false_eq_true,if_false,bsome,List.length_nil,Nat.zero_add,List.nil_append]
 simp only [if_pos (show l.length < 1759218604441 by omega),if_pos (show l.length+m.length < 1759218604441 by omega),bsome]
 have hlm:(l++m).length≤1048576:=by rw [List.length_append];omega
 refine Ev.bind (freeR a0 (l++m) hlm (fun r hr=>(List.mem_append.1 hr).elim (fewR_okc hl r) (fewR_okc hm r))) ?_
 refine Ev.bind (specB a0 false 255 0 0 (l++m) (few2_small hl hm)) ?_
 by_cases hv:vb false 255 0 0 (l++m)=true
 ·simp only [if_pos hv]
  exact ev_some _
 ·simp only [if_neg hv]
  exact ev_some _
theorem specJoin (a0 a1:Bool) (a2 a3 a4:Int) (l:List Rc) (b0 b1:Bool) (b2 b3 b4:Int) (m:List Rc) (hl:fewR l) (hm:fewR m):Ev (fun k=>Qi.f k a0 a1 a2 a3 a4 l b0 b1 b2 b3 b4 m) (joinR a0 a1 a2 a3 a4 l b0 b1 b2 b3 b4 m):=by
 have ha:=specB a0 a1 a2 a3 a4 l (fewR_small hl)
 have hb:=specB b0 b1 b2 b3 b4 m (fewR_small hm)
 have hno:=sjoin_true a0 a1 a2 a3 a4 l b0 b1 b2 b3 b4 m
 unfold Qi.f
 refine Ev.bind ha ?_
 by_cases h1:VB a1 a2 a3 a4 l
 ·simp only [vb_yes h1,if_true]
  refine Ev.bind hb ?_
  by_cases h2:VB b1 b2 b3 b4 m
  ·simp only [vb_yes h2,if_true]
   by_cases h3:a2=255
   ·by_cases h4:b2=255
    ·simp only [if_pos h3,if_pos h4]
     by_cases h5:a0=b0
     ·have hf:=sjoin_false a0 a1 a2 a3 a4 l b0 b1 b2 b3 b4 m hl hm
      obtain ⟨f1,f3,f4⟩:=VB_free h1 h3
      have he:(a0 != b0)=false:=by rw [h5];simp
      simp only [he]
      by_cases h6:VB a1 a2 a3 a4 (l++m)
      ·rw [joinR_yes ⟨h1,h2,h3,h4,h5,h6⟩]
       have h7:VB false 255 0 0 (l++m):=by rw [f1,f3,f4,h3] at h6;exact h6
       rw [if_pos (vb_yes h7)] at hf
       exact hf
      ·rw [joinR_no (fun h=>h6 h.2.2.2.2.2)]
       have h7:¬ VB false 255 0 0 (l++m):=by rw [f1,f3,f4,h3] at h6;exact h6
       rw [if_neg (by rw [vb_no h7];simp)] at hf
       exact hf
     ·rw [joinR_no (fun h=>h5 h.2.2.2.2.1)]
      have hne:(a0 != b0)=true:=by simpa using h5
      simp only [hne]
      exact hno
    ·rw [joinR_no (fun h=>h4 h.2.2.2.1)]
     simp only [if_pos h3,if_neg h4]
     exact hno
   ·rw [joinR_no (fun h=>h3 h.2.2.1)]
    simp only [if_neg h3]
    exact hno
  ·rw [joinR_no (fun h=>h2 h.2.1)]
   simp only [vb_no h2,Bool.false_eq_true,if_false]
   exact hno
 ·rw [joinR_no (fun h=>h1 h.1)]
  simp only [vb_no h1,Bool.false_eq_true,if_false]
  exact hno
theorem drawJoin {l0:List Int} (hb:Bytes l0):Evs (fun k=>Qo.f k l0) (fun r=>fewR r.2.2.2.2.2.1∧fewR r.2.2.2.2.2.2.2.2.2.2.2):=by
 obtain ⟨b,ho,hb2,hbl⟩:=open_ev l0 hb
 unfold Qo.f
 simp only [ho,bsome]
 refine Evs.bind (pick_evs b 0 20 hb2 hbl (by omega) (by omega) (by omega)) ?_
 rintro ⟨u,_⟩ ⟨u0,u1,rfl⟩
 refine Evs.bind (batch_evs b hb2 hbl (0+1) u (by omega) (by omega)) ?_
 rintro ⟨x0,x1,x2,x3,x4,x5,q⟩ ⟨hd,hpos,q0,q1,_⟩
 dsimp only at hd hpos q0 q1 ⊢
 have hlen:=hd.1
 have e1:wrap64 ((x5.length:Int) - 1)=(x5.length:Int) - 1:=wrap_id (by omega) (by omega)
 simp only [e1,if_pos (show 0≤(x5.length:Int) - 1 by omega),if_pos (show (x5.length:Int) - 1 < (x5.length:Int) by omega)]
 refine Evs.bind (pick_evs b q 3 hb2 hbl (by omega) (by omega) (by omega)) ?_
 rintro ⟨v,_⟩ ⟨v0,v1,rfl⟩
 refine Evs.bind (pick_evs b (q+1) 12 hb2 hbl (by omega) (by omega) (by omega)) ?_
 rintro ⟨x,_⟩ ⟨x0',x1',rfl⟩
 refine Evs.bind (batch_evs b hb2 hbl (q+1+1) _ (by omega) (by omega)) ?_
 rintro ⟨y0,y1,y2,y3,y4,y5,p⟩ ⟨hd2,hpos2,p0,p1,_⟩
 dsimp only at hd2 hpos2 p0 p1 ⊢
 refine Evs.bind (pick_evs b p 3 hb2 hbl (by omega) (by omega) (by omega)) ?_
 rintro ⟨z,_⟩ ⟨z0,z1,rfl⟩
 by_cases hz:z > 0
 ·simp only [if_pos hz]
  exact Evs.done ⟨hd,hd2⟩
 ·simp only [if_neg hz]
  exact Evs.done ⟨hd,hd2⟩
end Go.Proofs.YtlckpbjldmkibaaDoor.Q
namespace Go.Proofs.YtlckpbjldmkibaaDoor.Pure
open Go.RowKit Go.Proofs.YtlckpbjldmkibaaDoor.T Go.Proofs.YtlckpbjldmkibaaDoorW.PrintWords Go.Proofs.YtlckpbjldmkibaaDoorW.PrintLast Go.Proofs.YtlckpbjldmkibaaDoor.Q
set_option linter.unusedVariables false
set_option linter.unusedSimpArgs false
theorem FnJoinNot:laws_FnJoinNot.Pure:=by
 intro l0 _ _ hb0
 refine Ev.rounds ?_
 have hb:=bytes_of hb0
 unfold laws_FnJoinNot.f
 by_cases h:(l0.length:Int) > 1048576
 ·simp only [if_pos h]
  exact ev_some _
 ·simp only [if_neg h]
  obtain ⟨⟨a0,a1,a2,a3,a4,l,b0,b1,b2,b3,b4,m⟩,hd,hl,hm⟩:=drawJoin hb
  dsimp only at hl hm
  refine Ev.bind hd ?_
  have hi:=implJoin a0 a1 a2 a3 a4 l b0 b1 b2 b3 b4 m hl hm
  have hs:=specJoin a0 a1 a2 a3 a4 l b0 b1 b2 b3 b4 m hl hm
  by_cases hc:VB a1 a2 a3 a4 l∧VB b1 b2 b3 b4 m∧a2=255∧b2=255∧a0=b0∧VB a1 a2 a3 a4 (l++m)
  ·rw [joinR_yes hc] at hi hs
   obtain ⟨c1,c2,c3,c4,c5,c6⟩:=hc
   obtain ⟨f1,f3,f4⟩:=VB_free c1 c3
   refine Ev.bind hi ?_
   refine Ev.bind hs ?_
   simp only [bne_self_eq_false,Bool.false_eq_true,if_false]
   refine Ev.bind (sameBatch_self a0 false 255 0 0 (l++m) (few2_small hl hm)) ?_
   simp only [if_true,Bool.not_true]
   refine ev_succ ?_
   simp only [laws_FnJoinNot.j0,Bool.false_eq_true,if_false]
   have hi2:=implJoin b0 b1 b2 b3 b4 m a0 a1 a2 a3 a4 l hm hl
   rw [joinR_no (fun h=>RF_turn c1.2.1.1 c2.2.1.1 c6.2.2.2 h.2.2.2.2.2.2.2.2)] at hi2
   have hi3:=implJoin a0 a1 a2 a3 a4 l b0 b1 3 b3 b4 m hl hm
   rw [joinR_no (fun h=>absurd h.2.2.2.1 (by omega))] at hi3
   refine Ev.bind hi2 ?_
   refine Ev.bind hi3 ?_
   simp only [Bool.false_eq_true,if_false,Bool.not_false]
   exact ev_some _
  ·rw [joinR_no hc] at hi hs
   refine Ev.bind hi ?_
   refine Ev.bind hs ?_
   have hn:=sameBatch_self false false 0 0 0 [] ⟨by simp,fun r hr=>by simp at hr⟩
   simp only [bne_self_eq_false,Bool.false_eq_true,if_false]
   refine Ev.bind hn ?_
   simp only [if_true,Bool.not_false]
   refine ev_succ ?_
   simp only [laws_FnJoinNot.j0,if_true,beq_self_eq_true]
   exact Ev.bind hn (ev_some _)
end Go.Proofs.YtlckpbjldmkibaaDoor.Pure
namespace Go.Proofs.YtlckpbjldmkibaaDoor.fnJoinNot
open Go.ChangeShapes Go.WideShapes Go.ChangeAt Go.RowKit
open Go.Extern.Stop Go.Stop Go.Extern
open Go.ChangeMaps (open_string shut_string)
set_option linter.unusedVariables false
theorem own:ownKnob Tryd.prog.godebug=none:=by kernel_rfl
theorem laidOut:laidOutB Tryd.prog=true:=by kernel_rfl
theorem gN : Tryd.prog.globalNamed "loop.example/recordbatches/impl.errNoJoin" = some 0 := by kernel_rfl
theorem gT:(Tryd.prog.globals[0]?).map (·.type)=some 42:=by kernel_rfl
theorem cellsE:Tryd.prog.cellsOf 108=1:=by kernel_rfl
theorem cellsS:Tryd.prog.cellsOf 9=1:=by kernel_rfl
theorem star : "*" ++ "errors.errorString" = "*errors.errorString" := by decide
theorem rowE (u : TypeId) (h : Tryd.prog.typeName? 3 u = some "*errors.errorString") : u = 82 :=
 typeName_ptr_named (nm := "errors.errorString") (by rw [star]; kernel_rfl) (by kernel_rfl) (by decide) u (by rw [star]; exact h)
def IsRow (k:IntKind) (w:World) (a:Option Addr) (len cap:Nat) (zs:List Int):Prop:=
 (a=none∧len=0∧cap=0∧zs = []) ∨
 ∃ x,a=some x∧len≤cap∧cap≤maxLen∧zs.length=cap∧(∀ i,i < zs.length→w.cell? (x.add i)=some (.int k (zs.getD i 0)))∧∀ n∈zs,(Lit.int k n).wf=true
theorem door_met (os:Os) (args:Array Value):laidMetH Tryd.prog Rows.fnJoinNotRow.laid ((World.doorLaid Tryd.prog 400 os).forCall (fun _ _=>0) ⟨#[],args,[]⟩).memory:=
 laidMetH_of_parts3 (fuel:=8) (laidMet_of_run' 8 (by kernel_rfl) (by kernel_rfl)) (by kernel_rfl) (by kernel_rfl)
theorem var_of_block {P:Program} {w w' : World} {n:String} {g:Nat} (hg:P.globalNamed n=some g) (hb:w'.heap[g]? = w.heap[g]?):w'.var? P n=w.var? P n:=by
 simp only [World.var?,hg,Option.bind_some,hb]
theorem lifted (os:Os) (started:os.Started) (H:Type) (enc:TypeId×Value→H) :
  ReturnsInHanded {} Tryd.checked os 4 .any (fun w args=>(Rows.fnJoinNotSpec.pre enc Tryd.prog Tryd.f4 [] false w args∧laidMetH Tryd.prog Rows.fnJoinNotRow.laid w)∧sizedMet enc Tryd.prog Tryd.f4 (OpenSpec.ofChange Rows.fnJoinNotSpec) false w args)
   (Rows.fnJoinNotSpec.post enc Tryd.prog Tryd.f4 false true false false):=by
 refine returnsInHanded_of_change_and (C:=Tryd.checked) (X:=fun w _=>laidMetH Tryd.prog Rows.fnJoinNotRow.laid w) (fun _ _ _ hh h=>h.of_heap hh) own started (by kernel_rfl) Tryd.func4
  (ChangeSpec.witness_shaped (enc:=enc) (C:=Tryd.checked) (os:=os) (X:=fun w _=>laidMetH Tryd.prog Rows.fnJoinNotRow.laid w) false (World.doorLaid Tryd.prog 400 os) #[.slice none 0 0] 8 rfl (World.shaped_of_RefB (by kernel_rfl) (by kernel_rfl)) (by kernel_rfl) (by kernel_rfl) (by kernel_rfl) (door_met os _)) ?_
 intro W base args ds gs before hval0 hW _ hsz0 hL _
 have hsz:(DataW.weightsEach Tryd.prog (Tryd.f4.params.toList++Rows.fnJoinNotSpec.plain.varTypes Tryd.prog) (ds++gs)).all (· ≤ reachBytes)=true:=hsz0
 have hval:∀ (j:Nat) t v,Tryd.f4.params[j]? = some t→args[j]? = some v→Value.okWide Tryd.prog W .any base t v:=hval0
 have hW':=hW
 obtain ⟨p,q,hA0,hV0,rfl,hfz,hnd⟩:=hW
 have hA:DataW.TrodAll enc Tryd.prog W 0 (fun _=>true) true Tryd.f4.params.toList args.toList ds p:=hA0
 have hV : DataW.TrodVars enc Tryd.prog W (fun _ => true) ["loop.example/recordbatches/impl.errNoJoin"] gs q := hV0
 rw [Tryd.params4] at hA hval hsz
 obtain ⟨v0,vs0,d0,ds0,p0,q0,hargs,rfl,rfl,h0,r0⟩:=trodAll_cons hA
 obtain ⟨rfl,rfl,rfl⟩:=trodAll_nil r0
 obtain rfl:args = #[v0]:=by cases args;simp_all
 have hL' : laidMet Tryd.prog Rows.fnJoinNotRow.laid W:=by
  rw [MakeChecks.laidMetH_plain _ _ _ (by kernel_rfl)] at hL
  exact hL
 obtain ⟨pe,se,hve,hce,hse,hze⟩:=laid_sentinel hL' gN gT Tryd.underlying42 rowE Tryd.underlying82 Tryd.underlying108 rfl rfl Tryd.underlying9 cellsE cellsS
 have hg0:W.cell? ⟨0,0,none⟩=some (T.errV pe true):=by
  have h9:=World.var?_cell gN hve 0
  simp only [T.errV,if_true]
  simpa using h9
 have vr : ∀ {X : World}, X.var? Tryd.prog "loop.example/recordbatches/impl.errNoJoin" = some #[.iface 82 (.pointer (some pe))] → ∀ sp : Nat → Bool,
   DataW.TrodVars enc Tryd.prog X sp ["loop.example/recordbatches/impl.errNoJoin"] [tok enc (.iface 82 (.pointer (some pe)))] [.cell 0 0] :=
  fun x0 sp=>vars_read1 enc gN gT Tryd.underlying42 x0 trivial sp
 obtain ⟨rfl,rfl⟩:=hV.unique (vr hve _)
 obtain ⟨a0,len0,cap0,rfl⟩:=okWide_slice Tryd.underlying22 (hval 0 22 v0 rfl rfl)
 have k0:=h0
 have lt0:∀ x∈p0,x.block < W.heap.size:=by obtain ⟨m,hm⟩:=k0;exact DataW.trod_lt m _ _ _ hm
 obtain ⟨z0,w0⟩:∃ zs,IsRow .u8 W a0 len0 cap0 zs:=by
  obtain ⟨fuel,hf⟩:=h0
  rcases open_ints Tryd.underlying22 Tryd.underlying5 (by kernel_rfl) hf with ⟨hcs,_⟩|⟨x,l,c,zs,hcs,_,hl,hm,hz,_,hcell,hwz⟩
  ·simp [Value.cells] at hcs
   obtain ⟨rfl,rfl,rfl⟩:=hcs
   exact ⟨[],.inl ⟨rfl,rfl,rfl,rfl⟩⟩
  ·simp [Value.cells] at hcs
   obtain ⟨rfl,rfl,rfl⟩:=hcs
   exact ⟨zs,.inr ⟨_,rfl,hl,hm,by simpa using hz,hcell,hwz⟩⟩
 have y0:len0 * 1≤140737488351232:=Go.Proofs.YtlckpbjldmkibaaDoorW.PrintWords.sized_ints hsz (j:=0) (t:=22) rfl rfl Tryd.underlying22 Tryd.underlying5 (by kernel_rfl) (by kernel_rfl) h0
 have hlt : 0 < W.heap.size:=World.block_lt_of_cell? W _ hg0
 clear hA0 hval0 hsz0 hsz hV0
 refine (T.laws_FnJoinNot.walk Pure.FnJoinNot a0 len0 cap0 z0 W pe hg0 w0 y0).mono fun e W' ⟨he,bel⟩=>?_
 subst he
 have hve' : W'.var? Tryd.prog "loop.example/recordbatches/impl.errNoJoin" = some #[.iface 82 (.pointer (some pe))] := (var_of_block gN (bel.block 0 hlt)).trans hve
 exact ⟨_,rfl,_,_,_,[],_,_,hW',trodAll_mk1 (shut_bool Tryd.underlying4 _),(trodAll_cons_mk (Below.trod laidOut (by kernel_rfl) (of_decide_eq_true (by kernel_rfl)) k0 bel lt0) trodAll_mk0),vr hve' _,bel.frame _,fun h=>by cases h⟩
theorem closed:joinedFacts Tryd.prog 4 Tryd.f4 Rows.fnJoinNotSpec Rows.fnJoinNotRow=true:=
 Head.closed_of _ _ _ _ _ (by kernel_rfl) (by kernel_rfl) (by kernel_rfl) (by kernel_rfl) (by kernel_rfl) (by kernel_rfl) (by kernel_rfl) (by kernel_rfl) (by kernel_rfl) (by kernel_rfl) (by kernel_rfl) (by kernel_rfl) (by kernel_rfl) (by kernel_rfl) (by kernel_rfl) (by kernel_rfl) (by kernel_rfl) (by kernel_rfl) (by kernel_rfl) (by kernel_rfl) (by kernel_rfl) (by kernel_rfl) (by kernel_rfl) (by kernel_rfl) (by kernel_rfl) Head.may_enter (by rw [Head.lifts_final];kernel_rfl) (by rw [Head.make_is];kernel_rfl) (by kernel_rfl) (by kernel_rfl) (by kernel_rfl) (by kernel_rfl)
theorem over:Rows.fnJoinNotRow.holds Tryd.pinned (OpenSpec.ofChange Rows.fnJoinNotSpec):=
 OpenClaim.holds_of_wide 4 Tryd.f4 rfl rfl rfl rfl rfl rfl rfl ⟨rfl,rfl,rfl,rfl,rfl⟩ rfl rfl rfl rfl rfl (by kernel_rfl) Tryd.func4 closed
  (of_decide_eq_true (by kernel_rfl)) (by unfold Func.isWrapper;first|(rw [if_pos (by decide +kernel)];kernel_rfl)|(rw [if_neg (by decide +kernel)];exact ⟨rfl,rfl⟩))
  (fun os started H enc _=>lifted os started H enc)
theorem card:Rows.FnJoinNotCardSaid:=
 Claim7.holds_tied_plain_at .later [] [.sentinel] true (true, "800ab0d8d9efb1ee471d8f3e904019c1a843da877d6d9f0f5f2679329bc4e994") true
  over (fun _ h=>by cases h) (by kernel_rfl) (fun _ h=>by cases h) fnJoinNot_row_tie rfl ⟨rfl,rfl⟩ (by kernel_rfl) rfl
  (fun f fn hf hfn=>by
   obtain rfl : f = 4 := Option.some.inj ((show Tryd.prog.funcNamed "loop.example/recordbatches/laws.FnJoinNot" = some 4 by kernel_rfl).symm.trans hf) |>.symm
   obtain rfl:fn=Tryd.f4:=(Option.some.inj (Tryd.func4.symm.trans hfn)).symm
   exact ⟨by kernel_rfl,fun j t ht=>by
    rw [Tryd.params4] at ht
    have h3:t=22:=by
     rcases j with _|j
     ·simpa using ht.symm
     ·simp at ht
    subst h3
    exact (show Tryd.prog.wantsStandIn 22=false by kernel_rfl)⟩)
  (by kernel_rfl)
end Go.Proofs.YtlckpbjldmkibaaDoor.fnJoinNot
namespace Go.Proofs.YtlckpbjldmkibaaDoor
theorem fnJoinNotCard_holds:Rows.FnJoinNotCardSaid:=fnJoinNot.card
end Go.Proofs.YtlckpbjldmkibaaDoor
