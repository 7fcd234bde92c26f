/- The law FnCompactKeep holds (part 6 of 7; merged by pack2.py). -/
import Derived.Test.YtkhjmhdgcmffaaaFnCompactKeepK4
open List (setIfInBounds_toArray set_cons_zero set_cons_succ map_toArray map_cons map_nil length_drop length_take)
namespace Go.Proofs.Ytkhjmhdgcmffaaa.VQ
open Go.RowKit Go.Proofs.Ytkhjmhdgcmffaaa.V Go.Proofs.YtkhjmhdgcmffaaaW.PrintWords Go.Proofs.YtkhjmhdgcmffaaaW.PrintLast
set_option linter.unusedVariables false
set_option linter.unusedSimpArgs false
def drawnBs (n:Nat) (l:List Bt):Prop:=l.length≤n∧∀ b∈l,drawnR 5 b.f5
theorem drawnBs_add {n:Nat} {l:List Bt} (h:drawnBs n l) {b:Bt} (hb:drawnR 5 b.f5):drawnBs (n+1) (l ++ [b]):=by
 refine ⟨by have:=h.1;simp;omega,fun x hx=>?_⟩
 rcases List.mem_append.1 hx with hx|hx
 ·exact h.2 x hx
 ·rw [List.mem_singleton.1 hx];exact hb
theorem drawnBs_mono {n m:Nat} {l:List Bt} (h:drawnBs n l) (hm:n≤m):drawnBs m l:=⟨by have:=h.1;omega,h.2⟩
theorem drawnBs_small {l:List Bt} (h:drawnBs 10 l):smallBs l:=⟨by have:=h.1;omega,fun b hb=>drawnR_small (by omega) (h.2 b hb)⟩
theorem drawnBs_set {n:Nat} {l:List Bt} (h:drawnBs n l) (i:Nat) {b:Bt} (hb:drawnR 5 b.f5):drawnBs n (l.set i b):=by
 refine ⟨by rw [List.length_set];exact h.1,fun x hx=>?_⟩
 rcases List.mem_or_eq_of_mem_set hx with hx|hx
 ·exact h.2 x hx
 ·rw [hx];exact hb
theorem lim3 {n c:Nat} (h:n≤10) (hc : 2000 < c):n < c:=by omega
theorem log_end (bs:List Int) (hb:Bytes bs) (hl:bs.length≤2000) (l:List Bt) (n o i p:Int) (hn:n≤9) (hi:¬ i < n) (hdr:drawnBs 9 l) (hle:n≤l.length) (h0 : 0≤p) (h1:p≤900000000) :
  Evs (fun k=>Qg.l0 k l n o i bs p) (fun r=>drawnBs 10 r.1∧0≤r.2∧r.2≤950000000):=by
 refine Evs.succ ?_
 simp only [Qg.l0,if_neg hi]
 by_cases h1n:n > 1
 ·simp only [if_pos h1n]
  refine Evs.bind (pick_evs bs p 30 hb hl h0 (by omega) (by omega)) ?_
  rintro ⟨u,_⟩ ⟨u0,u1,rfl⟩
  by_cases hu:u=0
  ·simp only [if_pos hu,if_pos (show 0 < (l.length:Int) by omega),if_pos (show 1 < (l.length:Int) by omega)]
   refine Evs.done ⟨drawnBs_set (drawnBs_mono hdr (by omega)) _ ?_,by dsimp only;omega,by dsimp only;omega⟩
   show drawnR 5 (rb l ((0:Nat):Int)).f5
   rw [rb_nat l 0 (by omega)]
   exact hdr.2 _ (List.getElem_mem (by omega))
  ·simp only [if_neg hu]
   exact Evs.done ⟨drawnBs_mono hdr (by omega),by dsimp only;omega,by dsimp only;omega⟩
 ·simp only [if_neg h1n]
  exact Evs.done ⟨drawnBs_mono hdr (by omega),by dsimp only;omega,by dsimp only;omega⟩
theorem log_loop (bs:List Int) (hb:Bytes bs) (hl:bs.length≤2000) (n:Int) (hn:n≤9):∀ (d:Nat) (l:List Bt) (o i p:Int),n - i≤d→0≤i→i≤max n 0→drawnBs i.toNat l→(l.length:Int)=i→0≤p→p+2000 * d≤400000000 →
  Evs (fun k=>Qg.l0 k l n o i bs p) (fun r=>drawnBs 10 r.1∧0≤r.2∧r.2≤950000000):=by
 intro d
 induction d with
 | zero=>
  intro l o i p hd hi hin hdr hle h0 h1
  exact log_end bs hb hl l n o i p hn (by omega) (drawnBs_mono hdr (by omega)) (by omega) h0 (by omega)
 | succ d ih=>
  intro l o i p hd hi hin hdr hle h0 h1
  by_cases hlt:i < n
  ·have e1:wrap64 (i+1)=i+1:=wrap_id (by omega) (by omega)
   have hlim:l.length < 2513169434916:=lim3 (by omega) (by omega)
   refine Evs.succ ?_
   simp only [Qg.l0,if_pos hlt]
   refine Evs.bind (batch_evs bs hb hl p o h0 (by omega)) ?_
   rintro ⟨a0,a1,a2,a3,a4,rs,q⟩ ⟨hd5,hrp,q0,q1,-⟩
   dsimp only at hd5 hrp q0 q1 ⊢
   have hlen5:=hd5.1
   refine Evs.bind (pick_evs bs q 20 hb hl (by omega) (by omega) (by omega)) ?_
   rintro ⟨u,_⟩ ⟨u0,u1,rfl⟩
   have main:∀ c:Bool,Evs (fun k=>Qg.j2 k l n o i c bs (q+1) a0 a1 a2 a3 a4 rs) (fun r=>drawnBs 10 r.1∧0≤r.2∧r.2≤950000000):=by
    intro c
    refine Evs.succ ?_
    cases c with
    | true=>
     simp only [Qg.j2,if_true]
     refine Evs.bind (recs_evs bs hb hl (q+1) o 2 (by omega) (by omega) (by omega) (by omega)) ?_
     rintro ⟨ss,t⟩ ⟨hd2,hsp,t0,t1⟩
     dsimp only at hd2 hsp t0 t1 ⊢
     have hlen2:=hd2.1
     have e2:wrap64 ((ss.length:Int) - 1)=(ss.length:Int) - 1:=wrap_id (by omega) (by omega)
     simp only [if_pos hlim,e2,if_pos (show 0≤(ss.length:Int) - 1 by omega),if_pos (show (ss.length:Int) - 1 < (ss.length:Int) by omega)]
     refine Evs.bind (pick_evs bs t 4 hb hl (by omega) (by omega) (by omega)) ?_
     rintro ⟨v,_⟩ ⟨v0,v1,rfl⟩
     simp only [e1]
     refine ih _ _ (i+1) (t+1) (by omega) (by omega) (by omega) ?_ (by simp;omega) (by omega) (by omega)
     rw [show (i+1).toNat=i.toNat+1 by omega]
     exact drawnBs_add hdr (drawnR_mono hd2 (by omega))
    | false=>
     have e2:wrap64 ((rs.length:Int) - 1)=(rs.length:Int) - 1:=wrap_id (by omega) (by omega)
     simp only [Qg.j2,Bool.false_eq_true,if_false,if_pos hlim,e2,if_pos (show 0≤(rs.length:Int) - 1 by omega),if_pos (show (rs.length:Int) - 1 < (rs.length:Int) by omega)]
     refine Evs.bind (pick_evs bs (q+1) 4 hb hl (by omega) (by omega) (by omega)) ?_
     rintro ⟨v,_⟩ ⟨v0,v1,rfl⟩
     simp only [e1]
     refine ih _ _ (i+1) (q+1+1) (by omega) (by omega) (by omega) ?_ (by simp;omega) (by omega) (by omega)
     rw [show (i+1).toNat=i.toNat+1 by omega]
     exact drawnBs_add hdr hd5
   by_cases hu:u > 0
   ·simp only [if_pos hu]
    obtain ⟨b,hb2⟩:∃ b,Ev (fun k=>Qn.f k a0 a1 a2 a3 a4 rs) b:=⟨_,specB a0 a1 a2 a3 a4 rs (drawnR_small (by omega) hd5)⟩
    refine Evs.bind (Evs.of (Q:=fun x=>x=b) hb2 rfl) ?_
    rintro _ rfl
    exact main _
   ·simp only [if_neg hu]
    exact main _
  ·exact log_end bs hb hl l n o i p hn hlt (drawnBs_mono hdr (by omega)) (by omega) h0 (by omega)
theorem log_evs' (bs:List Int) (hb:Bytes bs) (hl:bs.length≤2000):Evs (fun k=>Qg.f k bs 0) (fun r=>drawnBs 10 r.1∧0≤r.2∧r.2≤950000000):=by
 have main:∀ (n p:Int),n≤9→0≤p→p≤100→Evs (fun k=>Qg.j0 k [] n bs p) (fun r=>drawnBs 10 r.1∧0≤r.2∧r.2≤950000000):=by
  intro n p hn h0 h1
  refine Evs.succ ?_
  simp only [Qg.j0]
  refine Evs.bind (pick_evs bs p 10 hb hl h0 (by omega) (by omega)) ?_
  rintro ⟨u,_⟩ ⟨u0,u1,rfl⟩
  exact log_loop bs hb hl n hn 10 [] u 0 (p+1) (by omega) (by omega) (by omega) ⟨by simp,fun b hb=>by cases hb⟩ (by simp) (by omega) (by omega)
 unfold Qg.f
 simp only [bsome]
 refine Evs.bind (pick_evs bs 0 5 hb hl (by omega) (by omega) (by omega)) ?_
 rintro ⟨u,_⟩ ⟨u0,u1,rfl⟩
 refine Evs.bind (pick_evs bs (0+1) 16 hb hl (by omega) (by omega) (by omega)) ?_
 rintro ⟨v,_⟩ ⟨v0,v1,rfl⟩
 by_cases hv:v=0
 ·simp only [if_pos hv]
  refine Evs.bind (pick_evs bs (0+1+1) 3 hb hl (by omega) (by omega) (by omega)) ?_
  rintro ⟨x,_⟩ ⟨x0,x1,rfl⟩
  simp only [if_pos x0,if_pos (show x < (([0,8,9]:List Int).length:Int) from x1)]
  refine main _ _ ?_ (by omega) (by omega)
  have:x=0∨x=1∨x=2:=by omega
  rcases this with rfl|rfl|rfl <;> decide
 ·simp only [if_neg hv]
  rw [show wrap64 (1+u)=1+u from wrap_id (by omega) (by omega)]
  exact main _ _ (by omega) (by omega) (by omega)
theorem sameInts_loop (a b:List Int) (hl:a.length=b.length) (hs:a.length≤1000000000000000):∀ (d i:Nat),a.length - i=d→i≤a.length→Ev (fun k=>Qu.l0 k a b (i:Int)) (decide (a.drop i=b.drop i)):=by
 intro d
 induction d with
 | zero=>
  intro i hd hi
  rw [show a.drop i = [] from List.drop_eq_nil_of_le (by omega),show b.drop i = [] from List.drop_eq_nil_of_le (by omega)]
  refine ev_succ ?_
  simp only [Qu.l0,if_neg (show ¬ (i:Int) < (a.length:Int) by omega),decide_true]
  exact ev_some _
 | succ d ih=>
  intro i hd hi
  have hlt:(i:Int) < (a.length:Int):=by omega
  have e1:wrap64 ((i:Int)+1)=((i+1:Nat):Int):=by rw [wrap_id (by omega) (by omega)];omega
  rw [drop_int (show i < a.length by omega),drop_int (show i < b.length by omega)]
  refine ev_succ ?_
  simp only [Qu.l0,if_pos hlt,if_pos (show (0:Int)≤i by omega),if_pos (show (i:Int) < (b.length:Int) by omega),e1]
  by_cases h0:rd a i=rd b i
  ·simp only [if_pos h0]
   have:=ih (i+1) (by omega) (by omega)
   simpa [h0] using this
  ·simp only [if_neg h0]
   rw [decide_eq_false (by simp [h0])]
   exact ev_some _
theorem sameInts (a b:List Int) (hs:a.length≤1000000000000000):Ev (fun k=>Qu.f k a b) (decide (a=b)):=by
 unfold Qu.f
 by_cases h:(a.length:Int)=(b.length:Int)
 ·simp only [if_pos h]
  have:=sameInts_loop a b (by omega) hs a.length 0 (by omega) (by omega)
  simpa using this
 ·simp only [if_neg h]
  rw [decide_eq_false (fun e=>h (by rw [e]))]
  exact ev_some _
theorem Rc_ext {a b:Rc} (h0:a.f0=b.f0) (h1:a.f1=b.f1) (h2:a.f2=b.f2) (h3:a.f3=b.f3) (h4:a.f4=b.f4) (h5:a.f5=b.f5):a=b:=by
 cases a
 cases b
 simp_all
instance:DecidableEq Rc:=fun a b=>decidable_of_iff (a.f0=b.f0∧a.f1=b.f1∧a.f2=b.f2∧a.f3=b.f3∧a.f4=b.f4∧a.f5=b.f5) ⟨fun h=>Rc_ext h.1 h.2.1 h.2.2.1 h.2.2.2.1 h.2.2.2.2.1 h.2.2.2.2.2,fun h=>by rw [h];simp⟩
theorem sameRec (a b:Rc) (hs:smallR a):Ev (fun k=>Rf.f k a.f0 a.f1 a.f2 a.f3 a.f4 a.f5 b.f0 b.f1 b.f2 b.f3 b.f4 b.f5) (decide (a=b)):=by
 unfold Rf.f
 by_cases h0:a.f0=b.f0
 ·by_cases h1:a.f1=b.f1
  ·by_cases h2:a.f2=b.f2
   ·by_cases h4:a.f4=b.f4
    ·simp only [if_pos h0,if_pos h1,if_pos (show (a.f2==b.f2)=true by simpa using h2),if_pos (show (a.f4==b.f4)=true by simpa using h4)]
     refine Ev.bind (sameInts a.f3 b.f3 hs.1) ?_
     by_cases h3:a.f3=b.f3
     ·simp only [if_pos (decide_eq_true h3)]
      refine Ev.bind (sameInts a.f5 b.f5 hs.2) ?_
      by_cases h5:a.f5=b.f5
      ·rw [decide_eq_true h5,decide_eq_true (Rc_ext h0 h1 h2 h3 h4 h5)]
       exact ev_some _
      ·rw [decide_eq_false h5,decide_eq_false (fun e=>h5 (by rw [e]))]
       exact ev_some _
     ·simp only [decide_eq_false h3,Bool.false_eq_true,if_false]
      rw [decide_eq_false (fun e=>h3 (by rw [e]))]
      exact ev_some _
    ·simp only [if_pos h0,if_pos h1,if_pos (show (a.f2==b.f2)=true by simpa using h2),if_neg (show ¬ (a.f4==b.f4)=true by simpa using h4)]
     rw [decide_eq_false (fun e=>h4 (by rw [e]))]
     exact ev_some _
   ·simp only [if_pos h0,if_pos h1,if_neg (show ¬ (a.f2==b.f2)=true by simpa using h2)]
    rw [decide_eq_false (fun e=>h2 (by rw [e]))]
    exact ev_some _
  ·simp only [if_pos h0,if_neg h1]
   rw [decide_eq_false (fun e=>h1 (by rw [e]))]
   exact ev_some _
 ·simp only [if_neg h0]
  rw [decide_eq_false (fun e=>h0 (by rw [e]))]
  exact ev_some _
theorem drop_rec {l:List Rc} {i:Nat} (h:i < l.length):l.drop i=rr l i::l.drop (i+1):=by
 rw [List.drop_eq_getElem_cons h,rr_nat l i h]
theorem sameRecs_loop (a b:List Rc) (hl:a.length=b.length) (hs:smallRs a):∀ (d i:Nat),a.length - i=d→i≤a.length→Ev (fun k=>Qm.l0 k a b (i:Int)) (decide (a.drop i=b.drop i)):=by
 have hlen:=hs.1
 intro d
 induction d with
 | zero=>
  intro i hd hi
  rw [show a.drop i = [] from List.drop_eq_nil_of_le (by omega),show b.drop i = [] from List.drop_eq_nil_of_le (by omega)]
  refine ev_succ ?_
  simp only [Qm.l0,if_neg (show ¬ (i:Int) < (a.length:Int) by omega),decide_true]
  exact ev_some _
 | succ d ih=>
  intro i hd hi
  have hlt:(i:Int) < (a.length:Int):=by omega
  have e1:wrap64 ((i:Int)+1)=((i+1:Nat):Int):=by rw [wrap_id (by omega) (by omega)];omega
  rw [drop_rec (show i < a.length by omega),drop_rec (show i < b.length by omega)]
  refine ev_succ ?_
  simp only [Qm.l0,if_pos hlt,if_pos (show (0:Int)≤i by omega),if_pos (show (i:Int) < (b.length:Int) by omega),e1]
  refine Ev.bind (sameRec (rr a i) (rr b i) (smallRs_at hs i (by omega))) ?_
  by_cases h0:rr a i=rr b i
  ·simp only [if_pos (decide_eq_true h0)]
   have:=ih (i+1) (by omega) (by omega)
   simpa [h0] using this
  ·simp only [decide_eq_false h0,Bool.false_eq_true,if_false]
   rw [decide_eq_false (by simp [h0])]
   exact ev_some _
theorem sameRecs (a b:List Rc) (hs:smallRs a):Ev (fun k=>Qm.f k a b) (decide (a=b)):=by
 unfold Qm.f
 by_cases h:(a.length:Int)=(b.length:Int)
 ·simp only [if_pos h]
  have:=sameRecs_loop a b (by omega) hs a.length 0 (by omega) (by omega)
  simpa using this
 ·simp only [if_neg h]
  rw [decide_eq_false (fun e=>h (by rw [e]))]
  exact ev_some _
end Go.Proofs.Ytkhjmhdgcmffaaa.VQ
