/- The law FnExactUndoneOf holds (part 6 of 6; merged by pack2.py). -/
import Derived.OpenShut
import Derived.ShutString
import Derived.ChangeOld
import Derived.SizedLaws
import Derived.Test.YticpnjhkdfdkkaaFnExactUndoneOfK4
set_option maxRecDepth 1000000
open List (setIfInBounds_toArray set_cons_zero set_cons_succ map_toArray map_cons map_nil length_drop length_take)
namespace Go.Proofs.Yticpnjhkdfdkkaa.Q
open Go.RowKit Go.Proofs.Yticpnjhkdfdkkaa.T Go.Proofs.YticpnjhkdfdkkaaW.PrintWords Go.Proofs.YticpnjhkdfdkkaaW.PrintLast
set_option linter.unusedVariables false
set_option linter.unusedSimpArgs false
abbrev Lr:=S120
abbrev Lb:=S83
def toR (x:Lr):Rc:=⟨x.f0,x.f1,x.f2,x.f3,x.f4,x.f5⟩
def toB (x:Lb):Bt:=⟨x.f0,x.f1,x.f2,x.f3,x.f4,x.f5.map toR⟩
theorem rdLr (l:List Lr) (j:Nat) (h:j < l.length):Qq l (j:Int)=l[j]:=by
 unfold Qq
 rw [Int.toNat_natCast,List.getD_eq_getElem?_getD,List.getElem?_eq_getElem h]
 rfl
theorem rdLb (l:List Lb) (j:Nat) (h:j < l.length):Qt l (j:Int)=l[j]:=by
 unfold Qt
 rw [Int.toNat_natCast,List.getD_eq_getElem?_getD,List.getElem?_eq_getElem h]
 rfl
def sz (a:Int) (P:Prop) (r:Int):Prop:=r = -1∨(0≤r∧r≤a∧P)
theorem szInts (l:List Int) (hl:l.length≤9223372036854775807) (a:Int) (h0 : 0≤a) (h1:a≤1048576):∃ r,Q8.f l a=some r∧sz a (l.length≤1048576) r:=by
 have e:wrap64 (a - (l.length:Int))=a - (l.length:Int):=wrap_id (by omega) (by omega)
 unfold Q8.f
 rw [e]
 by_cases h:a - (l.length:Int) < 0
 ·rw [if_pos h];exact ⟨_,rfl,Or.inl rfl⟩
 ·rw [if_neg h];exact ⟨_,rfl,Or.inr ⟨by omega,by omega,by omega⟩⟩
def okR (x:Lr):Prop:=x.f3.length≤1048576∧x.f5.length≤1048576
def bigR (x:Lr):Prop:=x.f3.length≤9223372036854775807∧x.f5.length≤9223372036854775807
theorem szRec (x:Lr) (hx:bigR x) (a:Int) (h0 : 0≤a) (h1:a≤1048576):∃ r,Rk.f x.f0 x.f1 x.f2 x.f3 x.f4 x.f5 a=some r∧sz a (okR x) r:=by
 obtain ⟨r1,e1,p1⟩:=szInts x.f3 hx.1 a h0 h1
 unfold Rk.f
 rw [e1]
 rw [bsome]
 rcases p1 with rfl|⟨q0,q1,q2⟩
 ·rw [if_pos (by omega)];exact ⟨_,rfl,Or.inl rfl⟩
 ·rw [if_neg (by omega)]
  obtain ⟨r2,e2,p2⟩:=szInts x.f5 hx.2 r1 q0 (by omega)
  rw [e2]
  rw [bsome]
  rcases p2 with rfl|⟨s0,s1,s2⟩
  ·rw [if_pos (by omega)];exact ⟨_,rfl,Or.inl rfl⟩
  ·rw [if_neg (by omega)];exact ⟨_,rfl,Or.inr ⟨s0,by omega,q2,s2⟩⟩
theorem szRecs_loop (l:List Lr) (hl:l.length≤1048576) (hx:∀ x∈l,bigR x):∀ (d i:Nat) (a:Int),l.length - i=d→i≤l.length→0≤a→a≤1048576→Evs (fun k=>Qx.l0 k l a (i:Int)) (sz a (∀ j,i≤j→(h:j < l.length)→okR l[j])):=by
 intro d
 induction d with
 | zero=>
  intro i a hd hi h0 h1
  refine Evs.succ ?_
  simp only [Qx.l0,if_neg (show ¬ (i:Int) < (l.length:Int) by omega)]
  exact Evs.done (Or.inr ⟨h0,Int.le_refl _,fun j hj h=>by omega⟩)
 | succ d ih=>
  intro i a hd hi h0 h1
  have hlt:i < l.length:=by omega
  have e1:wrap64 ((i:Int)+1)=((i+1:Nat):Int):=by rw [wrap_id (by omega) (by omega)];omega
  refine Evs.succ ?_
  obtain ⟨r,er,pr⟩:=szRec l[i] (hx _ (List.getElem_mem hlt)) a h0 h1
  simp only [Qx.l0,if_pos (show (i:Int) < (l.length:Int) by omega),if_pos (show (0:Int)≤(i:Int) by omega),rdLr l i hlt,er,bsome,e1]
  rcases pr with rfl|⟨q0,q1,q2⟩
  ·simp only [if_pos (show (-1:Int) < 0 by omega)]
   exact Evs.done (Or.inl rfl)
  ·simp only [if_neg (show ¬ r < 0 by omega)]
   refine (ih (i+1) r (by omega) (by omega) q0 (by omega)).mono fun r2 h2=>?_
   rcases h2 with h2|⟨s0,s1,s2⟩
   ·exact Or.inl h2
   ·refine Or.inr ⟨s0,by omega,fun j hj h=>?_⟩
    by_cases he:j=i
    ·subst he;exact q2
    ·exact s2 j (by omega) h
theorem szRecs (l:List Lr) (hl:l.length≤9223372036854775807) (hx:∀ x∈l,bigR x) (a:Int) (h0 : 0≤a) (h1:a≤1048576):Evs (fun k=>Qx.f k l a) (sz a (l.length≤1048576∧∀ x∈l,okR x)):=by
 have e:wrap64 (a - (l.length:Int))=a - (l.length:Int):=wrap_id (by omega) (by omega)
 unfold Qx.f
 simp only [e]
 by_cases h:a - (l.length:Int) < 0
 ·simp only [if_pos h];exact Evs.done (Or.inl rfl)
 ·simp only [if_neg h]
  refine (szRecs_loop l (by omega) hx l.length 0 _ rfl (by omega) (by omega) (by omega)).mono fun r hr=>?_
  rcases hr with hr|⟨s0,s1,s2⟩
  ·exact Or.inl hr
  ·refine Or.inr ⟨s0,by omega,by omega,fun x hx2=>?_⟩
   obtain ⟨j,hj,rfl⟩:=List.getElem_of_mem hx2
   exact s2 j (Nat.zero_le _) hj
def okB (x:Lb):Prop:=x.f5.length≤1048576∧∀ y∈x.f5,okR y
def bigB (x:Lb):Prop:=x.f5.length≤9223372036854775807∧∀ y∈x.f5,bigR y
theorem szBat (x:Lb) (hx:bigB x) (a:Int) (h0 : 0≤a) (h1:a≤1048576):Evs (fun k=>Rn.f k x.f0 x.f1 x.f2 x.f3 x.f4 x.f5 a) (sz a (okB x)):=by
 unfold Rn.f
 refine Evs.bind (szRecs x.f5 hx.1 hx.2 a h0 h1) ?_
 intro r hr
 rcases hr with rfl|⟨s0,s1,s2⟩
 ·simp only [if_pos (show (-1:Int) < 0 by omega)];exact Evs.done (Or.inl rfl)
 ·simp only [if_neg (show ¬ r < 0 by omega)];exact Evs.done (Or.inr ⟨s0,s1,s2⟩)
theorem szBats_loop (l:List Lb) (hl:l.length≤1048576) (hx:∀ x∈l,bigB x):∀ (d i:Nat) (a:Int),l.length - i=d→i≤l.length→0≤a→a≤1048576→Evs (fun k=>Qu.l0 k l a (i:Int)) (sz a (∀ j,i≤j→(h:j < l.length)→okB l[j])):=by
 intro d
 induction d with
 | zero=>
  intro i a hd hi h0 h1
  refine Evs.succ ?_
  simp only [Qu.l0,if_neg (show ¬ (i:Int) < (l.length:Int) by omega)]
  exact Evs.done (Or.inr ⟨h0,Int.le_refl _,fun j hj h=>by omega⟩)
 | succ d ih=>
  intro i a hd hi h0 h1
  have hlt:i < l.length:=by omega
  have e1:wrap64 ((i:Int)+1)=((i+1:Nat):Int):=by rw [wrap_id (by omega) (by omega)];omega
  refine Evs.succ ?_
  simp only [Qu.l0,if_pos (show (i:Int) < (l.length:Int) by omega),if_pos (show (0:Int)≤(i:Int) by omega),rdLb l i hlt,e1]
  refine Evs.bind (szBat l[i] (hx _ (List.getElem_mem hlt)) a h0 h1) ?_
  intro r pr
  rcases pr with rfl|⟨q0,q1,q2⟩
  ·simp only [if_pos (show (-1:Int) < 0 by omega)]
   exact Evs.done (Or.inl rfl)
  ·simp only [if_neg (show ¬ r < 0 by omega)]
   refine (ih (i+1) r (by omega) (by omega) q0 (by omega)).mono fun r2 h2=>?_
   rcases h2 with h2|⟨s0,s1,s2⟩
   ·exact Or.inl h2
   ·refine Or.inr ⟨s0,by omega,fun j hj h=>?_⟩
    by_cases he:j=i
    ·subst he;exact q2
    ·exact s2 j (by omega) h
theorem szBats (l:List Lb) (hl:l.length≤9223372036854775807) (hx:∀ x∈l,bigB x) (a:Int) (h0 : 0≤a) (h1:a≤1048576):Evs (fun k=>Qu.f k l a) (sz a (l.length≤1048576∧∀ x∈l,okB x)):=by
 have e:wrap64 (a - (l.length:Int))=a - (l.length:Int):=wrap_id (by omega) (by omega)
 unfold Qu.f
 simp only [e]
 by_cases h:a - (l.length:Int) < 0
 ·simp only [if_pos h];exact Evs.done (Or.inl rfl)
 ·simp only [if_neg h]
  refine (szBats_loop l (by omega) hx l.length 0 _ rfl (by omega) (by omega) (by omega)).mono fun r hr=>?_
  rcases hr with hr|⟨s0,s1,s2⟩
  ·exact Or.inl hr
  ·refine Or.inr ⟨s0,by omega,by omega,fun x hx2=>?_⟩
   obtain ⟨j,hj,rfl⟩:=List.getElem_of_mem hx2
   exact s2 j (Nat.zero_le _) hj
theorem set_mid {α:Type} (a:List α) (x y : α) (b:List α) (i:Nat) (h:i=a.length):(a++x::b).set i y=a++y::b:=by
 subst h
 simp
theorem fill_step {α:Type} (l:List α) (z : α) (i:Nat) (h:i < l.length):(l.take i++List.replicate (l.length - i) z).set i l[i]=l.take (i+1)++List.replicate (l.length - (i+1)) z:=by
 have e:l.length - i=(l.length - (i+1))+1:=by omega
 rw [e,List.replicate_succ,set_mid _ _ _ _ _ (by rw [length_take];omega)]
 have h2:l.take (i+1)=l.take i ++ [l[i]]:=by simp
 rw [h2,List.append_assoc]
 rfl
theorem fill_len {α:Type} (l:List α) (z : α) (i:Nat) (h:i≤l.length):(l.take i++List.replicate (l.length - i) z).length=l.length:=by
 rw [List.length_append,length_take,List.length_replicate]
 omega
theorem toInts (l:List Int) (hl:l.length≤1048576):Ev (fun k=>Qz.f k l) l:=by
 have loop:∀ (d i:Nat),l.length - i=d→i≤l.length→Ev (fun k=>Qz.l0 k l (l.take i++List.replicate (l.length - i) 0) (i:Int)) l:=by
  intro d
  induction d with
  | zero=>
   intro i hd hi
   refine ev_succ ?_
   simp only [Qz.l0,if_neg (show ¬ (i:Int) < (l.length:Int) by omega)]
   have:l.take i++List.replicate (l.length - i) 0=l:=by rw [List.take_of_length_le (by omega),hd];simp
   rw [this]
   exact ev_some _
  | succ d ih=>
   intro i hd hi
   have hlt:i < l.length:=by omega
   have e1:wrap64 ((i:Int)+1)=((i+1:Nat):Int):=by rw [wrap_id (by omega) (by omega)];omega
   refine ev_succ ?_
   simp only [Qz.l0,if_pos (show (i:Int) < (l.length:Int) by omega),if_pos (show (0:Int)≤(i:Int) by omega),fill_len l 0 i hi,e1,Int.toNat_natCast,rd_nat l i hlt,fill_step l 0 i hlt]
   exact ih (i+1) (by omega) (by omega)
 unfold Qz.f
 simp only [if_pos (show 0≤(l.length:Int) by omega),Int.toNat_natCast,if_pos (show l.length≤35184372088832 by omega)]
 exact loop l.length 0 rfl (by omega)
theorem toRec (x:Lr) (hx:okR x):Ev (fun k=>Rp.f k x.f0 x.f1 x.f2 x.f3 x.f4 x.f5) (x.f0,x.f1,x.f2,x.f3,x.f4,x.f5):=by
 unfold Rp.f
 refine Ev.bind (toInts x.f3 hx.1) ?_
 exact Ev.bind (toInts x.f5 hx.2) (ev_some _)
theorem toRecs (l:List Lr) (hl:l.length≤1048576) (hx:∀ x∈l,okR x):Ev (fun k=>Qs.f k l) (l.map toR):=by
 have hml:(l.map toR).length=l.length:=List.length_map ..
 have loop:∀ (d i:Nat),l.length - i=d→i≤l.length→Ev (fun k=>Qs.l0 k l ((l.map toR).take i++List.replicate ((l.map toR).length - i) z34) (i:Int)) (l.map toR):=by
  intro d
  induction d with
  | zero=>
   intro i hd hi
   refine ev_succ ?_
   simp only [Qs.l0,if_neg (show ¬ (i:Int) < (l.length:Int) by omega)]
   have:(l.map toR).take i++List.replicate ((l.map toR).length - i) z34=l.map toR:=by rw [List.take_of_length_le (by omega),hml,hd];simp
   rw [this]
   exact ev_some _
  | succ d ih=>
   intro i hd hi
   have hlt:i < l.length:=by omega
   have e1:wrap64 ((i:Int)+1)=((i+1:Nat):Int):=by rw [wrap_id (by omega) (by omega)];omega
   have hfs:=fill_step (l.map toR) z34 i (by omega)
   have hfl:=fill_len (l.map toR) z34 i (by omega)
   refine ev_succ ?_
   simp only [Qs.l0,if_pos (show (i:Int) < (l.length:Int) by omega),if_pos (show (0:Int)≤(i:Int) by omega),rdLr l i hlt,e1,hfl,Int.toNat_natCast]
   refine Ev.bind (toRec l[i] (hx _ (List.getElem_mem hlt))) ?_
   simp only [if_pos (show (i:Int) < ((l.map toR).length:Int) by omega)]
   have hg:(l.map toR)[i]=toR l[i]:=by simp
   rw [hg] at hfs
   rw [show (⟨l[i].f0,l[i].f1,l[i].f2,l[i].f3,l[i].f4,l[i].f5⟩:Rc)=toR l[i] from rfl,hfs]
   exact ih (i+1) (by omega) (by omega)
 unfold Qs.f
 simp only [if_pos (show 0≤(l.length:Int) by omega),Int.toNat_natCast,if_pos (show l.length≤3518437208883 by omega)]
 have:=loop l.length 0 rfl (by omega)
 rw [hml] at this
 exact this
theorem toBat (x:Lb) (hx:okB x):Ev (fun k=>Rt.f k x.f0 x.f1 x.f2 x.f3 x.f4 x.f5) (x.f0,x.f1,x.f2,x.f3,x.f4,x.f5.map toR):=by
 unfold Rt.f
 exact Ev.bind (toRecs x.f5 hx.1 hx.2) (ev_some _)
theorem toBats (l:List Lb) (hl:l.length≤1048576) (hx:∀ x∈l,okB x):Ev (fun k=>Qh.f k l) (l.map toB):=by
 have hml:(l.map toB).length=l.length:=List.length_map ..
 have loop:∀ (d i:Nat),l.length - i=d→i≤l.length→Ev (fun k=>Qh.l0 k l ((l.map toB).take i++List.replicate ((l.map toB).length - i) z27) (i:Int)) (l.map toB):=by
  intro d
  induction d with
  | zero=>
   intro i hd hi
   refine ev_succ ?_
   simp only [Qh.l0,if_neg (show ¬ (i:Int) < (l.length:Int) by omega)]
   have:(l.map toB).take i++List.replicate ((l.map toB).length - i) z27=l.map toB:=by rw [List.take_of_length_le (by omega),hml,hd];simp
   rw [this]
   exact ev_some _
  | succ d ih=>
   intro i hd hi
   have hlt:i < l.length:=by omega
   have e1:wrap64 ((i:Int)+1)=((i+1:Nat):Int):=by rw [wrap_id (by omega) (by omega)];omega
   have hfs:=fill_step (l.map toB) z27 i (by omega)
   have hfl:=fill_len (l.map toB) z27 i (by omega)
   refine ev_succ ?_
   simp only [Qh.l0,if_pos (show (i:Int) < (l.length:Int) by omega),if_pos (show (0:Int)≤(i:Int) by omega),rdLb l i hlt,e1,hfl,Int.toNat_natCast]
   refine Ev.bind (toBat l[i] (hx _ (List.getElem_mem hlt))) ?_
   simp only [if_pos (show (i:Int) < ((l.map toB).length:Int) by omega)]
   have hg:(l.map toB)[i]=toB l[i]:=by simp
   rw [hg] at hfs
   rw [show (⟨l[i].f0,l[i].f1,l[i].f2,l[i].f3,l[i].f4,l[i].f5.map toR⟩:Bt)=toB l[i] from rfl,hfs]
   exact ih (i+1) (by omega) (by omega)
 unfold Qh.f
 simp only [if_pos (show 0≤(l.length:Int) by omega),Int.toNat_natCast,if_pos (show l.length≤5026338869833 by omega)]
 have:=loop l.length 0 rfl (by omega)
 rw [hml] at this
 exact this
theorem eqInts_self (a:List Int) (hs:a.length≤1048576):Ev (fun k=>Qy.f k a a) true:=by
 have loop:∀ (d i:Nat),a.length - i=d→i≤a.length→Ev (fun k=>Qy.l0 k a a (i:Int)) true:=by
  intro d
  induction d with
  | zero=>
   intro i hd hi
   refine ev_succ ?_
   simp only [Qy.l0,if_neg (show ¬ (i:Int) < (a.length:Int) by omega)]
   exact ev_some _
  | succ d ih=>
   intro i hd hi
   have e1:wrap64 ((i:Int)+1)=((i+1:Nat):Int):=by rw [wrap_id (by omega) (by omega)];omega
   refine ev_succ ?_
   simp only [Qy.l0,if_pos (show (i:Int) < (a.length:Int) by omega),if_pos (show (0:Int)≤(i:Int) by omega),if_true,e1]
   exact ih (i+1) (by omega) (by omega)
 unfold Qy.f
 simp only [if_true]
 exact loop a.length 0 rfl (by omega)
def okRc (x:Rc):Prop:=x.f3.length≤1048576∧x.f5.length≤1048576
theorem eqRec_self (x:Rc) (hx:okRc x):Ev (fun k=>Rj.f k x.f0 x.f1 x.f2 x.f3 x.f4 x.f5 x.f0 x.f1 x.f2 x.f3 x.f4 x.f5) true:=by
 unfold Rj.f
 simp only [if_true,bne_self_eq_false,Bool.false_eq_true,if_false]
 refine Ev.bind (eqInts_self x.f3 hx.1) ?_
 simp only [if_true]
 refine Ev.bind (eqInts_self x.f5 hx.2) ?_
 simp only [if_true]
 exact ev_some _
theorem eqRecs_self (a:List Rc) (hs:a.length≤1048576) (hx:∀ x∈a,okRc x):Ev (fun k=>Qm.f k a a) true:=by
 have loop:∀ (d i:Nat),a.length - i=d→i≤a.length→Ev (fun k=>Qm.l0 k a a (i:Int)) true:=by
  intro d
  induction d with
  | zero=>
   intro i hd hi
   refine ev_succ ?_
   simp only [Qm.l0,if_neg (show ¬ (i:Int) < (a.length:Int) by omega)]
   exact ev_some _
  | succ d ih=>
   intro i hd hi
   have hlt:i < a.length:=by omega
   have e1:wrap64 ((i:Int)+1)=((i+1:Nat):Int):=by rw [wrap_id (by omega) (by omega)];omega
   refine ev_succ ?_
   simp only [Qm.l0,if_pos (show (i:Int) < (a.length:Int) by omega),if_pos (show (0:Int)≤(i:Int) by omega),e1]
   refine Ev.bind (eqRec_self (rr a (i:Int)) (by rw [rr_nat a i hlt];exact hx _ (List.getElem_mem hlt))) ?_
   simp only [if_true]
   exact ih (i+1) (by omega) (by omega)
 unfold Qm.f
 simp only [if_true]
 exact loop a.length 0 rfl (by omega)
def okBt (x:Bt):Prop:=x.f5.length≤1048576∧∀ y∈x.f5,okRc y
theorem eqBat_self (x:Bt) (hx:okBt x):Ev (fun k=>Rl.f k x.f0 x.f1 x.f2 x.f3 x.f4 x.f5 x.f0 x.f1 x.f2 x.f3 x.f4 x.f5) true:=by
 unfold Rl.f
 simp only [if_true,bne_self_eq_false,Bool.false_eq_true,if_false]
 refine Ev.bind (eqRecs_self x.f5 hx.1 hx.2) ?_
 simp only [if_true]
 exact ev_some _
theorem eqBats_self (a:List Bt) (hs:a.length≤1048576) (hx:∀ x∈a,okBt x):Ev (fun k=>Qp.f k a a) true:=by
 have loop:∀ (d i:Nat),a.length - i=d→i≤a.length→Ev (fun k=>Qp.l0 k a a (i:Int)) true:=by
  intro d
  induction d with
  | zero=>
   intro i hd hi
   refine ev_succ ?_
   simp only [Qp.l0,if_neg (show ¬ (i:Int) < (a.length:Int) by omega)]
   exact ev_some _
  | succ d ih=>
   intro i hd hi
   have hlt:i < a.length:=by omega
   have e1:wrap64 ((i:Int)+1)=((i+1:Nat):Int):=by rw [wrap_id (by omega) (by omega)];omega
   refine ev_succ ?_
   simp only [Qp.l0,if_pos (show (i:Int) < (a.length:Int) by omega),if_pos (show (0:Int)≤(i:Int) by omega),e1]
   refine Ev.bind (eqBat_self (rb a (i:Int)) (by rw [rb_nat a i hlt];exact hx _ (List.getElem_mem hlt))) ?_
   simp only [if_true]
   exact ih (i+1) (by omega) (by omega)
 unfold Qp.f
 simp only [if_true]
 exact loop a.length 0 rfl (by omega)
theorem okBt_of (x:Lb) (h:okB x):okBt (toB x):=by
 refine ⟨by show (x.f5.map toR).length≤1048576;rw [List.length_map];exact h.1,fun y hy=>?_⟩
 obtain ⟨z,hz,rfl⟩:=List.mem_map.1 hy
 exact h.2 z hz
theorem smallRs_of (x:Lb) (h:okB x):smallRs (toB x).f5:=by
 have h2:=okBt_of x h
 exact ⟨by have:=h2.1;omega,fun y hy=>⟨by have:=(h2.2 y hy).1;omega,by have:=(h2.2 y hy).2;omega⟩⟩
theorem maxLen_le:maxLen≤9223372036854775807:=by unfold maxLen;omega
theorem bigB_of {x:Lb} (h:WF83 x):bigB x:=by
 have hm:=maxLen_le
 unfold WF83 at h
 have h5:=h.2.2.2.2.2
 refine ⟨Nat.le_trans h5.1 hm,fun y hy=>?_⟩
 have h6:=h5.2 y hy
 unfold WF120 at h6
 exact ⟨Nat.le_trans h6.2.2.2.1.1 hm,Nat.le_trans h6.2.2.2.2.2.1 hm⟩
def marksU:Nat→Int→List Un
 | 0,_=>[]
 | n+1,a=>⟨a,a+1,a+1+1⟩::marksU n (a+1+1+1)
theorem marksU_length:∀ (n:Nat) (a:Int),(marksU n a).length=n
 | 0,_=>rfl
 | n+1,a=>by simp [marksU,marksU_length n]
theorem marksU_snoc:∀ (n:Nat) (a:Int),marksU (n+1) a=marksU n a ++ [⟨a+3 * n,a+3 * n+1,a+3 * n+1+1⟩]
 | 0,a=>by simp [marksU]
 | n+1,a=>by
  rw [marksU,marksU_snoc n,marksU]
  simp
  omega
theorem marksU_at:∀ (n:Nat) (a:Int) (j:Nat) (h:j < (marksU n a).length),(marksU n a)[j]=⟨a+3 * j,a+3 * j+1,a+3 * j+1+1⟩
 | 0,a,j,h=>by simp [marksU] at h
 | n+1,a,0,h=>by simp [marksU]
 | n+1,a,j+1,h=>by
  have:=marksU_at n (a+1+1+1) j (by simpa [marksU] using h)
  simp only [marksU,List.getElem_cons_succ]
  rw [this]
  congr 1 <;> omega
theorem dropU_at {l:List Un} {i:Nat} (h:i < l.length):∃ x,l.drop i=x::l.drop (i+1):=⟨l[i],List.drop_eq_getElem_cons h⟩
theorem markU_loop (l:List Un) (hl:l.length≤1048576):∀ (d i:Nat),l.length - i=d→i≤l.length→Ev (fun k=>Qn.l0 k (marksU i 1++l.drop i) (1+3 * (i:Int)) (i:Int)) (1+3 * (l.length:Int),marksU l.length 1):=by
 intro d
 induction d with
 | zero=>
  intro i hd hi
  obtain rfl:i=l.length:=by omega
  refine ev_succ ?_
  simp only [Qn.l0,List.drop_length,List.append_nil,marksU_length,if_neg (show ¬ (l.length:Int) < (l.length:Int) by omega)]
  exact ev_some _
 | succ d ih=>
  intro i hd hi
  have e1:wrap64 ((i:Int)+1)=((i+1:Nat):Int):=by rw [wrap_id (by omega) (by omega)];omega
  have e2:wrap64 (1+3 * (i:Int)+1)=1+3 * (i:Int)+1:=wrap_id (by omega) (by omega)
  have e3:wrap64 (1+3 * (i:Int)+1+1)=1+3 * (i:Int)+1+1:=wrap_id (by omega) (by omega)
  have e4:wrap64 (1+3 * (i:Int)+1+1+1)=1+3 * ((i+1:Nat):Int):=by rw [wrap_id (by omega) (by omega)];omega
  have hlen:(marksU i 1++l.drop i).length=l.length:=by simp [marksU_length];omega
  refine ev_succ ?_
  obtain ⟨x,hd1⟩:=dropU_at (show i < l.length by omega)
  have hr:∀ (x:Un) (r:List Un),Qk (marksU i 1++x::r) (i:Int)=x:=by
   intro x r
   unfold Qk
   rw [Int.toNat_natCast,List.getD_eq_getElem?_getD,List.getElem?_append_right (by rw [marksU_length];omega),marksU_length]
   simp
  simp only [Qn.l0,hlen,if_pos (show (i:Int) < (l.length:Int) by omega),if_pos (show (0:Int)≤i by omega),bsome,e1,e2,e3,e4,Int.toNat_natCast]
  rw [hd1,hr]
  rw [set_mid _ _ _ _ _ (marksU_length i 1).symm,hr,set_mid _ _ _ _ _ (marksU_length i 1).symm,hr,set_mid _ _ _ _ _ (marksU_length i 1).symm]
  have:=ih (i+1) (by omega) (by omega)
  rw [marksU_snoc,List.append_assoc] at this
  exact this
theorem heldU_loop (n:Nat) (hn:n≤1048576):∀ (d i:Nat),n - i=d→i≤n→Ev (fun k=>Qj.l0 k (marksU n 1) (1+3 * (i:Int)) (i:Int)) (1+3 * (n:Int)):=by
 intro d
 induction d with
 | zero=>
  intro i hd hi
  obtain rfl:i=n:=by omega
  refine ev_succ ?_
  simp only [Qj.l0,marksU_length,if_neg (show ¬ (i:Int) < (i:Int) by omega)]
  exact ev_some _
 | succ d ih=>
  intro i hd hi
  have e1:wrap64 ((i:Int)+1)=((i+1:Nat):Int):=by rw [wrap_id (by omega) (by omega)];omega
  have e2:wrap64 (1+3 * (i:Int)+1)=1+3 * (i:Int)+1:=wrap_id (by omega) (by omega)
  have e3:wrap64 (1+3 * (i:Int)+1+1)=1+3 * (i:Int)+1+1:=wrap_id (by omega) (by omega)
  have e4:wrap64 (1+3 * (i:Int)+1+1+1)=1+3 * ((i+1:Nat):Int):=by rw [wrap_id (by omega) (by omega)];omega
  have hr:Qk (marksU n 1) (i:Int)=⟨1+3 * (i:Int),1+3 * (i:Int)+1,1+3 * (i:Int)+1+1⟩:=by
   unfold Qk
   rw [Int.toNat_natCast,List.getD_eq_getElem?_getD,List.getElem?_eq_getElem (by rw [marksU_length];omega),Option.getD_some,marksU_at]
  refine ev_succ ?_
  simp only [Qj.l0,marksU_length,if_pos (show (i:Int) < (n:Int) by omega),if_pos (show (0:Int)≤i by omega),hr,e1,e2,e3,e4,if_true]
  exact ih (i+1) (by omega) (by omega)
theorem markUnds (l:List Un) (hl:l.length≤1048576):∃ l',Ev (fun k=>Qn.f k l 1) (1+3 * (l.length:Int),l')∧Ev (fun k=>Qj.f k l' 1) (1+3 * (l.length:Int)):=by
 refine ⟨marksU l.length 1,?_,?_⟩
 ·have:=markU_loop l hl l.length 0 (by omega) (by omega)
  simpa [marksU,Qn.f] using this
 ·have:=heldU_loop l.length hl l.length 0 (by omega) (by omega)
  simpa [Qj.f] using this
end Go.Proofs.Yticpnjhkdfdkkaa.Q
namespace Go.Proofs.Yticpnjhkdfdkkaa.Pure
open Go.RowKit Go.Proofs.Yticpnjhkdfdkkaa.T Go.Proofs.YticpnjhkdfdkkaaW.PrintWords Go.Proofs.YticpnjhkdfdkkaaW.PrintLast Go.Proofs.Yticpnjhkdfdkkaa.Q
set_option linter.unusedVariables false
set_option linter.unusedSimpArgs false
theorem cntR_boundU (len:Nat→Nat×Nat):∀ n,(∀ i,i < n→(len i).1≤1048576∧(len i).2≤1048576)→cntR len n≤n * 2097156
 | 0,_=>Nat.le_refl _
 | n+1,h=>by
  have h1:=cntR_boundU len n (fun i hi=>h i (by omega))
  have h2:=h n (by omega)
  have h3:cntR len (n+1)=cntR len n+(4+(len n).1+(len n).2):=rfl
  omega
theorem cntB_boundU (num:Nat→Nat) (len:Nat→Nat→Nat×Nat):∀ n,(∀ i,i < n→num i≤1048576∧∀ j,j < num i→(len i j).1≤1048576∧(len i j).2≤1048576)→cntB num len n≤n * 2199027449861
 | 0,_=>Nat.le_refl _
 | n+1,h=>by
  have h1:=cntB_boundU num len n (fun i hi=>h i (by omega))
  have h2:=h n (by omega)
  have h4:=cntR_boundU (len n) (num n) h2.2
  have h3:cntB num len (n+1)=cntB num len n+(5+cntR (len n) (num n)):=rfl
  omega
theorem markBatchS_f (l:List Bt) (hl:l.length≤1048576) (hx:∀ x∈l,okBt x):∃ z,Rd.f l 1=some z∧0≤z:=by
 have hb:=cntB_boundU (numB l) (lenB l) l.length (fun i hi=>by
  have e:Qa l (i:Int)=l[i]:=rb_nat l i hi
  have h:=hx _ (List.getElem_mem hi)
  rw [← e] at h
  refine ⟨h.1,fun j hj=>?_⟩
  have e2:Qb (Qa l (i:Int)).f5 (j:Int)=(Qa l (i:Int)).f5[j]:=rr_nat _ j hj
  have h2:=h.2 _ (List.getElem_mem hj)
  rw [← e2] at h2
  exact h2)
 have ho:okMarkB l 1=true:=by
  unfold okMarkB
  rw [decide_eq_true_eq]
  omega
 unfold Rd.f
 rw [if_pos ho]
 exact ⟨_,rfl,by omega⟩
theorem und_le (l:List Bt):(und l).length≤l.length:=by
 unfold und
 split
 ·exact undTo_len l l.length
 ·exact Nat.zero_le _
theorem eqUnds_loop (a:List Un) (hs:a.length≤1048576):∀ (d i:Nat),a.length - i=d→i≤a.length→Ev (fun k=>Qf.l0 k a a (i:Int)) true:=by
 intro d
 induction d with
 | zero=>
  intro i hd hi
  refine ev_succ ?_
  simp only [Qf.l0,if_neg (show ¬ (i:Int) < (a.length:Int) by omega)]
  exact ev_some _
 | succ d ih=>
  intro i hd hi
  have e1:wrap64 ((i:Int)+1)=((i+1:Nat):Int):=by rw [wrap_id (by omega) (by omega)];omega
  refine ev_succ ?_
  simp only [Qf.l0,if_pos (show (i:Int) < (a.length:Int) by omega),if_pos (show (0:Int)≤i by omega),Ro.f,if_true,bsome,e1]
  exact ih (i+1) (by omega) (by omega)
theorem eqUnds_self (a:List Un) (hs:a.length≤1048576):Ev (fun k=>Qf.f k a a) true:=by
 unfold Qf.f
 simp only [if_true]
 exact eqUnds_loop a hs a.length 0 (by omega) (by omega)
theorem FnExactUndoneOf:∀ (l0:List (S83)),l0.length≤maxLen→(∀ v∈l0,WF83 v)→∃ k,laws_FnExactUndoneOf.f k l0=some true:=by
 intro l0 hl hw
 refine Ev.rounds ?_
 unfold laws_FnExactUndoneOf.f
 obtain ⟨r,h1,p1⟩:=szBats l0 (Nat.le_trans hl maxLen_le) (fun x hx=>bigB_of (hw x hx)) 1048576 (by omega) (by omega)
 refine Ev.bind h1 ?_
 rcases p1 with rfl|⟨s0,s1,s2,s3⟩
 ·simp only [if_pos (show (-1:Int) < 0 by omega)]
  exact ev_some _
 ·simp only [if_neg (show ¬ r < 0 by omega)]
  have ht:=toBats l0 s2 s3
  have hml:(l0.map toB).length=l0.length:=List.length_map ..
  have hs:smallBs (l0.map toB):=by
   refine ⟨by omega,fun b hb=>?_⟩
   obtain ⟨x,hx,rfl⟩:=List.mem_map.1 hb
   exact smallRs_of x (s3 x hx)
  have hk:∀ b∈l0.map toB,okBt b:=fun b hb=>by
   obtain ⟨x,hx,rfl⟩:=List.mem_map.1 hb
   exact okBt_of x (s3 x hx)
  have e1:=implUnd (l0.map toB) hs
  have e2:=specUnd (l0.map toB) hs
  have hul:(und (l0.map toB)).length≤1048576:=by have:=und_le (l0.map toB);omega
  have eu:=eqUnds_self (und (l0.map toB)) hul
  have eb:=eqBats_self (l0.map toB) (by omega) hk
  obtain ⟨z,hz,hz0⟩:=markBatchS_f (l0.map toB) (by omega) hk
  obtain ⟨lm,hmk,hheld⟩:=markUnds (und (l0.map toB)) hul
  refine Ev.bind ht ?_
  refine Ev.bind e2 ?_
  refine Ev.bind ht ?_
  refine Ev.bind e1 ?_
  refine Ev.bind eu ?_
  simp only [if_true]
  refine Ev.bind ht ?_
  refine Ev.bind eb ?_
  simp only [if_true]
  simp only [hz,bsome,if_neg (show ¬ z < 0 by omega)]
  refine Ev.bind eu ?_
  simp only [Bool.not_true]
  refine ev_succ ?_
  simp only [laws_FnExactUndoneOf.j0,Bool.false_eq_true,if_false]
  refine Ev.bind hmk ?_
  refine Ev.bind hheld ?_
  simp only [if_neg (show ¬ (1+3 * ((und (l0.map toB)).length:Int)) < 0 by omega),if_true]
  refine Ev.bind ht ?_
  refine Ev.bind e1 ?_
  refine Ev.bind eu ?_
  simp only [if_true]
  refine Ev.bind hheld ?_
  simp only [if_neg (show ¬ (1+3 * ((und (l0.map toB)).length:Int)) < 0 by omega),if_true]
  exact ev_some _
end Go.Proofs.Yticpnjhkdfdkkaa.Pure
namespace Go.Proofs.Yticpnjhkdfdkkaa.fnExactUndoneOf
open Go.ChangeShapes Go.WideShapes Go.ChangeAt Go.RowKit
open Go.ChangeMaps (open_string shut_string)
open Go.Proofs.YticpnjhkdfdkkaaW.PrintWords
set_option linter.unusedVariables false
theorem own:ownKnob Try.prog.godebug=none:=by kernel_rfl
theorem laidOut:laidOutB Try.prog=true:=by kernel_rfl
theorem lifted (os:Os) (started:os.Started) (H:Type) (enc:TypeId×Value→H) :
  ReturnsInHanded {} Try.checked os 16 .any (Rows.fnExactUndoneOfSpec.pre6 enc Try.prog Try.f16 Rows.fnExactUndoneOfRow.domain false) (Rows.fnExactUndoneOfSpec.post enc Try.prog Try.f16 false true false false):=by
 refine returnsInHanded_of_change_sized (C:=Try.checked) own started (by kernel_rfl) Try.func16
  (ChangeSpec.witness6 (enc:=enc) (C:=Try.checked) false ⟨#[],#[.slice none 0 0],[]⟩ 8 (by kernel_rfl) (by kernel_rfl) (by kernel_rfl) (by kernel_rfl)) ?_
 intro W base args ds gs before hval0 hW hcnd hsz0 _
 have hval:∀ (j:Nat) t v,Try.f16.params[j]? = some t→args[j]? = some v→Value.okWide Try.prog W .any base t v:=hval0
 have hW':=hW
 obtain ⟨p,q,hA0,hV,rfl,hfz,hnd⟩:=hW
 have hA:DataW.TrodAll enc Try.prog W 0 (fun _=>true) true Try.f16.params.toList args.toList ds p:=hA0
 rw [Try.params16] at hA hval
 obtain ⟨v0,vs0,d0,ds0,p0,q0,hargs,rfl,rfl,h0,r0⟩:=trodAll_cons hA
 obtain ⟨rfl,rfl,rfl⟩:=trodAll_nil r0
 obtain rfl:args = #[v0]:=by cases args;simp_all
 obtain ⟨rfl,rfl⟩:=trodVars_none hV
 obtain ⟨a0,len0,cap0,rfl⟩:=okWide_slice Try.underlying52 (hval 0 52 v0 rfl rfl)
 have k0:=h0
 have lt0:∀ x∈p0,x.block < W.heap.size:=by obtain ⟨m,hm⟩:=k0;exact DataW.trod_lt m _ _ _ hm
 obtain ⟨fu0,hf0⟩:=h0
 obtain ⟨l0,⟨A0,c0,hE0,hc0,hC0⟩,hm0,hw0⟩:=(Q.Opens.slice Try.underlying52 T.opens83 (by kernel_rfl)) _ enc W _ _ _ _ _ _ hf0
 replace hE0:([.slice a0 len0 cap0]:List Value) = [.slice A0 l0.length c0]:=hE0
 simp only [List.cons.injEq,Value.slice.injEq,and_true] at hE0
 obtain ⟨rfl,rfl,rfl⟩:=hE0
 clear hA0 hval0 hsz0
 obtain ⟨k,h⟩:=Pure.FnExactUndoneOf l0 hm0 hw0
 refine (T.laws_FnExactUndoneOf.calls k _ _ l0 true W hC0 hc0 h).mono ?_
 rintro e W' ⟨rfl,bel⟩
 exact ⟨_,rfl,_,_,_,[],_,[],hW',trodAll_mk1 (shut_bool Try.underlying4 _),(trodAll_cons_mk (Below.trod laidOut (by kernel_rfl) (of_decide_eq_true (by kernel_rfl)) k0 bel lt0) trodAll_mk0),rfl,bel.frame _,fun h=>by cases h⟩
theorem closed:joinedFacts Try.prog 16 Try.f16 Rows.fnExactUndoneOfSpec Rows.fnExactUndoneOfRow=true:=
 Head.closed_of _ _ _ _ _ (by kernel_rfl) (by kernel_rfl) (by kernel_rfl) (by kernel_rfl) (by kernel_rfl) (by kernel_rfl) (by kernel_rfl) (by kernel_rfl) (by kernel_rfl) (by kernel_rfl) (by kernel_rfl) (by kernel_rfl) (by kernel_rfl) (by kernel_rfl) (by kernel_rfl) (by kernel_rfl) (by kernel_rfl) (by kernel_rfl) (by kernel_rfl) (by kernel_rfl) (by kernel_rfl) (by kernel_rfl) (by kernel_rfl) (by kernel_rfl) (by kernel_rfl) Head.may_enter (by rw [Head.lifts_final];kernel_rfl) (by rw [Head.make_is];kernel_rfl) (by kernel_rfl) (by kernel_rfl) (by kernel_rfl) (by kernel_rfl)
theorem over:Rows.fnExactUndoneOfRow.holds Try.pinned (OpenSpec.ofChange Rows.fnExactUndoneOfSpec):=
 OpenClaim.holds_of_wide 16 Try.f16 rfl rfl rfl rfl rfl rfl rfl ⟨rfl,rfl,rfl,rfl,rfl⟩ rfl rfl rfl rfl rfl (by kernel_rfl) Try.func16 closed
  (of_decide_eq_true (by kernel_rfl)) (by unfold Func.isWrapper;first|(rw [if_pos (by decide +kernel)];kernel_rfl)|(rw [if_neg (by decide +kernel)];exact ⟨rfl,rfl⟩))
  (fun os started H enc _=>lifted os started H enc)
theorem proved:Rows.FnExactUndoneOfSaid:=over
end Go.Proofs.Yticpnjhkdfdkkaa.fnExactUndoneOf
namespace Go.Proofs.Yticpnjhkdfdkkaa
theorem fnExactUndoneOf_holds:Rows.FnExactUndoneOfSaid:=fnExactUndoneOf.proved
end Go.Proofs.Yticpnjhkdfdkkaa
