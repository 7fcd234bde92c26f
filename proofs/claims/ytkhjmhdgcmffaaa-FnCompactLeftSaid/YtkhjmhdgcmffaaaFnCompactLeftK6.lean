/- The law FnCompactLeft holds (part 7 of 7; merged by pack2.py). -/
import Derived.ProofKit
import Derived.OpenShut
import Derived.ShutString
import Derived.ChangeOld
import Derived.Test.YtkhjmhdgcmffaaaFnCompactLeftK5
set_option maxRecDepth 1000000
open List (setIfInBounds_toArray set_cons_zero set_cons_succ map_toArray map_cons map_nil length_drop length_take)
namespace Go.Proofs.Ytkhjmhdgcmffaaa.XQ
open Go.RowKit Go.Proofs.Ytkhjmhdgcmffaaa.X Go.Proofs.YtkhjmhdgcmffaaaW.PrintWords Go.Proofs.YtkhjmhdgcmffaaaW.PrintLast
set_option linter.unusedVariables false
set_option linter.unusedSimpArgs false
theorem vl_true {l:List Bt} (h:VL l):vl l=true:=(vl_iff l).2 h
theorem vl_false {l:List Bt} (h:¬ VL l):vl l=false:=by rw [← Bool.not_eq_true,vl_iff];exact h
theorem wstep (j:Nat) (h:j < 4000000000000000):wrap64 ((j:Int)+1)=((j+1:Nat):Int):=by rw [wrap_id (by omega) (by omega)];omega
def okc (r:Rc):Prop:=r.f3.length≤1048576∧r.f5.length≤1048576
theorem pv_len {has:Bool} {l:List Int} (h:pv has l=true):l.length≤12:=by
 unfold pv at h
 split at h
 ·rw [Bool.and_eq_true,decide_eq_true_eq] at h
  exact h.1
 ·rw [decide_eq_true_eq] at h
  omega
theorem rv_okc {r:Rc} (h:rv r=true):r.f3.length≤12∧r.f5.length≤12:=by
 unfold rv at h
 rw [Bool.and_eq_true,Bool.and_eq_true] at h
 exact ⟨pv_len h.2.1,pv_len h.2.2⟩
theorem rv_range {r:Rc} (h:rv r=true) : 0≤r.f0∧r.f0≤99999:=by
 unfold rv at h
 rw [Bool.and_eq_true,decide_eq_true_eq] at h
 exact h.1.1
theorem rv_key {r:Rc} (h:rv r=true) (h2:r.f2=true):ab r.f3=true:=by
 unfold rv pv at h
 rw [Bool.and_eq_true,Bool.and_eq_true,if_pos h2,Bool.and_eq_true] at h
 exact h.2.1.2
theorem mem_pts {l:List Bt} {x:Nat×Nat} : x∈pts l↔x.1 < l.length∧x.2 < (rb l (x.1:Int)).f5.length:=by
 unfold pts ptsTo ptsRow
 rw [List.mem_flatMap]
 constructor
 ·rintro ⟨i,hi,hx⟩
  obtain ⟨j,hj,rfl⟩:=List.mem_map.1 hx
  exact ⟨List.mem_range.1 hi,List.mem_range.1 hj⟩
 ·rintro ⟨h1,h2⟩
  exact ⟨x.1,List.mem_range.2 h1,List.mem_map.2 ⟨x.2,List.mem_range.2 h2,rfl⟩⟩
def offP (l:List Bt) (x:Nat×Nat):Int:=(rcOf l x).f0
theorem rv_at {l:List Bt} (h:VL l) {x:Nat×Nat} (hx:x∈pts l):rv (rcOf l x)=true:=by
 obtain ⟨h1,h2⟩:=mem_pts.1 hx
 exact ((VL_at h x.1 h1).2.2.2 x.2 (Nat.zero_le _) h2).1
theorem RF_le {r:List Rc} (h:RF r 0) {i j:Nat} (hij:i≤j) (hj:j < r.length):(rr r (i:Int)).f0≤(rr r (j:Int)).f0:=by
 rcases Nat.lt_or_ge i j with h1|h1
 ·have:=RF_lt h (j - i - 1) i (by omega)
  rw [show i+(j - i - 1)+1=j by omega] at this
  omega
 ·rw [show i=j by omega];exact Int.le_refl _
theorem fOff_le_at {l:List Bt} (h:VL l) {x:Nat×Nat} (hx:x∈pts l):fOff (rb l (x.1:Int))≤offP l x:=by
 obtain ⟨h1,h2⟩:=mem_pts.1 hx
 exact RF_le (VL_at h x.1 h1).2.2.2 (Nat.zero_le x.2) h2
theorem lOff_ge_at {l:List Bt} (h:VL l) {x:Nat×Nat} (hx:x∈pts l):offP l x≤lOff (rb l (x.1:Int)):=by
 obtain ⟨h1,h2⟩:=mem_pts.1 hx
 have:=RF_le (VL_at h x.1 h1).2.2.2 (show x.2≤(rb l (x.1:Int)).f5.length - 1 by omega) (by omega)
 unfold lOff
 rw [show ((rb l (x.1:Int)).f5.length:Int) - 1=(((rb l (x.1:Int)).f5.length - 1:Nat):Int) by omega]
 exact this
theorem VL_cross {l:List Bt} (h:VL l) {i j:Nat} (hij:i < j) (hj:j < l.length):lOff (rb l (i:Int)) < fOff (rb l (j:Int)):=by
 have h1:=(h.2 (i+1) (Nat.zero_le _) (by omega)).2 (by omega)
 rw [show ((i+1:Nat):Int) - 1=(i:Int) by omega] at h1
 rcases Nat.lt_or_ge (i+1) j with h2|h2
 ·have:=VL_lt' h h2 hj
  omega
 ·rw [show j=i+1 by omega];exact h1
theorem off_lt {l:List Bt} (h:VL l) {x y:Nat×Nat} (hx:x∈pts l) (hy:y∈pts l) (hlt:x.1 < y.1∨(x.1=y.1∧x.2 < y.2)):offP l x < offP l y:=by
 rcases hlt with h1|⟨h1,h2⟩
 ·have a:=lOff_ge_at h hx
  have b:=fOff_le_at h hy
  have c:=VL_cross h h1 (mem_pts.1 hy).1
  omega
 ·obtain ⟨y1,y2⟩:=mem_pts.1 hy
  have:=RF_lt (VL_at h y.1 y1).2.2.2 (y.2 - x.2 - 1) x.2 (by omega)
  rw [show x.2+(y.2 - x.2 - 1)+1=y.2 by omega] at this
  show (rr (rb l (x.1:Int)).f5 (x.2:Int)).f0 < (rr (rb l (y.1:Int)).f5 (y.2:Int)).f0
  rw [h1]
  exact this
theorem pts_lex (l:List Bt):(pts l).Pairwise (fun x y=>x.1 < y.1∨(x.1=y.1∧x.2 < y.2)):=by
 unfold pts ptsTo
 rw [List.pairwise_flatMap]
 refine ⟨fun i hi=>?_,?_⟩
 ·unfold ptsRow
  rw [List.pairwise_map]
  exact List.pairwise_lt_range.imp (fun hab=>.inr ⟨rfl,hab⟩)
 ·refine List.pairwise_lt_range.imp (fun {i j} hij x hx y hy=>?_)
  unfold ptsRow at hx hy
  obtain ⟨a,_,rfl⟩:=List.mem_map.1 hx
  obtain ⟨b,_,rfl⟩:=List.mem_map.1 hy
  exact .inl hij
theorem pts_sorted {l:List Bt} (h:VL l):(pts l).Pairwise (fun x y=>offP l x < offP l y):=
 (pts_lex l).imp_of_mem (fun hx hy hlt=>off_lt h hx hy hlt)
theorem ptsTo_len {l:List Bt} (h:VL l):∀ i,i≤l.length→(ptsTo l i).length≤6 * i
 | 0,_=>by simp [ptsTo]
 | i+1,hi=>by
  have ih:=ptsTo_len h i (by omega)
  have h1:=(vB_pos (VL_at h i (by omega))).2
  rw [ptsTo_succ,List.length_append]
  have h2:(ptsRow l i).length=(rb l (i:Int)).f5.length:=by unfold ptsRow;rw [List.length_map,List.length_range]
  omega
theorem pts_len {l:List Bt} (h:VL l):(pts l).length≤48:=by
 have:=ptsTo_len h l.length (Nat.le_refl _)
 have:=h.1
 show (ptsTo l l.length).length≤48
 omega
theorem rv_mem {l:List Bt} (h:VL l) {b:Bt} (hb:b∈l) {r:Rc} (hr:r∈b.f5):rv r=true:=by
 obtain ⟨j,hj,rfl⟩:=List.getElem_of_mem hb
 obtain ⟨q,hq,rfl⟩:=List.getElem_of_mem hr
 have:=((VL_at h j hj).2.2.2 q (Nat.zero_le _) (by rw [rb_nat l j hj];exact hq)).1
 rw [rb_nat l j hj,rr_nat _ q hq] at this
 exact this
theorem okLog_of {l:List Bt} (h:VL l):okLog l=true:=by
 unfold okLog
 have h1:=pts_len h
 rw [Bool.and_eq_true,decide_eq_true_eq,List.all_eq_true]
 refine ⟨by omega,fun b hb=>?_⟩
 rw [List.all_eq_true]
 intro r hr
 have hv:=rv_mem h hb hr
 have h2:=rv_range hv
 have h3:=rv_okc hv
 rw [Bool.and_eq_true,Bool.and_eq_true,Bool.and_eq_true,decide_eq_true_eq,decide_eq_true_eq,decide_eq_true_eq]
 refine ⟨⟨h2,by omega⟩,by omega,?_⟩
 rw [Bool.or_eq_true]
 cases hk:r.f2 with
 | false=>exact .inl rfl
 | true=>
  right
  have h4:=rv_key hv hk
  unfold ab at h4
  rw [decide_eq_true_eq] at h4
  unfold keyOk
  rw [Bool.and_eq_true,decide_eq_true_eq,List.all_eq_true]
  exact ⟨by omega,fun x hx=>by rw [decide_eq_true_eq];exact h4 x hx⟩
theorem hexDig_inj:∀ a b:Fin 16,hexDig ((a.1:Nat):Int)=hexDig ((b.1:Nat):Int)→a=b:=by decide +kernel
theorem hexDig_eq {x y:Int} (h0 : 0≤x) (h1:x < 16) (h2 : 0≤y) (h3:y < 16) (h:hexDig x=hexDig y):x=y:=by
 have:=hexDig_inj ⟨x.toNat,by omega⟩ ⟨y.toNat,by omega⟩ (by
  show hexDig ((x.toNat:Nat):Int)=hexDig ((y.toNat:Nat):Int)
  rw [Int.toNat_of_nonneg h0,Int.toNat_of_nonneg h2]
  exact h)
 have:=congrArg Fin.val this
 dsimp only at this
 omega
theorem hexOf_inj:∀ {a b:List Int},ab a=true→ab b=true→hexOf a=hexOf b→a=b
 | [],[],_,_,_=>rfl
 | [],y::b,_,_,h=>by simp [hexOf] at h
 | x::a,[],_,_,h=>by simp [hexOf] at h
 | x::a,y::b,ha,hb,h=>by
  rw [ab_cons,Bool.and_eq_true,decide_eq_true_eq] at ha hb
  have h1:hexDig (x / 16)=hexDig (y / 16)∧hexDig (x % 16)=hexDig (y % 16)∧hexOf a=hexOf b:=by
   have h2 : [hexDig (x / 16),hexDig (x % 16)]++hexOf a = [hexDig (y / 16),hexDig (y % 16)]++hexOf b:=h
   simp only [List.cons_append,List.nil_append,List.cons.injEq] at h2
   exact h2
  have e1:=hexDig_eq (by omega) (by omega) (by omega) (by omega) h1.1
  have e2:=hexDig_eq (by omega) (by omega) (by omega) (by omega) h1.2.1
  rw [hexOf_inj ha.2 hb.2 h1.2.2,show x=y by omega]
def cnd (l:List Bt) (kk:List UInt8) (x:Nat×Nat):Bool:=!mkOf l x&&((rcOf l x).f2&&decide (hexOf (rcOf l x).f3=kk))
theorem offStep_eq (l:List Bt) (kk:List UInt8) (a:Int) (x:Nat×Nat):offStep l kk a x=if cnd l kk x=true then offP l x else a:=rfl
theorem fold_none (l:List Bt) (kk:List UInt8):∀ (xs:List (Nat×Nat)) (a:Int),(∀ x∈xs,cnd l kk x=false)→xs.foldl (offStep l kk) a=a
 | [],a,_=>rfl
 | x::xs,a,h=>by
  rw [List.foldl_cons,offStep_eq,h x (List.mem_cons_self ..),if_neg (by simp)]
  exact fold_none l kk xs a (fun y hy=>h y (List.mem_cons_of_mem _ hy))
theorem fold_last (l:List Bt) (kk:List UInt8):∀ (xs:List (Nat×Nat)) (a:Int),xs.Pairwise (fun x y=>offP l x < offP l y)→(∃ x∈xs,cnd l kk x=true) →
  ∃ y∈xs,cnd l kk y=true∧xs.foldl (offStep l kk) a=offP l y∧∀ z∈xs,cnd l kk z=true→offP l z≤offP l y
 | [],a,_,h=>by obtain ⟨x,hx,_⟩:=h;cases hx
 | x::xs,a,hp,h=>by
  rw [List.pairwise_cons] at hp
  by_cases h1:∃ y∈xs,cnd l kk y=true
  ·obtain ⟨y,hy,hc,he,hm⟩:=fold_last l kk xs (offStep l kk a x) hp.2 h1
   refine ⟨y,List.mem_cons_of_mem _ hy,hc,he,fun z hz hzc=>?_⟩
   rcases List.mem_cons.1 hz with rfl|hz
   ·have:=hp.1 y hy;omega
   ·exact hm z hz hzc
  ·have h2:∀ y∈xs,cnd l kk y=false:=fun y hy=>by
    cases hc:cnd l kk y with
    | false=>rfl
    | true=>exact absurd ⟨y,hy,hc⟩ h1
   obtain ⟨y,hy,hc⟩:=h
   have hxc:cnd l kk x=true:=by
    rcases List.mem_cons.1 hy with rfl|hy
    ·exact hc
    ·rw [h2 y hy] at hc;cases hc
   refine ⟨x,List.mem_cons_self ..,hxc,?_,fun z hz hzc=>?_⟩
   ·rw [List.foldl_cons,fold_none l kk xs _ h2,offStep_eq,if_pos hxc]
   ·rcases List.mem_cons.1 hz with rfl|hz
    ·exact Int.le_refl _
    ·rw [h2 z hz] at hzc;cases hzc
def LatAt (l:List Bt) (r:Rc) (x:Nat×Nat):Prop:=mkOf l x=false∧(rcOf l x).f2=true∧r.f0 < (rcOf l x).f0∧(rcOf l x).f3=r.f3
def LaterP (l:List Bt) (r:Rc):Prop:=∃ x∈pts l,LatAt l r x
theorem cnd_key {l:List Bt} (h:VL l) {x y:Nat×Nat} (hx:x∈pts l) (hy:y∈pts l) (h2:(rcOf l x).f2=true):cnd l (hexOf (rcOf l x).f3) y=true↔mkOf l y=false∧(rcOf l y).f2=true∧(rcOf l y).f3=(rcOf l x).f3:=by
 unfold cnd
 rw [Bool.and_eq_true,Bool.and_eq_true,decide_eq_true_eq]
 constructor
 ·rintro ⟨a,b,c⟩
  exact ⟨by simpa using a,b,hexOf_inj (rv_key (rv_at h hy) b) (rv_key (rv_at h hx) h2) c⟩
 ·rintro ⟨a,b,c⟩
  exact ⟨by simpa using a,b,by rw [c]⟩
theorem last_iff {l:List Bt} (h:VL l) {x:Nat×Nat} (hx:x∈pts l) (hm:mkOf l x=false) (h2:(rcOf l x).f2=true):lastOff l (pts l) (hexOf (rcOf l x).f3)=(rcOf l x).f0↔¬ LaterP l (rcOf l x):=by
 obtain ⟨y,hy,hc,he,hmax⟩:=fold_last l (hexOf (rcOf l x).f3) (pts l) 0 (pts_sorted h) ⟨x,hx,(cnd_key h hx hx h2).2 ⟨hm,h2,rfl⟩⟩
 obtain ⟨y1,y2,y3⟩:=(cnd_key h hx hy h2).1 hc
 have hxy:=hmax x hx ((cnd_key h hx hx h2).2 ⟨hm,h2,rfl⟩)
 unfold lastOff
 rw [he]
 constructor
 ·rintro e ⟨z,hz,z1,z2,z3,z4⟩
  have:=hmax z hz ((cnd_key h hx hz h2).2 ⟨z1,z2,z4⟩)
  have e1:offP l z=(rcOf l z).f0:=rfl
  omega
 ·intro hn
  have:¬ (rcOf l x).f0 < (rcOf l y).f0:=fun hlt=>hn ⟨y,hy,y1,y2,hlt,y3⟩
  have e1:offP l y=(rcOf l y).f0:=rfl
  have e2:offP l x=(rcOf l x).f0:=rfl
  omega
theorem keep_iff {l:List Bt} (h:VL l) {x:Nat×Nat} (hx:x∈pts l) (gone:Bool):stayB l gone x=true↔mkOf l x=true∨((rcOf l x).f2=true∧((rcOf l x).f4=true∨gone=true)∧¬ LaterP l (rcOf l x)):=by
 unfold stayB
 rw [Bool.or_eq_true,Bool.and_eq_true,Bool.and_eq_true,Bool.or_eq_true,beq_iff_eq]
 cases hm:mkOf l x with
 | true=>simp
 | false=>
  constructor
  ·rintro (h1|⟨h1,h2,h3⟩)
   ·cases h1
   ·exact .inr ⟨h1,h3,(last_iff h hx hm h1).1 h2⟩
  ·rintro (h1|⟨h1,h2,h3⟩)
   ·cases h1
   ·exact .inr ⟨h1,(last_iff h hx hm h1).2 h3,h2⟩
theorem l3Same_loop (a b:List Int) (hl:a.length=b.length) (hs:a.length≤1000000000000000):∀ (d i:Nat),a.length - i=d→i≤a.length→Ev (fun k=>Qy.l0 k a 0 b (i:Int)) (decide (a.drop i=b.drop i)):=by
 intro d
 induction d with
 | zero=>
  intro i hd hi
  rw [show a.drop i = [] from List.drop_eq_nil_of_le (by omega),show b.drop i = [] from List.drop_eq_nil_of_le (by omega)]
  refine ev_succ ?_
  simp only [Qy.l0,if_neg (show ¬ (i:Int) < (b.length:Int) by omega),decide_true]
  exact ev_some _
 | succ d ih=>
  intro i hd hi
  have e1:wrap64 ((i:Int)+1)=((i+1:Nat):Int):=by rw [wrap_id (by omega) (by omega)];omega
  have e0:wrap64 (0+(i:Int))=(i:Int):=by rw [wrap_id (by omega) (by omega)];omega
  rw [drop_int (show i < a.length by omega),drop_int (show i < b.length by omega)]
  refine ev_succ ?_
  simp only [Qy.l0,if_pos (show (i:Int) < (b.length:Int) by omega),e0,if_pos (show (0:Int)≤i by omega),if_pos (show (i:Int) < (a.length:Int) by omega),e1]
  by_cases h0:rd a i=rd b i
  ·simp only [if_pos h0]
   have:=ih (i+1) (by omega) (by omega)
   simpa [h0] using this
  ·simp only [if_neg h0]
   rw [decide_eq_false (by simp [h0])]
   exact ev_some _
theorem l16Same (a b:List Int) (hs:a.length≤1000000000000000):Ev (fun k=>Rp.f k a b) (decide (a=b)):=by
 unfold Rp.f
 by_cases hl:a.length=b.length
 ·simp only [if_pos (show (a.length:Int)=(b.length:Int) by omega)]
  have h:=l3Same_loop a b hl hs a.length 0 (by omega) (by omega)
  have e0:wrap64 (0+(b.length:Int))=(b.length:Int):=by rw [wrap_id (by omega) (by omega)];omega
  refine Ev.bind (g:=fun k=>Qy.f k a 0 b) (a:=decide (a=b)) ?_ (ev_some _)
  unfold Qy.f
  simp only [e0,if_neg (show ¬ (b.length:Int) > (a.length:Int) by omega)]
  simpa using h
 ·simp only [if_neg (show ¬ (a.length:Int)=(b.length:Int) by omega)]
  rw [decide_eq_false (fun e=>hl (by rw [e]))]
  exact ev_some _
def LatFrom (l:List Bt) (r:Rc) (i j:Nat):Prop:=∃ x∈pts l,(i < x.1∨(i=x.1∧j≤x.2))∧LatAt l r x
theorem LatFrom_step {l:List Bt} {r:Rc} {i j:Nat} (hi:i < l.length) (hj:j < (rb l (i:Int)).f5.length) (h:¬ LatAt l r (i,j)):LatFrom l r i j↔LatFrom l r i (j+1):=by
 constructor
 ·rintro ⟨x,hx,h1,h2⟩
  refine ⟨x,hx,?_,h2⟩
  rcases h1 with h1|⟨h1,h3⟩
  ·exact .inl h1
  ·rcases Nat.lt_or_ge j x.2 with h4|h4
   ·exact .inr ⟨h1,h4⟩
   ·have:x=(i,j):=Prod.ext h1.symm (by show x.2=j;omega)
    exact absurd (this ▸ h2) h
 ·rintro ⟨x,hx,h1,h2⟩
  exact ⟨x,hx,by omega,h2⟩
theorem LatFrom_next {l:List Bt} {r:Rc} {i j:Nat} (hj:¬ j < (rb l (i:Int)).f5.length):LatFrom l r i j↔LatFrom l r (i+1) 0:=by
 constructor
 ·rintro ⟨x,hx,h1,h2⟩
  refine ⟨x,hx,?_,h2⟩
  have h3:=(mem_pts.1 hx).2
  rcases h1 with h1|⟨h1,h4⟩
  ·omega
  ·rw [← h1] at h3
   omega
 ·rintro ⟨x,hx,h1,h2⟩
  exact ⟨x,hx,by omega,h2⟩
theorem later_loop (l:List Bt) (hl:smallBs l) (r:Rc):∀ (d i:Nat),l.length - i=d→i≤l.length→Evs (fun k=>Qk.l0 k l (i:Int) r.f0 r.f1 r.f2 r.f3 r.f4 r.f5) (fun b=>b=true↔LatFrom l r i 0):=by
 intro d
 induction d with
 | zero=>
  intro i hd hi
  refine Evs.succ ?_
  simp only [Qk.l0,if_neg (show ¬ (i:Int) < (l.length:Int) by omega)]
  refine Evs.done ⟨(fun h=>by cases h),?_⟩
  rintro ⟨x,hx,h1,_⟩
  have:=(mem_pts.1 hx).1
  omega
 | succ d ih=>
  intro i hd hi
  have hil:i < l.length:=by omega
  have hll:=hl.1
  have hsm:=smallBs_at hl i hil
  have e1:=wstep i (by omega)
  refine Evs.succ ?_
  simp only [Qk.l0,if_pos (show (i:Int) < (l.length:Int) by omega)]
  have inner:∀ (e j:Nat),(rb l (i:Int)).f5.length - j=e→j≤(rb l (i:Int)).f5.length→Evs (fun k=>Qk.l1 k l (i:Int) (j:Int) r.f0 r.f1 r.f2 r.f3 r.f4 r.f5) (fun b=>b=true↔LatFrom l r i j):=by
   intro e
   induction e with
   | zero=>
    intro j he hj
    refine Evs.succ ?_
    simp only [Qk.l1,if_pos (show 0≤(i:Int) by omega),if_pos (show (i:Int) < (l.length:Int) by omega),if_neg (show ¬ (j:Int) < ((rb l (i:Int)).f5.length:Int) by omega),e1]
    refine (ih (i+1) (by omega) (by omega)).mono (fun b hb=>hb.trans (LatFrom_next (by omega)).symm)
   | succ e ihe=>
    intro j he hj
    have hjl:j < (rb l (i:Int)).f5.length:=by omega
    have hls:=hsm.1
    have e2:=wstep j (by omega)
    have hnext:=ihe (j+1) (by omega) (by omega)
    refine Evs.succ ?_
    simp only [Qk.l1,if_pos (show 0≤(i:Int) by omega),if_pos (show (i:Int) < (l.length:Int) by omega),if_pos (show (j:Int) < ((rb l (i:Int)).f5.length:Int) by omega),if_pos (show 0≤(j:Int) by omega),e2]
    have hf1:(Qa l (i:Int)).f1=mkOf l (i,j):=rfl
    have hrc:Qb (Qa l (i:Int)).f5 (j:Int)=rcOf l (i,j):=rfl
    rw [hf1,hrc]
    by_cases c1:mkOf l (i,j)=true
    ·simp only [if_pos c1]
     exact hnext.mono (fun b hb=>hb.trans (LatFrom_step hil hjl (fun h=>by rw [h.1] at c1;cases c1)).symm)
    ·simp only [if_neg c1]
     by_cases c2:(rcOf l (i,j)).f2=true
     ·simp only [if_pos c2]
      by_cases c3:(rcOf l (i,j)).f0 > r.f0
      ·simp only [if_pos c3]
       refine Evs.bind (Evs.of (Q:=fun x=>x=decide ((rcOf l (i,j)).f3=r.f3)) (l16Same _ _ (smallRs_at hsm j hjl).1) rfl) ?_
       rintro _ rfl
       by_cases c4:(rcOf l (i,j)).f3=r.f3
       ·simp only [decide_eq_true c4,if_true]
        exact Evs.done ⟨fun _=>⟨(i,j),mem_pts.2 ⟨hil,hjl⟩,.inr ⟨rfl,Nat.le_refl _⟩,by simpa using c1,c2,c3,c4⟩,fun _=>rfl⟩
       ·simp only [decide_eq_false c4,Bool.false_eq_true,if_false]
        exact hnext.mono (fun b hb=>hb.trans (LatFrom_step hil hjl (fun h=>c4 h.2.2.2)).symm)
      ·simp only [if_neg c3]
       exact hnext.mono (fun b hb=>hb.trans (LatFrom_step hil hjl (fun h=>c3 h.2.2.1)).symm)
     ·simp only [if_neg c2]
      exact hnext.mono (fun b hb=>hb.trans (LatFrom_step hil hjl (fun h=>c2 h.2.1)).symm)
  exact inner (rb l (i:Int)).f5.length 0 (by omega) (by omega)
theorem specLater (l:List Bt) (hl:smallBs l) (r:Rc):Evs (fun k=>Qk.f k l r.f0 r.f1 r.f2 r.f3 r.f4 r.f5) (fun b=>b=true↔LaterP l r):=by
 unfold Qk.f
 refine (later_loop l hl r l.length 0 (by omega) (by omega)).mono (fun b hb=>hb.trans ⟨?_,?_⟩)
 ·rintro ⟨x,hx,_,h⟩;exact ⟨x,hx,h⟩
 ·rintro ⟨x,hx,h⟩;exact ⟨x,hx,by omega,h⟩
theorem specKeep (l:List Bt) (hl:smallBs l) (h:VL l) (i j:Nat) (hi:i < l.length) (hj:j < (rb l (i:Int)).f5.length) (gone:Bool) :
  Ev (fun k=>Rv.f k l (rb l (i:Int)).f0 (rb l (i:Int)).f1 (rb l (i:Int)).f2 (rb l (i:Int)).f3 (rb l (i:Int)).f4 (rb l (i:Int)).f5 (rcOf l (i,j)).f0 (rcOf l (i,j)).f1 (rcOf l (i,j)).f2 (rcOf l (i,j)).f3 (rcOf l (i,j)).f4 (rcOf l (i,j)).f5 gone) (stayB l gone (i,j)):=by
 have hx:(i,j)∈pts l:=mem_pts.2 ⟨hi,hj⟩
 have hk:=keep_iff h hx gone
 have hb:∀ {b:Bool},(b=true↔(mkOf l (i,j)=true∨((rcOf l (i,j)).f2=true∧((rcOf l (i,j)).f4=true∨gone=true)∧¬ LaterP l (rcOf l (i,j)))))→stayB l gone (i,j)=b:=fun {b} hb=>by
  rw [Bool.eq_iff_iff,hk,hb]
 unfold Rv.f
 have hf1:(rb l (i:Int)).f1=mkOf l (i,j):=rfl
 rw [hf1]
 by_cases c1:mkOf l (i,j)=true
 ·simp only [if_pos c1]
  rw [hb (b:=true) (by simp [c1])]
  exact ev_some _
 ·simp only [if_neg c1]
  obtain ⟨b,he,hbl⟩:=specLater l hl (rcOf l (i,j))
  have hnb:(!b)=true↔¬ LaterP l (rcOf l (i,j)):=by rw [← hbl];simp
  by_cases c2:(rcOf l (i,j)).f2=true
  ·simp only [if_pos c2]
   by_cases c3:(rcOf l (i,j)).f4=true
   ·simp only [if_pos c3]
    rw [hb (b:=!b) (by rw [hnb];simp [c1,c2,c3])]
    exact Ev.bind he (ev_some _)
   ·simp only [if_neg c3]
    by_cases c4:gone=true
    ·simp only [if_pos c4]
     rw [hb (b:=!b) (by rw [hnb];simp [c1,c2,c4])]
     exact Ev.bind he (ev_some _)
    ·simp only [if_neg c4]
     rw [hb (b:=false) (by simp [c1,c3,c4])]
     exact ev_some _
  ·simp only [if_neg c2]
   rw [hb (b:=false) (by simp [c1,c2])]
   exact ev_some _
theorem l12Copy_eq (r:Rc) (h:okc r):Ry.f r.f0 r.f1 r.f2 r.f3 r.f4 r.f5=some (r.f0,r.f1,r.f2,r.f3,r.f4,r.f5):=by
 have h1:=h.1
 have h2:=h.2
 unfold Ry.f
 simp only [bsome,List.length_nil,Nat.zero_add,List.nil_append]
 rw [if_pos (by omega),if_pos (by omega)]
theorem full_of {l:List Bt} (h:VL l):full l=true:=by
 unfold full
 rw [List.all_eq_true]
 intro b hb
 obtain ⟨j,hj,rfl⟩:=List.getElem_of_mem hb
 have:=(vB_pos (VL_at h j hj)).1
 rw [rb_nat l j hj] at this
 rw [decide_eq_true_eq]
 exact this
theorem implCompact (l:List Bt) (g:Bool) (hl:smallBs l) (h:VL l):Ev (fun k=>Qu.f k l g) (cmpOut l g,true):=by
 unfold Qu.f
 refine Ev.bind (implLog l hl) ?_
 rw [vl_true h]
 simp only [if_true,okLog_of h,full_of h,and_self]
 exact ev_some _
theorem implCompact_not (l:List Bt) (g:Bool) (hl:smallBs l) (h:¬ VL l):Ev (fun k=>Qu.f k l g) ([],false):=by
 unfold Qu.f
 refine Ev.bind (implLog l hl) ?_
 rw [vl_false h]
 simp only [Bool.false_eq_true,if_false]
 exact ev_some _
theorem stay_at (l:List Bt) (g:Bool) (i j:Nat):stayR l (rb l (i:Int)).f1 g (rcOf l (i,j))=stayB l g (i,j):=rfl
def cmpTo (l:List Bt) (g:Bool) (i:Nat):List Bt:=((l.take i).map (stB l g)).filter (fun b=>!decide (b.f5.length=0))
theorem cmpTo_len (l:List Bt) (g:Bool) (i:Nat):(cmpTo l g i).length≤i:=by
 unfold cmpTo
 refine Nat.le_trans (List.length_filter_le _ _) ?_
 rw [List.length_map,length_take]
 omega
theorem cmpTo_succ (l:List Bt) (g:Bool) (i:Nat) (hi:i < l.length):cmpTo l g (i+1)=if (stB l g l[i]).f5.length=0 then cmpTo l g i else cmpTo l g i ++ [stB l g l[i]]:=by
 unfold cmpTo
 rw [List.take_succ_eq_append_getElem hi,List.map_append,List.filter_append]
 by_cases h:(stB l g l[i]).f5.length=0
 ·rw [if_pos h,map_cons,map_nil,List.filter_cons,List.filter_nil,decide_eq_true h]
  simp
 ·rw [if_neg h,map_cons,map_nil,List.filter_cons,List.filter_nil,decide_eq_false h]
  rfl
theorem filter_take_succ {α:Type} (p : α→Bool) (xs:List α) (j:Nat) (hj:j < xs.length):(xs.take (j+1)).filter p=if p xs[j]=true then (xs.take j).filter p ++ [xs[j]] else (xs.take j).filter p:=by
 rw [List.take_succ_eq_append_getElem hj,List.filter_append]
 by_cases h:p xs[j]=true
 ·rw [if_pos h];simp [h]
 ·rw [if_neg h];simp [h]
theorem compact_inner (l:List Bt) (hl:smallBs l) (h:VL l) (g:Bool) (i n:Nat) (hi:i < l.length) (b:Bt) (hb:b=rb l (i:Int)) (hn:n=b.f5.length) (hn6:n≤6) (R:List Bt)
  (next:Ev (fun k=>Qh.l0 k l g (cmpTo l g (i+1)) ((i+1:Nat):Int)) R) :
  ∀ (e j:Nat),n - j=e→j≤n→Ev (fun k=>Qh.l1 k l g (cmpTo l g i) (i:Int) ((b.f5.take j).filter (stayR l b.f1 g)) (j:Int) b.f0 b.f1 b.f2 b.f3 b.f4 b.f5) R:=by
 have hll:=h.1
 have hlc:=cmpTo_len l g i
 have e1:=wstep i (by omega)
 intro e
 induction e with
 | zero=>
  intro j he hj
  have hjn:j=b.f5.length:=by omega
  rw [hjn,List.take_length]
  have hst:(stB l g l[i]).f5=b.f5.filter (stayR l b.f1 g):=by rw [hb,rb_nat l i hi];rfl
  have hst2:stB l g l[i]=⟨b.f0,b.f1,b.f2,b.f3,b.f4,b.f5.filter (stayR l b.f1 g)⟩:=by rw [hb,rb_nat l i hi];rfl
  have hcs:=cmpTo_succ l g i hi
  rw [hst] at hcs
  have HST:=Aside0.mk hst2
  clear hst hst2
  refine ev_succ ?_
  simp only [Qh.l1,if_neg (show ¬ (b.f5.length:Int) < (b.f5.length:Int) by omega),e1]
  by_cases h0:(b.f5.filter (stayR l b.f1 g)).length=0
  ·rw [if_pos h0] at hcs
   simp only [if_neg (show ¬ ((b.f5.filter (stayR l b.f1 g)).length:Int) > 0 by omega)]
   rw [← hcs]
   exact next
  ·rw [if_neg h0] at hcs
   simp only [if_pos (show ((b.f5.filter (stayR l b.f1 g)).length:Int) > 0 by omega),if_pos (show (cmpTo l g i).length < 2513169434916 by omega)]
   rw [← HST.out,← hcs]
   exact next
 | succ e ih=>
  intro j he hj
  have hjl:j < b.f5.length:=by omega
  have e2:=wstep j (by omega)
  have hnext:=ih (j+1) (by omega) (by omega)
  rw [filter_take_succ _ _ j hjl] at hnext
  have hsk:=specKeep l hl h i j hi (by rw [← hb];exact hjl) g
  have hrc:rcOf l (i,j)=b.f5[j]:=by subst hb;exact rr_nat _ j hjl
  have hsb:stayB l g (i,j)=stayR l b.f1 g b.f5[j]:=by rw [← hrc,hb];exact (stay_at l g i j).symm
  have hrd:Qb b.f5 (j:Int)=b.f5[j]:=rr_nat _ j hjl
  have hx:(i,j)∈pts l:=mem_pts.2 ⟨hi,by rw [← hb];exact hjl⟩
  have hok:okc b.f5[j]:=by have:=rv_okc (rv_at h hx);rw [hrc] at this;exact ⟨by omega,by omega⟩
  have hfl:((b.f5.take j).filter (stayR l b.f1 g)).length≤6:=Nat.le_trans (List.length_filter_le _ _) (by rw [length_take];omega)
  rw [hrc,hsb,← hb] at hsk
  refine ev_succ ?_
  simp only [Qh.l1,if_pos (show (j:Int) < (b.f5.length:Int) by omega),if_pos (show 0≤(j:Int) by omega),hrd,e2]
  refine Ev.bind hsk ?_
  by_cases hs:stayR l b.f1 g b.f5[j]=true
  ·rw [if_pos hs] at hnext
   simp only [if_pos hs,l12Copy_eq _ hok,bsome,if_pos (show ((b.f5.take j).filter (stayR l b.f1 g)).length < 1759218604441 by omega)]
   exact hnext
  ·rw [if_neg hs] at hnext
   simp only [if_neg hs]
   exact hnext
theorem compact_loop (l:List Bt) (hl:smallBs l) (h:VL l) (g:Bool):∀ (d i:Nat),l.length - i=d→i≤l.length→Ev (fun k=>Qh.l0 k l g (cmpTo l g i) (i:Int)) (cmpOut l g):=by
 intro d
 induction d with
 | zero=>
  intro i hd hi
  obtain rfl:i=l.length:=by omega
  refine ev_succ ?_
  simp only [Qh.l0,if_neg (show ¬ (l.length:Int) < (l.length:Int) by omega)]
  rw [show cmpTo l g l.length=cmpOut l g by unfold cmpTo cmpOut;rw [List.take_length]]
  exact ev_some _
 | succ d ih=>
  intro i hd hi
  have hil:i < l.length:=by omega
  have h6:=(vB_pos (VL_at h i hil)).2
  have hn:=ih (i+1) (by omega) (by omega)
  refine ev_succ ?_
  simp only [Qh.l0,if_pos (show (i:Int) < (l.length:Int) by omega),if_pos (show 0≤(i:Int) by omega)]
  exact compact_inner l hl h g i _ hil (rb l (i:Int)) rfl rfl h6 _ hn _ 0 rfl (Nat.zero_le _)
theorem cmpOut_mem {l:List Bt} {g:Bool} {b:Bt} (hb:b∈cmpOut l g):∃ a∈l,b=stB l g a∧0 < b.f5.length:=by
 unfold cmpOut at hb
 obtain ⟨h1,h2⟩:=List.mem_filter.1 hb
 obtain ⟨a,ha,rfl⟩:=List.mem_map.1 h1
 refine ⟨a,ha,rfl,?_⟩
 have:¬ (stB l g a).f5.length=0:=by simpa using h2
 omega
theorem RF_pair {l:List Rc} (h:RF l 0):(∀ r∈l,rv r=true)∧l.Pairwise (fun a b=>a.f0 < b.f0):=by
 refine ⟨fun r hr=>?_,?_⟩
 ·obtain ⟨j,hj,rfl⟩:=List.getElem_of_mem hr
  have h1:=(h j (Nat.zero_le _) hj).1
  rw [rr_nat l j hj] at h1
  exact h1
 ·rw [List.pairwise_iff_getElem]
  intro i j hi hj hij
  have h1:=RF_lt h (j - i - 1) i (by omega)
  rw [show i+(j - i - 1)+1=j by omega,rr_nat l i hi,rr_nat l j hj] at h1
  exact h1
theorem RF_of {l:List Rc} (h1:∀ r∈l,rv r=true) (h2:l.Pairwise (fun a b=>a.f0 < b.f0)):RF l 0:=by
 intro j _ hj
 rw [List.pairwise_iff_getElem] at h2
 refine ⟨?_,fun h0=>?_⟩
 ·rw [rr_nat l j hj]
  exact h1 _ (List.getElem_mem hj)
 ·rw [show (j:Int) - 1=((j - 1:Nat):Int) by omega,rr_nat l j hj,rr_nat l (j - 1) (by omega)]
  exact h2 (j - 1) j (by omega) hj (by omega)
theorem off_mem {b:Bt} (h:vB b) {r:Rc} (hr:r∈b.f5):fOff b≤r.f0∧r.f0≤lOff b:=by
 obtain ⟨j,hj,rfl⟩:=List.getElem_of_mem hr
 have h1:=RF_le h.2.2.2 (Nat.zero_le j) hj
 have h2:=RF_le h.2.2.2 (show j≤b.f5.length - 1 by omega) (by omega)
 rw [rr_nat _ j hj] at h1 h2
 unfold fOff lOff
 rw [show ((b.f5.length:Int) - 1)=((b.f5.length - 1:Nat):Int) by omega]
 exact ⟨h1,h2⟩
theorem fst_mem {b:Bt} (h : 0 < b.f5.length):∃ r∈b.f5,fOff b=r.f0:=
 ⟨b.f5[0],List.getElem_mem h,congrArg (fun r:Rc=>r.f0) (rr_nat b.f5 0 h)⟩
theorem lst_mem {b:Bt} (h : 0 < b.f5.length):∃ r∈b.f5,lOff b=r.f0:=by
 refine ⟨b.f5[b.f5.length - 1]'(by omega),List.getElem_mem _,?_⟩
 unfold lOff
 rw [show ((b.f5.length:Int) - 1)=((b.f5.length - 1:Nat):Int) by omega,rr_nat b.f5 (b.f5.length - 1) (by omega)]
theorem VL_pair {l:List Bt} (h:VL l):(∀ b∈l,vB b)∧l.Pairwise (fun a b=>lOff a < fOff b):=by
 refine ⟨fun b hb=>?_,?_⟩
 ·obtain ⟨j,hj,rfl⟩:=List.getElem_of_mem hb
  have h1:=VL_at h j hj
  rw [rb_nat l j hj] at h1
  exact h1
 ·rw [List.pairwise_iff_getElem]
  intro i j hi hj hij
  have h1:=VL_cross h hij hj
  rw [rb_nat l i hi,rb_nat l j hj] at h1
  exact h1
theorem VL_of {l:List Bt} (h8:l.length≤8) (h1:∀ b∈l,vB b) (h2:l.Pairwise (fun a b=>lOff a < fOff b)):VL l:=by
 refine ⟨h8,fun j _ hj=>⟨?_,fun h0=>?_⟩⟩
 ·rw [rb_nat l j hj]
  exact h1 _ (List.getElem_mem hj)
 ·rw [List.pairwise_iff_getElem] at h2
  rw [show (j:Int) - 1=((j - 1:Nat):Int) by omega,rb_nat l j hj,rb_nat l (j - 1) (by omega)]
  exact h2 (j - 1) j (by omega) hj (by omega)
theorem st_mark (l:List Bt) (g:Bool) {b:Bt} (hm:b.f1=true):(stB l g b).f5=b.f5:=by
 show b.f5.filter (stayR l b.f1 g)=b.f5
 rw [List.filter_eq_self]
 intro r _
 rw [hm]
 rfl
theorem st_vB {l:List Bt} {g:Bool} {b:Bt} (h:vB b) (h0 : 0 < (stB l g b).f5.length):vB (stB l g b):=by
 have hb:=h.2.1
 have hc:=h.2.2.1
 obtain ⟨r1,r2⟩:=RF_pair h.2.2.2
 refine ⟨h.1,⟨by omega,Nat.le_trans (List.length_filter_le _ _) hb.2⟩,fun hm=>?_,RF_of (fun r hr=>r1 r (List.mem_filter.1 hr).1) (r2.filter _)⟩
 have e:=congrArg List.length (st_mark (b:=b) l g hm)
 exact e.trans (hc hm)
theorem cmpTo_full (l:List Bt) (g:Bool):cmpTo l g l.length=cmpOut l g:=by unfold cmpTo cmpOut;rw [List.take_length]
theorem cmp_len (l:List Bt) (g:Bool):(cmpOut l g).length≤l.length:=by
 have h1:=cmpTo_len l g l.length
 rw [cmpTo_full] at h1
 exact h1
theorem VL_cmp {l:List Bt} (g:Bool) (h:VL l):VL (cmpOut l g):=by
 obtain ⟨h1,h2⟩:=VL_pair h
 have h8:=h.1
 have hl:=cmp_len l g
 refine VL_of (by omega) (fun b hb=>?_) ?_
 ·obtain ⟨a,ha,rfl,h0⟩:=cmpOut_mem hb
  exact st_vB (h1 a ha) h0
 ·unfold cmpOut
  rw [List.pairwise_filter,List.pairwise_map]
  refine List.Pairwise.imp_of_mem ?_ h2
  intro a b ha hb hab p1 p2
  have q1 : 0 < (stB l g a).f5.length:=by
   have:¬ (stB l g a).f5.length=0:=by simpa using p1
   omega
  have q2 : 0 < (stB l g b).f5.length:=by
   have:¬ (stB l g b).f5.length=0:=by simpa using p2
   omega
  obtain ⟨r,hr,e1⟩:=lst_mem q1
  obtain ⟨s,hs,e2⟩:=fst_mem q2
  have k1:=(off_mem (h1 a ha) (List.mem_filter.1 hr).1).2
  have k2:=(off_mem (h1 b hb) (List.mem_filter.1 hs).1).1
  rw [e1,e2]
  omega
def allQ (l:List Bt):List Rc:=(l.map (fun b=>b.f5)).flatten
theorem allQ_cons (b:Bt) (xs:List Bt):allQ (b::xs)=b.f5++allQ xs:=by unfold allQ;rw [map_cons,List.flatten_cons]
theorem allQ_succ (l:List Bt) (i:Nat) (hi:i < l.length):allQ (l.take (i+1))=allQ (l.take i)++l[i].f5:=by
 unfold allQ
 rw [List.take_succ_eq_append_getElem hi,List.map_append,List.flatten_append]
 simp
theorem allQ_len (l:List Bt) (h6:∀ b∈l,b.f5.length≤6):∀ i,i≤l.length→(allQ (l.take i)).length≤6 * i
 | 0,_=>by simp [allQ]
 | i+1,hi=>by
  have h1:=allQ_len l h6 i (by omega)
  have h2:=h6 _ (List.getElem_mem (show i < l.length by omega))
  rw [allQ_succ l i (by omega),List.length_append]
  omega
theorem pts_allQ (l:List Bt):∀ i,i≤l.length→(ptsTo l i).length=(allQ (l.take i)).length
 | 0,_=>by simp [allQ,ptsTo]
 | i+1,hi=>by
  have ih:=pts_allQ l i (by omega)
  rw [ptsTo_succ,List.length_append,ih,allQ_succ l i (by omega),List.length_append]
  have h2:(ptsRow l i).length=(rb l (i:Int)).f5.length:=by unfold ptsRow;rw [List.length_map,List.length_range]
  rw [h2,rb_nat l i (by omega)]
theorem pts_all (l:List Bt):(pts l).length=(allQ l).length:=by
 have h:=pts_allQ l l.length (Nat.le_refl _)
 rw [List.take_length] at h
 exact h
theorem all6 {l:List Bt} (h:VL l):∀ b∈l,b.f5.length≤6:=fun b hb=>(vB_pos ((VL_pair h).1 b hb)).2
theorem all48 {l:List Bt} (h:VL l):(allQ l).length≤48:=by
 have h1:=allQ_len l (all6 h) l.length (Nat.le_refl _)
 have h2:=h.1
 rw [List.take_length] at h1
 omega
theorem l14_loop (l:List Bt) (hl:l.length≤1000) (h6:∀ b∈l,b.f5.length≤6):∀ (d i:Nat),l.length - i=d→i≤l.length→Ev (fun k=>Qv.l0 k l (allQ (l.take i)) (i:Int)) (allQ l):=by
 intro d
 induction d with
 | zero=>
  intro i hd hi
  obtain rfl:i=l.length:=by omega
  refine ev_succ ?_
  simp only [Qv.l0,if_neg (show ¬ (l.length:Int) < (l.length:Int) by omega),List.take_length]
  exact ev_some _
 | succ d ih=>
  intro i hd hi
  have hil:i < l.length:=by omega
  have e1:=wstep i (by omega)
  have hn:=ih (i+1) (by omega) (by omega)
  have h1:=allQ_len l h6 i hi
  have h2:=h6 _ (List.getElem_mem hil)
  have ex:Qa l (i:Int)=l[i]:=rb_nat l i hil
  rw [allQ_succ l i hil] at hn
  refine ev_succ ?_
  simp only [Qv.l0,if_pos (show (i:Int) < (l.length:Int) by omega),if_pos (show 0≤(i:Int) by omega),ex,e1,if_pos (show (allQ (l.take i)).length+l[i].f5.length < 1759218604441 by omega)]
  exact hn
theorem l14All (l:List Bt) (h:VL l):Ev (fun k=>Qv.f k l) (allQ l):=by
 have h8:=h.1
 unfold Qv.f
 have h:=l14_loop l (by omega) (all6 h) l.length 0 (by omega) (by omega)
 simpa [allQ] using h
theorem specL16 (l:List Bt) (g:Bool) (hl:smallBs l) (h:VL l):Ev (fun k=>Qh.f k l g) (cmpOut l g):=by
 unfold Qh.f
 exact compact_loop l hl h g l.length 0 (by omega) (by omega)
def leftV (l:List Bt) (g:Bool):Int:=((allQ l).length:Int) - ((allQ (cmpOut l g)).length:Int)
theorem count_eq {l:List Bt} (h:VL l):Qt.f l=some ((allQ l).length:Int):=by
 have h1:=all48 h
 unfold Qt.f
 rw [pts_all,if_pos (by omega)]
theorem implLeft (l:List Bt) (g:Bool) (hl:smallBs l) (h:VL l):Ev (fun k=>Qx.f k l g) (leftV l g):=by
 have h1:=all48 h
 have h2:=all48 (VL_cmp g h)
 unfold Qx.f
 refine Ev.bind (implCompact l g hl h) ?_
 simp only [if_true,count_eq h,count_eq (VL_cmp g h),bsome]
 rw [wrap_id (by omega) (by omega)]
 exact ev_some _
theorem implLeft_not (l:List Bt) (g:Bool) (hl:smallBs l) (h:¬ VL l):Ev (fun k=>Qx.f k l g) (-1):=by
 unfold Qx.f
 refine Ev.bind (implCompact_not l g hl h) ?_
 simp only [Bool.false_eq_true,if_false]
 exact ev_some _
theorem specLeft (l:List Bt) (g:Bool) (hl:smallBs l) (h:VL l):Ev (fun k=>Rb.f k l g) (leftV l g):=by
 have h1:=all48 h
 have h2:=all48 (VL_cmp g h)
 unfold Rb.f
 refine Ev.bind (specLog l hl) ?_
 rw [vl_true h]
 simp only [if_true]
 refine Ev.bind (l14All l h) ?_
 refine Ev.bind (specL16 l g hl h) ?_
 refine Ev.bind (l14All _ (VL_cmp g h)) ?_
 rw [wrap_id (by omega) (by omega)]
 exact ev_some _
theorem specLeft_not (l:List Bt) (g:Bool) (hl:smallBs l) (h:¬ VL l):Ev (fun k=>Rb.f k l g) (-1):=by
 unfold Rb.f
 refine Ev.bind (specLog l hl) ?_
 rw [vl_false h]
 simp only [Bool.false_eq_true,if_false]
 exact ev_some _
theorem left_cons (l:List Bt) (g:Bool) (b:Bt) (xs:List Bt):(allQ (((b::xs).map (stB l g)).filter (fun b=>!decide (b.f5.length=0)))).length=(b.f5.filter (stayR l b.f1 g)).length+(allQ ((xs.map (stB l g)).filter (fun b=>!decide (b.f5.length=0)))).length:=by
 have e5:(stB l g b).f5=b.f5.filter (stayR l b.f1 g):=rfl
 rw [map_cons,List.filter_cons]
 by_cases h0:(stB l g b).f5.length=0
 ·rw [decide_eq_true h0,if_neg (by simp),← e5,h0,Nat.zero_add]
 ·rw [decide_eq_false h0,if_pos (by rfl),allQ_cons,List.length_append,e5]
theorem stay_mono (l:List Bt) (m g:Bool) (r:Rc) (h:stayR l m false r=true):stayR l m g r=true:=by
 unfold stayR at h ⊢
 cases m with
 | true=>rfl
 | false=>
  simp only [Bool.false_or,Bool.and_eq_true,Bool.or_false] at h ⊢
  exact ⟨h.1,h.2.1,by rw [h.2.2];rfl⟩
theorem filter_len_mono {α:Type} (p q : α→Bool) (h:∀ x,p x=true→q x=true):∀ xs:List α,(xs.filter p).length≤(xs.filter q).length
 | []=>Nat.le_refl _
 | x::xs=>by
  have ih:=filter_len_mono p q h xs
  rw [List.filter_cons,List.filter_cons]
  by_cases h1:p x=true
  ·rw [if_pos h1,if_pos (h x h1),List.length_cons,List.length_cons];omega
  ·rw [if_neg h1]
   by_cases h2:q x=true
   ·rw [if_pos h2,List.length_cons];omega
   ·rw [if_neg h2];exact ih
theorem left_mono (l:List Bt) (g:Bool):∀ xs:List Bt,(allQ ((xs.map (stB l false)).filter (fun b=>!decide (b.f5.length=0)))).length≤(allQ ((xs.map (stB l g)).filter (fun b=>!decide (b.f5.length=0)))).length
 | []=>Nat.le_refl _
 | b::xs=>by
  have ih:=left_mono l g xs
  have h1:=filter_len_mono (stayR l b.f1 false) (stayR l b.f1 g) (fun r h=>stay_mono l b.f1 g r h) b.f5
  rw [left_cons,left_cons]
  omega
theorem left_all (l:List Bt) (g:Bool):∀ xs:List Bt,(allQ ((xs.map (stB l g)).filter (fun b=>!decide (b.f5.length=0)))).length≤(allQ xs).length
 | []=>Nat.le_refl _
 | b::xs=>by
  have ih:=left_all l g xs
  have h1:=List.length_filter_le (stayR l b.f1 g) b.f5
  rw [left_cons,allQ_cons,List.length_append]
  omega
theorem leftV_nonneg (l:List Bt) (g:Bool) : 0≤leftV l g:=by
 have h:(allQ (cmpOut l g)).length≤(allQ l).length:=left_all l g l
 unfold leftV
 omega
theorem leftV_mono (l:List Bt) (g:Bool):leftV l g≤leftV l false:=by
 have h:(allQ (cmpOut l false)).length≤(allQ (cmpOut l g)).length:=left_mono l g l
 unfold leftV
 omega
end Go.Proofs.Ytkhjmhdgcmffaaa.XQ
namespace Go.Proofs.Ytkhjmhdgcmffaaa.Pure
open Go.RowKit Go.Proofs.Ytkhjmhdgcmffaaa.X Go.Proofs.YtkhjmhdgcmffaaaW.PrintWords Go.Proofs.YtkhjmhdgcmffaaaW.PrintLast Go.Proofs.Ytkhjmhdgcmffaaa.XQ
set_option linter.unusedVariables false
set_option linter.unusedSimpArgs false
theorem drawLeft {l0:List Int} (hb:Bytes l0):Evs (fun k=>Rd.f k l0) (fun r=>drawnBs 10 r.1):=by
 have h:Evs (fun k=>Ri.f k l0) (fun r=>drawnBs 10 r.1):=by
  obtain ⟨b,ho,hb2,hbl⟩:=open_ev l0 hb
  unfold Ri.f
  simp only [ho,bsome]
  refine Evs.bind (log_evs' b hb2 hbl) ?_
  rintro ⟨r,p⟩ ⟨h,h0,h1⟩
  dsimp only at h h0 h1 ⊢
  refine Evs.bind (pick_evs b p 2 hb2 hbl h0 (by omega) (by omega)) ?_
  rintro ⟨u,_⟩ _
  exact Evs.done h
 unfold Rd.f
 refine Evs.bind h ?_
 rintro ⟨r,u⟩ hr
 exact Evs.done hr
theorem allOfL_loop (l:List Bt) (hl:l.length≤1000) (h6:∀ b∈l,b.f5.length≤6):∀ (d i:Nat),l.length - i=d→i≤l.length→Ev (fun k=>Qw.l0 k l (allQ (l.take i)) (i:Int)) (allQ l):=by
 intro d
 induction d with
 | zero=>
  intro i hd hi
  obtain rfl:i=l.length:=by omega
  refine ev_succ ?_
  simp only [Qw.l0,if_neg (show ¬ (l.length:Int) < (l.length:Int) by omega),List.take_length]
  exact ev_some _
 | succ d ih=>
  intro i hd hi
  have hil:i < l.length:=by omega
  have e1:=wstep i (by omega)
  have hn:=ih (i+1) (by omega) (by omega)
  have h1:=allQ_len l h6 i hi
  have h2:=h6 _ (List.getElem_mem hil)
  have ex:Qa l (i:Int)=l[i]:=rb_nat l i hil
  rw [allQ_succ l i hil] at hn
  refine ev_succ ?_
  simp only [Qw.l0,if_pos (show (i:Int) < (l.length:Int) by omega),if_pos (show 0≤(i:Int) by omega),ex,e1,if_pos (show (allQ (l.take i)).length+l[i].f5.length < 1759218604441 by omega)]
  exact hn
theorem allOfL (l:List Bt) (h:VL l):Ev (fun k=>Qw.f k l) (allQ l):=by
 have h8:=h.1
 unfold Qw.f
 have h:=allOfL_loop l (by omega) (all6 h) l.length 0 (by omega) (by omega)
 simpa [allQ] using h
theorem FnCompactLeft:laws_FnCompactLeft.Pure:=by
 intro l0 _ _ hb0
 refine Ev.rounds ?_
 have hb:=bytes_of hb0
 unfold laws_FnCompactLeft.f
 by_cases h:(l0.length:Int) > 1048576
 ·simp only [if_pos h]
  exact ev_some _
 ·simp only [if_neg h]
  obtain ⟨⟨l,g⟩,hd,hdr⟩:=drawLeft hb
  dsimp only at hdr
  have hs:=drawnBs_small hdr
  refine Ev.bind hd ?_
  by_cases hv:VL l
  ·have hvc:=VL_cmp g hv
   have n0:=leftV_nonneg l g
   have n1:=leftV_mono l g
   have k1:=all48 hv
   have k2:=all48 hvc
   refine Ev.bind (implLeft l g hs hv) ?_
   refine Ev.bind (specLeft l g hs hv) ?_
   simp only [if_true,decide_eq_false (show ¬ leftV l g < 0 by omega)]
   refine ev_succ ?_
   simp only [laws_FnCompactLeft.j0,Bool.false_eq_true,if_false]
   refine Ev.bind (implCompact l g hs hv) ?_
   simp only [if_true]
   refine Ev.bind (allOfL l hv) ?_
   refine Ev.bind (allOfL _ hvc) ?_
   have e:wrap64 (((allQ l).length:Int) - ((allQ (cmpOut l g)).length:Int))=leftV l g:=wrap_id (by omega) (by omega)
   simp only [e,if_pos (show leftV l g=leftV l g from rfl)]
   refine Ev.bind (implLeft l false hs hv) ?_
   rw [decide_eq_true (show leftV l false ≥ leftV l g from n1)]
   exact ev_some _
  ·refine Ev.bind (implLeft_not l g hs hv) ?_
   refine Ev.bind (specLeft_not l g hs hv) ?_
   simp only [if_true,decide_eq_true (show (-1:Int) < 0 by omega)]
   refine ev_succ ?_
   simp only [laws_FnCompactLeft.j0,if_true,beq_self_eq_true]
   exact ev_some _
end Go.Proofs.Ytkhjmhdgcmffaaa.Pure
namespace Go.Proofs.Ytkhjmhdgcmffaaa.fnCompactLeft
open Go.ChangeShapes Go.WideShapes Go.ChangeAt Go.RowKit
open Go.ChangeMaps (open_string shut_string)
set_option linter.unusedVariables false
theorem own:ownKnob Try.prog.godebug=none:=by kernel_rfl
theorem laidOut:laidOutB Try.prog=true:=by kernel_rfl
def IsRow (k:IntKind) (w:World) (a:Option Addr) (len cap:Nat) (zs:List Int):Prop:=
 (a=none∧len=0∧cap=0∧zs = []) ∨
 ∃ x,a=some x∧len≤cap∧cap≤maxLen∧zs.length=cap∧(∀ i,i < zs.length→w.cell? (x.add i)=some (.int k (zs.getD i 0)))∧∀ n∈zs,(Lit.int k n).wf=true
theorem lifted (os:Os) (started:os.Started) (H:Type) (enc:TypeId×Value→H) :
  ReturnsInHanded {} Try.checked os 5 .any (Rows.fnCompactLeftSpec.pre6 enc Try.prog Try.f5 Rows.fnCompactLeftRow.domain false) (Rows.fnCompactLeftSpec.post enc Try.prog Try.f5 false true false false):=by
 refine returnsInHanded_of_change_sized (C:=Try.checked) own started (by kernel_rfl) Try.func5
  (ChangeSpec.witness6 (enc:=enc) (C:=Try.checked) false ⟨#[],#[.slice none 0 0],[]⟩ 8 (by kernel_rfl) (by kernel_rfl) (by kernel_rfl) (by kernel_rfl)) ?_
 intro W base args ds gs before hval0 hW hcnd hsz0 _
 have hsz:(DataW.weightsEach Try.prog (Try.f5.params.toList++Rows.fnCompactLeftSpec.plain.varTypes Try.prog) (ds++gs)).all (· ≤ reachBytes)=true:=hsz0
 have hval:∀ (j:Nat) t v,Try.f5.params[j]? = some t→args[j]? = some v→Value.okWide Try.prog W .any base t v:=hval0
 have hW':=hW
 obtain ⟨p,q,hA0,hV,rfl,hfz,hnd⟩:=hW
 have hA:DataW.TrodAll enc Try.prog W 0 (fun _=>true) true Try.f5.params.toList args.toList ds p:=hA0
 rw [Try.params5] at hA hval hsz
 obtain ⟨v0,vs0,d0,ds0,p0,q0,hargs,rfl,rfl,h0,r0⟩:=trodAll_cons hA
 obtain ⟨rfl,rfl,rfl⟩:=trodAll_nil r0
 obtain rfl:args = #[v0]:=by cases args;simp_all
 obtain ⟨rfl,rfl⟩:=trodVars_none hV
 obtain ⟨a0,len0,cap0,rfl⟩:=okWide_slice Try.underlying22 (hval 0 22 v0 rfl rfl)
 have k0:=h0
 have lt0:∀ x∈p0,x.block < W.heap.size:=by obtain ⟨m,hm⟩:=k0;exact DataW.trod_lt m _ _ _ hm
 obtain ⟨z0,w0⟩:∃ zs,IsRow .u8 W a0 len0 cap0 zs:=by
  obtain ⟨fuel,hf⟩:=h0
  rcases open_ints Try.underlying22 Try.underlying5 (by kernel_rfl) hf with ⟨hcs,_⟩|⟨x,l,c,zs,hcs,_,hl,hm,hz,_,hcell,hwz⟩
  ·simp [Value.cells] at hcs
   obtain ⟨rfl,rfl,rfl⟩:=hcs
   exact ⟨[],.inl ⟨rfl,rfl,rfl,rfl⟩⟩
  ·simp [Value.cells] at hcs
   obtain ⟨rfl,rfl,rfl⟩:=hcs
   exact ⟨zs,.inr ⟨_,rfl,hl,hm,by simpa using hz,hcell,hwz⟩⟩
 have y0:len0 * 1≤140737488351232:=Go.Proofs.YtkhjmhdgcmffaaaW.PrintWords.sized_ints hsz (j:=0) (t:=22) rfl rfl Try.underlying22 Try.underlying5 (by kernel_rfl) (by kernel_rfl) h0
 clear hA0 hval0 hsz0 hsz
 refine (X.laws_FnCompactLeft.walk Pure.FnCompactLeft a0 len0 cap0 z0 W w0 y0).mono fun e W' ⟨he,bel⟩=>?_
 subst he
 exact ⟨_,rfl,_,_,_,[],_,[],hW',trodAll_mk1 (shut_bool Try.underlying4 _),(trodAll_cons_mk (Below.trod laidOut (by kernel_rfl) (of_decide_eq_true (by kernel_rfl)) k0 bel lt0) trodAll_mk0),rfl,bel.frame _,fun h=>by cases h⟩
theorem closed:joinedFacts Try.prog 5 Try.f5 Rows.fnCompactLeftSpec Rows.fnCompactLeftRow=true:=
 Head.closed_of _ _ _ _ _ (by kernel_rfl) (by kernel_rfl) (by kernel_rfl) (by kernel_rfl) (by kernel_rfl) (by kernel_rfl) (by kernel_rfl) (by kernel_rfl) (by kernel_rfl) (by kernel_rfl) (by kernel_rfl) (by kernel_rfl) (by kernel_rfl) (by kernel_rfl) (by kernel_rfl) (by kernel_rfl) (by kernel_rfl) (by kernel_rfl) (by kernel_rfl) (by kernel_rfl) (by kernel_rfl) (by kernel_rfl) (by kernel_rfl) (by kernel_rfl) (by kernel_rfl) Head.may_enter (by rw [Head.lifts_final];kernel_rfl) (by rw [Head.make_is];kernel_rfl) (by kernel_rfl) (by kernel_rfl) (by kernel_rfl) (by kernel_rfl)
theorem over:Rows.fnCompactLeftRow.holds Try.pinned (OpenSpec.ofChange Rows.fnCompactLeftSpec):=
 OpenClaim.holds_of_wide 5 Try.f5 rfl rfl rfl rfl rfl rfl rfl ⟨rfl,rfl,rfl,rfl,rfl⟩ rfl rfl rfl rfl rfl (by kernel_rfl) Try.func5 closed
  (of_decide_eq_true (by kernel_rfl)) (by unfold Func.isWrapper;first|(rw [if_pos (by decide +kernel)];kernel_rfl)|(rw [if_neg (by decide +kernel)];exact ⟨rfl,rfl⟩))
  (fun os started H enc _=>lifted os started H enc)
theorem proved:Rows.FnCompactLeftSaid:=over
end Go.Proofs.Ytkhjmhdgcmffaaa.fnCompactLeft
namespace Go.Proofs.Ytkhjmhdgcmffaaa
theorem fnCompactLeft_holds:Rows.FnCompactLeftSaid:=fnCompactLeft.proved
end Go.Proofs.Ytkhjmhdgcmffaaa
