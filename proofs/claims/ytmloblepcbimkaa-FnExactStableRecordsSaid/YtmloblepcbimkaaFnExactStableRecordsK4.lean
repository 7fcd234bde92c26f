/- The law FnExactStableRecords holds (part 5 of 5; merged by pack2.py). -/
import Derived.Deep.Slices
import Derived.ChangeArms
import Derived.ProofKit
import Derived.OpenShut
import Derived.ShutString
import Derived.ChangeOld
import Derived.SizedLaws
import Derived.Test.YtmloblepcbimkaaFnExactStableRecordsK3
set_option maxRecDepth 1000000
open List (setIfInBounds_toArray set_cons_zero set_cons_succ map_toArray map_cons map_nil length_drop length_take)
namespace Go.Proofs.Ytmloblepcbimkaa.T
open Go.RowKit Go.Proofs.YtmloblepcbimkaaW.PrintWords Go.Proofs.YtmloblepcbimkaaW.PrintLast Go.Proofs.YtmloblepcbimkaaW.PrintMore

set_option linter.unusedVariables false
set_option linter.unusedSimpArgs false
def Q1.l0:Nat→List Int→Int→Int→Option (Int×List Int)
 | 0,_,_,_=>none
 | k+1,x0,x1,x5=>if x5 < (x0.length:Int) then (if 0≤x5 then (Q1.l0 k (x0.set (x5:Int).toNat x1) (wrap64 (x1+1)) (wrap64 (x5+1))) else (none)) else (some (x1,x0))
def Q1.f (k:Nat) (l0:List Int) (a1:Int):Option (Int×List Int):=Q1.l0 k l0 a1 0
set_option maxHeartbeats 8000000 in
theorem Q1.calls (k:Nat) (P0_:Nat→Prop) (u9000_:Value) (l0:List Int) (a1:Int) (r1:Int) (r2:List Int) (w0 w:World) (hB:Below w0.heap.size w0 w) (ho0:Kd.R (Kd.int .i64) 3 w w0.heap.size P0_ u9000_ l0) (h:Q1.f k l0 a1=some (r1,r2)) :
  Calls Try.prog 26 #[u9000_,.int .i64 a1] w fun e w'=>e = .returned (.int .i64 r1)∧Kd.R (Kd.int .i64) 3 w' w0.heap.size (fun k_=>(P0_ k_∨w.heap.size≤k_)) u9000_ r2∧Below w0.heap.size w0 w'∧Kept w w' (fun k_=>P0_ k_):=by
 have b0:=zzm (show Kd.R (Kd.int .i64) 3 w w0.heap.size (fun k_=>(P0_ k_∨w.heap.size≤k_)) u9000_ l0 from Kd.R_mono ho0 (fun k_ hk=>(.inl hk)));have HK:=zzm (Kept.refl w (fun k_=>P0_ k_));have HW0:=zzm hB.size;have HB:=zzm hB;clear hB;have H:(Q1.l0 k l0 a1 0)=some (r1,r2):=h;clear h;have H':=zzm H;clear H;go_enter Try.func26,Try.ntmps26;go_wp2;go_loopg [1,5] k (fun kq v1 v5 w'=>∃ (a3:List Int) (a4:Int) (a0:Int),v1 = .int .i64 a4∧v5 = .int .i64 a0∧Aside0 (Q1.l0 kq a3 a4 a0=some (r1,r2))∧Aside0 (kq≤k)∧Aside0 (Kd.R (Kd.int .i64) 3 w' w0.heap.size (fun k_=>(P0_ k_∨w.heap.size≤k_)) u9000_ a3)∧Aside0 (Kept w w' (fun k_=>P0_ k_))∧Aside0 (Below w0.heap.size w0 w'))
 case atStart=>exact ⟨(l0),(a1),(0),(by first|rfl|(simp;done)|(simp [*];done)),(by first|rfl|(simp;done)|(simp [*];done)),H',⟨Nat.le_refl _⟩,⟨by (with_reducible repeat (first|apply Kd.R_alloc|apply Kd.R_drewN|apply Kd.R_drew));exact b0.out⟩,⟨by repeat (first|(with_reducible first|exact HK.out|apply Kept.alloc|apply Kept.drewN|apply Kept.drew)|exact HK.out)⟩,⟨zzh1⟩⟩
 case round=>
  clear H';try clear c2
  try clear p2
  obtain ⟨a3,a4,a0,rfl,rfl,HA,HK1,a2,HK,HB⟩:=hrel;cases gk with
  | zero=>exact absurd HA.out (by simp [Q1.l0])
  | succ k1=>
   have H:=HA.out;clear HA;simp only [Q1.l0] at H;by_cases c3:a0 < (a3.length:Int)
   ·
    rw [if_pos c3] at H;have a9:decide (a0 < (a3.length:Int))=true:=decide_eq_true c3;clear c3;by_cases c4 : 0≤a0
    ·
     rw [if_pos c4] at H;have b3:decide (0≤a0)=true:=decide_eq_true c4;clear c4;obtain ⟨y339,hy339⟩:∃ y_:List Int,y_=(a3.set (a0:Int).toNat a4):=⟨_,rfl⟩;replace H:(Q1.l0 k1 y339 (wrap64 (a4+1)) (wrap64 (a0+1)))=some (r1,r2):=by first|(rw [hy339];with_reducible exact H)|(have H2_:=(Option.bind_some _ _).symm.trans H;rw [hy339];with_reducible exact H2_)|(have H2_:=(Option.bind_some _ _).symm.trans H;with_reducible exact H2_)|with_reducible exact H|(rw [hy339];exact H)|exact H
     have Ny339:=zzm hy339;clear hy339;have H':=zzm H;clear H;obtain ⟨b4,b1,eo6⟩:=Kd.R_slice a2.out;subst eo6;have p5 : 0≤(a0:Int):=zzt;have q5:(a0:Int) < ((a3.length:Int):Int):=zzt;obtain ⟨go5,b5,eo5,a5,gl5,cl5,HG5⟩:=Kd.R_form a2.out (by omega)
     (first|cases eo5|(injection eo5 with ea_ en_ ec_;(first|subst ea_|(injection ea_ with ea_;subst ea_));subst ec_;clear en_));have GB5:=zzm a5;have GG5:=zzm HG5;clear a5 gl5 HG5;have HMgo5:=zzm (show (P0_ go5∨w.heap.size≤go5) from (a2.out.1 _ rfl));obtain ⟨b2,hf5_0⟩:=Kd.R_celln 0 a2.out (a0:Int) p5 q5;replace p5:=eq_true p5;replace q5:=eq_true q5;have HP7:=Kd.R_putg a2.out (a0:Int) a4;go_wp2_with (first|((with_reducible refine gate_store (t:=3) (p:=15) rfl ?_);refine store_event (t:=3) (p:=15) (v:=?vo_w8) (w1:=(wr.setCell ⟨go5,(a0:Int).toNat,none⟩ (.int .i64 a4))) ?hg ?ho ?hn ?hr ?_;(case ho=>rfl);(case hg=>rfl);(case hn=>rfl);(case hr=>first|(go_simp;done)|(go_simp;rfl));intro w8 hw;have hg:wr.grownBy w8 (some go5):=(by rw [hw];exact HP7.2);have hp_:Kd.R (Kd.int .i64) 3 w8 w0.heap.size (fun k_=>(P0_ k_∨w.heap.size≤k_)) (.slice (some ⟨go5,0,none⟩) a3.length b1) y339:=(by rw [hw,Ny339.out];exact HP7.1);clear HP7;have a6:=zzm (hp_);have a7:=zzm ((by rw [hw];exact zzd (HB.out) GB5.out:Below w0.heap.size w0 w8));have a8:=zzm (Kept.of_grown (S:=(fun k_=>P0_ k_)) hg (by repeat (first|(with_reducible first|exact HK.out|apply Kept.alloc|apply Kept.drewN|apply Kept.drew)|exact HK.out)) (fun k_ e_=>(a2.out.1 k_ e_)));clear a2 HB HK;have a2:=a6;have HB:=a7;have HK:=a8;clear a6 a7 a8 hg hw hp_));go_roundg k1
     case measure=>have:=HK1.out;omega
     case rel=>exact ⟨(y339),(wrap64 (a4+1)),(wrap64 (a0+1)),(by first|rfl|(simp;done)|(simp [*];done)),(by first|rfl|(simp;done)|(simp [*];done)),H',⟨by have:=HK1.out;omega⟩,⟨by (with_reducible repeat (first|apply Kd.R_alloc|apply Kd.R_drewN|apply Kd.R_drew));exact a2.out⟩,⟨by repeat (first|(with_reducible first|exact HK.out|apply Kept.alloc|apply Kept.drewN|apply Kept.drew)|exact HK.out)⟩,⟨zzh1⟩⟩
    ·
     rw [if_neg c4] at H;exact absurd H (by simp)
   ·
    rw [if_neg c3] at H;have a9:decide (a0 < (a3.length:Int))=false:=decide_eq_false c3;clear c3;simp only [Option.some.injEq,Prod.mk.injEq] at H;obtain ⟨rfl,rfl⟩:=H;obtain ⟨b6,b7,eo9⟩:=Kd.R_slice a2.out;subst eo9;go_wp2;go_ret;exact ⟨zzR,by (with_reducible repeat (first|apply Kd.R_alloc|apply Kd.R_drewN|apply Kd.R_drew));exact a2.out,zzh1,by repeat (first|(with_reducible first|exact HK.out|apply Kept.alloc|apply Kept.drewN|apply Kept.drew)|exact HK.out)⟩

set_option linter.unusedVariables false
set_option linter.unusedSimpArgs false
section
inductive Sim:Value→Value→Prop
 | refl (u:Value):Sim u u
 | int (k:IntKind) (x y:Int):Sim (.int k x) (.int k y)
 | bool (x y:Bool):Sim (.bool x) (.bool y)
theorem Sim.trans {a b c:Value} (h:Sim a b) (k:Sim b c):Sim a c:=by
 cases h with
 | refl=>exact k
 | int kk x y=>
  cases k with
  | refl=>exact .int _ _ _
  | int _ _ z=>exact .int _ _ _
 | bool x y=>
  cases k with
  | refl=>exact .bool _ _
  | bool _ z=>exact .bool _ _
theorem Sim.of_int {k:IntKind} {x:Int} {u:Value} (h:Sim (.int k x) u):∃ y,u = .int k y:=by
 cases h with
 | refl=>exact ⟨x,rfl⟩
 | int _ _ y=>exact ⟨y,rfl⟩
theorem Sim.of_bool {x:Bool} {u:Value} (h:Sim (.bool x) u):∃ y,u = .bool y:=by
 cases h with
 | refl=>exact ⟨x,rfl⟩
 | bool _ y=>exact ⟨y,rfl⟩
theorem Sim.of_slice {A:Option Addr} {n c:Nat} {u:Value} (h:Sim (.slice A n c) u):u = .slice A n c:=by
 cases h with
 | refl=>rfl
structure Lk (P:Nat→Prop) (w w' : World):Prop where
 kept:Kept w w' P
 low:∀ B,(∀ k,P k→B≤k)→Below B w w'
 cell:∀ (g:Nat) (cs:Array Value) (t:Nat),w.heap[g]? = some (.cells cs t (0,0))→∃ cs' : Array Value,w'.heap[g]? = some (.cells cs' t (0,0))∧∀ (i:Nat) (u:Value),cs[i]? = some u→∃ u',cs'[i]? = some u'∧Sim u u'
theorem Lk.refl (P:Nat→Prop) (w:World):Lk P w w:=⟨Kept.refl _ _,fun _ _=>Below.refl _ _,fun g cs t h=>⟨cs,h,fun i u hu=>⟨u,hu,.refl u⟩⟩⟩
theorem Lk.trans {P:Nat→Prop} {x y z:World} (h:Lk P x y) (k:Lk P y z):Lk P x z:=by
 refine ⟨h.kept.then_ k.kept (fun _ h2=>.inl h2),fun B hB=>(h.low B hB).trans (k.low B hB),fun g cs t h0=>?_⟩;obtain ⟨c1,h1,q1⟩:=h.cell g cs t h0;obtain ⟨c2,h2,q2⟩:=k.cell g c1 t h1;refine ⟨c2,h2,fun i u hu=>?_⟩;obtain ⟨u1,e1,s1⟩:=q1 i u hu;obtain ⟨u2,e2,s2⟩:=q2 i u1 e1;exact ⟨u2,e2,s1.trans s2⟩
theorem Lk.set {P:Nat→Prop} {w:World} {g t i:Nat} {cs:Array Value} {u v:Value} (h:w.heap[g]? = some (.cells cs t (0,0))) (hu:cs[i]? = some u) (hs:Sim u v) (hp:P g):Lk P w (w.setCell ⟨g,i,none⟩ v):=by
 refine ⟨(Kept.refl w P).setCell (.inl hp) v,fun B hB=>(Below.refl B w).setCell (p:=⟨g,i,none⟩) (hB g hp) v,fun g' cs' t' h'=>?_⟩;by_cases e:g' = g
 ·subst e
  rw [h] at h';cases h';refine ⟨cs.setIfInBounds i v,zzi h i v rfl,fun j u2 hj=>?_⟩;by_cases ej:j=i
  ·subst ej
   rw [hu] at hj;cases hj;exact ⟨v,by rw [Array.getElem?_setIfInBounds_self_of_lt (Array.getElem?_eq_some_iff.1 hu).1],hs⟩
  ·exact ⟨u2,by rw [Array.getElem?_setIfInBounds_ne (Ne.symm ej)];exact hj,.refl _⟩
 ·exact ⟨cs',(Below.heap_setCell w ⟨g,i,none⟩ v g' e).trans h',fun j u2 hj=>⟨u2,hj,.refl _⟩⟩
def IntRow (P:Nat→Prop) (w:World) (A:Option Addr) (n:Nat):Prop:=0 < n→∃ (g:Nat) (cs:Array Value),A=some ⟨g,0,none⟩∧P g∧w.heap[g]? = some (.cells cs 3 (0,0))∧∀ i,i < n→∃ x,cs[i]? = some (.int .i64 x)
def RecRow (P:Nat→Prop) (w:World) (A:Option Addr) (n:Nat) (len:Nat→Nat×Nat):Prop:=0 < n→∃ (g:Nat) (cs:Array Value),A=some ⟨g,0,none⟩∧P g∧w.heap[g]? = some (.cells cs 42 (0,0))∧∀ i,i < n →
 ∃ x0 x1 b2 A3 c3 b4 A5 c5,(cs[i * 6+0]? = some (.int .i64 x0)∧cs[i * 6+1]? = some (.int .i64 x1)∧cs[i * 6+2]? = some (.bool b2)∧cs[i * 6+3]? = some (.slice A3 (len i).1 c3)∧cs[i * 6+4]? = some (.bool b4)∧cs[i * 6+5]? = some (.slice A5 (len i).2 c5))∧IntRow P w A3 (len i).1∧IntRow P w A5 (len i).2
def BatRow (P:Nat→Prop) (w:World) (A:Option Addr) (n:Nat) (num:Nat→Nat) (len:Nat→Nat→Nat×Nat):Prop:=0 < n→∃ (g:Nat) (cs:Array Value),A=some ⟨g,0,none⟩∧P g∧w.heap[g]? = some (.cells cs 39 (0,0))∧∀ i,i < n →
 ∃ b0 b1 x2 x3 x4 A5 c5,(cs[i * 6+0]? = some (.bool b0)∧cs[i * 6+1]? = some (.bool b1)∧cs[i * 6+2]? = some (.int .i64 x2)∧cs[i * 6+3]? = some (.int .i64 x3)∧cs[i * 6+4]? = some (.int .i64 x4)∧cs[i * 6+5]? = some (.slice A5 (num i) c5))∧RecRow P w A5 (num i) (len i)
theorem IntRow.lk {P:Nat→Prop} {w w' : World} {A:Option Addr} {n:Nat} (h:IntRow P w A n) (k:Lk P w w'):IntRow P w' A n:=by
 intro hn;obtain ⟨g,cs,rfl,hp,hh,hc⟩:=h hn;obtain ⟨cs',hh',hc'⟩:=k.cell g cs 3 hh;refine ⟨g,cs',rfl,hp,hh',fun i hi=>?_⟩;obtain ⟨x,hx⟩:=hc i hi;obtain ⟨u,hu,hs⟩:=hc' i _ hx;obtain ⟨y,rfl⟩:=hs.of_int;exact ⟨y,hu⟩
theorem RecRow.lk {P:Nat→Prop} {w w' : World} {A:Option Addr} {n:Nat} {len:Nat→Nat×Nat} (h:RecRow P w A n len) (k:Lk P w w'):RecRow P w' A n len:=by
 intro hn;obtain ⟨g,cs,rfl,hp,hh,hc⟩:=h hn;obtain ⟨cs',hh',hc'⟩:=k.cell g cs _ hh;refine ⟨g,cs',rfl,hp,hh',fun i hi=>?_⟩;obtain ⟨x0,x1,b2,A3,c3,b4,A5,c5,⟨h0,h1,h2,h3,h4,h5⟩,r3,r5⟩:=hc i hi;obtain ⟨_,q0,s0⟩:=hc' _ _ h0;obtain ⟨_,q1,s1⟩:=hc' _ _ h1;obtain ⟨_,q2,s2⟩:=hc' _ _ h2;obtain ⟨_,q3,s3⟩:=hc' _ _ h3;obtain ⟨_,q4,s4⟩:=hc' _ _ h4;obtain ⟨_,q5,s5⟩:=hc' _ _ h5;obtain ⟨y0,rfl⟩:=s0.of_int;obtain ⟨y1,rfl⟩:=s1.of_int;obtain ⟨y2,rfl⟩:=s2.of_bool;obtain rfl:=s3.of_slice;obtain ⟨y4,rfl⟩:=s4.of_bool;obtain rfl:=s5.of_slice;exact ⟨y0,y1,y2,A3,c3,y4,A5,c5,⟨q0,q1,q2,q3,q4,q5⟩,r3.lk k,r5.lk k⟩
theorem BatRow.lk {P:Nat→Prop} {w w' : World} {A:Option Addr} {n:Nat} {num:Nat→Nat} {len:Nat→Nat→Nat×Nat} (h:BatRow P w A n num len) (k:Lk P w w'):BatRow P w' A n num len:=by
 intro hn;obtain ⟨g,cs,rfl,hp,hh,hc⟩:=h hn;obtain ⟨cs',hh',hc'⟩:=k.cell g cs _ hh;refine ⟨g,cs',rfl,hp,hh',fun i hi=>?_⟩;obtain ⟨b0,b1,x2,x3,x4,A5,c5,⟨h0,h1,h2,h3,h4,h5⟩,r5⟩:=hc i hi;obtain ⟨_,q0,s0⟩:=hc' _ _ h0;obtain ⟨_,q1,s1⟩:=hc' _ _ h1;obtain ⟨_,q2,s2⟩:=hc' _ _ h2;obtain ⟨_,q3,s3⟩:=hc' _ _ h3;obtain ⟨_,q4,s4⟩:=hc' _ _ h4;obtain ⟨_,q5,s5⟩:=hc' _ _ h5;obtain ⟨y0,rfl⟩:=s0.of_bool;obtain ⟨y1,rfl⟩:=s1.of_bool;obtain ⟨y2,rfl⟩:=s2.of_int;obtain ⟨y3,rfl⟩:=s3.of_int;obtain ⟨y4,rfl⟩:=s4.of_int;obtain rfl:=s5.of_slice;exact ⟨y0,y1,y2,y3,y4,A5,c5,⟨q0,q1,q2,q3,q4,q5⟩,r5.lk k⟩
theorem IntRow.mono {P Q:Nat→Prop} {w:World} {A:Option Addr} {n:Nat} (h:IntRow P w A n) (hq:∀ k,P k→Q k):IntRow Q w A n:=fun hn=>by
 obtain ⟨g,cs,e,hp,r⟩:=h hn
 exact ⟨g,cs,e,hq g hp,r⟩
theorem RecRow.mono {P Q:Nat→Prop} {w:World} {A:Option Addr} {n:Nat} {len:Nat→Nat×Nat} (h:RecRow P w A n len) (hq:∀ k,P k→Q k):RecRow Q w A n len:=fun hn=>by
 obtain ⟨g,cs,e,hp,hh,r⟩:=h hn
 refine ⟨g,cs,e,hq g hp,hh,fun i hi=>?_⟩
 obtain ⟨x0,x1,b2,A3,c3,b4,A5,c5,hc,r3,r5⟩:=r i hi
 exact ⟨x0,x1,b2,A3,c3,b4,A5,c5,hc,r3.mono hq,r5.mono hq⟩
theorem mk_cell {cur:Array Value} {n sz:Nat} {inner c:List Value} (h4:List.take (n * sz) cur.toList=inner) {i j:Nat} (hi:i < n) (hc:(inner.drop (i * sz)).take sz=c) (hl:c.length=sz) {u:Value} (hu:c[j]? = some u):cur[i * sz+j]? = some u:=by
 have hj:j < sz:=by rw [← hl];exact (List.getElem?_eq_some_iff.1 hu).1
 have hb:i * sz+j < n * sz:=by
  have:(i+1) * sz≤n * sz:=Nat.mul_le_mul_right _ hi;rw [Nat.add_mul] at this;omega
 rw [← hc,List.getElem?_take_of_lt hj,List.getElem?_drop,← h4,List.getElem?_take_of_lt hb,Array.getElem?_toList] at hu;exact hu
theorem intRow_of {w:World} {base:Nat} {ok:Nat→Prop} {v:Value} {xs:List Int} (h:Kd.R (Kd.int .i64) 3 w base ok v xs):∃ A c,v = .slice A xs.length c∧IntRow ok w A xs.length:=by
 obtain ⟨h0,inner,⟨_,ho⟩,hr⟩:=h;rcases ho with ⟨rfl,hn⟩|⟨g,cap,cur,rfl,_,hh,_,_,_,h4⟩
 ·exact ⟨none,0,by rw [hn],fun hp=>by omega⟩
 ·refine ⟨_,cap,rfl,fun _=>⟨g,cur,rfl,h0 g rfl,hh,fun i hi=>?_⟩⟩
  have hM:(inner.drop (i * 1)).take 1 = [.int .i64 xs[i]]:=hr.2 i xs[i] (List.getElem?_eq_getElem hi);have hc:cur[i * 1+0]? = some (.int .i64 xs[i]):=mk_cell (j:=0) h4 hi hM rfl rfl;rw [Nat.mul_one,Nat.add_zero] at hc;exact ⟨xs[i],hc⟩
theorem recRow_of {w:World} {base:Nat} {ok:Nat→Prop} {v:Value} {xs:List S42} (h:Kd.R k42 42 w base ok v xs):∃ A c,v = .slice A xs.length c∧RecRow ok w A xs.length (fun i=>((Qb xs (i:Int)).f3.length,(Qb xs (i:Int)).f5.length)):=by
 obtain ⟨h0,inner,⟨_,ho⟩,hr⟩:=h;rcases ho with ⟨rfl,hn⟩|⟨g,cap,cur,rfl,_,hh,_,_,_,h4⟩
 ·exact ⟨none,0,by rw [hn],fun hp=>by omega⟩
 ·refine ⟨_,cap,rfl,fun _=>⟨g,cur,rfl,h0 g rfl,hh,fun i hi=>?_⟩⟩
  have hrd:Qb xs (i:Int)=xs[i]:=by unfold Qb;rw [Int.toNat_natCast,List.getD_eq_getElem?_getD,List.getElem?_eq_getElem hi];rfl
  obtain ⟨c0,d0,e0,f0,c1,d1,e1,f1,c2,d2,e2,f2,c3,d3,e3,⟨v3,f3,h3⟩,c4,d4,e4,f4,v5,f5,h5⟩:=hr.2 i xs[i] (List.getElem?_eq_getElem hi);subst f0 e1 f1 e2 f2 e3 f3 e4 f4 f5;obtain ⟨A3,k3,e3,r3⟩:=intRow_of h3;obtain ⟨A5,k5,e5,r5⟩:=intRow_of h5;subst e3 e5;dsimp only;rw [hrd];exact ⟨_,_,_,A3,k3,_,A5,k5,⟨mk_cell (j:=0) h4 hi e0 rfl rfl,mk_cell (j:=1) h4 hi e0 rfl rfl,mk_cell (j:=2) h4 hi e0 rfl rfl,mk_cell (j:=3) h4 hi e0 rfl rfl,mk_cell (j:=4) h4 hi e0 rfl rfl,mk_cell (j:=5) h4 hi e0 rfl rfl⟩,r3.mono (fun _ hk=>hk.1),r5.mono (fun _ hk=>hk.1)⟩
theorem batRow_of {w:World} {base:Nat} {ok:Nat→Prop} {v:Value} {xs:List S39} (h:Kd.R k39 39 w base ok v xs):∃ A c,v = .slice A xs.length c∧BatRow ok w A xs.length (fun i=>(Qa xs (i:Int)).f5.length) (fun i j=>((Qb (Qa xs (i:Int)).f5 (j:Int)).f3.length,(Qb (Qa xs (i:Int)).f5 (j:Int)).f5.length)):=by
 obtain ⟨h0,inner,⟨_,ho⟩,hr⟩:=h;rcases ho with ⟨rfl,hn⟩|⟨g,cap,cur,rfl,_,hh,_,_,_,h4⟩
 ·exact ⟨none,0,by rw [hn],fun hp=>by omega⟩
 ·refine ⟨_,cap,rfl,fun _=>⟨g,cur,rfl,h0 g rfl,hh,fun i hi=>?_⟩⟩
  have hrd:Qa xs (i:Int)=xs[i]:=by unfold Qa;rw [Int.toNat_natCast,List.getD_eq_getElem?_getD,List.getElem?_eq_getElem hi];rfl
  obtain ⟨c0,d0,e0,f0,c1,d1,e1,f1,c2,d2,e2,f2,c3,d3,e3,f3,c4,d4,e4,f4,v5,f5,h5⟩:=hr.2 i xs[i] (List.getElem?_eq_getElem hi);subst f0 e1 f1 e2 f2 e3 f3 e4 f4 f5;obtain ⟨A5,k5,e5,r5⟩:=recRow_of h5;subst e5;dsimp only;rw [hrd];exact ⟨_,_,_,_,_,A5,k5,⟨mk_cell (j:=0) h4 hi e0 rfl rfl,mk_cell (j:=1) h4 hi e0 rfl rfl,mk_cell (j:=2) h4 hi e0 rfl rfl,mk_cell (j:=3) h4 hi e0 rfl rfl,mk_cell (j:=4) h4 hi e0 rfl rfl,mk_cell (j:=5) h4 hi e0 rfl rfl⟩,r5.mono (fun _ hk=>hk.1)⟩
set_option maxHeartbeats 4000000 in
theorem markInt_lk (P:Nat→Prop) (A:Option Addr) (n c:Nat) (a1:Int) (w:World) (h:IntRow P w A n) (h0 : 0≤a1) (h1:a1+n≤9000000000000000000) :
  Calls Try.prog 26 #[.slice A n c,.int .i64 a1] w fun e w'=>e = .returned (.int .i64 (a1+n))∧Lk P w w':=by
 have HR:=zzm h;have H0:=zzm h0;have H1:=zzm h1;clear h h0 h1;go_enter Try.func26,Try.ntmps26;go_wp2;go_loopw [1,5] (fun v1 v5 W=>∃ m:Nat,m≤n∧v1 = .int .i64 (a1+m)∧v5 = .int .i64 m∧Lk P w W) (fun _ v5 _=>n - (intOf v5).toNat)
 case atStart=>exact ⟨0,Nat.zero_le _,by simp,by go_num,Lk.refl _ _⟩
 case round=>
  obtain ⟨m,hm,rfl,rfl,hL⟩:=hrel;have HL:=zzm hL;clear hL;have h0:=H0.out;have h1:=H1.out;by_cases hlt:m < n
  ·obtain ⟨g,cs,rfl,hP,hh,hc⟩:=HR.out.lk HL.out (by omega)
   obtain ⟨y,hy⟩:=hc m hlt;have HP:=zzm hP;have HH:=zzm hh;have HY:=zzm hy;have q:=(zzk hh m).trans hy;have f:=zzl hh m;have e1:wrap64 (a1+(m:Int)+1)=a1+((m+1:Nat):Int):=by unfold wrap64;omega
   have e2:wrap64 ((m:Int)+1)=((m+1:Nat):Int):=by unfold wrap64;omega
   have hmi:((m:Nat):Int) < ((n:Nat):Int):=by omega
   clear hP hh hc hy;go_wp2;go_roundw
   case rel=>exact ⟨m+1,by omega,congrArg (Value.int .i64) (by omega),congrArg (Value.int .i64) (by omega),HL.out.trans (Lk.set HH.out HY.out (.int _ _ _) HP.out)⟩
   case measure=>simp [intOf] <;> omega
  ·obtain rfl:m=n:=by omega
   have hmi:¬ ((m:Nat):Int) < ((m:Nat):Int):=by omega
   go_wp2;go_ret;exact ⟨rfl,HL.out⟩
theorem Lk.at_ {P:Nat→Prop} {W W' : World} {g t i:Nat} {cs:Array Value} {u:Value} (h:Lk P W W') (hh:W.heap[g]? = some (.cells cs t (0,0))) (hu:cs[i]? = some u):∃ cs' u',W'.heap[g]? = some (.cells cs' t (0,0))∧cs'[i]? = some u'∧Sim u u'∧W'.cell? ⟨g,i,none⟩=some u'∧W'.frozen? ⟨g,i,none⟩=false:=by
 obtain ⟨cs',hh',hc⟩:=h.cell g cs t hh;obtain ⟨u',hu',hs⟩:=hc i u hu;exact ⟨cs',u',hh',hu',hs,(zzk hh' i).trans hu',zzl hh' i⟩
theorem meas_lt {n m:Nat} {v:Value} (hv:v = .int .i64 ((m+1:Nat):Int)) (h:m < n):n - (intOf v).toNat < n - (intOf (.int .i64 (m:Int))).toNat:=by
 subst hv;simp [intOf];omega
def cntR (len:Nat→Nat×Nat):Nat→Nat
 | 0=>0
 | m+1=>cntR len m+(4+(len m).1+(len m).2)
theorem cntR_le (len:Nat→Nat×Nat):∀ {m n:Nat},m≤n→cntR len m≤cntR len n
 | m,0,h=>by rw [show m=0 by omega];exact Nat.le_refl _
 | m,n+1,h=>by
  by_cases e:m=n+1
  ·rw [e];exact Nat.le_refl _
  ·have h1:=cntR_le len (show m≤n by omega)
   have h2:cntR len (n+1)=cntR len n+(4+(len n).1+(len n).2):=rfl
   omega
theorem le_cntR (len:Nat→Nat×Nat):∀ m,m≤cntR len m
 | 0=>Nat.le_refl _
 | m+1=>by
  have h1:=le_cntR len m
  have h2:cntR len (m+1)=cntR len m+(4+(len m).1+(len m).2):=rfl
  omega
set_option maxHeartbeats 8000000 in
theorem markRec_lk (P:Nat→Prop) (A:Option Addr) (n c:Nat) (len:Nat→Nat×Nat) (a1:Int) (w:World) (h:RecRow P w A n len) (h0 : 0≤a1) (h1:a1+cntR len n≤9000000000000000000) :
    Calls Try.prog 11 #[.slice A n c,.int .i64 a1] w fun e w'=>e = .returned (.int .i64 (a1+cntR len n))∧Lk P w w':=by
  have HR:=zzm h;have H0:=zzm h0;have H1:=zzm h1;clear h h0 h1;have hu:=Try.underlying42;go_enter Try.func11,Try.ntmps11;go_wp2;go_loopw [1,5] (fun v1 v5 W=>∃ m:Nat,m≤n∧v1 = .int .i64 (a1+cntR len m)∧v5 = .int .i64 m∧Lk P w W) (fun _ v5 _=>n - (intOf v5).toNat)
  case atStart=>exact ⟨0,Nat.zero_le _,by simp [cntR],by go_num,Lk.refl _ _⟩
  case round=>
    obtain ⟨m,hm,rfl,rfl,hL⟩:=hrel;have HL:=zzm hL;clear hL;have h0:=H0.out;have h1:=H1.out;by_cases hlt:m < n
    · have hcl:=cntR_le len (show m+1≤n from hlt)
      have hcs:cntR len (m+1)=cntR len m+(4+(len m).1+(len m).2):=rfl;have hmc:=le_cntR len m;have e5:wrap64 ((m:Int)+1)=((m+1:Nat):Int):=by unfold wrap64;omega
      obtain ⟨kk,hkk⟩:∃ kk:Int,kk=a1+(cntR len m:Int):=⟨_,rfl⟩;rw [← hkk];have k0 : 0≤kk:=by omega
      have k1:kk+4+((len m).1:Int)+((len m).2:Int)≤9000000000000000000:=by omega
      have hend:((kk+1+1+1+((len m).1:Int))+1+((len m).2:Int))=a1+(cntR len (m+1):Int):=by omega
      have HE:=zzm hend;have b1 : 0≤kk+1+1+1:=by omega
      have b2:kk+1+1+1+((len m).1:Int)≤9000000000000000000:=by omega
      have b3 : 0≤kk+1+1+1+((len m).1:Int)+1:=by omega
      have b4:kk+1+1+1+((len m).1:Int)+1+((len m).2:Int)≤9000000000000000000:=by omega
      have B1:=zzm b1;have B2:=zzm b2;have B3:=zzm b3;have B4:=zzm b4;have e1:wrap64 (kk+1)=kk+1:=by unfold wrap64;omega
      have e2:wrap64 (kk+1+1)=kk+1+1:=by unfold wrap64;omega
      have e3:wrap64 (kk+1+1+1)=kk+1+1+1:=by unfold wrap64;omega
      have e4:wrap64 (kk+1+1+1+((len m).1:Int)+1)=kk+1+1+1+((len m).1:Int)+1:=by unfold wrap64;omega
      clear hkk hcl hcs h0 h1 hend hmc b1 b2 b3 b4;obtain ⟨g,cs,rfl,hP,hh,hc⟩:=HR.out.lk HL.out (Nat.lt_of_le_of_lt (Nat.zero_le m) hlt);obtain ⟨x0,x1,y2,A3,c3,y4',A5,c5,⟨q0,q1,q2,q3,q4,q5⟩,r3,r5⟩:=hc m hlt;rw [Nat.add_zero] at q0;have HP:=zzm hP;have HH:=zzm hh;have p0:=(zzk hh (m * 6)).trans q0;have z0:=zzl hh (m * 6);have p1:=(zzk hh (m * 6+1)).trans q1;have z1:=zzl hh (m * 6+1);have p2:=(zzk hh (m * 6+2)).trans q2;have z2:=zzl hh (m * 6+2);have p3:=(zzk hh (m * 6+3)).trans q3;have l1:Lk P wr (wr.setCell ⟨g,m * 6,none⟩ (.int .i64 kk)):=Lk.set hh q0 (.int _ _ _) hP;obtain ⟨cs1,u1,hh1,q1',s1,_,_⟩:=l1.at_ hh q1;have l2:=l1.trans (Lk.set hh1 q1' (v:=.int .i64 (kk+1)) (by obtain ⟨y,rfl⟩:=s1.of_int;exact .int _ _ _) hP);obtain ⟨cs2,u2,hh2,q2',s2,_,_⟩:=l2.at_ hh q2;have L3:=zzm (l2.trans (Lk.set hh2 q2' (v:=.bool ((kk+1+1) % 3==0)) (by obtain ⟨y,rfl⟩:=s2.of_bool;exact .bool _ _) hP));have hmi:((m:Nat):Int) < ((n:Nat):Int):=by omega
      have R3:=zzm r3;have R5:=zzm r5;clear hP hh r3 r5 hc l1 l2 hh1 hh2 q1' q2' s1 s2;go_wp2_with (first
        | (go_at_call 26;have hq:=markInt_lk P A3 (len m).1 c3 (kk+1+1+1) _ (R3.out.lk L3.out) B1.out B2.out;with_reducible refine hq.mono ?_;clear hq;rintro e W4 ⟨rfl,hL4⟩
           have l4:=L3.out.trans hL4;obtain ⟨cs4,v4,hh4,q4',s4,p4,z4⟩:=l4.at_ HH.out q4;obtain ⟨y4,rfl⟩:=s4.of_bool;obtain ⟨cs5,v5',hh5,q5',s5,p5,z5⟩:=l4.at_ HH.out q5;obtain rfl:=s5.of_slice;have L5:=zzm (l4.trans (Lk.set hh4 q4' (v:=.bool ((kk+1+1+1+((len m).1:Int)) % 3==0)) (.bool _ _) HP.out));clear hL4 l4 hh4 q4' s4 hh5 q5' s5)
        | (go_at_call 26;have hq:=markInt_lk P A5 (len m).2 c5 (kk+1+1+1+((len m).1:Int)+1) _ (R5.out.lk L5.out) B3.out B4.out;with_reducible refine hq.mono ?_;clear hq;rintro e W6 ⟨rfl,hL6⟩
           have L6:=zzm (L5.out.trans hL6);clear hL6))
      go_roundw
      case rel=>exact ⟨m+1,hlt,congrArg (Value.int .i64) HE.out,by first|exact congrArg (Value.int .i64) e5|exact congrArg (Value.int .i64) (by omega),HL.out.trans L6.out⟩
      case measure=>exact meas_lt (by first|exact congrArg (Value.int .i64) e5|rfl) hlt
    · obtain rfl:m=n:=by omega
      have hmi:¬ ((m:Nat):Int) < ((m:Nat):Int):=by omega
      go_wp2;go_ret;exact ⟨rfl,HL.out⟩
def tyS (ts:List Nat) (w:World) (k:Nat):Prop:=∃ q cells,q∈ts∧w.heap[k]? = some (.cells cells q (0,0))
end
section
theorem six_of {l:List Value} {b n:Nat} {u0 u1 u2 u3 u4 u5:Value} (hb:b+6≤n) (q0:l[b]? = some u0) (q1:l[b+1]? = some u1) (q2:l[b+2]? = some u2) (q3:l[b+3]? = some u3) (q4:l[b+4]? = some u4) (q5:l[b+5]? = some u5) :
  ((l.take n).drop b).take 6 = [u0,u1,u2,u3,u4,u5]:=by
 apply List.ext_getElem?;intro i;by_cases hi:i < 6
 ·rw [List.getElem?_take_of_lt hi,List.getElem?_drop,List.getElem?_take_of_lt (by omega)]
  match i,hi with
  | 0,_=>exact q0
  | 1,_=>exact q1
  | 2,_=>exact q2
  | 3,_=>exact q3
  | 4,_=>exact q4
  | 5,_=>exact q5
 ·rw [List.getElem?_eq_none (by simp;omega),List.getElem?_eq_none (by simp;omega)]
theorem part_eq {l l' : List Value} {b n:Nat} (hb:b+6≤n) (h:∀ i,i < 6→l'[b+i]? = l[b+i]?):((l'.take n).drop b).take 6=((l.take n).drop b).take 6:=by
 apply List.ext_getElem?;intro i;by_cases hi:i < 6
 ·rw [List.getElem?_take_of_lt hi,List.getElem?_drop,List.getElem?_take_of_lt (by omega),List.getElem?_take_of_lt hi,List.getElem?_drop,List.getElem?_take_of_lt (by omega)]
  exact h i hi
 ·rw [List.getElem?_eq_none (by simp;omega),List.getElem?_eq_none (by simp;omega)]
theorem putA {w:World} {base:Nat} {P:Nat→Prop} {g n c:Nat} {xs:List S42} (h:Kd.S kA 42 w base P (.slice (some ⟨g,0,none⟩) n c) xs) {m:Nat} {x:S42} (hx:xs[m]? = some x) :
  ∃ (cs:Array Value) (v3 v5:Value),w.heap[g]? = some (.cells cs 42 (0,0))∧base≤g∧P g∧(cs[m * 6]? = some (.int .i64 x.f0)∧cs[m * 6+1]? = some (.int .i64 x.f1)∧cs[m * 6+2]? = some (.bool x.f2)∧cs[m * 6+3]? = some v3∧cs[m * 6+4]? = some (.bool x.f4)∧cs[m * 6+5]? = some v5) ∧
   Kd.R (Kd.int .i64) 3 w base (fun k=>some k=v3.ownBlock) v3 x.f3∧Kd.R (Kd.int .i64) 3 w base (fun k=>some k=v5.ownBlock) v5 x.f5∧(∀ k,some k=v3.ownBlock→P k∧k≠g∧some k≠v5.ownBlock)∧(∀ k,some k=v5.ownBlock→P k∧k≠g) ∧
   ∀ (w' : World) (cs' : Array Value) (z:S42),w'.heap[g]? = some (.cells cs' 42 (0,0))→cs'.size=cs.size→(∀ i,i≠m * 6→i≠m * 6+1→i≠m * 6+2→i≠m * 6+4→cs'[i]? = cs[i]?) →
    cs'[m * 6]? = some (.int .i64 z.f0)→cs'[m * 6+1]? = some (.int .i64 z.f1)→cs'[m * 6+2]? = some (.bool z.f2)→cs'[m * 6+4]? = some (.bool z.f4) →
    Kd.R (Kd.int .i64) 3 w' base (fun k=>some k=v3.ownBlock) v3 z.f3→Kd.R (Kd.int .i64) 3 w' base (fun k=>some k=v5.ownBlock) v5 z.f5→(∀ k,k < w.heap.size→k≠g→some k≠v3.ownBlock→some k≠v5.ownBlock→w'.heap[k]? = w.heap[k]?) →
    Kd.S kA 42 w' base P (.slice (some ⟨g,0,none⟩) n c) (xs.set m z):=by
 obtain ⟨f,h0,inner,⟨hlen,hrows⟩,hrep⟩:=h;rcases hrows with ⟨e,_⟩|⟨g',cap,cur,e,hbg,hh,hnc,hcm,hcs,ht⟩
 ·cases e
 injection e with ea en ec;injection ea with ea;injection ea with ea;subst ea;subst ec;have hmx:m < xs.length:=(List.getElem?_eq_some_iff.1 hx).1;have hlz:xs.zipIdx.length=xs.length:=List.length_zipIdx;have hM:=hrep.2 m (x,m) (Kd.zip_at hx);obtain ⟨v3,v5,hc,r3,r5⟩:=hM;have hsz:(Kd.tag f kA).sz=6:=rfl;rw [hsz] at hc ht hcs;have hcell:∀ j u,[Value.int .i64 x.f0,.int .i64 x.f1,.bool x.f2,v3,.bool x.f4,v5][j]? = some u→cur[m * 6+j]? = some u:=fun j u hu=>mk_cell ht (by omega) hc rfl hu;refine ⟨cur,v3,v5,hh,hbg,h0 g rfl,⟨hcell 0 _ rfl,hcell 1 _ rfl,hcell 2 _ rfl,hcell 3 _ rfl,hcell 4 _ rfl,hcell 5 _ rfl⟩,Kd.R_tight rfl r3,Kd.R_tight rfl r5,fun k hk=>?_,fun k hk=>?_,?_⟩
 ·obtain ⟨⟨⟨h1,h2⟩,_⟩,h3⟩:=r3.1 k hk.symm
  exact ⟨h1,fun e=>h2 (by rw [e];rfl),h3⟩
 ·obtain ⟨⟨⟨h1,h2⟩,_⟩,h3⟩:=r5.1 k hk.symm
  exact ⟨h1,fun e=>h2 (by rw [e];rfl)⟩
 intro w' cs' z hh' hcs' hsame z0 z1 z2 z4 s3 s5 hkeep;have hlset:(xs.set m z).zipIdx.length=xs.zipIdx.length:=by rw [List.length_zipIdx,List.length_set,hlz]
 have hcap:xs.length * 6≤cs'.size:=by rw [hcs',hcs,← hlz];exact Nat.mul_le_mul_right _ hnc
 have htl:(cs'.toList.take (xs.length * 6)).length=xs.length * 6:=by
  have e:cs'.toList.length=cs'.size:=Array.length_toList;rw [length_take,e,Nat.min_eq_left hcap]
 have hb6:∀ j,j < xs.length→j * 6+6≤xs.length * 6:=fun j hj=>by omega
 refine ⟨f,h0,cs'.toList.take (xs.length * 6),⟨?_,.inr ⟨g,c,cs',?_,hbg,hh',by rw [hlset];exact hnc,hcm,by rw [hcs',hcs];rfl,?_⟩⟩,?_,fun j p hj=>?_⟩
 ·rw [hlset,hlz];exact htl
 ·rw [hlset,← en]
 ·rw [hlset,hlz];rfl
 ·rw [hlset,hlz];exact htl
 ·rw [List.getElem?_zipIdx,Nat.zero_add] at hj
  obtain ⟨y,hy,rfl⟩:=Option.map_eq_some_iff.1 hj;rw [hsz];by_cases hjm:j=m
  ·subst hjm
   rw [List.getElem?_set_self hmx] at hy;obtain rfl:=Option.some.inj hy;refine ⟨v3,v5,?_,Kd.R_mono s3 fun k hk=>r3.1 k hk.symm,Kd.R_mono s5 fun k hk=>r5.1 k hk.symm⟩;have hn3:cs'[j * 6+3]? = some v3:=(hsame _ (by omega) (by omega) (by omega) (by omega)).trans (hcell 3 _ rfl);have hn5:cs'[j * 6+5]? = some v5:=(hsame _ (by omega) (by omega) (by omega) (by omega)).trans (hcell 5 _ rfl);rw [← Array.getElem?_toList] at z0 z1 z2 z4 hn3 hn5;exact six_of (hb6 j hmx) z0 z1 z2 hn3 z4 hn5
  ·rw [List.getElem?_set_ne (Ne.symm hjm)] at hy
   have hjl:j < xs.length:=(List.getElem?_eq_some_iff.1 hy).1;have hM:=hrep.2 j (y,j) (Kd.zip_at hy);rw [hsz,← ht,hlz] at hM;have he:((cs'.toList.take (xs.length * 6)).drop (j * 6)).take 6=((cur.toList.take (xs.length * 6)).drop (j * 6)).take 6:=part_eq (hb6 j hjl) (fun i hi=>by
    rw [Array.getElem?_toList,Array.getElem?_toList];exact hsame _ (by omega) (by omega) (by omega) (by omega))
   rw [he];refine Kd.M_step (d:=kA) hM (fun k hk hlt=>hkeep k hlt (fun e=>hk.1.2 (by rw [e];rfl)) (fun e=>?_) (fun e=>?_))
   ·exact hjm (hk.2.symm.trans (r3.1 k e.symm).1.2)
   ·exact hjm (hk.2.symm.trans (r5.1 k e.symm).1.2)
theorem four_set (cs:Array Value) (b:Nat) {u0 u1 u2 u4:Value} (z0 z1 z2 z4:Value) (q0:cs[b]? = some u0) (q1:cs[b+1]? = some u1) (q2:cs[b+2]? = some u2) (q4:cs[b+4]? = some u4) :
  ∀ cs',cs' = (((cs.setIfInBounds b z0).setIfInBounds (b+1) z1).setIfInBounds (b+2) z2).setIfInBounds (b+4) z4→cs'.size=cs.size∧(∀ i,i≠b→i≠b+1→i≠b+2→i≠b+4→cs'[i]? = cs[i]?)∧cs'[b]? = some z0∧cs'[b+1]? = some z1∧cs'[b+2]? = some z2∧cs'[b+4]? = some z4:=by
 rintro cs' rfl;have l0:=(Array.getElem?_eq_some_iff.1 q0).1;have l1:=(Array.getElem?_eq_some_iff.1 q1).1;have l2:=(Array.getElem?_eq_some_iff.1 q2).1;have l4:=(Array.getElem?_eq_some_iff.1 q4).1;refine ⟨by simp,fun i h0 h1 h2 h4=>?_,?_,?_,?_,?_⟩
 ·rw [Array.getElem?_setIfInBounds_ne (Ne.symm h4),Array.getElem?_setIfInBounds_ne (Ne.symm h2),Array.getElem?_setIfInBounds_ne (Ne.symm h1),Array.getElem?_setIfInBounds_ne (Ne.symm h0)]
 ·rw [Array.getElem?_setIfInBounds_ne (by omega),Array.getElem?_setIfInBounds_ne (by omega),Array.getElem?_setIfInBounds_ne (by omega),Array.getElem?_setIfInBounds_self_of_lt l0]
 ·rw [Array.getElem?_setIfInBounds_ne (by omega),Array.getElem?_setIfInBounds_ne (by omega),Array.getElem?_setIfInBounds_self_of_lt (by simpa using l1)]
 ·rw [Array.getElem?_setIfInBounds_ne (by omega),Array.getElem?_setIfInBounds_self_of_lt (by simpa using l2)]
 ·rw [Array.getElem?_setIfInBounds_self_of_lt (by simpa using l4)]
def uptoI (a:Int):Nat→List Int
 | 0=>[]
 | n+1=>a::uptoI (a+1) n
theorem uptoI_len (a:Int) (n:Nat):(uptoI a n).length=n:=by
 induction n generalizing a with
 | zero=>rfl
 | succ n ih=>rw [uptoI,List.length_cons,ih]
theorem markInt_l0:∀ (d:Nat) (xs:List Int) (i:Nat) (a:Int),xs.length - i=d→i≤xs.length→(xs.length:Int)≤9000000000000000000→0≤a→a+(d:Int)≤9000000000000000000→Q1.l0 (d+1) xs a (i:Int)=some (a+(d:Int),xs.take i++uptoI a d)
 | 0,xs,i,a,hd,hi,_,h0,h1=>by
  obtain rfl:i=xs.length:=by omega
  unfold Q1.l0
  rw [if_neg (by omega),List.take_length]
  simp [uptoI]
 | d+1,xs,i,a,hd,hi,hb,h0,h1=>by
  have hlt:i < xs.length:=by omega
  have e1:wrap64 (a+1)=a+1:=by unfold wrap64;omega
  have e2:wrap64 ((i:Int)+1)=((i+1:Nat):Int):=by unfold wrap64;omega
  have ih:=markInt_l0 d (xs.set i a) (i+1) (a+1) (by rw [List.length_set];omega) (by rw [List.length_set];omega) (by rw [List.length_set];exact hb) (by omega) (by omega)
  have e3:(xs.set i a).take (i+1)=xs.take i ++ [a]:=by
   rw [List.take_succ_eq_append_getElem (by rw [List.length_set];exact hlt),List.take_set_of_le (Nat.le_refl _),List.getElem_set_self]
  unfold Q1.l0;rw [if_pos (by omega),if_pos (by omega),e1,e2,Int.toNat_natCast,ih,e3,List.append_assoc];rw [show a+1+(d:Int)=a+((d+1:Nat):Int) by omega];rfl
theorem markInt_f (xs:List Int) (a:Int) (h0 : 0≤a) (h1:a+(xs.length:Int)≤9000000000000000000):Q1.f (xs.length+1) xs a=some (a+(xs.length:Int),uptoI a xs.length):=
 markInt_l0 xs.length xs 0 a rfl (Nat.zero_le _) (by omega) h0 h1
def cntX (x:S42):Nat:=4+x.f3.length+x.f5.length
def cntL:List S42→Nat
 | []=>0
 | x::t=>cntX x+cntL t
def mkRX (x:S42) (a:Int):S42:=⟨a,a+1,Int.tmod (a+1+1) 3==0,uptoI (a+1+1+1) x.f3.length,Int.tmod (a+1+1+1+(x.f3.length:Int)) 3==0,uptoI (a+1+1+1+(x.f3.length:Int)+1) x.f5.length⟩
def markL:List S42→Int→List S42
 | [],_=>[]
 | x::t,a=>mkRX x a::markL t (a+(cntX x:Int))
theorem cntL_snoc (l:List S42) (x:S42):cntL (l ++ [x])=cntL l+cntX x:=by
 induction l with
 | nil=>simp [cntL]
 | cons y t ih=>simp only [List.cons_append,cntL,ih];omega
theorem markL_snoc (l:List S42) (x:S42) (a:Int):markL (l ++ [x]) a=markL l a ++ [mkRX x (a+(cntL l:Int))]:=by
 induction l generalizing a with
 | nil=>simp [markL,cntL]
 | cons y t ih=>simp only [List.cons_append,markL,ih,cntL];rw [show a+(cntX y:Int)+(cntL t:Int)=a+((cntX y+cntL t:Nat):Int) by omega]
theorem markL_len (l:List S42) (a:Int):(markL l a).length=l.length:=by
 induction l generalizing a with
 | nil=>rfl
 | cons y t ih=>rw [markL,List.length_cons,List.length_cons,ih]
theorem cntL_take (l:List S42):∀ m,cntL (l.take m)≤cntL l:=by
 induction l with
 | nil=>intro m;simp [cntL]
 | cons y t ih=>
  intro m;cases m with
  | zero=>simp [cntL]
  | succ m=>simp only [List.take_succ_cons,cntL];have:=ih m;omega
theorem le_cntL (l:List S42):l.length≤cntL l:=by
 induction l with
 | nil=>simp
 | cons y t ih=>simp only [List.length_cons,cntL,cntX];omega
theorem mark_at (l:List S42) (a:Int) {m:Nat} {x:S42} (hx:l[m]? = some x):(markL (l.take m) a++l.drop m)[m]? = some x∧(markL (l.take m) a++l.drop m).set m (mkRX x (a+(cntL (l.take m):Int)))=markL (l.take (m+1)) a++l.drop (m+1):=by
 have hm:m < l.length:=(List.getElem?_eq_some_iff.1 hx).1;have hl:(markL (l.take m) a).length=m:=by rw [markL_len,length_take];omega
 have hd:l.drop m=x::l.drop (m+1):=by rw [List.drop_eq_getElem_cons hm,(List.getElem?_eq_some_iff.1 hx).2]
 have ht:l.take (m+1)=l.take m ++ [x]:=by rw [List.take_succ_eq_append_getElem hm,(List.getElem?_eq_some_iff.1 hx).2]
 constructor
 ·rw [List.getElem?_append_right (by omega),hl,Nat.sub_self,hd];rfl
 ·rw [List.set_append_right _ _ (by omega),hl,Nat.sub_self,hd,zzr,ht,markL_snoc,List.append_assoc];rfl
theorem cnt_at (l:List S42) {m:Nat} {x:S42} (hx:l[m]? = some x):cntL (l.take (m+1))=cntL (l.take m)+cntX x:=by
 have hm:m < l.length:=(List.getElem?_eq_some_iff.1 hx).1;rw [List.take_succ_eq_append_getElem hm,(List.getElem?_eq_some_iff.1 hx).2,cntL_snoc]
def Q2.f (l0:List S42) (a1:Int):Option (Int×List S42):=if 0≤a1∧a1+(cntL l0:Int)≤9000000000000000000 then some (a1+(cntL l0:Int),markL l0 a1) else none
set_option maxHeartbeats 8000000 in
theorem Q2.calls (P0_:Nat→Prop) (u:Value) (l0:List S42) (a1 r1:Int) (r2:List S42) (w0 w:World) (hB:Below w0.heap.size w0 w) (ho:Kd.S kA 42 w w0.heap.size P0_ u l0) (h:Q2.f l0 a1=some (r1,r2)) :
    Calls Try.prog 11 #[u,.int .i64 a1] w fun e w'=>e = .returned (.int .i64 r1)∧Kd.S kA 42 w' w0.heap.size (fun k_=>P0_ k_) u r2∧Below w0.heap.size w0 w'∧Kept w w' (fun k_=>P0_ k_):=by
  have hk:(0≤a1∧a1+(cntL l0:Int)≤9000000000000000000)∧r1=a1+(cntL l0:Int)∧r2=markL l0 a1:=by
    unfold Q2.f at h;by_cases h5 : 0≤a1∧a1+(cntL l0:Int)≤9000000000000000000
    · rw [if_pos h5] at h
      injection h with h;exact ⟨h5,(congrArg Prod.fst h).symm,(congrArg Prod.snd h).symm⟩
    · rw [if_neg h5] at h;cases h
  obtain ⟨⟨h0,h1⟩,rfl,rfl⟩:=hk;obtain ⟨A,c,rfl⟩:=Kd.S_slice ho;have HB:=zzm hB;have HO:=zzm ho;have H0:=zzm h0;have H1:=zzm h1;obtain ⟨n,hn⟩:∃ n,n=l0.length:=⟨_,rfl⟩;rw [← hn];have HN:=zzm hn;clear hB ho h0 h1 h hn;have hu:=Try.underlying42;go_enter Try.func11,Try.ntmps11;go_wp2;go_loopw [1,5] (fun v1 v5 W=>∃ m:Nat,m≤n∧v1 = .int .i64 (a1+(cntL (l0.take m):Int))∧v5 = .int .i64 m∧Kd.S kA 42 W w0.heap.size P0_ (.slice A n c) (markL (l0.take m) a1++l0.drop m)∧Below w0.heap.size w0 W∧Kept w W (fun k_=>P0_ k_)) (fun _ v5 _=>n - (intOf v5).toNat)
  case atStart=>exact ⟨0,Nat.zero_le _,by simp [cntL],by go_num,by rw [HN.out];simpa [markL] using HO.out,HB.out,Kept.refl _ _⟩
  case round=>
    obtain ⟨m,hm,rfl,rfl,hS,hB,hK⟩:=hrel;have HS:=zzm hS;have HB1:=zzm hB;have HK1:=zzm hK;clear hS hB hK HB HO;have h0:=H0.out;have h1:=H1.out;have hn:=HN.out;by_cases hlt:m < n
    · obtain ⟨x,hx⟩:∃ x,l0[m]? = some x:=⟨_,List.getElem?_eq_getElem (by omega)⟩
      obtain ⟨a2,hset⟩:=mark_at l0 a1 hx;have hcs:=cnt_at l0 hx;have hcl:=cntL_take l0 (m+1);have hln:(markL (l0.take m) a1++l0.drop m).length=n:=by rw [List.length_append,markL_len,length_take,length_drop];omega
      have hmc:=le_cntL l0;have e5:wrap64 ((m:Int)+1)=((m+1:Nat):Int):=by unfold wrap64;omega
      obtain ⟨kk,hkk⟩:∃ kk:Int,kk=a1+(cntL (l0.take m):Int):=⟨_,rfl⟩;rw [← hkk] at hset;rw [← hkk];have hcx:cntX x=4+x.f3.length+x.f5.length:=rfl;have hend:kk+1+1+1+(x.f3.length:Int)+1+(x.f5.length:Int)=a1+(cntL (l0.take (m+1)):Int):=by omega
      have b1 : 0≤kk+1+1+1:=by omega
      have b2:kk+1+1+1+(x.f3.length:Int)≤9000000000000000000:=by omega
      have b3 : 0≤kk+1+1+1+(x.f3.length:Int)+1:=by omega
      have b4:kk+1+1+1+(x.f3.length:Int)+1+(x.f5.length:Int)≤9000000000000000000:=by omega
      have HE:=zzm hend;have F3:=zzm (markInt_f x.f3 _ b1 b2);have F5:=zzm (markInt_f x.f5 _ b3 b4);have e1:wrap64 (kk+1)=kk+1:=by unfold wrap64;omega
      have e2:wrap64 (kk+1+1)=kk+1+1:=by unfold wrap64;omega
      have e3:wrap64 (kk+1+1+1)=kk+1+1+1:=by unfold wrap64;omega
      have e4:wrap64 (kk+1+1+1+(x.f3.length:Int)+1)=kk+1+1+1+(x.f3.length:Int)+1:=by unfold wrap64;omega
      have hmi:((m:Nat):Int) < ((n:Nat):Int):=by omega
      obtain ⟨g,cap,he,_⟩:=Kd.S_form HS.out (by rw [hln];omega);injection he with he he2 he3;clear he2 he3;subst he;obtain ⟨cs,v3,v5,hh,hbg,hPg,⟨q0,q1,q2,q3,q4,q5⟩,r3,r5,t3,t5,hback⟩:=putA HS.out a2;rw [show (mkRX x kk)=(⟨kk,kk+1,Int.tmod (kk+1+1) 3==0,uptoI (kk+1+1+1) x.f3.length,Int.tmod (kk+1+1+1+(x.f3.length:Int)) 3==0,uptoI (kk+1+1+1+(x.f3.length:Int)+1) x.f5.length⟩:S42) from rfl] at hset;obtain ⟨A3,c3,rfl⟩:=Kd.R_slice r3;obtain ⟨A5,c5,rfl⟩:=Kd.R_slice r5;have p0:=(zzk hh (m * 6)).trans q0;have z0:=zzl hh (m * 6);have p1:=(zzk hh (m * 6+1)).trans q1;have z1:=zzl hh (m * 6+1);have p2:=(zzk hh (m * 6+2)).trans q2;have z2:=zzl hh (m * 6+2);have p3:=(zzk hh (m * 6+3)).trans q3;have hh3:=zzi (zzi (zzi hh (m * 6) (.int .i64 kk) rfl) (m * 6+1) (.int .i64 (kk+1)) rfl) (m * 6+2) (.bool (Int.tmod (kk+1+1) 3==0)) rfl;have hB3:=zzd (j:=m * 6+2) (v:=.bool (Int.tmod (kk+1+1) 3==0)) (zzd (j:=m * 6+1) (v:=.int .i64 (kk+1)) (zzd (j:=m * 6) (v:=.int .i64 kk) HB1.out hbg) hbg) hbg;have hK3:=Kept.setCell (p:=⟨g,m * 6+2,none⟩) (Kept.setCell (p:=⟨g,m * 6+1,none⟩) (Kept.setCell (p:=⟨g,m * 6,none⟩) (Kept.refl wr (fun k=>k=g∨some k=(Value.slice A3 x.f3.length c3).ownBlock∨some k=(Value.slice A5 x.f5.length c5).ownBlock)) (.inl (.inl rfl)) (.int .i64 kk)) (.inl (.inl rfl)) (.int .i64 (kk+1))) (.inl (.inl rfl)) (.bool (Int.tmod (kk+1+1) 3==0));have h33:=Kd.R_far (p:=⟨g,m * 6+2,none⟩) (Kd.R_far (p:=⟨g,m * 6+1,none⟩) (Kd.R_far (p:=⟨g,m * 6,none⟩) r3 (fun k hk=>(t3 k hk).2.1) (.int .i64 kk)) (fun k hk=>(t3 k hk).2.1) (.int .i64 (kk+1))) (fun k hk=>(t3 k hk).2.1) (.bool (Int.tmod (kk+1+1) 3==0));have h53:=Kd.R_far (p:=⟨g,m * 6+2,none⟩) (Kd.R_far (p:=⟨g,m * 6+1,none⟩) (Kd.R_far (p:=⟨g,m * 6,none⟩) r5 (fun k hk=>(t5 k hk).2) (.int .i64 kk)) (fun k hk=>(t5 k hk).2) (.int .i64 (kk+1))) (fun k hk=>(t5 k hk).2) (.bool (Int.tmod (kk+1+1) 3==0));have HH3:=zzm hh3;have HB3:=zzm hB3;have HK3:=zzm hK3;have H33:=zzm h33;have H53:=zzm h53;have T3:=zzm t3;have T5:=zzm t5;have HBG:=zzm hbg;have HPG:=zzm hPg;have HBK:=zzm hback;have HH:=zzm hh;have HSET:=zzm hset;have FS:=zzm (four_set cs (m * 6) (.int .i64 kk) (.int .i64 (kk+1)) (.bool (Int.tmod (kk+1+1) 3==0)) (.bool (Int.tmod (kk+1+1+1+(x.f3.length:Int)) 3==0)) q0 q1 q2 q4 _ rfl);have Q4:=zzm q4;have Q5:=zzm q5;clear hh hh3 hB3 hK3 h33 h53 t3 t5 hbg hPg hback hset hkk hcs hcl hln hmc h0 h1 hn hend b1 b2 b3 b4 r3 r5 hx a2 q4 q5 q0 q1 q2 q3;go_wp2_with (first
        | (go_at_call 26;with_reducible refine (Q1.calls (x.f3.length+1) (fun k=>some k=(Value.slice A3 x.f3.length c3).ownBlock) (Value.slice A3 x.f3.length c3) x.f3 (kk+1+1+1) _ _ w0 _ HB3.out H33.out F3.out).mono ?_
           rintro e W4 ⟨rfl,hR4,hB4,hK4⟩;have hh4:=(hK4.2 g (blk_lt HH3.out) (fun e=>(T3.out g e).2.1 rfl)).trans HH3.out;have p4:=(zzk hh4 (m * 6+4)).trans ((Array.getElem?_setIfInBounds_ne (by omega)).trans ((Array.getElem?_setIfInBounds_ne (by omega)).trans ((Array.getElem?_setIfInBounds_ne (by omega)).trans Q4.out)));have z4:=zzl hh4 (m * 6+4);have p5:=(zzk hh4 (m * 6+5)).trans ((Array.getElem?_setIfInBounds_ne (by omega)).trans ((Array.getElem?_setIfInBounds_ne (by omega)).trans ((Array.getElem?_setIfInBounds_ne (by omega)).trans Q5.out)));have HH5:=zzm (zzi hh4 (m * 6+4) (.bool (Int.tmod (kk+1+1+1+(x.f3.length:Int)) 3==0)) rfl);have HB5:=zzm (zzd (j:=m * 6+4) (v:=.bool (Int.tmod (kk+1+1+1+(x.f3.length:Int)) 3==0)) hB4 HBG.out);have HK5:=zzm (Kept.setCell (p:=⟨g,m * 6+4,none⟩) (HK3.out.then_ hK4 (fun k h=>.inl (.inr (.inl h)))) (.inl (.inl rfl)) (.bool (Int.tmod (kk+1+1+1+(x.f3.length:Int)) 3==0)));have H35:=zzm (Kd.R_far (p:=⟨g,m * 6+4,none⟩) (Kd.R_tight rfl hR4) (fun k hk=>(T3.out k hk).2.1) (.bool (Int.tmod (kk+1+1+1+(x.f3.length:Int)) 3==0)));have H55:=zzm (Kd.R_far (p:=⟨g,m * 6+4,none⟩) (Kd.R_kept H53.out hK4 (fun k hk h2=>(T3.out k h2).2.2 hk)) (fun k hk=>(T5.out k hk).2) (.bool (Int.tmod (kk+1+1+1+(x.f3.length:Int)) 3==0)));clear hR4 hB4 hK4 hh4)
        | (go_at_call 26;with_reducible refine (Q1.calls (x.f5.length+1) (fun k=>some k=(Value.slice A5 x.f5.length c5).ownBlock) (Value.slice A5 x.f5.length c5) x.f5 (kk+1+1+1+(x.f3.length:Int)+1) _ _ w0 _ HB5.out H55.out F5.out).mono ?_
           rintro e W6 ⟨rfl,hR6,hB6,hK6⟩;have HH6:=zzm ((hK6.2 g (blk_lt HH5.out) (fun e=>(T5.out g e).2 rfl)).trans HH5.out);have HB6:=zzm hB6;have HK6:=zzm (HK5.out.then_ hK6 (fun k h=>.inl (.inr (.inr h))));have H36:=zzm (Kd.R_kept H35.out hK6 (fun k hk h2=>(T3.out k hk).2.2 h2));have H56:=zzm (Kd.R_tight rfl hR6);clear hR6 hB6 hK6))
      go_roundw
      case rel=>
        obtain ⟨s1,s2,s3,s4,s5,s6⟩:=FS.out;have hS6:=HBK.out _ _ ⟨kk,kk+1,Int.tmod (kk+1+1) 3==0,uptoI (kk+1+1+1) x.f3.length,Int.tmod (kk+1+1+1+(x.f3.length:Int)) 3==0,uptoI (kk+1+1+1+(x.f3.length:Int)+1) x.f5.length⟩ HH6.out s1 s2 s3 s4 s5 s6 H36.out H56.out (fun k hk h1 h2 h3=>HK6.out.2 k hk (fun h=>h.elim h1 (fun h=>h.elim h2 h3)));rw [HSET.out] at hS6;exact ⟨m+1,hlt,congrArg (Value.int .i64) HE.out,by first|exact congrArg (Value.int .i64) e5|exact congrArg (Value.int .i64) (by omega),hS6,HB6.out,HK1.out.then_ (HK6.out.mono (fun k hk=>hk.elim (fun e=>e ▸ HPG.out) (fun h=>h.elim (fun h=>(T3.out k h).1) (fun h=>(T5.out k h).1)))) (fun k h=>.inl h)⟩
      case measure=>exact meas_lt (by first|exact congrArg (Value.int .i64) e5|rfl) hlt
    · obtain rfl:m=n:=by omega
      have hmi:¬ ((m:Nat):Int) < ((m:Nat):Int):=by omega
      have a0:l0.take m=l0:=by rw [hn,List.take_length]
      have a3:l0.drop m = []:=by rw [hn,List.drop_length]
      rw [a0];have a4:=zzm a0;have a5:=zzm a3;clear a0 a3 hn;go_wp2;go_ret;have hS:=HS.out;rw [a4.out,a5.out,List.append_nil] at hS;exact ⟨rfl,hS,HB1.out,HK1.out⟩
end

set_option linter.unusedVariables false
set_option linter.unusedSimpArgs false
section
def cntB (num:Nat→Nat) (len:Nat→Nat→Nat×Nat):Nat→Nat
 | 0=>0
 | m+1=>cntB num len m+(5+cntR (len m) (num m))
theorem cntB_le (num:Nat→Nat) (len:Nat→Nat→Nat×Nat):∀ {m n:Nat},m≤n→cntB num len m≤cntB num len n
 | m,0,h=>by rw [show m=0 by omega];exact Nat.le_refl _
 | m,n+1,h=>by
  by_cases e:m=n+1
  ·rw [e];exact Nat.le_refl _
  ·have h1:=cntB_le num len (show m≤n by omega)
   have h2:cntB num len (n+1)=cntB num len n+(5+cntR (len n) (num n)):=rfl
   omega
theorem le_cntB (num:Nat→Nat) (len:Nat→Nat→Nat×Nat):∀ m,m≤cntB num len m
 | 0=>Nat.le_refl _
 | m+1=>by
  have h1:=le_cntB num len m
  have h2:cntB num len (m+1)=cntB num len m+(5+cntR (len m) (num m)):=rfl
  omega
set_option maxHeartbeats 8000000 in
theorem markBat_lk (P:Nat→Prop) (A:Option Addr) (n c:Nat) (num:Nat→Nat) (len:Nat→Nat→Nat×Nat) (a1:Int) (w:World) (h:BatRow P w A n num len) (h0 : 0≤a1) (h1:a1+cntB num len n≤9000000000000000000) :
    Calls Try.prog 10 #[.slice A n c,.int .i64 a1] w fun e w'=>e = .returned (.int .i64 (a1+cntB num len n))∧Lk P w w':=by
  have HR:=zzm h;have H0:=zzm h0;have H1:=zzm h1;clear h h0 h1;have hu:=Try.underlying39;go_enter Try.func10,Try.ntmps10;go_wp2;go_loopw [1,5] (fun v1 v5 W=>∃ m:Nat,m≤n∧v1 = .int .i64 (a1+cntB num len m)∧v5 = .int .i64 m∧Lk P w W) (fun _ v5 _=>n - (intOf v5).toNat)
  case atStart=>exact ⟨0,Nat.zero_le _,by simp [cntB],by go_num,Lk.refl _ _⟩
  case round=>
    obtain ⟨m,hm,rfl,rfl,hL⟩:=hrel;have HL:=zzm hL;clear hL;have h0:=H0.out;have h1:=H1.out;by_cases hlt:m < n
    · have hcl:=cntB_le num len (show m+1≤n from hlt)
      have hcs:cntB num len (m+1)=cntB num len m+(5+cntR (len m) (num m)):=rfl;have hmc:=le_cntB num len m;have e9:wrap64 ((m:Int)+1)=((m+1:Nat):Int):=by unfold wrap64;omega
      obtain ⟨kk,hkk⟩:∃ kk:Int,kk=a1+(cntB num len m:Int):=⟨_,rfl⟩;rw [← hkk];have k0 : 0≤kk:=by omega
      have k1:kk+5+((cntR (len m) (num m):Nat):Int)≤9000000000000000000:=by omega
      have hend:(kk+1+1+1+1+1+((cntR (len m) (num m):Nat):Int))=a1+(cntB num len (m+1):Int):=by omega
      have HE:=zzm hend;have b1 : 0≤kk+1+1+1+1+1:=by omega
      have b2:kk+1+1+1+1+1+((cntR (len m) (num m):Nat):Int)≤9000000000000000000:=by omega
      have B1:=zzm b1;have B2:=zzm b2;clear hkk hcl hcs h0 h1 hend hmc b1 b2;obtain ⟨g,cs,rfl,hP,hh,hc⟩:=HR.out.lk HL.out (Nat.lt_of_le_of_lt (Nat.zero_le m) hlt);obtain ⟨y0,y1,x2,x3,x4,A5,c5,⟨q0,q1,q2,q3,q4,q5⟩,r5⟩:=hc m hlt;rw [Nat.add_zero] at q0;have HP:=zzm hP;have HH:=zzm hh;have p0:=(zzk hh (m * 6)).trans q0;have z0:=zzl hh (m * 6);have p1:=(zzk hh (m * 6+1)).trans q1;have z1:=zzl hh (m * 6+1);have p2:=(zzk hh (m * 6+2)).trans q2;have z2:=zzl hh (m * 6+2);have p3:=(zzk hh (m * 6+3)).trans q3;have z3:=zzl hh (m * 6+3);have p4:=(zzk hh (m * 6+4)).trans q4;have z4:=zzl hh (m * 6+4);have p5:=(zzk hh (m * 6+5)).trans q5;have l1:Lk P wr (wr.setCell ⟨g,m * 6,none⟩ (.bool (kk % 3==0))):=Lk.set hh q0 (.bool _ _) hP;obtain ⟨cs1,u1,hh1,q1',s1,_,_⟩:=l1.at_ hh q1;have l2:=l1.trans (Lk.set hh1 q1' (v:=.bool ((kk+1) % 3==0)) (by obtain ⟨y,rfl⟩:=s1.of_bool;exact .bool _ _) hP);obtain ⟨cs2,u2,hh2,q2',s2,_,_⟩:=l2.at_ hh q2;have l3:=l2.trans (Lk.set hh2 q2' (v:=.int .i64 (kk+1+1)) (by obtain ⟨y,rfl⟩:=s2.of_int;exact .int _ _ _) hP);obtain ⟨cs3,u3,hh3,q3',s3,_,_⟩:=l3.at_ hh q3;have l4:=l3.trans (Lk.set hh3 q3' (v:=.int .i64 (kk+1+1+1)) (by obtain ⟨y,rfl⟩:=s3.of_int;exact .int _ _ _) hP);obtain ⟨cs4,u4,hh4,q4',s4,_,_⟩:=l4.at_ hh q4;have L5:=zzm (l4.trans (Lk.set hh4 q4' (v:=.int .i64 (kk+1+1+1+1)) (by obtain ⟨y,rfl⟩:=s4.of_int;exact .int _ _ _) hP));have hmi:((m:Nat):Int) < ((n:Nat):Int):=by omega
      have R5:=zzm r5;clear hP hh r5 hc l1 l2 l3 l4 hh1 hh2 hh3 hh4 q1' q2' q3' q4' s1 s2 s3 s4;go_wp2_with (first
        | (go_at_call 11;have hq:=markRec_lk P A5 (num m) c5 (len m) (kk+1+1+1+1+1) _ (R5.out.lk L5.out) B1.out B2.out;with_reducible refine hq.mono ?_;clear hq;rintro e W6 ⟨rfl,hL6⟩
           have L6:=zzm (L5.out.trans hL6);clear hL6))
      go_roundw
      case rel=>exact ⟨m+1,hlt,congrArg (Value.int .i64) HE.out,by first|exact congrArg (Value.int .i64) e9|exact congrArg (Value.int .i64) (by omega),HL.out.trans L6.out⟩
      case measure=>exact meas_lt (by first|exact congrArg (Value.int .i64) e9|rfl) hlt
    · obtain rfl:m=n:=by omega
      have hmi:¬ ((m:Nat):Int) < ((m:Nat):Int):=by omega
      go_wp2;go_ret;exact ⟨rfl,HL.out⟩
end
section
abbrev numB (l:List S39) (i:Nat):Nat:=(Qa l (i:Int)).f5.length
abbrev lenB (l:List S39) (i j:Nat):Nat×Nat:=((Qb (Qa l (i:Int)).f5 (j:Int)).f3.length,(Qb (Qa l (i:Int)).f5 (j:Int)).f5.length)
def okMarkB (l:List S39) (a1:Int):Bool:=decide (0≤a1∧a1+(cntB (numB l) (lenB l) l.length:Int)≤9000000000000000000)
def Rj.f (l0:List S39) (a1:Int):Option Int:=if okMarkB l0 a1=true then some (a1+(cntB (numB l0) (lenB l0) l0.length:Int)) else none
set_option maxHeartbeats 4000000 in
theorem Rj.calls (P0_:Nat→Prop) (u:Value) (l0:List S39) (a1 r1:Int) (w0 w:World) (hB:Below w0.heap.size w0 w) (ho:Kd.R k39 39 w w0.heap.size P0_ u l0) (h:Rj.f l0 a1=some r1) :
  Calls Try.prog 10 #[u,.int .i64 a1] w fun e w'=>e = .returned (.int .i64 r1)∧Below w0.heap.size w0 w'∧Kept w w' (fun k=>P0_ k∧tyS [39,42,3] w k):=by
 have hok:okMarkB l0 a1=true∧r1=a1+(cntB (numB l0) (lenB l0) l0.length:Int):=by
  unfold Rj.f at h;by_cases h5:okMarkB l0 a1=true
  ·rw [if_pos h5] at h;exact ⟨h5,(Option.some.inj h).symm⟩
  ·rw [if_neg h5] at h;cases h
 obtain ⟨hok,hr⟩:=hok;unfold okMarkB at hok;rw [decide_eq_true_eq] at hok;obtain ⟨A,c,hv,hrow⟩:=batRow_of (Kd.R_bound ho);subst hv;refine (markBat_lk _ A l0.length c (numB l0) (lenB l0) a1 w hrow hok.1 hok.2).mono ?_;rintro e w' ⟨rfl,hL⟩;refine ⟨by rw [hr],hB.trans (hL.low w0.heap.size (fun k hk=>hk.2.1)),hL.kept.mono (fun k hk=>?_)⟩;obtain ⟨hp0,_,_,q,hq,cells,hc⟩:=hk;exact ⟨hp0,q,cells,(show ∀ q,q∈39::k39.E→q ∈ [39,42,3] by decide) q hq,hc⟩
end

set_option linter.unusedVariables false
set_option linter.unusedSimpArgs false
def Qo.l0:Nat→List Int→Int→Int→Option (Int)
 | 0,_,_,_=>none
 | k+1,x0,x1,x5=>if x5 < (x0.length:Int) then (if 0≤x5 then (if (rd x0 x5)=x1 then (Qo.l0 k x0 (wrap64 (x1+1)) (wrap64 (x5+1))) else (some (-1))) else (none)) else (some x1)
def Qo.f (k:Nat) (l0:List Int) (a1:Int):Option (Int):=Qo.l0 k l0 a1 0
set_option maxHeartbeats 8000000 in
theorem Qo.calls (k:Nat) (A0:Option Addr) (c0:Nat) (l0:List Int) (a1:Int) (r:Int) (w:World) (a8:Kd.C (Kd.int .i64) w A0 l0.length l0) (a9:l0.length≤c0) (h:Qo.f k l0 a1=some r) :
  Calls Try.prog 27 #[.slice A0 l0.length c0,.int .i64 a1] w fun e w'=>e = .returned (.int .i64 r)∧Drawn0 w w':=by
 have b0:=zzm a8;have b5:=zzm a9;clear a8 a9;have H:(Qo.l0 k l0 a1 0)=some r:=h;clear h;have H':=zzm H;clear H;go_enter Try.func27,Try.ntmps27;go_wp2;go_loopg [1,5] k (fun kq v1 v5 w'=>∃ (a4:Int) (a0:Int),v1 = .int .i64 a4∧v5 = .int .i64 a0∧Aside0 (Qo.l0 kq l0 a4 a0=some r)∧Aside0 (kq≤k)∧Drawn0 w w')
 case atStart=>exact ⟨(a1),(0),(by first|rfl|(simp;done)|(simp [*];done)),(by first|rfl|(simp;done)|(simp [*];done)),H',⟨Nat.le_refl _⟩,by repeat (first|exact Drawn0.refl _|apply Drawn0.step)⟩
 case round=>
  clear H';try clear c2
  try clear p2
  obtain ⟨a4,a0,rfl,rfl,HA,HK1,⟨m1,rfl⟩⟩:=hrel;cases gk with
  | zero=>exact absurd HA.out (by simp [Qo.l0])
  | succ k1=>
   have H:=HA.out;clear HA;simp only [Qo.l0] at H;by_cases c3:a0 < (l0.length:Int)
   ·
    rw [if_pos c3] at H;have b1:decide (a0 < (l0.length:Int))=true:=decide_eq_true c3;clear c3;by_cases c4 : 0≤a0
    ·
     rw [if_pos c4] at H;have b4:decide (0≤a0)=true:=decide_eq_true c4;clear c4;by_cases c5:(rd l0 a0)=a4
     ·
      rw [if_pos c5] at H;obtain ⟨b2,b3⟩:=zzQ c5;clear c5;have H':=zzm H;clear H;have a2 : 0≤(a0:Int):=zzt;have a3:a0 < (l0.length:Int):=zzt;obtain ⟨a7,a5,a6⟩:=Kd.at_int b0.out a0 a2 a3;cases a5;replace a2:=eq_true a2;replace a3:=eq_true a3;go_wp2;go_roundg k1
      case measure=>have:=HK1.out;omega
      case rel=>exact ⟨(wrap64 (a4+1)),(wrap64 (a0+1)),(by first|rfl|(simp;done)|(simp [*];done)),(by first|rfl|(simp;done)|(simp [*];done)),H',⟨by have:=HK1.out;omega⟩,by repeat (first|exact Drawn0.refl _|apply Drawn0.step)⟩
     ·
      rw [if_neg c5] at H;obtain ⟨b2,b3⟩:=zzY c5;obtain rfl:=Option.some.inj H;have a2 : 0≤(a0:Int):=zzt;have a3:a0 < (l0.length:Int):=zzt;obtain ⟨a7,a5,a6⟩:=Kd.at_int b0.out a0 a2 a3;cases a5;replace a2:=eq_true a2;replace a3:=eq_true a3;go_wp2;go_ret;exact ⟨by first|rfl|(simp;done)|(simp [*];done),by repeat (first|exact Drawn0.refl _|apply Drawn0.step)⟩
    ·
     rw [if_neg c4] at H;exact absurd H (by simp)
   ·
    rw [if_neg c3] at H;have b1:decide (a0 < (l0.length:Int))=false:=decide_eq_false c3;clear c3;obtain rfl:=Option.some.inj H;go_wp2;go_ret;exact ⟨by first|rfl|(simp;done)|(simp [*];done),by repeat (first|exact Drawn0.refl _|apply Drawn0.step)⟩

set_option linter.unusedVariables false
set_option linter.unusedSimpArgs false
def Qj.l0:Nat→List (S42)→Int→Int→Option (Int)
 | 0,_,_,_=>none
 | k+1,x0,x1,x5=>if x5 < (x0.length:Int) then (if 0≤x5 then (if ((Qb x0 x5).f0)=x1 then (if ((Qb x0 x5).f1)=(wrap64 (x1+1)) then (if (((Qb x0 x5).f2) != ((Int.tmod (wrap64 ((wrap64 (x1+1))+1)) 3)==0))=true then (some (-1)) else ((Qo.f k ((Qb x0 x5).f3) (wrap64 ((wrap64 ((wrap64 (x1+1))+1))+1))).bind fun t345=>(if t345 < 0 then (some (-1)) else (if (((Qb x0 x5).f4) != ((Int.tmod t345 3)==0))=true then (some (-1)) else ((Qo.f k ((Qb x0 x5).f5) (wrap64 (t345+1))).bind fun t348=>(if t348 < 0 then (some (-1)) else (Qj.l0 k x0 t348 (wrap64 (x5+1))))))))) else (some (-1))) else (some (-1))) else (none)) else (some x1)
def Qj.f (k:Nat) (l0:List (S42)) (a1:Int):Option (Int):=Qj.l0 k l0 a1 0
set_option maxHeartbeats 8000000 in
theorem Qj.calls (k:Nat) (A0:Option Addr) (c0:Nat) (l0:List (S42)) (a1:Int) (r:Int) (w:World) (s1:Kd.C k42 w A0 l0.length l0) (s2:l0.length≤c0) (h:Qj.f k l0 a1=some r) :
  Calls Try.prog 12 #[.slice A0 l0.length c0,.int .i64 a1] w fun e w'=>e = .returned (.int .i64 r)∧Drawn0 w w':=by
 have d0:=zzm s1;have t6:=zzm s2;clear s1 s2;have H:(Qj.l0 k l0 a1 0)=some r:=h;clear h;have H':=zzm H;clear H;go_enter Try.func12,Try.ntmps12;go_wp2;go_loopg [1,5] k (fun kq v1 v5 w'=>∃ (c8:Int) (a0:Int),v1 = .int .i64 c8∧v5 = .int .i64 a0∧Aside0 (Qj.l0 kq l0 c8 a0=some r)∧Aside0 (kq≤k)∧Drawn0 w w')
 case atStart=>exact ⟨(a1),(0),(by first|rfl|(simp;done)|(simp [*];done)),(by first|rfl|(simp;done)|(simp [*];done)),H',⟨Nat.le_refl _⟩,by repeat (first|exact Drawn0.refl _|apply Drawn0.step)⟩
 case round=>
  clear H';try clear c1
  try clear p2
  obtain ⟨c8,a0,rfl,rfl,HA,HK1,⟨m1,rfl⟩⟩:=hrel;cases gk with
  | zero=>exact absurd HA.out (by simp [Qj.l0])
  | succ k1=>
   have H:=HA.out;clear HA;simp only [Qj.l0] at H;by_cases c3:a0 < (l0.length:Int)
   ·
    rw [if_pos c3] at H;have s4:decide (a0 < (l0.length:Int))=true:=decide_eq_true c3;clear c3;by_cases c4 : 0≤a0
    ·
     rw [if_pos c4] at H;have t4:decide (0≤a0)=true:=decide_eq_true c4;clear c4;by_cases c5:((Qb l0 a0).f0)=c8
     ·
      rw [if_pos c5] at H;obtain ⟨s5,s6⟩:=zzQ c5;clear c5;by_cases c6:((Qb l0 a0).f1)=(wrap64 (c8+1))
      ·
       rw [if_pos c6] at H;obtain ⟨s7,s8⟩:=zzQ c6;clear c6;by_cases c7:(((Qb l0 a0).f2) != ((Int.tmod (wrap64 ((wrap64 (c8+1))+1)) 3)==0))=true
       ·
        rw [if_pos c7] at H;have s9:(((Qb l0 a0).f2) != ((Int.tmod (wrap64 ((wrap64 (c8+1))+1)) 3)==0))=true:=c7
        (try (have t0:decide (((Qb l0 a0).f2)=((Int.tmod (wrap64 ((wrap64 (c8+1))+1)) 3)==0))=false:=by simpa using c7))
        (try (have t1:(((Qb l0 a0).f2)==((Int.tmod (wrap64 ((wrap64 (c8+1))+1)) 3)==0))=false:=by simpa using c7))
        (try (have t5:¬ (((Qb l0 a0).f2)=((Int.tmod (wrap64 ((wrap64 (c8+1))+1)) 3)==0)):=by simpa using c7));clear c7;obtain rfl:=Option.some.inj H;have b3 : 0≤(a0:Int):=zzt;have b4:a0 < (l0.length:Int):=zzt;obtain ⟨a8,e2,e3,g6,g7,g1,g9,h0,h1,a2,h2,a3,a4,a5,a6,a7⟩:=Qt d0.out a0 b3 b4;cases g1;have h3:=zzm a5;have h4:=zzm a4;clear a5 a4;have h5:=zzm a7;have h6:=zzm a6;clear a7 a6;replace b3:=eq_true b3;replace b4:=eq_true b4;have b9 : 0≤(a0:Int):=zzt;have c2:a0 < (l0.length:Int):=zzt;obtain ⟨g0,l3,l4,l5,l6,h7,j4,j5,j6,d1,j7,d2,a9,b0,b1,b2⟩:=Qt d0.out a0 b9 c2;obtain rfl:a8=g0:=(by injection h7);have j8:=zzm b0;have j9:=zzm a9;clear b0 a9;have k0:=zzm b2;have k2:=zzm b1;clear b2 b1;replace b9:=eq_true b9;replace c2:=eq_true c2;have ea_:=Option.some.inj (a2.symm.trans d1);injection ea_ with ea_ en_ ec_;subst ea_;subst ec_;clear en_;have ea_:=Option.some.inj (a3.symm.trans d2);injection ea_ with ea_ en_ ec_;subst ea_;subst ec_;clear en_;have d7 : 0≤(a0:Int):=zzt;have d8:a0 < (l0.length:Int):=zzt;obtain ⟨g8,n0,n1,n2,n3,k9,l8,l9,m0,e0,m2,e1,b5,b6,b7,b8⟩:=Qt d0.out a0 d7 d8;obtain rfl:a8=g8:=(by injection k9);have m3:=zzm b6;have m4:=zzm b5;clear b6 b5;have m5:=zzm b8;have m6:=zzm b7;clear b8 b7;replace d7:=eq_true d7;replace d8:=eq_true d8;have ea_:=Option.some.inj (a2.symm.trans e0);injection ea_ with ea_ en_ ec_;subst ea_;subst ec_;clear en_;have ea_:=Option.some.inj (a3.symm.trans e1);injection ea_ with ea_ en_ ec_;subst ea_;subst ec_;clear en_;go_wp2;go_ret;exact ⟨by first|rfl|(simp;done)|(simp [*];done),by repeat (first|exact Drawn0.refl _|apply Drawn0.step)⟩
       ·
        rw [if_neg c7] at H;have s9:(((Qb l0 a0).f2) != ((Int.tmod (wrap64 ((wrap64 (c8+1))+1)) 3)==0))=false:=by simpa using c7
        (try (have t0:decide (((Qb l0 a0).f2)=((Int.tmod (wrap64 ((wrap64 (c8+1))+1)) 3)==0))=true:=by simpa using c7))
        (try (have t1:(((Qb l0 a0).f2)==((Int.tmod (wrap64 ((wrap64 (c8+1))+1)) 3)==0))=true:=by simpa using c7));clear c7;obtain ⟨d9,A8,H⟩:=zzG H;by_cases c9:d9 < 0
        ·
         rw [if_pos c9] at H;have t2:decide (d9 < 0)=true:=decide_eq_true c9;clear c9;obtain rfl:=Option.some.inj H;have b3 : 0≤(a0:Int):=zzt;have b4:a0 < (l0.length:Int):=zzt;obtain ⟨a8,e2,e3,g6,g7,g1,g9,h0,h1,a2,h2,a3,a4,a5,a6,a7⟩:=Qt d0.out a0 b3 b4;cases g1;have h3:=zzm a5;have h4:=zzm a4;clear a5 a4;have h5:=zzm a7;have h6:=zzm a6;clear a7 a6;replace b3:=eq_true b3;replace b4:=eq_true b4;have b9 : 0≤(a0:Int):=zzt;have c2:a0 < (l0.length:Int):=zzt;obtain ⟨g0,l3,l4,l5,l6,h7,j4,j5,j6,d1,j7,d2,a9,b0,b1,b2⟩:=Qt d0.out a0 b9 c2;obtain rfl:a8=g0:=(by injection h7);have j8:=zzm b0;have j9:=zzm a9;clear b0 a9;have k0:=zzm b2;have k2:=zzm b1;clear b2 b1;replace b9:=eq_true b9;replace c2:=eq_true c2;have ea_:=Option.some.inj (a2.symm.trans d1);injection ea_ with ea_ en_ ec_;subst ea_;subst ec_;clear en_;have ea_:=Option.some.inj (a3.symm.trans d2);injection ea_ with ea_ en_ ec_;subst ea_;subst ec_;clear en_;have d7 : 0≤(a0:Int):=zzt;have d8:a0 < (l0.length:Int):=zzt;obtain ⟨g8,n0,n1,n2,n3,k9,l8,l9,m0,e0,m2,e1,b5,b6,b7,b8⟩:=Qt d0.out a0 d7 d8;obtain rfl:a8=g8:=(by injection k9);have m3:=zzm b6;have m4:=zzm b5;clear b6 b5;have m5:=zzm b8;have m6:=zzm b7;clear b8 b7;replace d7:=eq_true d7;replace d8:=eq_true d8;have ea_:=Option.some.inj (a2.symm.trans e0);injection ea_ with ea_ en_ ec_;subst ea_;subst ec_;clear en_;have ea_:=Option.some.inj (a3.symm.trans e1);injection ea_ with ea_ en_ ec_;subst ea_;subst ec_;clear en_;have e4 : 0≤(a0:Int):=zzt;have e5:a0 < (l0.length:Int):=zzt;obtain ⟨l2,o6,o7,o8,o9,m7,n5,n6,n7,g2,n8,g3,d3,d4,d5,d6⟩:=Qt d0.out a0 e4 e5;obtain rfl:a8=l2:=(by injection m7);have g4:=zzm d4;have g5:=zzm d3;clear d4 d3;have n9:=zzm d6;have o0:=zzm d5;clear d6 d5;replace e4:=eq_true e4;replace e5:=eq_true e5;have ea_:=Option.some.inj (a2.symm.trans g2);injection ea_ with ea_ en_ ec_;subst ea_;subst ec_;clear en_;have ea_:=Option.some.inj (a3.symm.trans g3);injection ea_ with ea_ en_ ec_;subst ea_;subst ec_;clear en_;go_wp2_with (first|((with_reducible refine gate_callee (f:=27) rfl ?_);refine goesL_ (some 47) rfl rfl Try.func27 (by kernel_rfl) rfl #[.slice e2 ((Qb l0 a0).f3).length e3,.int .i64 (wrap64 ((wrap64 ((wrap64 (c8+1))+1))+1))] rfl zzM2 ?_;(with_reducible refine (Qo.calls k1 _ _ ((Qb l0 a0).f3) (wrap64 ((wrap64 ((wrap64 (c8+1))+1))+1)) d9 _ ?side1 ?side2 A8.out).mono ?_);(case side1=>repeat (first|exact g4.out|(with_reducible refine Kd.C_alloc ?_ _)|(with_reducible refine Kd.C_drewN ?_ _)|(with_reducible refine Kd.C_drew ?_)));(case side2=>exact g5.out);rintro e w' ⟨rfl,⟨nd,rfl⟩⟩;refine ⟨_,rfl,?_⟩));go_ret;exact ⟨by first|rfl|(simp;done)|(simp [*];done),by repeat (first|exact Drawn0.refl _|apply Drawn0.step)⟩
        ·
         rw [if_neg c9] at H;have t2:decide (d9 < 0)=false:=decide_eq_false c9;clear c9;by_cases l7:(((Qb l0 a0).f4) != ((Int.tmod d9 3)==0))=true
         ·
          rw [if_pos l7] at H;have r7:(((Qb l0 a0).f4) != ((Int.tmod d9 3)==0))=true:=l7
          (try (have r8:decide (((Qb l0 a0).f4)=((Int.tmod d9 3)==0))=false:=by simpa using l7))
          (try (have r9:(((Qb l0 a0).f4)==((Int.tmod d9 3)==0))=false:=by simpa using l7))
          (try (have t3:¬ (((Qb l0 a0).f4)=((Int.tmod d9 3)==0)):=by simpa using l7));clear l7;obtain rfl:=Option.some.inj H;have b3 : 0≤(a0:Int):=zzt;have b4:a0 < (l0.length:Int):=zzt;obtain ⟨a8,e2,e3,g6,g7,g1,g9,h0,h1,a2,h2,a3,a4,a5,a6,a7⟩:=Qt d0.out a0 b3 b4;cases g1;have h3:=zzm a5;have h4:=zzm a4;clear a5 a4;have h5:=zzm a7;have h6:=zzm a6;clear a7 a6;replace b3:=eq_true b3;replace b4:=eq_true b4;have b9 : 0≤(a0:Int):=zzt;have c2:a0 < (l0.length:Int):=zzt;obtain ⟨g0,l3,l4,l5,l6,h7,j4,j5,j6,d1,j7,d2,a9,b0,b1,b2⟩:=Qt d0.out a0 b9 c2;obtain rfl:a8=g0:=(by injection h7);have j8:=zzm b0;have j9:=zzm a9;clear b0 a9;have k0:=zzm b2;have k2:=zzm b1;clear b2 b1;replace b9:=eq_true b9;replace c2:=eq_true c2;have ea_:=Option.some.inj (a2.symm.trans d1);injection ea_ with ea_ en_ ec_;subst ea_;subst ec_;clear en_;have ea_:=Option.some.inj (a3.symm.trans d2);injection ea_ with ea_ en_ ec_;subst ea_;subst ec_;clear en_;have d7 : 0≤(a0:Int):=zzt;have d8:a0 < (l0.length:Int):=zzt;obtain ⟨g8,n0,n1,n2,n3,k9,l8,l9,m0,e0,m2,e1,b5,b6,b7,b8⟩:=Qt d0.out a0 d7 d8;obtain rfl:a8=g8:=(by injection k9);have m3:=zzm b6;have m4:=zzm b5;clear b6 b5;have m5:=zzm b8;have m6:=zzm b7;clear b8 b7;replace d7:=eq_true d7;replace d8:=eq_true d8;have ea_:=Option.some.inj (a2.symm.trans e0);injection ea_ with ea_ en_ ec_;subst ea_;subst ec_;clear en_;have ea_:=Option.some.inj (a3.symm.trans e1);injection ea_ with ea_ en_ ec_;subst ea_;subst ec_;clear en_;have e4 : 0≤(a0:Int):=zzt;have e5:a0 < (l0.length:Int):=zzt;obtain ⟨l2,o6,o7,o8,o9,m7,n5,n6,n7,g2,n8,g3,d3,d4,d5,d6⟩:=Qt d0.out a0 e4 e5;obtain rfl:a8=l2:=(by injection m7);have g4:=zzm d4;have g5:=zzm d3;clear d4 d3;have n9:=zzm d6;have o0:=zzm d5;clear d6 d5;replace e4:=eq_true e4;replace e5:=eq_true e5;have ea_:=Option.some.inj (a2.symm.trans g2);injection ea_ with ea_ en_ ec_;subst ea_;subst ec_;clear en_;have ea_:=Option.some.inj (a3.symm.trans g3);injection ea_ with ea_ en_ ec_;subst ea_;subst ec_;clear en_;go_wp2_with (first|((with_reducible refine gate_callee (f:=27) rfl ?_);refine goesL_ (some 47) rfl rfl Try.func27 (by kernel_rfl) rfl #[.slice e2 ((Qb l0 a0).f3).length e3,.int .i64 (wrap64 ((wrap64 ((wrap64 (c8+1))+1))+1))] rfl zzM2 ?_;(with_reducible refine (Qo.calls k1 _ _ ((Qb l0 a0).f3) (wrap64 ((wrap64 ((wrap64 (c8+1))+1))+1)) d9 _ ?side1 ?side2 A8.out).mono ?_);(case side1=>repeat (first|exact g4.out|(with_reducible refine Kd.C_alloc ?_ _)|(with_reducible refine Kd.C_drewN ?_ _)|(with_reducible refine Kd.C_drew ?_)));(case side2=>exact g5.out);rintro e w' ⟨rfl,⟨nd,rfl⟩⟩;refine ⟨_,rfl,?_⟩;have h8 : 0≤(a0:Int):=zzt;have h9:a0 < (l0.length:Int):=zzt;obtain ⟨n4,q2,q3,q4,q5,p0,p1,p3,p4,k3,p5,k4,e6,e7,e8,e9⟩:=Qt d0.out a0 h8 h9;obtain rfl:a8=n4:=(by injection p0);have p6:=zzm e7;have p7:=zzm e6;clear e7 e6;have p8:=zzm e9;have p9:=zzm e8;clear e9 e8;replace h8:=eq_true h8;replace h9:=eq_true h9;have ea_:=Option.some.inj (a2.symm.trans k3);injection ea_ with ea_ en_ ec_;subst ea_;subst ec_;clear en_;have ea_:=Option.some.inj (a3.symm.trans k4);injection ea_ with ea_ en_ ec_;subst ea_;subst ec_;clear en_));go_ret;exact ⟨by first|rfl|(simp;done)|(simp [*];done),by repeat (first|exact Drawn0.refl _|apply Drawn0.step)⟩
         ·
          rw [if_neg l7] at H;have r7:(((Qb l0 a0).f4) != ((Int.tmod d9 3)==0))=false:=by simpa using l7
          (try (have r8:decide (((Qb l0 a0).f4)=((Int.tmod d9 3)==0))=true:=by simpa using l7))
          (try (have r9:(((Qb l0 a0).f4)==((Int.tmod d9 3)==0))=true:=by simpa using l7));clear l7;obtain ⟨o1,s3,H⟩:=zzG H;by_cases q0:o1 < 0
          ·
           rw [if_pos q0] at H;have s0:decide (o1 < 0)=true:=decide_eq_true q0;clear q0;obtain rfl:=Option.some.inj H;have b3 : 0≤(a0:Int):=zzt;have b4:a0 < (l0.length:Int):=zzt;obtain ⟨a8,e2,e3,g6,g7,g1,g9,h0,h1,a2,h2,a3,a4,a5,a6,a7⟩:=Qt d0.out a0 b3 b4;cases g1;have h3:=zzm a5;have h4:=zzm a4;clear a5 a4;have h5:=zzm a7;have h6:=zzm a6;clear a7 a6;replace b3:=eq_true b3;replace b4:=eq_true b4;have b9 : 0≤(a0:Int):=zzt;have c2:a0 < (l0.length:Int):=zzt;obtain ⟨g0,l3,l4,l5,l6,h7,j4,j5,j6,d1,j7,d2,a9,b0,b1,b2⟩:=Qt d0.out a0 b9 c2;obtain rfl:a8=g0:=(by injection h7);have j8:=zzm b0;have j9:=zzm a9;clear b0 a9;have k0:=zzm b2;have k2:=zzm b1;clear b2 b1;replace b9:=eq_true b9;replace c2:=eq_true c2;have ea_:=Option.some.inj (a2.symm.trans d1);injection ea_ with ea_ en_ ec_;subst ea_;subst ec_;clear en_;have ea_:=Option.some.inj (a3.symm.trans d2);injection ea_ with ea_ en_ ec_;subst ea_;subst ec_;clear en_;have d7 : 0≤(a0:Int):=zzt;have d8:a0 < (l0.length:Int):=zzt;obtain ⟨g8,n0,n1,n2,n3,k9,l8,l9,m0,e0,m2,e1,b5,b6,b7,b8⟩:=Qt d0.out a0 d7 d8;obtain rfl:a8=g8:=(by injection k9);have m3:=zzm b6;have m4:=zzm b5;clear b6 b5;have m5:=zzm b8;have m6:=zzm b7;clear b8 b7;replace d7:=eq_true d7;replace d8:=eq_true d8;have ea_:=Option.some.inj (a2.symm.trans e0);injection ea_ with ea_ en_ ec_;subst ea_;subst ec_;clear en_;have ea_:=Option.some.inj (a3.symm.trans e1);injection ea_ with ea_ en_ ec_;subst ea_;subst ec_;clear en_;have e4 : 0≤(a0:Int):=zzt;have e5:a0 < (l0.length:Int):=zzt;obtain ⟨l2,o6,o7,o8,o9,m7,n5,n6,n7,g2,n8,g3,d3,d4,d5,d6⟩:=Qt d0.out a0 e4 e5;obtain rfl:a8=l2:=(by injection m7);have g4:=zzm d4;have g5:=zzm d3;clear d4 d3;have n9:=zzm d6;have o0:=zzm d5;clear d6 d5;replace e4:=eq_true e4;replace e5:=eq_true e5;have ea_:=Option.some.inj (a2.symm.trans g2);injection ea_ with ea_ en_ ec_;subst ea_;subst ec_;clear en_;have ea_:=Option.some.inj (a3.symm.trans g3);injection ea_ with ea_ en_ ec_;subst ea_;subst ec_;clear en_;go_wp2_with (first|((with_reducible refine gate_callee (f:=27) rfl ?_);refine goesL_ (some 47) rfl rfl Try.func27 (by kernel_rfl) rfl #[.slice e2 ((Qb l0 a0).f3).length e3,.int .i64 (wrap64 ((wrap64 ((wrap64 (c8+1))+1))+1))] rfl zzM2 ?_;(with_reducible refine (Qo.calls k1 _ _ ((Qb l0 a0).f3) (wrap64 ((wrap64 ((wrap64 (c8+1))+1))+1)) d9 _ ?side1 ?side2 A8.out).mono ?_);(case side1=>repeat (first|exact g4.out|(with_reducible refine Kd.C_alloc ?_ _)|(with_reducible refine Kd.C_drewN ?_ _)|(with_reducible refine Kd.C_drew ?_)));(case side2=>exact g5.out);rintro e w' ⟨rfl,⟨nd,rfl⟩⟩;refine ⟨_,rfl,?_⟩;have h8 : 0≤(a0:Int):=zzt;have h9:a0 < (l0.length:Int):=zzt;obtain ⟨n4,q2,q3,q4,q5,p0,p1,p3,p4,k3,p5,k4,e6,e7,e8,e9⟩:=Qt d0.out a0 h8 h9;obtain rfl:a8=n4:=(by injection p0);have p6:=zzm e7;have p7:=zzm e6;clear e7 e6;have p8:=zzm e9;have p9:=zzm e8;clear e9 e8;replace h8:=eq_true h8;replace h9:=eq_true h9;have ea_:=Option.some.inj (a2.symm.trans k3);injection ea_ with ea_ en_ ec_;subst ea_;subst ec_;clear en_;have ea_:=Option.some.inj (a3.symm.trans k4);injection ea_ with ea_ en_ ec_;subst ea_;subst ec_;clear en_;have m8 : 0≤(a0:Int):=zzt;have m9:a0 < (l0.length:Int):=zzt;obtain ⟨q1,r3,r4,r5,r6,q6,q7,q8,q9,o2,r0,o3,k5,k6,k7,k8⟩:=Qt d0.out a0 m8 m9;obtain rfl:a8=q1:=(by injection q6);have r1:=zzm k6;have r2:=zzm k5;clear k6 k5;have o4:=zzm k8;have o5:=zzm k7;clear k8 k7;replace m8:=eq_true m8;replace m9:=eq_true m9;have ea_:=Option.some.inj (a2.symm.trans o2);injection ea_ with ea_ en_ ec_;subst ea_;subst ec_;clear en_;have ea_:=Option.some.inj (a3.symm.trans o3);injection ea_ with ea_ en_ ec_;subst ea_;subst ec_;clear en_)|((with_reducible refine gate_callee (f:=27) rfl ?_);refine goesL_ (some 67) rfl rfl Try.func27 (by kernel_rfl) rfl #[.slice g6 ((Qb l0 a0).f5).length g7,.int .i64 (wrap64 (d9+1))] rfl zzM2 ?_;(with_reducible refine (Qo.calls k1 _ _ ((Qb l0 a0).f5) (wrap64 (d9+1)) o1 _ ?side1 ?side2 s3.out).mono ?_);(case side1=>repeat (first|exact o4.out|(with_reducible refine Kd.C_alloc ?_ _)|(with_reducible refine Kd.C_drewN ?_ _)|(with_reducible refine Kd.C_drew ?_)));(case side2=>exact o5.out);rintro e w' ⟨rfl,⟨nd,rfl⟩⟩;refine ⟨_,rfl,?_⟩));go_ret;exact ⟨by first|rfl|(simp;done)|(simp [*];done),by repeat (first|exact Drawn0.refl _|apply Drawn0.step)⟩
          ·
           rw [if_neg q0] at H;have s0:decide (o1 < 0)=false:=decide_eq_false q0;clear q0;have H':=zzm H;clear H;have b3 : 0≤(a0:Int):=zzt;have b4:a0 < (l0.length:Int):=zzt;obtain ⟨a8,e2,e3,g6,g7,g1,g9,h0,h1,a2,h2,a3,a4,a5,a6,a7⟩:=Qt d0.out a0 b3 b4;cases g1;have h3:=zzm a5;have h4:=zzm a4;clear a5 a4;have h5:=zzm a7;have h6:=zzm a6;clear a7 a6;replace b3:=eq_true b3;replace b4:=eq_true b4;have b9 : 0≤(a0:Int):=zzt;have c2:a0 < (l0.length:Int):=zzt;obtain ⟨g0,l3,l4,l5,l6,h7,j4,j5,j6,d1,j7,d2,a9,b0,b1,b2⟩:=Qt d0.out a0 b9 c2;obtain rfl:a8=g0:=(by injection h7);have j8:=zzm b0;have j9:=zzm a9;clear b0 a9;have k0:=zzm b2;have k2:=zzm b1;clear b2 b1;replace b9:=eq_true b9;replace c2:=eq_true c2;have ea_:=Option.some.inj (a2.symm.trans d1);injection ea_ with ea_ en_ ec_;subst ea_;subst ec_;clear en_;have ea_:=Option.some.inj (a3.symm.trans d2);injection ea_ with ea_ en_ ec_;subst ea_;subst ec_;clear en_;have d7 : 0≤(a0:Int):=zzt;have d8:a0 < (l0.length:Int):=zzt;obtain ⟨g8,n0,n1,n2,n3,k9,l8,l9,m0,e0,m2,e1,b5,b6,b7,b8⟩:=Qt d0.out a0 d7 d8;obtain rfl:a8=g8:=(by injection k9);have m3:=zzm b6;have m4:=zzm b5;clear b6 b5;have m5:=zzm b8;have m6:=zzm b7;clear b8 b7;replace d7:=eq_true d7;replace d8:=eq_true d8;have ea_:=Option.some.inj (a2.symm.trans e0);injection ea_ with ea_ en_ ec_;subst ea_;subst ec_;clear en_;have ea_:=Option.some.inj (a3.symm.trans e1);injection ea_ with ea_ en_ ec_;subst ea_;subst ec_;clear en_;have e4 : 0≤(a0:Int):=zzt;have e5:a0 < (l0.length:Int):=zzt;obtain ⟨l2,o6,o7,o8,o9,m7,n5,n6,n7,g2,n8,g3,d3,d4,d5,d6⟩:=Qt d0.out a0 e4 e5;obtain rfl:a8=l2:=(by injection m7);have g4:=zzm d4;have g5:=zzm d3;clear d4 d3;have n9:=zzm d6;have o0:=zzm d5;clear d6 d5;replace e4:=eq_true e4;replace e5:=eq_true e5;have ea_:=Option.some.inj (a2.symm.trans g2);injection ea_ with ea_ en_ ec_;subst ea_;subst ec_;clear en_;have ea_:=Option.some.inj (a3.symm.trans g3);injection ea_ with ea_ en_ ec_;subst ea_;subst ec_;clear en_;go_wp2_with (first|((with_reducible refine gate_callee (f:=27) rfl ?_);refine goesL_ (some 47) rfl rfl Try.func27 (by kernel_rfl) rfl #[.slice e2 ((Qb l0 a0).f3).length e3,.int .i64 (wrap64 ((wrap64 ((wrap64 (c8+1))+1))+1))] rfl zzM2 ?_;(with_reducible refine (Qo.calls k1 _ _ ((Qb l0 a0).f3) (wrap64 ((wrap64 ((wrap64 (c8+1))+1))+1)) d9 _ ?side1 ?side2 A8.out).mono ?_);(case side1=>repeat (first|exact g4.out|(with_reducible refine Kd.C_alloc ?_ _)|(with_reducible refine Kd.C_drewN ?_ _)|(with_reducible refine Kd.C_drew ?_)));(case side2=>exact g5.out);rintro e w' ⟨rfl,⟨nd,rfl⟩⟩;refine ⟨_,rfl,?_⟩;have h8 : 0≤(a0:Int):=zzt;have h9:a0 < (l0.length:Int):=zzt;obtain ⟨n4,q2,q3,q4,q5,p0,p1,p3,p4,k3,p5,k4,e6,e7,e8,e9⟩:=Qt d0.out a0 h8 h9;obtain rfl:a8=n4:=(by injection p0);have p6:=zzm e7;have p7:=zzm e6;clear e7 e6;have p8:=zzm e9;have p9:=zzm e8;clear e9 e8;replace h8:=eq_true h8;replace h9:=eq_true h9;have ea_:=Option.some.inj (a2.symm.trans k3);injection ea_ with ea_ en_ ec_;subst ea_;subst ec_;clear en_;have ea_:=Option.some.inj (a3.symm.trans k4);injection ea_ with ea_ en_ ec_;subst ea_;subst ec_;clear en_;have m8 : 0≤(a0:Int):=zzt;have m9:a0 < (l0.length:Int):=zzt;obtain ⟨q1,r3,r4,r5,r6,q6,q7,q8,q9,o2,r0,o3,k5,k6,k7,k8⟩:=Qt d0.out a0 m8 m9;obtain rfl:a8=q1:=(by injection q6);have r1:=zzm k6;have r2:=zzm k5;clear k6 k5;have o4:=zzm k8;have o5:=zzm k7;clear k8 k7;replace m8:=eq_true m8;replace m9:=eq_true m9;have ea_:=Option.some.inj (a2.symm.trans o2);injection ea_ with ea_ en_ ec_;subst ea_;subst ec_;clear en_;have ea_:=Option.some.inj (a3.symm.trans o3);injection ea_ with ea_ en_ ec_;subst ea_;subst ec_;clear en_)|((with_reducible refine gate_callee (f:=27) rfl ?_);refine goesL_ (some 67) rfl rfl Try.func27 (by kernel_rfl) rfl #[.slice g6 ((Qb l0 a0).f5).length g7,.int .i64 (wrap64 (d9+1))] rfl zzM2 ?_;(with_reducible refine (Qo.calls k1 _ _ ((Qb l0 a0).f5) (wrap64 (d9+1)) o1 _ ?side1 ?side2 s3.out).mono ?_);(case side1=>repeat (first|exact o4.out|(with_reducible refine Kd.C_alloc ?_ _)|(with_reducible refine Kd.C_drewN ?_ _)|(with_reducible refine Kd.C_drew ?_)));(case side2=>exact o5.out);rintro e w' ⟨rfl,⟨nd,rfl⟩⟩;refine ⟨_,rfl,?_⟩));go_roundg k1
           case measure=>have:=HK1.out;omega
           case rel=>exact ⟨(o1),(wrap64 (a0+1)),(by first|rfl|(simp;done)|(simp [*];done)),(by first|rfl|(simp;done)|(simp [*];done)),H',⟨by have:=HK1.out;omega⟩,by repeat (first|exact Drawn0.refl _|apply Drawn0.step)⟩
      ·
       rw [if_neg c6] at H;obtain ⟨s7,s8⟩:=zzY c6;obtain rfl:=Option.some.inj H;have b3 : 0≤(a0:Int):=zzt;have b4:a0 < (l0.length:Int):=zzt;obtain ⟨a8,e2,e3,g6,g7,g1,g9,h0,h1,a2,h2,a3,a4,a5,a6,a7⟩:=Qt d0.out a0 b3 b4;cases g1;have h3:=zzm a5;have h4:=zzm a4;clear a5 a4;have h5:=zzm a7;have h6:=zzm a6;clear a7 a6;replace b3:=eq_true b3;replace b4:=eq_true b4;have b9 : 0≤(a0:Int):=zzt;have c2:a0 < (l0.length:Int):=zzt;obtain ⟨g0,l3,l4,l5,l6,h7,j4,j5,j6,d1,j7,d2,a9,b0,b1,b2⟩:=Qt d0.out a0 b9 c2;obtain rfl:a8=g0:=(by injection h7);have j8:=zzm b0;have j9:=zzm a9;clear b0 a9;have k0:=zzm b2;have k2:=zzm b1;clear b2 b1;replace b9:=eq_true b9;replace c2:=eq_true c2;have ea_:=Option.some.inj (a2.symm.trans d1);injection ea_ with ea_ en_ ec_;subst ea_;subst ec_;clear en_;have ea_:=Option.some.inj (a3.symm.trans d2);injection ea_ with ea_ en_ ec_;subst ea_;subst ec_;clear en_;go_wp2;go_ret;exact ⟨by first|rfl|(simp;done)|(simp [*];done),by repeat (first|exact Drawn0.refl _|apply Drawn0.step)⟩
     ·
      rw [if_neg c5] at H;obtain ⟨s5,s6⟩:=zzY c5;obtain rfl:=Option.some.inj H;have b3 : 0≤(a0:Int):=zzt;have b4:a0 < (l0.length:Int):=zzt;obtain ⟨a8,e2,e3,g6,g7,g1,g9,h0,h1,a2,h2,a3,a4,a5,a6,a7⟩:=Qt d0.out a0 b3 b4;cases g1;have h3:=zzm a5;have h4:=zzm a4;clear a5 a4;have h5:=zzm a7;have h6:=zzm a6;clear a7 a6;replace b3:=eq_true b3;replace b4:=eq_true b4;go_wp2;go_ret;exact ⟨by first|rfl|(simp;done)|(simp [*];done),by repeat (first|exact Drawn0.refl _|apply Drawn0.step)⟩
    ·
     rw [if_neg c4] at H;exact absurd H (by simp)
   ·
    rw [if_neg c3] at H;have s4:decide (a0 < (l0.length:Int))=false:=decide_eq_false c3;clear c3;obtain rfl:=Option.some.inj H;go_wp2;go_ret;exact ⟨by first|rfl|(simp;done)|(simp [*];done),by repeat (first|exact Drawn0.refl _|apply Drawn0.step)⟩

set_option linter.unusedVariables false
set_option linter.unusedSimpArgs false
def laws_FnExactStableRecords.j0:Nat→List (S36)→List (S42)→List (S42)→Bool→Option (Bool)
 | 0,_,_,_,_=>none
 | k+1,x0,x4,x6,x42=>if x42=true then (some false) else ((Q2.f x6 1).bind fun bt369=>((Qj.f k bt369.2 1).bind fun t371=>(if t371 < 0 then (some false) else (if t371=bt369.1 then ((Qh.f k x0).bind fun t372=>((Qe.f k t372).bind fun t375=>((Qf.f k t375 x4).bind fun t378=>(if t378=true then ((Qj.f k bt369.2 1).bind fun t379=>(if t379 < 0 then (some false) else (if t379=bt369.1 then (some true) else (some false)))) else (some false))))) else (some false)))))
def laws_FnExactStableRecords.f (k:Nat) (l0:List (S36)):Option (Bool):=(Qv.f k l0 1048576).bind fun t349=>(if t349 < 0 then (some true) else ((Qh.f k l0).bind fun t350=>((Qc.f k t350).bind fun t353=>((Qh.f k l0).bind fun t356=>((Qe.f k t356).bind fun t359=>((Qf.f k t359 t353).bind fun t362=>(if t362=true then ((Qh.f k l0).bind fun t363=>((Qm.f k t356 t363).bind fun t366=>(if t366=true then ((Rj.f t356 1).bind fun t367=>(if t367 < 0 then (laws_FnExactStableRecords.j0 k l0 t353 t359 true) else ((Qf.f k t359 t353).bind fun t368=>(laws_FnExactStableRecords.j0 k l0 t353 t359 (!t368))))) else (some false)))) else (some false))))))))
set_option maxHeartbeats 8000000 in
theorem laws_FnExactStableRecords.calls (k:Nat) (A0:Option Addr) (c0:Nat) (l0:List (S36)) (r:Bool) (w:World) (k8:Kd.C k36 w A0 l0.length l0) (k9:l0.length≤c0) (h:laws_FnExactStableRecords.f k l0=some r) :
  Calls Try.prog 3 #[.slice A0 l0.length c0] w fun e w'=>e = .returned (.bool r)∧Below w.heap.size w w':=by
 have d3:=zzm k8;have d4:=zzm k9;clear k8 k9;have HB:=zzm (Below.refl w.heap.size w);have H:((Qv.f k l0 1048576).bind fun d8=>(if d8 < 0 then (some true) else ((Qh.f k l0).bind fun d5=>((Qc.f k d5).bind fun b5=>((Qh.f k l0).bind fun c2=>((Qe.f k c2).bind fun b0=>((Qf.f k b0 b5).bind fun g8=>(if g8=true then ((Qh.f k l0).bind fun d9=>((Qm.f k c2 d9).bind fun g9=>(if g9=true then ((Rj.f c2 1).bind fun e3=>(if e3 < 0 then (laws_FnExactStableRecords.j0 k l0 b5 b0 true) else ((Qf.f k b0 b5).bind fun g1=>(laws_FnExactStableRecords.j0 k l0 b5 b0 (!g1))))) else (some false)))) else (some false)))))))))=some r:=h;clear h;obtain ⟨d8,A2,H⟩:=zzG H;by_cases c3:d8 < 0
 ·
  rw [if_pos c3] at H;have h9:decide (d8 < 0)=true:=decide_eq_true c3;clear c3;obtain rfl:=Option.some.inj H;go_enter Try.func3,Try.ntmps3;go_wp2_with (first|((with_reducible refine gate_callee (f:=4) rfl ?_);refine goesL_ (some 13) rfl rfl Try.func4 (by kernel_rfl) rfl #[.slice A0 l0.length c0,.int .i64 1048576] rfl zzM2 ?_;(with_reducible refine (Qv.calls k _ _ l0 1048576 d8 _ ?side1 ?side2 A2.out).mono ?_);(case side1=>repeat (first|exact d3.out|(with_reducible refine Kd.C_alloc ?_ _)|(with_reducible refine Kd.C_drewN ?_ _)|(with_reducible refine Kd.C_drew ?_)));(case side2=>exact d4.out);rintro e w4 ⟨rfl,hb⟩;refine ⟨_,rfl,?_⟩;have a1:=zzm (zzp zzh1 hb);clear HB;have HB:=a1;clear a1;(try clear hb);(try clear hb2);(try clear hk);(try clear hi)));go_ret;exact ⟨zzR,zzh1⟩
 ·
  rw [if_neg c3] at H;have h9:decide (d8 < 0)=false:=decide_eq_false c3;clear c3;obtain ⟨d5,A5,H⟩:=zzG H;obtain ⟨b5,A6,H⟩:=zzG H;obtain ⟨c2,A7,H⟩:=zzG H;obtain ⟨b0,A8,H⟩:=zzG H;obtain ⟨g8,A9,H⟩:=zzG H;by_cases g4:g8=true
  ·
   subst g4;replace H:=zzIt H;obtain ⟨d9,l2,H⟩:=zzG H;obtain ⟨g9,l3,H⟩:=zzG H;by_cases g5:g9=true
   ·
    subst g5;replace H:=zzIt H;obtain ⟨e3,p7,H⟩:=zzG H;have h0:=zzm H;clear H;go_enter Try.func3,Try.ntmps3;go_upto_region 14 with (first|((with_reducible refine gate_callee (f:=4) rfl ?_);refine goesL_ (some 13) rfl rfl Try.func4 (by kernel_rfl) rfl #[.slice A0 l0.length c0,.int .i64 1048576] rfl zzM2 ?_;(with_reducible refine (Qv.calls k _ _ l0 1048576 d8 _ ?side1 ?side2 A2.out).mono ?_);(case side1=>repeat (first|exact d3.out|(with_reducible refine Kd.C_alloc ?_ _)|(with_reducible refine Kd.C_drewN ?_ _)|(with_reducible refine Kd.C_drew ?_)));(case side2=>exact d4.out);rintro e q0 ⟨rfl,hb⟩;refine ⟨_,rfl,?_⟩;have a1:=zzm (zzp zzh1 hb);clear HB;have HB:=a1;clear a1;(try clear hb);(try clear hb2);(try clear hk);(try clear hi))|((with_reducible refine gate_callee (f:=6) rfl ?_);refine goesL_ (some 17) rfl rfl Try.func6 (by kernel_rfl) rfl #[.slice A0 l0.length c0] rfl zzM2 ?_;(with_reducible refine (Qh.calls k _ _ l0 d5 _ ?side1 ?side2 A5.out).mono ?_);(case side1=>exact zzcb d3 HB);(case side2=>exact d4.out);rintro e q1 ⟨j4,rfl,ho0,hb⟩;refine ⟨_,rfl,?_⟩;have a1:=zzm (Kd.R_lower ho0 (zzo zzh1));have a2:=zzm (zzp zzh1 hb);clear HB;have a3:=a1;have HB:=a2;clear a1 a2;(try clear hb);(try clear hb2);(try clear hk);(try clear hi);(try clear ho0);obtain ⟨l9,m0,eo18⟩:=Kd.R_slice a3.out;subst eo18)|((with_reducible refine gate_callee (f:=5) rfl ?_);refine goesL_ (some 18) rfl rfl Try.func5 (by kernel_rfl) rfl #[.slice l9 d5.length m0] rfl zzM2 ?_;(with_reducible refine (Qc.calls k _ _ d5 b5 _ ?side1 ?side2 A6.out).mono ?_);(case side1=>repeat (first|exact (Kd.R_reads' a3.out).2.2|(with_reducible refine Kd.C_alloc ?_ _)|(with_reducible refine Kd.C_drewN ?_ _)|(with_reducible refine Kd.C_drew ?_)));(case side2=>exact (Kd.R_reads' a3.out).2.1);rintro e q2 ⟨j5,rfl,ho0,hb⟩;refine ⟨_,rfl,?_⟩;have a1:=zzm (Kd.R_elder' (by (with_reducible repeat (first|apply Kd.R_alloc|apply Kd.R_drewN|apply Kd.R_drew));exact a3.out) (Kd.S_base ho0) hb);have a2:=zzm (Kd.S_lower ho0 (zzo zzh1));have a5:=zzm (zzp zzh1 hb);clear a3 HB;have a3:=a1;have a4:=a2;have HB:=a5;clear a1 a2 a5;(try clear hb);(try clear hb2);(try clear hk);(try clear hi);(try clear ho0))|((with_reducible refine gate_callee (f:=6) rfl ?_);refine goesL_ (some 20) rfl rfl Try.func6 (by kernel_rfl) rfl #[.slice A0 l0.length c0] rfl zzM2 ?_;(with_reducible refine (Qh.calls k _ _ l0 c2 _ ?side1 ?side2 A7.out).mono ?_);(case side1=>exact zzcb d3 HB);(case side2=>exact d4.out);rintro e q3 ⟨j6,rfl,ho0,hb⟩;refine ⟨_,rfl,?_⟩;obtain ⟨B1,l4,l5⟩:=two_old (zzS a4.out) hb ho0 (zzo zzh1);have a1:=zzm (Kd.R_elder' (by (with_reducible repeat (first|apply Kd.R_alloc|apply Kd.R_drewN|apply Kd.R_drew));exact a3.out) (Kd.R_base ho0) hb);have a2:=zzm l4;have a5:=zzm l5;have a8:=zzm (zzp zzh1 hb);clear a3 a4 HB;have a3:=a1;have a4:=a2;have a7:=a5;have HB:=a8;clear a1 a2 a5 a8;(try clear hb);(try clear hb2);(try clear hk);(try clear hi);(try clear ho0 l4 l5);obtain ⟨g2,g3,eo21⟩:=Kd.R_slice a7.out;subst eo21)|((with_reducible refine gate_callee (f:=7) rfl ?_);refine goesL_ (some 22) rfl rfl Try.func7 (by kernel_rfl) rfl #[.slice g2 c2.length g3] rfl zzM2 ?_;(with_reducible refine (Qe.calls k _ _ c2 b0 _ ?side1 ?side2 A8.out).mono ?_);(case side1=>repeat (first|exact (Kd.R_reads' a7.out).2.2|(with_reducible refine Kd.C_alloc ?_ _)|(with_reducible refine Kd.C_drewN ?_ _)|(with_reducible refine Kd.C_drew ?_)));(case side2=>exact (Kd.R_reads' a7.out).2.1);rintro e q4 ⟨j7,rfl,ho0,hb⟩;refine ⟨_,rfl,?_⟩;obtain ⟨B2,l6,l7,hg2⟩:=three_old (zzS a4.out) (by (with_reducible repeat (first|apply Kd.R_alloc|apply Kd.R_drewN|apply Kd.R_drew));exact a7.out) hb ho0 (zzo zzh1);have a1:=zzm (Kd.R_elder' (by (with_reducible repeat (first|apply Kd.R_alloc|apply Kd.R_drewN|apply Kd.R_drew));exact a3.out) (Kd.S_base ho0) hb);have a2:=zzm l6;have a5:=zzm l7;have a8:=zzm hg2;have b2:=zzm (zzp zzh1 hb);clear a3 a4 a7 HB;have a3:=a1;have a4:=a2;have a7:=a5;have a9:=a8;have HB:=b2;clear a1 a2 a5 a8 b2;(try clear hb);(try clear hb2);(try clear hk);(try clear hi);(try clear ho0 l6 l7 hg2);obtain ⟨b7,b8,eo23⟩:=Kd.S_slice a9.out;subst eo23;obtain ⟨e4,e5,eo24⟩:=Kd.S_slice a4.out;subst eo24)|((with_reducible refine gate_callee (f:=8) rfl ?_);refine goesL_ (some 25) rfl rfl Try.func8 (by kernel_rfl) rfl #[.slice b7 b0.length b8,.slice e4 b5.length e5] rfl zzM2 ?_;(with_reducible refine (Qf.calls k _ _ b0 _ _ b5 true _ ?side1 ?side2 ?side3 ?side4 A9.out).mono ?_);(case side1=>repeat (first|exact (A_reads' a9.out).2.2|(with_reducible refine Kd.C_alloc ?_ _)|(with_reducible refine Kd.C_drewN ?_ _)|(with_reducible refine Kd.C_drew ?_)));(case side2=>exact (A_reads' a9.out).2.1);(case side3=>repeat (first|exact (Kd.S_reads' a4.out).2.2|(with_reducible refine Kd.C_alloc ?_ _)|(with_reducible refine Kd.C_drewN ?_ _)|(with_reducible refine Kd.C_drew ?_)));(case side4=>exact (Kd.S_reads' a4.out).2.1);rintro e q5 ⟨rfl,hb⟩;refine ⟨_,rfl,?_⟩;have a1:=zzm (Kd.R_below (by (with_reducible repeat (first|apply Kd.R_alloc|apply Kd.R_drewN|apply Kd.R_drew));exact a3.out) hb);have a2:=zzm (Kd.S_below (zzS a4.out) hb);have a5:=zzm (Kd.R_below (by (with_reducible repeat (first|apply Kd.R_alloc|apply Kd.R_drewN|apply Kd.R_drew));exact a7.out) hb);have a8:=zzm (Kd.S_below (zzS a9.out) hb);have b2:=zzm (zzp zzh1 hb);clear a3 a4 a7 a9 HB;have a3:=a1;have a4:=a2;have a7:=a5;have a9:=a8;have HB:=b2;clear a1 a2 a5 a8 b2;(try clear hb);(try clear hb2);(try clear hk);(try clear hi))|((with_reducible refine gate_callee (f:=6) rfl ?_);refine goesL_ (some 29) rfl rfl Try.func6 (by kernel_rfl) rfl #[.slice A0 l0.length c0] rfl zzM2 ?_;(with_reducible refine (Qh.calls k _ _ l0 d9 _ ?side1 ?side2 l2.out).mono ?_);(case side1=>exact zzcb d3 HB);(case side2=>exact d4.out);rintro e q6 ⟨m1,rfl,ho0,hb⟩;refine ⟨_,rfl,?_⟩;have a1:=zzm (Kd.R_elder' (by (with_reducible repeat (first|apply Kd.R_alloc|apply Kd.R_drewN|apply Kd.R_drew));exact a3.out) (Kd.R_base ho0) hb);have a2:=zzm (Kd.S_below (zzS a4.out) hb);have a5:=zzm (Kd.R_elder' (by (with_reducible repeat (first|apply Kd.R_alloc|apply Kd.R_drewN|apply Kd.R_drew));exact a7.out) (Kd.R_base ho0) hb);have a8:=zzm (Kd.S_below (zzS a9.out) hb);have b2:=zzm (Kd.R_lower (Kd.R_new' (Kd.R_new' (Kd.R_new' (Kd.R_new' ho0 (Kd.R_lt (by (with_reducible repeat (first|apply Kd.R_alloc|apply Kd.R_drewN|apply Kd.R_drew));exact a3.out))) (Kd.S_lt (zzS a4.out))) (Kd.R_lt (by (with_reducible repeat (first|apply Kd.R_alloc|apply Kd.R_drewN|apply Kd.R_drew));exact a7.out))) (Kd.S_lt (zzS a9.out))) (zzo zzh1));have e0:=zzm (zzp zzh1 hb);clear a3 a4 a7 a9 HB;have a3:=a1;have a4:=a2;have a7:=a5;have a9:=a8;have b9:=b2;have HB:=e0;clear a1 a2 a5 a8 b2 e0;(try clear hb);(try clear hb2);(try clear hk);(try clear hi);(try clear ho0);obtain ⟨m2,m3,eo27⟩:=Kd.R_slice b9.out;subst eo27)|((with_reducible refine gate_callee (f:=9) rfl ?_);refine goesL_ (some 30) rfl rfl Try.func9 (by kernel_rfl) rfl #[.slice g2 c2.length g3,.slice m2 d9.length m3] rfl zzM2 ?_;(with_reducible refine (Qm.calls k _ _ c2 _ _ d9 true _ ?side1 ?side2 ?side3 ?side4 l3.out).mono ?_);(case side1=>repeat (first|exact (Kd.R_reads' a7.out).2.2|(with_reducible refine Kd.C_alloc ?_ _)|(with_reducible refine Kd.C_drewN ?_ _)|(with_reducible refine Kd.C_drew ?_)));(case side2=>exact (Kd.R_reads' a7.out).2.1);(case side3=>repeat (first|exact (Kd.R_reads' b9.out).2.2|(with_reducible refine Kd.C_alloc ?_ _)|(with_reducible refine Kd.C_drewN ?_ _)|(with_reducible refine Kd.C_drew ?_)));(case side4=>exact (Kd.R_reads' b9.out).2.1);rintro e q7 ⟨rfl,hb⟩;refine ⟨_,rfl,?_⟩;have a1:=zzm (Kd.R_below (by (with_reducible repeat (first|apply Kd.R_alloc|apply Kd.R_drewN|apply Kd.R_drew));exact a3.out) hb);have a2:=zzm (Kd.S_below (zzS a4.out) hb);have a5:=zzm (Kd.R_below (by (with_reducible repeat (first|apply Kd.R_alloc|apply Kd.R_drewN|apply Kd.R_drew));exact a7.out) hb);have a8:=zzm (Kd.S_below (zzS a9.out) hb);have b2:=zzm (Kd.R_below (by (with_reducible repeat (first|apply Kd.R_alloc|apply Kd.R_drewN|apply Kd.R_drew));exact b9.out) hb);have e0:=zzm (zzp zzh1 hb);clear a3 a4 a7 a9 b9 HB;have a3:=a1;have a4:=a2;have a7:=a5;have a9:=a8;have b9:=b2;have HB:=e0;clear a1 a2 a5 a8 b2 e0;(try clear hb);(try clear hb2);(try clear hk);(try clear hi))|((with_reducible refine gate_callee (f:=10) rfl ?_);refine goesL_ (some 34) rfl rfl Try.func10 (by kernel_rfl) rfl #[.slice g2 c2.length g3,.int .i64 1] rfl zzM2 ?_;(with_reducible refine (Rj.calls (fun k_=>B1≤k_∧k_ < B2) (.slice g2 c2.length g3) c2 1 e3 w _ ?side1 ?side2 p7.out).mono ?_);(case side1=>repeat (first|(with_reducible first|exact HB.out|apply zza|apply zzb|apply zzc)|exact HB.out));(case side2=>first|exact a7.out|exact Kd.R_mono a7.out (fun _ hk=>hk.1)|exact Kd.R_mono a7.out (fun _ hk=>hk.1.1));rintro e l8 ⟨rfl,hb,hkp⟩;refine ⟨_,rfl,?_⟩;have a1:=zzm (Kd.R_nil k39 39 l8 w.heap.size (fun _=>True));have a2:=zzm (Kd.S_mono (Kd.S_keptB a4.out hkp (fun k_ hk_ hs_=>absurd hs_.1.1 (Nat.not_le.mpr hk_.1))) (fun k_ hk_=>hk_.1));have a5:=zzm (Kd.S_mono (Kd.S_keptB a9.out hkp (fun k_ hk_ hs_=>absurd hs_.1.2 (Nat.not_lt.mpr hk_))) (fun k_ hk_=>hk_.1));have a8:=zzm (Kd.R_nil k39 39 l8 w.heap.size (fun _=>True));have b2:=zzm (hb);clear a3 a4 a9 b9 HB a7;have a3:=a1;have a4:=a2;have a9:=a5;have b9:=a8;have HB:=b2;clear a1 a2 a5 a8 b2;(try clear hb);(try clear hkp)))
    (try simp only [Act.put,zzq,zzr,zzs]);go_cut [42] (fun p8 wc=>∃ (kq:Nat) (e2:Bool),p8 = .bool e2∧Aside0 (laws_FnExactStableRecords.j0 kq l0 b5 b0 e2=some r)∧Aside0 (kq≤k)∧Aside0 (Kd.S k42 42 wc w.heap.size (fun k_=>k_ < B1∧k_ < B2) (.slice e4 b5.length e5) b5)∧Aside0 (Kd.S kA 42 wc w.heap.size (fun k_=>B2≤k_) (.slice b7 b0.length b8) b0)∧Aside0 (Below w.heap.size w wc))
    case first=>
     have H:=h0.out;clear h0;by_cases e6:e3 < 0
     ·
      rw [if_pos e6] at H;have e1:decide (e3 < 0)=true:=decide_eq_true e6;clear e6
      (first|rw [e1]|(simp only [i64_w,i32_w];rw [e1])|skip);have H':=zzm H;clear H;go_wp2;go_meet
      case rel=>exact ⟨_,(true),(by first|rfl|(simp;done)|(simp [*];done)),H',⟨by first|omega|exact Nat.le_refl _⟩,⟨by (with_reducible repeat (first|apply Kd.S_alloc|apply Kd.S_drewN|apply Kd.S_drew));exact a4.out⟩,⟨by (with_reducible repeat (first|apply Kd.S_alloc|apply Kd.S_drewN|apply Kd.S_drew));exact a9.out⟩,⟨zzh1⟩⟩
     ·
      rw [if_neg e6] at H;have e1:decide (e3 < 0)=false:=decide_eq_false e6;clear e6
      (first|rw [e1]|(simp only [i64_w,i32_w];rw [e1])|skip);obtain ⟨g1,p9,H⟩:=zzG H;have H':=zzm H;clear H;go_wp2_with (first|(go_at_call 8;(with_reducible refine (Qf.calls k _ _ b0 _ _ b5 g1 _ ?side1 ?side2 ?side3 ?side4 p9.out).mono ?_);(case side1=>repeat (first|exact (A_reads' a9.out).2.2|(with_reducible refine Kd.C_alloc ?_ _)|(with_reducible refine Kd.C_drewN ?_ _)|(with_reducible refine Kd.C_drew ?_)));(case side2=>exact (A_reads' a9.out).2.1);(case side3=>repeat (first|exact (Kd.S_reads' a4.out).2.2|(with_reducible refine Kd.C_alloc ?_ _)|(with_reducible refine Kd.C_drewN ?_ _)|(with_reducible refine Kd.C_drew ?_)));(case side4=>exact (Kd.S_reads' a4.out).2.1);rintro e q8 ⟨rfl,hb⟩;have a1:=zzm (Kd.R_below (by (with_reducible repeat (first|apply Kd.R_alloc|apply Kd.R_drewN|apply Kd.R_drew));exact a3.out) hb);have a2:=zzm (Kd.S_below (zzS a4.out) hb);have a5:=zzm (Kd.S_below (zzS a9.out) hb);have a8:=zzm (Kd.R_below (by (with_reducible repeat (first|apply Kd.R_alloc|apply Kd.R_drewN|apply Kd.R_drew));exact b9.out) hb);have b2:=zzm (zzp zzh1 hb);clear a3 a4 a9 b9 HB;have a3:=a1;have a4:=a2;have a9:=a5;have b9:=a8;have HB:=b2;clear a1 a2 a5 a8 b2;(try clear hb);(try clear hb2);(try clear hk);(try clear hi)));go_meet
      case rel=>exact ⟨_,(!g1),(by first|rfl|(simp;done)|(simp [*];done)),H',⟨by first|omega|exact Nat.le_refl _⟩,⟨by (with_reducible repeat (first|apply Kd.S_alloc|apply Kd.S_drewN|apply Kd.S_drew));exact a4.out⟩,⟨by (with_reducible repeat (first|apply Kd.S_alloc|apply Kd.S_drewN|apply Kd.S_drew));exact a9.out⟩,⟨zzh1⟩⟩
    case rest=>
     clear h0;try clear c1
     try clear p2
     try clear c3
     try clear h9
     try clear c4
     try clear c5
     try clear c6
     try clear c7
     try clear c8
     try clear c9
     try clear g4
     try clear g5
     try clear e6
     try clear e1
     obtain ⟨kq,e2,rfl,HA,HJ14,a6,a0,HB⟩:=hcut;cases kq with
     | zero=>exact absurd HA.out (by simp [laws_FnExactStableRecords.j0])
     | succ b6=>
      have H:=HA.out;clear HA;simp only [laws_FnExactStableRecords.j0] at H;by_cases h4:e2=true
      ·
       subst h4;replace H:=zzIt H;obtain rfl:=Option.some.inj H;go_wp2;go_ret;exact ⟨zzR,zzh1⟩
      ·
       replace h4:=Bool.eq_false_iff.mpr h4;subst h4;replace H:=zzIf H;replace H:=zzH H;obtain ⟨⟨d6,b3⟩,j8,H⟩:=H;replace H:((Qj.f b6 b3 1).bind fun d2=>(if d2 < 0 then (some false) else (if d2=d6 then ((Qh.f b6 l0).bind fun d0=>((Qe.f b6 d0).bind fun d1=>((Qf.f b6 d1 b5).bind fun h1=>(if h1=true then ((Qj.f b6 b3 1).bind fun d7=>(if d7 < 0 then (some false) else (if d7=d6 then (some true) else (some false)))) else (some false))))) else (some false))))=some r:=H;have e7:=zzm j8;clear j8;obtain ⟨d2,e8,H⟩:=zzG H;by_cases e9:d2 < 0
       ·
        rw [if_pos e9] at H;have k2:decide (d2 < 0)=true:=decide_eq_true e9;clear e9;obtain rfl:=Option.some.inj H;go_wp2_with (first|((with_reducible refine gate_callee (f:=11) rfl ?_);refine goesL_ (some 45) rfl rfl Try.func11 (by kernel_rfl) rfl #[.slice b7 b0.length b8,.int .i64 1] rfl zzM2 ?_;(with_reducible refine (Q2.calls (fun k_=>B2≤k_) (.slice b7 b0.length b8) b0 1 d6 b3 w _ ?side1 ?side2 e7.out).mono ?_);(case side1=>repeat (first|(with_reducible first|exact HB.out|apply zza|apply zzb|apply zzc)|exact HB.out));(case side2=>exact a0.out);rintro e q9 ⟨rfl,hy0,hb,hkp⟩;refine ⟨_,rfl,?_⟩;have a1:=zzm (Kd.S_mono (Kd.S_keptB a6.out hkp (fun k_ hk_ hs_=>absurd hs_ (Nat.not_le.mpr hk_.2))) (fun k_ hk_=>hk_.1));have a2:=zzm hy0;have a5:=zzm (hb);clear a6 a0 HB;have a6:=a1;have a0:=a2;have HB:=a5;clear a1 a2 a5;(try clear hb);(try clear hkp);(try clear hy0))|((with_reducible refine gate_callee (f:=12) rfl ?_);refine goesL_ (some 48) rfl rfl Try.func12 (by kernel_rfl) rfl #[.slice b7 b3.length b8,.int .i64 1] rfl (by (try simp only [map_toArray,map_cons,map_nil]);first|done|(rw [show b3.length=b0.length from (A_reads' a0.out).1.symm] <;> rfl)|rfl|(simp only [length_drop,length_take];rfl)) ?_;(with_reducible refine (Qj.calls b6 _ _ b3 1 d2 _ ?side1 ?side2 e8.out).mono ?_);(case side1=>repeat (first|exact (A_reads' a0.out).2.2|(with_reducible refine Kd.C_alloc ?_ _)|(with_reducible refine Kd.C_drewN ?_ _)|(with_reducible refine Kd.C_drew ?_)));(case side2=>rw [show b3.length=b0.length from (A_reads' a0.out).1.symm];exact (A_reads' a0.out).2.1);rintro e w' ⟨rfl,⟨nd,rfl⟩⟩;refine ⟨_,rfl,?_⟩));go_ret;exact ⟨zzR,zzh1⟩
       ·
        rw [if_neg e9] at H;have k2:decide (d2 < 0)=false:=decide_eq_false e9;clear e9;by_cases g6:d2=d6
        ·
         rw [if_pos g6] at H;obtain ⟨k3,k4⟩:=zzQ g6;clear g6;obtain ⟨d0,h5,H⟩:=zzG H;obtain ⟨d1,h6,H⟩:=zzG H;obtain ⟨h1,h7,H⟩:=zzG H;by_cases h8:h1=true
         ·
          subst h8;replace H:=zzIt H;obtain ⟨d7,j9,H⟩:=zzG H;by_cases g0:d7 < 0
          ·
           rw [if_pos g0] at H;have k5:decide (d7 < 0)=true:=decide_eq_true g0;clear g0;obtain rfl:=Option.some.inj H;go_wp2_with (first|((with_reducible refine gate_callee (f:=11) rfl ?_);refine goesL_ (some 45) rfl rfl Try.func11 (by kernel_rfl) rfl #[.slice b7 b0.length b8,.int .i64 1] rfl zzM2 ?_;(with_reducible refine (Q2.calls (fun k_=>B2≤k_) (.slice b7 b0.length b8) b0 1 d6 b3 w _ ?side1 ?side2 e7.out).mono ?_);(case side1=>repeat (first|(with_reducible first|exact HB.out|apply zza|apply zzb|apply zzc)|exact HB.out));(case side2=>exact a0.out);rintro e r0 ⟨rfl,hy0,hb,hkp⟩;refine ⟨_,rfl,?_⟩;have a1:=zzm (Kd.S_mono (Kd.S_keptB a6.out hkp (fun k_ hk_ hs_=>absurd hs_ (Nat.not_le.mpr hk_.2))) (fun k_ hk_=>hk_.1));have a2:=zzm hy0;have a5:=zzm (hb);clear a6 a0 HB;have a6:=a1;have a0:=a2;have HB:=a5;clear a1 a2 a5;(try clear hb);(try clear hkp);(try clear hy0))|((with_reducible refine gate_callee (f:=12) rfl ?_);refine goesL_ (some 48) rfl rfl Try.func12 (by kernel_rfl) rfl #[.slice b7 b3.length b8,.int .i64 1] rfl (by (try simp only [map_toArray,map_cons,map_nil]);first|done|(rw [show b3.length=b0.length from (A_reads' a0.out).1.symm] <;> rfl)|rfl|(simp only [length_drop,length_take];rfl)) ?_;(with_reducible refine (Qj.calls b6 _ _ b3 1 d2 _ ?side1 ?side2 e8.out).mono ?_);(case side1=>repeat (first|exact (A_reads' a0.out).2.2|(with_reducible refine Kd.C_alloc ?_ _)|(with_reducible refine Kd.C_drewN ?_ _)|(with_reducible refine Kd.C_drew ?_)));(case side2=>rw [show b3.length=b0.length from (A_reads' a0.out).1.symm];exact (A_reads' a0.out).2.1);rintro e w' ⟨rfl,⟨nd,rfl⟩⟩;refine ⟨_,rfl,?_⟩)|((with_reducible refine gate_callee (f:=6) rfl ?_);refine goesL_ (some 55) rfl rfl Try.func6 (by kernel_rfl) rfl #[.slice A0 l0.length c0] rfl zzM2 ?_;(with_reducible refine (Qh.calls b6 _ _ l0 d0 _ ?side1 ?side2 h5.out).mono ?_);(case side1=>repeat (first|exact (Kd.C_below d3.out zzh1)|(with_reducible refine Kd.C_alloc ?_ _)|(with_reducible refine Kd.C_drewN ?_ _)|(with_reducible refine Kd.C_drew ?_)));(case side2=>exact d4.out);rintro e r1 ⟨h2,rfl,ho0,hb⟩;refine ⟨_,rfl,?_⟩;have a1:=zzm (Kd.S_below (zzS a6.out) hb);have a2:=zzm (Kd.S_below (zzS a0.out) hb);have a5:=zzm (Kd.R_lower (Kd.R_new' (Kd.R_new' ho0 (Kd.S_lt (zzS a6.out))) (Kd.S_lt (zzS a0.out))) (zzo zzh1));have a8:=zzm (zzp zzh1 hb);clear a6 a0 HB;have a6:=a1;have a0:=a2;have b1:=a5;have HB:=a8;clear a1 a2 a5 a8;(try clear hb);(try clear hb2);(try clear hk);(try clear hi);(try clear ho0);obtain ⟨m4,m5,eo47⟩:=Kd.R_slice b1.out;subst eo47)|((with_reducible refine gate_callee (f:=7) rfl ?_);refine goesL_ (some 56) rfl rfl Try.func7 (by kernel_rfl) rfl #[.slice m4 d0.length m5] rfl zzM2 ?_;(with_reducible refine (Qe.calls b6 _ _ d0 d1 _ ?side1 ?side2 h6.out).mono ?_);(case side1=>repeat (first|exact (Kd.R_reads' b1.out).2.2|(with_reducible refine Kd.C_alloc ?_ _)|(with_reducible refine Kd.C_drewN ?_ _)|(with_reducible refine Kd.C_drew ?_)));(case side2=>exact (Kd.R_reads' b1.out).2.1);rintro e r2 ⟨h3,rfl,ho0,hb⟩;replace ho0:=S_weakA ho0;refine ⟨_,rfl,?_⟩;have a1:=zzm (Kd.S_elder' (zzS a6.out) (Kd.S_base ho0) hb);have a2:=zzm (Kd.S_elder' (zzS a0.out) (Kd.S_base ho0) hb);have a5:=zzm (Kd.R_elder' (by (with_reducible repeat (first|apply Kd.R_alloc|apply Kd.R_drewN|apply Kd.R_drew));exact b1.out) (Kd.S_base ho0) hb);have a8:=zzm (Kd.S_lower (Kd.S_new' (Kd.S_new' ho0 (Kd.S_lt (zzS a6.out))) (Kd.S_lt (zzS a0.out))) (zzo zzh1));have b2:=zzm (zzp zzh1 hb);clear a6 a0 b1 HB;have a6:=a1;have a0:=a2;have b1:=a5;have b4:=a8;have HB:=b2;clear a1 a2 a5 a8 b2;(try clear hb);(try clear hb2);(try clear hk);(try clear hi);(try clear ho0);obtain ⟨m6,m7,eo49⟩:=Kd.S_slice b4.out;subst eo49)|((with_reducible refine gate_callee (f:=8) rfl ?_);refine goesL_ (some 59) rfl rfl Try.func8 (by kernel_rfl) rfl #[.slice m6 d1.length m7,.slice e4 b5.length e5] rfl zzM2 ?_;(with_reducible refine (Qf.calls b6 _ _ d1 _ _ b5 true _ ?side1 ?side2 ?side3 ?side4 h7.out).mono ?_);(case side1=>repeat (first|exact (Kd.S_reads' b4.out).2.2|(with_reducible refine Kd.C_alloc ?_ _)|(with_reducible refine Kd.C_drewN ?_ _)|(with_reducible refine Kd.C_drew ?_)));(case side2=>exact (Kd.S_reads' b4.out).2.1);(case side3=>repeat (first|exact (Kd.S_reads' a6.out).2.2|(with_reducible refine Kd.C_alloc ?_ _)|(with_reducible refine Kd.C_drewN ?_ _)|(with_reducible refine Kd.C_drew ?_)));(case side4=>exact (Kd.S_reads' a6.out).2.1);rintro e r3 ⟨rfl,hb⟩;refine ⟨_,rfl,?_⟩;have a1:=zzm (Kd.S_below (zzS a6.out) hb);have a2:=zzm (Kd.S_below (zzS a0.out) hb);have a5:=zzm (Kd.R_below (by (with_reducible repeat (first|apply Kd.R_alloc|apply Kd.R_drewN|apply Kd.R_drew));exact b1.out) hb);have a8:=zzm (Kd.S_below (zzS b4.out) hb);have b2:=zzm (zzp zzh1 hb);clear a6 a0 b1 b4 HB;have a6:=a1;have a0:=a2;have b1:=a5;have b4:=a8;have HB:=b2;clear a1 a2 a5 a8 b2;(try clear hb);(try clear hb2);(try clear hk);(try clear hi))|((with_reducible refine gate_callee (f:=12) rfl ?_);refine goesL_ (some 63) rfl rfl Try.func12 (by kernel_rfl) rfl #[.slice b7 b3.length b8,.int .i64 1] rfl (by (try simp only [map_toArray,map_cons,map_nil]);first|done|(rw [show b3.length=b0.length from (A_reads' a0.out).1.symm] <;> rfl)|rfl|(simp only [length_drop,length_take];rfl)) ?_;(with_reducible refine (Qj.calls b6 _ _ b3 1 d7 _ ?side1 ?side2 j9.out).mono ?_);(case side1=>repeat (first|exact (A_reads' a0.out).2.2|(with_reducible refine Kd.C_alloc ?_ _)|(with_reducible refine Kd.C_drewN ?_ _)|(with_reducible refine Kd.C_drew ?_)));(case side2=>rw [show b3.length=b0.length from (A_reads' a0.out).1.symm];exact (A_reads' a0.out).2.1);rintro e w' ⟨rfl,⟨nd,rfl⟩⟩;refine ⟨_,rfl,?_⟩));go_ret;exact ⟨zzR,zzh1⟩
          ·
           rw [if_neg g0] at H;have k5:decide (d7 < 0)=false:=decide_eq_false g0;clear g0;by_cases g7:d7=d6
           ·
            rw [if_pos g7] at H;obtain ⟨k6,k7⟩:=zzQ g7;clear g7;obtain rfl:=Option.some.inj H;go_wp2_with (first|((with_reducible refine gate_callee (f:=11) rfl ?_);refine goesL_ (some 45) rfl rfl Try.func11 (by kernel_rfl) rfl #[.slice b7 b0.length b8,.int .i64 1] rfl zzM2 ?_;(with_reducible refine (Q2.calls (fun k_=>B2≤k_) (.slice b7 b0.length b8) b0 1 d6 b3 w _ ?side1 ?side2 e7.out).mono ?_);(case side1=>repeat (first|(with_reducible first|exact HB.out|apply zza|apply zzb|apply zzc)|exact HB.out));(case side2=>exact a0.out);rintro e r4 ⟨rfl,hy0,hb,hkp⟩;refine ⟨_,rfl,?_⟩;have a1:=zzm (Kd.S_mono (Kd.S_keptB a6.out hkp (fun k_ hk_ hs_=>absurd hs_ (Nat.not_le.mpr hk_.2))) (fun k_ hk_=>hk_.1));have a2:=zzm hy0;have a5:=zzm (hb);clear a6 a0 HB;have a6:=a1;have a0:=a2;have HB:=a5;clear a1 a2 a5;(try clear hb);(try clear hkp);(try clear hy0))|((with_reducible refine gate_callee (f:=12) rfl ?_);refine goesL_ (some 48) rfl rfl Try.func12 (by kernel_rfl) rfl #[.slice b7 b3.length b8,.int .i64 1] rfl (by (try simp only [map_toArray,map_cons,map_nil]);first|done|(rw [show b3.length=b0.length from (A_reads' a0.out).1.symm] <;> rfl)|rfl|(simp only [length_drop,length_take];rfl)) ?_;(with_reducible refine (Qj.calls b6 _ _ b3 1 d2 _ ?side1 ?side2 e8.out).mono ?_);(case side1=>repeat (first|exact (A_reads' a0.out).2.2|(with_reducible refine Kd.C_alloc ?_ _)|(with_reducible refine Kd.C_drewN ?_ _)|(with_reducible refine Kd.C_drew ?_)));(case side2=>rw [show b3.length=b0.length from (A_reads' a0.out).1.symm];exact (A_reads' a0.out).2.1);rintro e w' ⟨rfl,⟨nd,rfl⟩⟩;refine ⟨_,rfl,?_⟩)|((with_reducible refine gate_callee (f:=6) rfl ?_);refine goesL_ (some 55) rfl rfl Try.func6 (by kernel_rfl) rfl #[.slice A0 l0.length c0] rfl zzM2 ?_;(with_reducible refine (Qh.calls b6 _ _ l0 d0 _ ?side1 ?side2 h5.out).mono ?_);(case side1=>repeat (first|exact (Kd.C_below d3.out zzh1)|(with_reducible refine Kd.C_alloc ?_ _)|(with_reducible refine Kd.C_drewN ?_ _)|(with_reducible refine Kd.C_drew ?_)));(case side2=>exact d4.out);rintro e r5 ⟨h2,rfl,ho0,hb⟩;refine ⟨_,rfl,?_⟩;have a1:=zzm (Kd.S_below (zzS a6.out) hb);have a2:=zzm (Kd.S_below (zzS a0.out) hb);have a5:=zzm (Kd.R_lower (Kd.R_new' (Kd.R_new' ho0 (Kd.S_lt (zzS a6.out))) (Kd.S_lt (zzS a0.out))) (zzo zzh1));have a8:=zzm (zzp zzh1 hb);clear a6 a0 HB;have a6:=a1;have a0:=a2;have b1:=a5;have HB:=a8;clear a1 a2 a5 a8;(try clear hb);(try clear hb2);(try clear hk);(try clear hi);(try clear ho0);obtain ⟨m8,m9,eo54⟩:=Kd.R_slice b1.out;subst eo54)|((with_reducible refine gate_callee (f:=7) rfl ?_);refine goesL_ (some 56) rfl rfl Try.func7 (by kernel_rfl) rfl #[.slice m8 d0.length m9] rfl zzM2 ?_;(with_reducible refine (Qe.calls b6 _ _ d0 d1 _ ?side1 ?side2 h6.out).mono ?_);(case side1=>repeat (first|exact (Kd.R_reads' b1.out).2.2|(with_reducible refine Kd.C_alloc ?_ _)|(with_reducible refine Kd.C_drewN ?_ _)|(with_reducible refine Kd.C_drew ?_)));(case side2=>exact (Kd.R_reads' b1.out).2.1);rintro e r6 ⟨h3,rfl,ho0,hb⟩;replace ho0:=S_weakA ho0;refine ⟨_,rfl,?_⟩;have a1:=zzm (Kd.S_elder' (zzS a6.out) (Kd.S_base ho0) hb);have a2:=zzm (Kd.S_elder' (zzS a0.out) (Kd.S_base ho0) hb);have a5:=zzm (Kd.R_elder' (by (with_reducible repeat (first|apply Kd.R_alloc|apply Kd.R_drewN|apply Kd.R_drew));exact b1.out) (Kd.S_base ho0) hb);have a8:=zzm (Kd.S_lower (Kd.S_new' (Kd.S_new' ho0 (Kd.S_lt (zzS a6.out))) (Kd.S_lt (zzS a0.out))) (zzo zzh1));have b2:=zzm (zzp zzh1 hb);clear a6 a0 b1 HB;have a6:=a1;have a0:=a2;have b1:=a5;have b4:=a8;have HB:=b2;clear a1 a2 a5 a8 b2;(try clear hb);(try clear hb2);(try clear hk);(try clear hi);(try clear ho0);obtain ⟨n0,n1,eo56⟩:=Kd.S_slice b4.out;subst eo56)|((with_reducible refine gate_callee (f:=8) rfl ?_);refine goesL_ (some 59) rfl rfl Try.func8 (by kernel_rfl) rfl #[.slice n0 d1.length n1,.slice e4 b5.length e5] rfl zzM2 ?_;(with_reducible refine (Qf.calls b6 _ _ d1 _ _ b5 true _ ?side1 ?side2 ?side3 ?side4 h7.out).mono ?_);(case side1=>repeat (first|exact (Kd.S_reads' b4.out).2.2|(with_reducible refine Kd.C_alloc ?_ _)|(with_reducible refine Kd.C_drewN ?_ _)|(with_reducible refine Kd.C_drew ?_)));(case side2=>exact (Kd.S_reads' b4.out).2.1);(case side3=>repeat (first|exact (Kd.S_reads' a6.out).2.2|(with_reducible refine Kd.C_alloc ?_ _)|(with_reducible refine Kd.C_drewN ?_ _)|(with_reducible refine Kd.C_drew ?_)));(case side4=>exact (Kd.S_reads' a6.out).2.1);rintro e r7 ⟨rfl,hb⟩;refine ⟨_,rfl,?_⟩;have a1:=zzm (Kd.S_below (zzS a6.out) hb);have a2:=zzm (Kd.S_below (zzS a0.out) hb);have a5:=zzm (Kd.R_below (by (with_reducible repeat (first|apply Kd.R_alloc|apply Kd.R_drewN|apply Kd.R_drew));exact b1.out) hb);have a8:=zzm (Kd.S_below (zzS b4.out) hb);have b2:=zzm (zzp zzh1 hb);clear a6 a0 b1 b4 HB;have a6:=a1;have a0:=a2;have b1:=a5;have b4:=a8;have HB:=b2;clear a1 a2 a5 a8 b2;(try clear hb);(try clear hb2);(try clear hk);(try clear hi))|((with_reducible refine gate_callee (f:=12) rfl ?_);refine goesL_ (some 63) rfl rfl Try.func12 (by kernel_rfl) rfl #[.slice b7 b3.length b8,.int .i64 1] rfl (by (try simp only [map_toArray,map_cons,map_nil]);first|done|(rw [show b3.length=b0.length from (A_reads' a0.out).1.symm] <;> rfl)|rfl|(simp only [length_drop,length_take];rfl)) ?_;(with_reducible refine (Qj.calls b6 _ _ b3 1 d7 _ ?side1 ?side2 j9.out).mono ?_);(case side1=>repeat (first|exact (A_reads' a0.out).2.2|(with_reducible refine Kd.C_alloc ?_ _)|(with_reducible refine Kd.C_drewN ?_ _)|(with_reducible refine Kd.C_drew ?_)));(case side2=>rw [show b3.length=b0.length from (A_reads' a0.out).1.symm];exact (A_reads' a0.out).2.1);rintro e w' ⟨rfl,⟨nd,rfl⟩⟩;refine ⟨_,rfl,?_⟩));go_ret;exact ⟨zzR,zzh1⟩
           ·
            rw [if_neg g7] at H;obtain ⟨k6,k7⟩:=zzY g7;obtain rfl:=Option.some.inj H;go_wp2_with (first|((with_reducible refine gate_callee (f:=11) rfl ?_);refine goesL_ (some 45) rfl rfl Try.func11 (by kernel_rfl) rfl #[.slice b7 b0.length b8,.int .i64 1] rfl zzM2 ?_;(with_reducible refine (Q2.calls (fun k_=>B2≤k_) (.slice b7 b0.length b8) b0 1 d6 b3 w _ ?side1 ?side2 e7.out).mono ?_);(case side1=>repeat (first|(with_reducible first|exact HB.out|apply zza|apply zzb|apply zzc)|exact HB.out));(case side2=>exact a0.out);rintro e r8 ⟨rfl,hy0,hb,hkp⟩;refine ⟨_,rfl,?_⟩;have a1:=zzm (Kd.S_mono (Kd.S_keptB a6.out hkp (fun k_ hk_ hs_=>absurd hs_ (Nat.not_le.mpr hk_.2))) (fun k_ hk_=>hk_.1));have a2:=zzm hy0;have a5:=zzm (hb);clear a6 a0 HB;have a6:=a1;have a0:=a2;have HB:=a5;clear a1 a2 a5;(try clear hb);(try clear hkp);(try clear hy0))|((with_reducible refine gate_callee (f:=12) rfl ?_);refine goesL_ (some 48) rfl rfl Try.func12 (by kernel_rfl) rfl #[.slice b7 b3.length b8,.int .i64 1] rfl (by (try simp only [map_toArray,map_cons,map_nil]);first|done|(rw [show b3.length=b0.length from (A_reads' a0.out).1.symm] <;> rfl)|rfl|(simp only [length_drop,length_take];rfl)) ?_;(with_reducible refine (Qj.calls b6 _ _ b3 1 d2 _ ?side1 ?side2 e8.out).mono ?_);(case side1=>repeat (first|exact (A_reads' a0.out).2.2|(with_reducible refine Kd.C_alloc ?_ _)|(with_reducible refine Kd.C_drewN ?_ _)|(with_reducible refine Kd.C_drew ?_)));(case side2=>rw [show b3.length=b0.length from (A_reads' a0.out).1.symm];exact (A_reads' a0.out).2.1);rintro e w' ⟨rfl,⟨nd,rfl⟩⟩;refine ⟨_,rfl,?_⟩)|((with_reducible refine gate_callee (f:=6) rfl ?_);refine goesL_ (some 55) rfl rfl Try.func6 (by kernel_rfl) rfl #[.slice A0 l0.length c0] rfl zzM2 ?_;(with_reducible refine (Qh.calls b6 _ _ l0 d0 _ ?side1 ?side2 h5.out).mono ?_);(case side1=>repeat (first|exact (Kd.C_below d3.out zzh1)|(with_reducible refine Kd.C_alloc ?_ _)|(with_reducible refine Kd.C_drewN ?_ _)|(with_reducible refine Kd.C_drew ?_)));(case side2=>exact d4.out);rintro e r9 ⟨h2,rfl,ho0,hb⟩;refine ⟨_,rfl,?_⟩;have a1:=zzm (Kd.S_below (zzS a6.out) hb);have a2:=zzm (Kd.S_below (zzS a0.out) hb);have a5:=zzm (Kd.R_lower (Kd.R_new' (Kd.R_new' ho0 (Kd.S_lt (zzS a6.out))) (Kd.S_lt (zzS a0.out))) (zzo zzh1));have a8:=zzm (zzp zzh1 hb);clear a6 a0 HB;have a6:=a1;have a0:=a2;have b1:=a5;have HB:=a8;clear a1 a2 a5 a8;(try clear hb);(try clear hb2);(try clear hk);(try clear hi);(try clear ho0);obtain ⟨n2,n3,eo60⟩:=Kd.R_slice b1.out;subst eo60)|((with_reducible refine gate_callee (f:=7) rfl ?_);refine goesL_ (some 56) rfl rfl Try.func7 (by kernel_rfl) rfl #[.slice n2 d0.length n3] rfl zzM2 ?_;(with_reducible refine (Qe.calls b6 _ _ d0 d1 _ ?side1 ?side2 h6.out).mono ?_);(case side1=>repeat (first|exact (Kd.R_reads' b1.out).2.2|(with_reducible refine Kd.C_alloc ?_ _)|(with_reducible refine Kd.C_drewN ?_ _)|(with_reducible refine Kd.C_drew ?_)));(case side2=>exact (Kd.R_reads' b1.out).2.1);rintro e s0 ⟨h3,rfl,ho0,hb⟩;replace ho0:=S_weakA ho0;refine ⟨_,rfl,?_⟩;have a1:=zzm (Kd.S_elder' (zzS a6.out) (Kd.S_base ho0) hb);have a2:=zzm (Kd.S_elder' (zzS a0.out) (Kd.S_base ho0) hb);have a5:=zzm (Kd.R_elder' (by (with_reducible repeat (first|apply Kd.R_alloc|apply Kd.R_drewN|apply Kd.R_drew));exact b1.out) (Kd.S_base ho0) hb);have a8:=zzm (Kd.S_lower (Kd.S_new' (Kd.S_new' ho0 (Kd.S_lt (zzS a6.out))) (Kd.S_lt (zzS a0.out))) (zzo zzh1));have b2:=zzm (zzp zzh1 hb);clear a6 a0 b1 HB;have a6:=a1;have a0:=a2;have b1:=a5;have b4:=a8;have HB:=b2;clear a1 a2 a5 a8 b2;(try clear hb);(try clear hb2);(try clear hk);(try clear hi);(try clear ho0);obtain ⟨n4,n5,eo62⟩:=Kd.S_slice b4.out;subst eo62)|((with_reducible refine gate_callee (f:=8) rfl ?_);refine goesL_ (some 59) rfl rfl Try.func8 (by kernel_rfl) rfl #[.slice n4 d1.length n5,.slice e4 b5.length e5] rfl zzM2 ?_;(with_reducible refine (Qf.calls b6 _ _ d1 _ _ b5 true _ ?side1 ?side2 ?side3 ?side4 h7.out).mono ?_);(case side1=>repeat (first|exact (Kd.S_reads' b4.out).2.2|(with_reducible refine Kd.C_alloc ?_ _)|(with_reducible refine Kd.C_drewN ?_ _)|(with_reducible refine Kd.C_drew ?_)));(case side2=>exact (Kd.S_reads' b4.out).2.1);(case side3=>repeat (first|exact (Kd.S_reads' a6.out).2.2|(with_reducible refine Kd.C_alloc ?_ _)|(with_reducible refine Kd.C_drewN ?_ _)|(with_reducible refine Kd.C_drew ?_)));(case side4=>exact (Kd.S_reads' a6.out).2.1);rintro e s1 ⟨rfl,hb⟩;refine ⟨_,rfl,?_⟩;have a1:=zzm (Kd.S_below (zzS a6.out) hb);have a2:=zzm (Kd.S_below (zzS a0.out) hb);have a5:=zzm (Kd.R_below (by (with_reducible repeat (first|apply Kd.R_alloc|apply Kd.R_drewN|apply Kd.R_drew));exact b1.out) hb);have a8:=zzm (Kd.S_below (zzS b4.out) hb);have b2:=zzm (zzp zzh1 hb);clear a6 a0 b1 b4 HB;have a6:=a1;have a0:=a2;have b1:=a5;have b4:=a8;have HB:=b2;clear a1 a2 a5 a8 b2;(try clear hb);(try clear hb2);(try clear hk);(try clear hi))|((with_reducible refine gate_callee (f:=12) rfl ?_);refine goesL_ (some 63) rfl rfl Try.func12 (by kernel_rfl) rfl #[.slice b7 b3.length b8,.int .i64 1] rfl (by (try simp only [map_toArray,map_cons,map_nil]);first|done|(rw [show b3.length=b0.length from (A_reads' a0.out).1.symm] <;> rfl)|rfl|(simp only [length_drop,length_take];rfl)) ?_;(with_reducible refine (Qj.calls b6 _ _ b3 1 d7 _ ?side1 ?side2 j9.out).mono ?_);(case side1=>repeat (first|exact (A_reads' a0.out).2.2|(with_reducible refine Kd.C_alloc ?_ _)|(with_reducible refine Kd.C_drewN ?_ _)|(with_reducible refine Kd.C_drew ?_)));(case side2=>rw [show b3.length=b0.length from (A_reads' a0.out).1.symm];exact (A_reads' a0.out).2.1);rintro e w' ⟨rfl,⟨nd,rfl⟩⟩;refine ⟨_,rfl,?_⟩));go_ret;exact ⟨zzR,zzh1⟩
         ·
          replace h8:=Bool.eq_false_iff.mpr h8;subst h8;replace H:=zzIf H;obtain rfl:=Option.some.inj H;go_wp2_with (first|((with_reducible refine gate_callee (f:=11) rfl ?_);refine goesL_ (some 45) rfl rfl Try.func11 (by kernel_rfl) rfl #[.slice b7 b0.length b8,.int .i64 1] rfl zzM2 ?_;(with_reducible refine (Q2.calls (fun k_=>B2≤k_) (.slice b7 b0.length b8) b0 1 d6 b3 w _ ?side1 ?side2 e7.out).mono ?_);(case side1=>repeat (first|(with_reducible first|exact HB.out|apply zza|apply zzb|apply zzc)|exact HB.out));(case side2=>exact a0.out);rintro e s2 ⟨rfl,hy0,hb,hkp⟩;refine ⟨_,rfl,?_⟩;have a1:=zzm (Kd.S_mono (Kd.S_keptB a6.out hkp (fun k_ hk_ hs_=>absurd hs_ (Nat.not_le.mpr hk_.2))) (fun k_ hk_=>hk_.1));have a2:=zzm hy0;have a5:=zzm (hb);clear a6 a0 HB;have a6:=a1;have a0:=a2;have HB:=a5;clear a1 a2 a5;(try clear hb);(try clear hkp);(try clear hy0))|((with_reducible refine gate_callee (f:=12) rfl ?_);refine goesL_ (some 48) rfl rfl Try.func12 (by kernel_rfl) rfl #[.slice b7 b3.length b8,.int .i64 1] rfl (by (try simp only [map_toArray,map_cons,map_nil]);first|done|(rw [show b3.length=b0.length from (A_reads' a0.out).1.symm] <;> rfl)|rfl|(simp only [length_drop,length_take];rfl)) ?_;(with_reducible refine (Qj.calls b6 _ _ b3 1 d2 _ ?side1 ?side2 e8.out).mono ?_);(case side1=>repeat (first|exact (A_reads' a0.out).2.2|(with_reducible refine Kd.C_alloc ?_ _)|(with_reducible refine Kd.C_drewN ?_ _)|(with_reducible refine Kd.C_drew ?_)));(case side2=>rw [show b3.length=b0.length from (A_reads' a0.out).1.symm];exact (A_reads' a0.out).2.1);rintro e w' ⟨rfl,⟨nd,rfl⟩⟩;refine ⟨_,rfl,?_⟩)|((with_reducible refine gate_callee (f:=6) rfl ?_);refine goesL_ (some 55) rfl rfl Try.func6 (by kernel_rfl) rfl #[.slice A0 l0.length c0] rfl zzM2 ?_;(with_reducible refine (Qh.calls b6 _ _ l0 d0 _ ?side1 ?side2 h5.out).mono ?_);(case side1=>repeat (first|exact (Kd.C_below d3.out zzh1)|(with_reducible refine Kd.C_alloc ?_ _)|(with_reducible refine Kd.C_drewN ?_ _)|(with_reducible refine Kd.C_drew ?_)));(case side2=>exact d4.out);rintro e s3 ⟨h2,rfl,ho0,hb⟩;refine ⟨_,rfl,?_⟩;have a1:=zzm (Kd.S_below (zzS a6.out) hb);have a2:=zzm (Kd.S_below (zzS a0.out) hb);have a5:=zzm (Kd.R_lower (Kd.R_new' (Kd.R_new' ho0 (Kd.S_lt (zzS a6.out))) (Kd.S_lt (zzS a0.out))) (zzo zzh1));have a8:=zzm (zzp zzh1 hb);clear a6 a0 HB;have a6:=a1;have a0:=a2;have b1:=a5;have HB:=a8;clear a1 a2 a5 a8;(try clear hb);(try clear hb2);(try clear hk);(try clear hi);(try clear ho0);obtain ⟨n6,n7,eo66⟩:=Kd.R_slice b1.out;subst eo66)|((with_reducible refine gate_callee (f:=7) rfl ?_);refine goesL_ (some 56) rfl rfl Try.func7 (by kernel_rfl) rfl #[.slice n6 d0.length n7] rfl zzM2 ?_;(with_reducible refine (Qe.calls b6 _ _ d0 d1 _ ?side1 ?side2 h6.out).mono ?_);(case side1=>repeat (first|exact (Kd.R_reads' b1.out).2.2|(with_reducible refine Kd.C_alloc ?_ _)|(with_reducible refine Kd.C_drewN ?_ _)|(with_reducible refine Kd.C_drew ?_)));(case side2=>exact (Kd.R_reads' b1.out).2.1);rintro e s4 ⟨h3,rfl,ho0,hb⟩;replace ho0:=S_weakA ho0;refine ⟨_,rfl,?_⟩;have a1:=zzm (Kd.S_elder' (zzS a6.out) (Kd.S_base ho0) hb);have a2:=zzm (Kd.S_elder' (zzS a0.out) (Kd.S_base ho0) hb);have a5:=zzm (Kd.R_elder' (by (with_reducible repeat (first|apply Kd.R_alloc|apply Kd.R_drewN|apply Kd.R_drew));exact b1.out) (Kd.S_base ho0) hb);have a8:=zzm (Kd.S_lower (Kd.S_new' (Kd.S_new' ho0 (Kd.S_lt (zzS a6.out))) (Kd.S_lt (zzS a0.out))) (zzo zzh1));have b2:=zzm (zzp zzh1 hb);clear a6 a0 b1 HB;have a6:=a1;have a0:=a2;have b1:=a5;have b4:=a8;have HB:=b2;clear a1 a2 a5 a8 b2;(try clear hb);(try clear hb2);(try clear hk);(try clear hi);(try clear ho0);obtain ⟨n8,n9,eo68⟩:=Kd.S_slice b4.out;subst eo68)|((with_reducible refine gate_callee (f:=8) rfl ?_);refine goesL_ (some 59) rfl rfl Try.func8 (by kernel_rfl) rfl #[.slice n8 d1.length n9,.slice e4 b5.length e5] rfl zzM2 ?_;(with_reducible refine (Qf.calls b6 _ _ d1 _ _ b5 false _ ?side1 ?side2 ?side3 ?side4 h7.out).mono ?_);(case side1=>repeat (first|exact (Kd.S_reads' b4.out).2.2|(with_reducible refine Kd.C_alloc ?_ _)|(with_reducible refine Kd.C_drewN ?_ _)|(with_reducible refine Kd.C_drew ?_)));(case side2=>exact (Kd.S_reads' b4.out).2.1);(case side3=>repeat (first|exact (Kd.S_reads' a6.out).2.2|(with_reducible refine Kd.C_alloc ?_ _)|(with_reducible refine Kd.C_drewN ?_ _)|(with_reducible refine Kd.C_drew ?_)));(case side4=>exact (Kd.S_reads' a6.out).2.1);rintro e s5 ⟨rfl,hb⟩;refine ⟨_,rfl,?_⟩;have a1:=zzm (Kd.S_below (zzS a6.out) hb);have a2:=zzm (Kd.S_below (zzS a0.out) hb);have a5:=zzm (Kd.R_below (by (with_reducible repeat (first|apply Kd.R_alloc|apply Kd.R_drewN|apply Kd.R_drew));exact b1.out) hb);have a8:=zzm (Kd.S_below (zzS b4.out) hb);have b2:=zzm (zzp zzh1 hb);clear a6 a0 b1 b4 HB;have a6:=a1;have a0:=a2;have b1:=a5;have b4:=a8;have HB:=b2;clear a1 a2 a5 a8 b2;(try clear hb);(try clear hb2);(try clear hk);(try clear hi)));go_ret;exact ⟨zzR,zzh1⟩
        ·
         rw [if_neg g6] at H;obtain ⟨k3,k4⟩:=zzY g6;obtain rfl:=Option.some.inj H;go_wp2_with (first|((with_reducible refine gate_callee (f:=11) rfl ?_);refine goesL_ (some 45) rfl rfl Try.func11 (by kernel_rfl) rfl #[.slice b7 b0.length b8,.int .i64 1] rfl zzM2 ?_;(with_reducible refine (Q2.calls (fun k_=>B2≤k_) (.slice b7 b0.length b8) b0 1 d6 b3 w _ ?side1 ?side2 e7.out).mono ?_);(case side1=>repeat (first|(with_reducible first|exact HB.out|apply zza|apply zzb|apply zzc)|exact HB.out));(case side2=>exact a0.out);rintro e s6 ⟨rfl,hy0,hb,hkp⟩;refine ⟨_,rfl,?_⟩;have a1:=zzm (Kd.S_mono (Kd.S_keptB a6.out hkp (fun k_ hk_ hs_=>absurd hs_ (Nat.not_le.mpr hk_.2))) (fun k_ hk_=>hk_.1));have a2:=zzm hy0;have a5:=zzm (hb);clear a6 a0 HB;have a6:=a1;have a0:=a2;have HB:=a5;clear a1 a2 a5;(try clear hb);(try clear hkp);(try clear hy0))|((with_reducible refine gate_callee (f:=12) rfl ?_);refine goesL_ (some 48) rfl rfl Try.func12 (by kernel_rfl) rfl #[.slice b7 b3.length b8,.int .i64 1] rfl (by (try simp only [map_toArray,map_cons,map_nil]);first|done|(rw [show b3.length=b0.length from (A_reads' a0.out).1.symm] <;> rfl)|rfl|(simp only [length_drop,length_take];rfl)) ?_;(with_reducible refine (Qj.calls b6 _ _ b3 1 d2 _ ?side1 ?side2 e8.out).mono ?_);(case side1=>repeat (first|exact (A_reads' a0.out).2.2|(with_reducible refine Kd.C_alloc ?_ _)|(with_reducible refine Kd.C_drewN ?_ _)|(with_reducible refine Kd.C_drew ?_)));(case side2=>rw [show b3.length=b0.length from (A_reads' a0.out).1.symm];exact (A_reads' a0.out).2.1);rintro e w' ⟨rfl,⟨nd,rfl⟩⟩;refine ⟨_,rfl,?_⟩));go_ret;exact ⟨zzR,zzh1⟩
   ·
    replace g5:=Bool.eq_false_iff.mpr g5;subst g5;replace H:=zzIf H;obtain rfl:=Option.some.inj H;go_enter Try.func3,Try.ntmps3;go_wp2_with (first|((with_reducible refine gate_callee (f:=4) rfl ?_);refine goesL_ (some 13) rfl rfl Try.func4 (by kernel_rfl) rfl #[.slice A0 l0.length c0,.int .i64 1048576] rfl zzM2 ?_;(with_reducible refine (Qv.calls k _ _ l0 1048576 d8 _ ?side1 ?side2 A2.out).mono ?_);(case side1=>repeat (first|exact d3.out|(with_reducible refine Kd.C_alloc ?_ _)|(with_reducible refine Kd.C_drewN ?_ _)|(with_reducible refine Kd.C_drew ?_)));(case side2=>exact d4.out);rintro e s7 ⟨rfl,hb⟩;refine ⟨_,rfl,?_⟩;have a1:=zzm (zzp zzh1 hb);clear HB;have HB:=a1;clear a1;(try clear hb);(try clear hb2);(try clear hk);(try clear hi))|((with_reducible refine gate_callee (f:=6) rfl ?_);refine goesL_ (some 17) rfl rfl Try.func6 (by kernel_rfl) rfl #[.slice A0 l0.length c0] rfl zzM2 ?_;(with_reducible refine (Qh.calls k _ _ l0 d5 _ ?side1 ?side2 A5.out).mono ?_);(case side1=>exact zzcb d3 HB);(case side2=>exact d4.out);rintro e s8 ⟨j4,rfl,ho0,hb⟩;refine ⟨_,rfl,?_⟩;have a1:=zzm (Kd.R_lower ho0 (zzo zzh1));have a2:=zzm (zzp zzh1 hb);clear HB;have a3:=a1;have HB:=a2;clear a1 a2;(try clear hb);(try clear hb2);(try clear hk);(try clear hi);(try clear ho0);obtain ⟨o0,o1,eo73⟩:=Kd.R_slice a3.out;subst eo73)|((with_reducible refine gate_callee (f:=5) rfl ?_);refine goesL_ (some 18) rfl rfl Try.func5 (by kernel_rfl) rfl #[.slice o0 d5.length o1] rfl zzM2 ?_;(with_reducible refine (Qc.calls k _ _ d5 b5 _ ?side1 ?side2 A6.out).mono ?_);(case side1=>repeat (first|exact (Kd.R_reads' a3.out).2.2|(with_reducible refine Kd.C_alloc ?_ _)|(with_reducible refine Kd.C_drewN ?_ _)|(with_reducible refine Kd.C_drew ?_)));(case side2=>exact (Kd.R_reads' a3.out).2.1);rintro e s9 ⟨j5,rfl,ho0,hb⟩;refine ⟨_,rfl,?_⟩;have a1:=zzm (Kd.R_elder' (by (with_reducible repeat (first|apply Kd.R_alloc|apply Kd.R_drewN|apply Kd.R_drew));exact a3.out) (Kd.S_base ho0) hb);have a2:=zzm (Kd.S_lower ho0 (zzo zzh1));have a5:=zzm (zzp zzh1 hb);clear a3 HB;have a3:=a1;have a4:=a2;have HB:=a5;clear a1 a2 a5;(try clear hb);(try clear hb2);(try clear hk);(try clear hi);(try clear ho0))|((with_reducible refine gate_callee (f:=6) rfl ?_);refine goesL_ (some 20) rfl rfl Try.func6 (by kernel_rfl) rfl #[.slice A0 l0.length c0] rfl zzM2 ?_;(with_reducible refine (Qh.calls k _ _ l0 c2 _ ?side1 ?side2 A7.out).mono ?_);(case side1=>exact zzcb d3 HB);(case side2=>exact d4.out);rintro e t0 ⟨j6,rfl,ho0,hb⟩;refine ⟨_,rfl,?_⟩;have a1:=zzm (Kd.R_elder' (by (with_reducible repeat (first|apply Kd.R_alloc|apply Kd.R_drewN|apply Kd.R_drew));exact a3.out) (Kd.R_base ho0) hb);have a2:=zzm (Kd.S_below (zzS a4.out) hb);have a5:=zzm (Kd.R_lower (Kd.R_new' (Kd.R_new' ho0 (Kd.R_lt (by (with_reducible repeat (first|apply Kd.R_alloc|apply Kd.R_drewN|apply Kd.R_drew));exact a3.out))) (Kd.S_lt (zzS a4.out))) (zzo zzh1));have a8:=zzm (zzp zzh1 hb);clear a3 a4 HB;have a3:=a1;have a4:=a2;have a7:=a5;have HB:=a8;clear a1 a2 a5 a8;(try clear hb);(try clear hb2);(try clear hk);(try clear hi);(try clear ho0);obtain ⟨k0,k1,eo76⟩:=Kd.R_slice a7.out;subst eo76)|((with_reducible refine gate_callee (f:=7) rfl ?_);refine goesL_ (some 22) rfl rfl Try.func7 (by kernel_rfl) rfl #[.slice k0 c2.length k1] rfl zzM2 ?_;(with_reducible refine (Qe.calls k _ _ c2 b0 _ ?side1 ?side2 A8.out).mono ?_);(case side1=>repeat (first|exact (Kd.R_reads' a7.out).2.2|(with_reducible refine Kd.C_alloc ?_ _)|(with_reducible refine Kd.C_drewN ?_ _)|(with_reducible refine Kd.C_drew ?_)));(case side2=>exact (Kd.R_reads' a7.out).2.1);rintro e t1 ⟨j7,rfl,ho0,hb⟩;replace ho0:=S_weakA ho0;refine ⟨_,rfl,?_⟩;have a1:=zzm (Kd.R_elder' (by (with_reducible repeat (first|apply Kd.R_alloc|apply Kd.R_drewN|apply Kd.R_drew));exact a3.out) (Kd.S_base ho0) hb);have a2:=zzm (Kd.S_elder' (zzS a4.out) (Kd.S_base ho0) hb);have a5:=zzm (Kd.R_elder' (by (with_reducible repeat (first|apply Kd.R_alloc|apply Kd.R_drewN|apply Kd.R_drew));exact a7.out) (Kd.S_base ho0) hb);have a8:=zzm (Kd.S_lower (Kd.S_new' ho0 (Kd.S_lt (zzS a4.out))) (zzo zzh1));have b2:=zzm (zzp zzh1 hb);clear a3 a4 a7 HB;have a3:=a1;have a4:=a2;have a7:=a5;have a9:=a8;have HB:=b2;clear a1 a2 a5 a8 b2;(try clear hb);(try clear hb2);(try clear hk);(try clear hi);(try clear ho0);obtain ⟨o2,o3,eo78⟩:=Kd.S_slice a9.out;subst eo78;obtain ⟨o4,o5,eo79⟩:=Kd.S_slice a4.out;subst eo79)|((with_reducible refine gate_callee (f:=8) rfl ?_);refine goesL_ (some 25) rfl rfl Try.func8 (by kernel_rfl) rfl #[.slice o2 b0.length o3,.slice o4 b5.length o5] rfl zzM2 ?_;(with_reducible refine (Qf.calls k _ _ b0 _ _ b5 true _ ?side1 ?side2 ?side3 ?side4 A9.out).mono ?_);(case side1=>repeat (first|exact (Kd.S_reads' a9.out).2.2|(with_reducible refine Kd.C_alloc ?_ _)|(with_reducible refine Kd.C_drewN ?_ _)|(with_reducible refine Kd.C_drew ?_)));(case side2=>exact (Kd.S_reads' a9.out).2.1);(case side3=>repeat (first|exact (Kd.S_reads' a4.out).2.2|(with_reducible refine Kd.C_alloc ?_ _)|(with_reducible refine Kd.C_drewN ?_ _)|(with_reducible refine Kd.C_drew ?_)));(case side4=>exact (Kd.S_reads' a4.out).2.1);rintro e t2 ⟨rfl,hb⟩;refine ⟨_,rfl,?_⟩;have a1:=zzm (Kd.R_below (by (with_reducible repeat (first|apply Kd.R_alloc|apply Kd.R_drewN|apply Kd.R_drew));exact a3.out) hb);have a2:=zzm (Kd.S_below (zzS a4.out) hb);have a5:=zzm (Kd.R_below (by (with_reducible repeat (first|apply Kd.R_alloc|apply Kd.R_drewN|apply Kd.R_drew));exact a7.out) hb);have a8:=zzm (Kd.S_below (zzS a9.out) hb);have b2:=zzm (zzp zzh1 hb);clear a3 a4 a7 a9 HB;have a3:=a1;have a4:=a2;have a7:=a5;have a9:=a8;have HB:=b2;clear a1 a2 a5 a8 b2;(try clear hb);(try clear hb2);(try clear hk);(try clear hi))|((with_reducible refine gate_callee (f:=6) rfl ?_);refine goesL_ (some 29) rfl rfl Try.func6 (by kernel_rfl) rfl #[.slice A0 l0.length c0] rfl zzM2 ?_;(with_reducible refine (Qh.calls k _ _ l0 d9 _ ?side1 ?side2 l2.out).mono ?_);(case side1=>exact zzcb d3 HB);(case side2=>exact d4.out);rintro e t3 ⟨m1,rfl,ho0,hb⟩;refine ⟨_,rfl,?_⟩;have a1:=zzm (Kd.R_elder' (by (with_reducible repeat (first|apply Kd.R_alloc|apply Kd.R_drewN|apply Kd.R_drew));exact a3.out) (Kd.R_base ho0) hb);have a2:=zzm (Kd.S_below (zzS a4.out) hb);have a5:=zzm (Kd.R_elder' (by (with_reducible repeat (first|apply Kd.R_alloc|apply Kd.R_drewN|apply Kd.R_drew));exact a7.out) (Kd.R_base ho0) hb);have a8:=zzm (Kd.S_below (zzS a9.out) hb);have b2:=zzm (Kd.R_lower (Kd.R_new' (Kd.R_new' (Kd.R_new' (Kd.R_new' ho0 (Kd.R_lt (by (with_reducible repeat (first|apply Kd.R_alloc|apply Kd.R_drewN|apply Kd.R_drew));exact a3.out))) (Kd.S_lt (zzS a4.out))) (Kd.R_lt (by (with_reducible repeat (first|apply Kd.R_alloc|apply Kd.R_drewN|apply Kd.R_drew));exact a7.out))) (Kd.S_lt (zzS a9.out))) (zzo zzh1));have e0:=zzm (zzp zzh1 hb);clear a3 a4 a7 a9 HB;have a3:=a1;have a4:=a2;have a7:=a5;have a9:=a8;have b9:=b2;have HB:=e0;clear a1 a2 a5 a8 b2 e0;(try clear hb);(try clear hb2);(try clear hk);(try clear hi);(try clear ho0);obtain ⟨o6,o7,eo82⟩:=Kd.R_slice b9.out;subst eo82)|((with_reducible refine gate_callee (f:=9) rfl ?_);refine goesL_ (some 30) rfl rfl Try.func9 (by kernel_rfl) rfl #[.slice k0 c2.length k1,.slice o6 d9.length o7] rfl zzM2 ?_;(with_reducible refine (Qm.calls k _ _ c2 _ _ d9 false _ ?side1 ?side2 ?side3 ?side4 l3.out).mono ?_);(case side1=>repeat (first|exact (Kd.R_reads' a7.out).2.2|(with_reducible refine Kd.C_alloc ?_ _)|(with_reducible refine Kd.C_drewN ?_ _)|(with_reducible refine Kd.C_drew ?_)));(case side2=>exact (Kd.R_reads' a7.out).2.1);(case side3=>repeat (first|exact (Kd.R_reads' b9.out).2.2|(with_reducible refine Kd.C_alloc ?_ _)|(with_reducible refine Kd.C_drewN ?_ _)|(with_reducible refine Kd.C_drew ?_)));(case side4=>exact (Kd.R_reads' b9.out).2.1);rintro e t4 ⟨rfl,hb⟩;refine ⟨_,rfl,?_⟩;have a1:=zzm (Kd.R_below (by (with_reducible repeat (first|apply Kd.R_alloc|apply Kd.R_drewN|apply Kd.R_drew));exact a3.out) hb);have a2:=zzm (Kd.S_below (zzS a4.out) hb);have a5:=zzm (Kd.R_below (by (with_reducible repeat (first|apply Kd.R_alloc|apply Kd.R_drewN|apply Kd.R_drew));exact a7.out) hb);have a8:=zzm (Kd.S_below (zzS a9.out) hb);have b2:=zzm (Kd.R_below (by (with_reducible repeat (first|apply Kd.R_alloc|apply Kd.R_drewN|apply Kd.R_drew));exact b9.out) hb);have e0:=zzm (zzp zzh1 hb);clear a3 a4 a7 a9 b9 HB;have a3:=a1;have a4:=a2;have a7:=a5;have a9:=a8;have b9:=b2;have HB:=e0;clear a1 a2 a5 a8 b2 e0;(try clear hb);(try clear hb2);(try clear hk);(try clear hi)));go_ret;exact ⟨zzR,zzh1⟩
  ·
   replace g4:=Bool.eq_false_iff.mpr g4;subst g4;replace H:=zzIf H;obtain rfl:=Option.some.inj H;go_enter Try.func3,Try.ntmps3;go_wp2_with (first|((with_reducible refine gate_callee (f:=4) rfl ?_);refine goesL_ (some 13) rfl rfl Try.func4 (by kernel_rfl) rfl #[.slice A0 l0.length c0,.int .i64 1048576] rfl zzM2 ?_;(with_reducible refine (Qv.calls k _ _ l0 1048576 d8 _ ?side1 ?side2 A2.out).mono ?_);(case side1=>repeat (first|exact d3.out|(with_reducible refine Kd.C_alloc ?_ _)|(with_reducible refine Kd.C_drewN ?_ _)|(with_reducible refine Kd.C_drew ?_)));(case side2=>exact d4.out);rintro e t5 ⟨rfl,hb⟩;refine ⟨_,rfl,?_⟩;have a1:=zzm (zzp zzh1 hb);clear HB;have HB:=a1;clear a1;(try clear hb);(try clear hb2);(try clear hk);(try clear hi))|((with_reducible refine gate_callee (f:=6) rfl ?_);refine goesL_ (some 17) rfl rfl Try.func6 (by kernel_rfl) rfl #[.slice A0 l0.length c0] rfl zzM2 ?_;(with_reducible refine (Qh.calls k _ _ l0 d5 _ ?side1 ?side2 A5.out).mono ?_);(case side1=>exact zzcb d3 HB);(case side2=>exact d4.out);rintro e t6 ⟨j4,rfl,ho0,hb⟩;refine ⟨_,rfl,?_⟩;have a1:=zzm (Kd.R_lower ho0 (zzo zzh1));have a2:=zzm (zzp zzh1 hb);clear HB;have a3:=a1;have HB:=a2;clear a1 a2;(try clear hb);(try clear hb2);(try clear hk);(try clear hi);(try clear ho0);obtain ⟨o8,o9,eo86⟩:=Kd.R_slice a3.out;subst eo86)|((with_reducible refine gate_callee (f:=5) rfl ?_);refine goesL_ (some 18) rfl rfl Try.func5 (by kernel_rfl) rfl #[.slice o8 d5.length o9] rfl zzM2 ?_;(with_reducible refine (Qc.calls k _ _ d5 b5 _ ?side1 ?side2 A6.out).mono ?_);(case side1=>repeat (first|exact (Kd.R_reads' a3.out).2.2|(with_reducible refine Kd.C_alloc ?_ _)|(with_reducible refine Kd.C_drewN ?_ _)|(with_reducible refine Kd.C_drew ?_)));(case side2=>exact (Kd.R_reads' a3.out).2.1);rintro e t7 ⟨j5,rfl,ho0,hb⟩;refine ⟨_,rfl,?_⟩;have a1:=zzm (Kd.R_elder' (by (with_reducible repeat (first|apply Kd.R_alloc|apply Kd.R_drewN|apply Kd.R_drew));exact a3.out) (Kd.S_base ho0) hb);have a2:=zzm (Kd.S_lower ho0 (zzo zzh1));have a5:=zzm (zzp zzh1 hb);clear a3 HB;have a3:=a1;have a4:=a2;have HB:=a5;clear a1 a2 a5;(try clear hb);(try clear hb2);(try clear hk);(try clear hi);(try clear ho0))|((with_reducible refine gate_callee (f:=6) rfl ?_);refine goesL_ (some 20) rfl rfl Try.func6 (by kernel_rfl) rfl #[.slice A0 l0.length c0] rfl zzM2 ?_;(with_reducible refine (Qh.calls k _ _ l0 c2 _ ?side1 ?side2 A7.out).mono ?_);(case side1=>exact zzcb d3 HB);(case side2=>exact d4.out);rintro e t8 ⟨j6,rfl,ho0,hb⟩;refine ⟨_,rfl,?_⟩;have a1:=zzm (Kd.R_elder' (by (with_reducible repeat (first|apply Kd.R_alloc|apply Kd.R_drewN|apply Kd.R_drew));exact a3.out) (Kd.R_base ho0) hb);have a2:=zzm (Kd.S_below (zzS a4.out) hb);have a5:=zzm (Kd.R_lower (Kd.R_new' (Kd.R_new' ho0 (Kd.R_lt (by (with_reducible repeat (first|apply Kd.R_alloc|apply Kd.R_drewN|apply Kd.R_drew));exact a3.out))) (Kd.S_lt (zzS a4.out))) (zzo zzh1));have a8:=zzm (zzp zzh1 hb);clear a3 a4 HB;have a3:=a1;have a4:=a2;have a7:=a5;have HB:=a8;clear a1 a2 a5 a8;(try clear hb);(try clear hb2);(try clear hk);(try clear hi);(try clear ho0);obtain ⟨p0,p1,eo89⟩:=Kd.R_slice a7.out;subst eo89)|((with_reducible refine gate_callee (f:=7) rfl ?_);refine goesL_ (some 22) rfl rfl Try.func7 (by kernel_rfl) rfl #[.slice p0 c2.length p1] rfl zzM2 ?_;(with_reducible refine (Qe.calls k _ _ c2 b0 _ ?side1 ?side2 A8.out).mono ?_);(case side1=>repeat (first|exact (Kd.R_reads' a7.out).2.2|(with_reducible refine Kd.C_alloc ?_ _)|(with_reducible refine Kd.C_drewN ?_ _)|(with_reducible refine Kd.C_drew ?_)));(case side2=>exact (Kd.R_reads' a7.out).2.1);rintro e t9 ⟨j7,rfl,ho0,hb⟩;replace ho0:=S_weakA ho0;refine ⟨_,rfl,?_⟩;have a1:=zzm (Kd.R_elder' (by (with_reducible repeat (first|apply Kd.R_alloc|apply Kd.R_drewN|apply Kd.R_drew));exact a3.out) (Kd.S_base ho0) hb);have a2:=zzm (Kd.S_elder' (zzS a4.out) (Kd.S_base ho0) hb);have a5:=zzm (Kd.R_elder' (by (with_reducible repeat (first|apply Kd.R_alloc|apply Kd.R_drewN|apply Kd.R_drew));exact a7.out) (Kd.S_base ho0) hb);have a8:=zzm (Kd.S_lower (Kd.S_new' ho0 (Kd.S_lt (zzS a4.out))) (zzo zzh1));have b2:=zzm (zzp zzh1 hb);clear a3 a4 a7 HB;have a3:=a1;have a4:=a2;have a7:=a5;have a9:=a8;have HB:=b2;clear a1 a2 a5 a8 b2;(try clear hb);(try clear hb2);(try clear hk);(try clear hi);(try clear ho0);obtain ⟨p3,p4,eo91⟩:=Kd.S_slice a9.out;subst eo91;obtain ⟨p5,p6,eo92⟩:=Kd.S_slice a4.out;subst eo92)|((with_reducible refine gate_callee (f:=8) rfl ?_);refine goesL_ (some 25) rfl rfl Try.func8 (by kernel_rfl) rfl #[.slice p3 b0.length p4,.slice p5 b5.length p6] rfl zzM2 ?_;(with_reducible refine (Qf.calls k _ _ b0 _ _ b5 false _ ?side1 ?side2 ?side3 ?side4 A9.out).mono ?_);(case side1=>repeat (first|exact (Kd.S_reads' a9.out).2.2|(with_reducible refine Kd.C_alloc ?_ _)|(with_reducible refine Kd.C_drewN ?_ _)|(with_reducible refine Kd.C_drew ?_)));(case side2=>exact (Kd.S_reads' a9.out).2.1);(case side3=>repeat (first|exact (Kd.S_reads' a4.out).2.2|(with_reducible refine Kd.C_alloc ?_ _)|(with_reducible refine Kd.C_drewN ?_ _)|(with_reducible refine Kd.C_drew ?_)));(case side4=>exact (Kd.S_reads' a4.out).2.1);rintro e v0 ⟨rfl,hb⟩;refine ⟨_,rfl,?_⟩;have a1:=zzm (Kd.R_below (by (with_reducible repeat (first|apply Kd.R_alloc|apply Kd.R_drewN|apply Kd.R_drew));exact a3.out) hb);have a2:=zzm (Kd.S_below (zzS a4.out) hb);have a5:=zzm (Kd.R_below (by (with_reducible repeat (first|apply Kd.R_alloc|apply Kd.R_drewN|apply Kd.R_drew));exact a7.out) hb);have a8:=zzm (Kd.S_below (zzS a9.out) hb);have b2:=zzm (zzp zzh1 hb);clear a3 a4 a7 a9 HB;have a3:=a1;have a4:=a2;have a7:=a5;have a9:=a8;have HB:=b2;clear a1 a2 a5 a8 b2;(try clear hb);(try clear hb2);(try clear hk);(try clear hi)));go_ret;exact ⟨zzR,zzh1⟩
end Go.Proofs.Ytmloblepcbimkaa.T
namespace Go.Proofs.Ytmloblepcbimkaa.Q
open Go.RowKit Go.Proofs.YtmloblepcbimkaaW.PrintWords
def Opens {α:Type} (P:Program) (d:Kd α) (t:TypeId) (WF : α→Prop):Prop:=
 ∀ (H:Type) (enc:TypeId×Value→H) (w:World) (base:Nat) (spare:Nat→Bool) (held:Bool) (fuel:Nat) (cs:List Value) (x:DataW H×List MemPlace),DataW.trod enc P w base spare held fuel t cs=some x→∃ v : α,d.K w v cs∧WF v
theorem Opens.int {P:Program} {t:TypeId} {k:IntKind} (ht:P.underlying t=some (.int k)):Opens P (Kd.int k) t (fun n=>(Lit.int k n).wf=true):=by
 intro H enc w base spare held fuel cs x h
 obtain ⟨n,rfl,_,hw⟩:=DataW.trod_int ht h
 exact ⟨n,rfl,hw⟩
theorem Opens.bool {P:Program} {t:TypeId} (ht:P.underlying t=some .bool):Opens P Kd.bool t (fun _=>True):=by
 intro H enc w base spare held fuel cs x h
 obtain ⟨n,rfl,_⟩:=DataW.trod_bool ht h
 exact ⟨n,rfl,trivial⟩
theorem Opens.iso {α β:Type} {P:Program} {t:TypeId} {d:Kd α} {WF : α→Prop} {f : β→α} (h:Opens P d t WF) (g : α→β) (hg:∀ a,f (g a)=a):Opens P (Kd.iso d f) t (fun b=>WF (f b)):=by
 intro H enc w base spare held fuel cs x hx
 obtain ⟨v,hv,hw⟩:=h H enc w base spare held fuel cs x hx
 exact ⟨g v,by show d.K w (f (g v)) cs;rw [hg];exact hv,by show WF (f (g v));rw [hg];exact hw⟩
theorem list_of {α:Type} {Q:Nat→α→Prop} : ∀ (n:Nat),(∀ i,i < n→∃ v,Q i v)→∃ l:List α,l.length=n∧∀ j p,l[j]? = some p→Q j p
 | 0,_=>⟨[],rfl,fun j p h=>by simp at h⟩
 | n+1,h=>by
  obtain ⟨l,hl,hq⟩:=list_of n (fun i hi=>h i (by omega))
  obtain ⟨v,hv⟩:=h n (by omega)
  refine ⟨l ++ [v],by simp [hl],fun j p hj=>?_⟩
  rcases Nat.lt_or_ge j l.length with h1|h1
  ·rw [List.getElem?_append_left h1] at hj
   exact hq j p hj
  ·rw [List.getElem?_append_right h1] at hj
   have h2:j - l.length=0:=by
    have:=(List.getElem?_eq_some_iff.1 hj).1
    simp at this
    omega
   rw [h2] at hj
   simp at hj
   subst hj
   have:j=n:=by omega
   subst this
   exact hv
theorem cells_get {w:World} {base:Nat} {a:Addr} {n:Nat} {cs:List Value} (h:w.cells? base a n=some cs):cs.length=n∧∀ (i:Nat) (u:Value),cs[i]? = some u→w.cell? (a.add i)=some u:=by
 unfold World.cells? at h
 split at h
 ·have hl:cs.length=n:=by simpa using mapM_some_length h
  refine ⟨hl,fun i u hu=>?_⟩
  have hi:i < cs.length:=(List.getElem?_eq_some_iff.1 hu).1
  have:=mapM_some_get h i i (by rw [List.getElem?_range (by omega)])
  rw [this,hu]
 ·cases h
theorem add_add' (a:Addr) (x y:Nat):(a.add x).add y=a.add (x+y):=by
 by_cases hx:x=0 <;> by_cases hy:y=0 <;> simp [Addr.add,hx,hy,Nat.add_assoc]
theorem Opens.slice {α:Type} {P:Program} {t e:TypeId} {d:Kd α} {WF : α→Prop} (ht:P.underlying t=some (.slice e)) (h:Opens P d e WF) (hs:P.cellsOf e=d.sz):Opens P (Kd.slice e d) t (fun l=>l.length≤maxLen∧∀ v∈l,WF v):=by
 intro H enc w base spare held fuel cs x hx
 rcases Go.Deep.open_slice ht hx with ⟨rfl,_⟩|⟨a,len,cap,m,n,D,Pl,rfl,hb,hl,hm,hmm,_,hi⟩
 ·exact ⟨[],⟨none,0,rfl,Nat.le_refl _,rfl,by simp,fun h=>by simp at h⟩,by simp,fun v hv=>by simp at hv⟩
 ·have hlm:len≤m:=by rw [hmm];split <;> omega
  obtain ⟨l,hll,hq⟩:=list_of (Q:=fun i v=>∃ c,w.cells? base (a.add (i * P.cellsOf e)) (P.cellsOf e)=some c∧d.K w v c∧WF v) len (fun i hlt=>by
   obtain ⟨c,hc,hd⟩:=hi i (by omega)
   obtain ⟨v,hv,hw⟩:=h H enc w base spare held n c _ hd
   exact ⟨v,c,hc,hv,hw⟩)
  subst hll
  refine ⟨l,⟨some a,cap,rfl,hl,rfl,by unfold maxLen at hm;omega,fun _=>⟨a,rfl,fun j p hj=>?_⟩⟩,Nat.le_trans hl hm,fun v hv=>?_⟩
  ·obtain ⟨c,hc,hk,_⟩:=hq j p hj
   obtain ⟨h1,h2⟩:=cells_get hc
   refine ⟨c,by rw [h1,hs],hk,fun i u hu=>?_⟩
   rw [← hs,← add_add']
   exact h2 i u hu
  ·obtain ⟨j,hj,rfl⟩:=List.getElem_of_mem hv
   obtain ⟨_,_,_,hw⟩:=hq j _ (List.getElem?_eq_getElem hj)
   exact hw
def OpensFs {α:Type} (P:Program) (o:Nat) (fs:List Field) (d:Kd α) (WF : α→Prop):Prop:=
 ∀ (H:Type) (enc:TypeId×Value→H) (w:World) (base:Nat) (spare:Nat→Bool) (held:Bool) (fuel:Nat) (cs:List Value),(∀ f∈fs,∃ x:DataW H×List MemPlace,DataW.trod enc P w base spare held fuel f.type ((cs.drop f.offset).take (P.cellsOf f.type))=some x)→cs.length=o+d.sz→∃ v : α,d.K w v (cs.drop o)∧WF v
theorem OpensFs.one {α:Type} {P:Program} {o:Nat} {f:Field} {d:Kd α} {WF : α→Prop} (ho:f.offset=o) (hs:P.cellsOf f.type=d.sz) (h:Opens P d f.type WF):OpensFs P o [f] d WF:=by
 intro H enc w base spare held fuel cs hx hl
 obtain ⟨x,hx⟩:=hx f (by simp)
 rw [ho,hs,List.take_of_length_le (by rw [length_drop];omega)] at hx
 exact h H enc w base spare held fuel _ x hx
theorem OpensFs.cons {α β:Type} {P:Program} {o:Nat} {f:Field} {fs:List Field} {d:Kd α} {d' : Kd β} {WF : α→Prop} {WF' : β→Prop} (ho:f.offset=o) (hs:P.cellsOf f.type=d.sz) (h:Opens P d f.type WF) (h' : OpensFs P (o+d.sz) fs d' WF'):OpensFs P o (f::fs) (Kd.pair d d') (fun p=>WF p.1∧WF' p.2):=by
 intro H enc w base spare held fuel cs hx hl
 obtain ⟨x,hx0⟩:=hx f (by simp)
 rw [ho,hs] at hx0
 obtain ⟨v,hv,hw⟩:=h H enc w base spare held fuel _ x hx0
 have hl' : cs.length=o+d.sz+d'.sz:=by rw [hl];exact (Nat.add_assoc _ _ _).symm
 obtain ⟨v',hv',hw'⟩:=h' H enc w base spare held fuel cs (fun f' hf'=>hx f' (List.mem_cons_of_mem _ hf')) hl'
 refine ⟨(v,v'),⟨(cs.drop o).take d.sz,cs.drop (o+d.sz),?_,hv,hv'⟩,hw,hw'⟩
 rw [← List.drop_drop,List.take_append_drop]
theorem Opens.struct {α:Type} {P:Program} {t:TypeId} {fs:Array Field} {d:Kd α} {WF : α→Prop} (ht:P.underlying t=some (.struct fs)) (hs:P.cellsOf t=d.sz) (h:OpensFs P 0 fs.toList d WF):Opens P d t WF:=by
 intro H enc w base spare held fuel cs x hx
 obtain ⟨xs,n,_,_,hl,hxs,hf⟩:=DataW.trod_struct ht hx
 refine h H enc w base spare held n cs (fun f hfm=>?_) (by rw [hl,hs,Nat.zero_add])
 obtain ⟨i,hi,rfl⟩:=List.getElem_of_mem hfm
 have hi' : i < fs.size:=by simpa using hi
 have:=hf i fs[i] (Array.getElem?_eq_getElem hi')
 rw [List.getElem?_eq_getElem (by omega)] at this
 exact ⟨_,by simpa using this⟩
end Go.Proofs.Ytmloblepcbimkaa.Q
namespace Go.Proofs.Ytmloblepcbimkaa.T
open Go.RowKit Go.Proofs.YtmloblepcbimkaaW.PrintWords
set_option linter.unusedVariables false
def WF72 (x:S72):Prop:=(Lit.int .i64 x.f0).wf=true∧(Lit.int .i64 x.f1).wf=true∧True∧(x.f3.length≤maxLen∧∀ v∈x.f3,(Lit.int .i64 v).wf=true)∧True∧(x.f5.length≤maxLen∧∀ v∈x.f5,(Lit.int .i64 v).wf=true)
theorem opens72:Q.Opens Try.prog k72 72 WF72:=
 Q.Opens.iso (Q.Opens.struct Try.underlying72 (by kernel_rfl) (Q.OpensFs.cons rfl (by kernel_rfl) (Q.Opens.int Try.underlying3) (Q.OpensFs.cons rfl (by kernel_rfl) (Q.Opens.int Try.underlying3) (Q.OpensFs.cons rfl (by kernel_rfl) (Q.Opens.bool Try.underlying4) (Q.OpensFs.cons rfl (by kernel_rfl) (Q.Opens.slice Try.underlying40 (Q.Opens.int Try.underlying3) (by kernel_rfl)) (Q.OpensFs.cons rfl (by kernel_rfl) (Q.Opens.bool Try.underlying4) (Q.OpensFs.one rfl (by kernel_rfl) (Q.Opens.slice Try.underlying40 (Q.Opens.int Try.underlying3) (by kernel_rfl))))))))) (fun p=>⟨p.1,p.2.1,p.2.2.1,p.2.2.2.1,p.2.2.2.2.1,p.2.2.2.2.2⟩) (fun _=>rfl)
def WF36 (x:S36):Prop:=True∧True∧(Lit.int .i64 x.f2).wf=true∧(Lit.int .i64 x.f3).wf=true∧(Lit.int .i64 x.f4).wf=true∧(x.f5.length≤maxLen∧∀ v∈x.f5,WF72 v)
theorem opens36:Q.Opens Try.prog k36 36 WF36:=
 Q.Opens.iso (Q.Opens.struct Try.underlying36 (by kernel_rfl) (Q.OpensFs.cons rfl (by kernel_rfl) (Q.Opens.bool Try.underlying4) (Q.OpensFs.cons rfl (by kernel_rfl) (Q.Opens.bool Try.underlying4) (Q.OpensFs.cons rfl (by kernel_rfl) (Q.Opens.int Try.underlying3) (Q.OpensFs.cons rfl (by kernel_rfl) (Q.Opens.int Try.underlying3) (Q.OpensFs.cons rfl (by kernel_rfl) (Q.Opens.int Try.underlying3) (Q.OpensFs.one rfl (by kernel_rfl) (Q.Opens.slice Try.underlying34 opens72 (by kernel_rfl))))))))) (fun p=>⟨p.1,p.2.1,p.2.2.1,p.2.2.2.1,p.2.2.2.2.1,p.2.2.2.2.2⟩) (fun _=>rfl)
end Go.Proofs.Ytmloblepcbimkaa.T
namespace Go.Proofs.Ytmloblepcbimkaa.Q
open Go.RowKit Go.Proofs.YtmloblepcbimkaaW.PrintWords
set_option linter.unusedVariables false
set_option linter.unusedSimpArgs false
theorem ev_succ {α:Type} {g:Nat→Option α} {r : α} (h:Ev (fun k=>g (k+1)) r):Ev g r:=Ev.step (f:=fun k=>g (k+1)) (fun _=>rfl) h
theorem ev_of_all {α:Type} {g:Nat→Option α} {r : α} (h:∀ k,g k=some r):Ev g r:=⟨0,fun k _=>h k⟩
theorem ev_some {α:Type} (r : α):Ev (fun _=>some r) r:=ev_of_all fun _=>rfl
def Evs {α:Type} (g:Nat→Option α) (Q : α→Prop):Prop:=∃ r,Ev g r∧Q r
theorem Evs.of {α:Type} {g:Nat→Option α} {Q : α→Prop} {r : α} (h:Ev g r) (hq:Q r):Evs g Q:=⟨r,h,hq⟩
theorem Evs.done {α:Type} {Q : α→Prop} {r : α} (hq:Q r):Evs (fun _=>some r) Q:=⟨r,ev_some r,hq⟩
theorem Evs.mono {α:Type} {g:Nat→Option α} {Q Q' : α→Prop} (h:Evs g Q) (hq:∀ r,Q r→Q' r):Evs g Q':=by
 obtain ⟨r,h1,h2⟩:=h
 exact ⟨r,h1,hq r h2⟩
theorem Evs.succ {α:Type} {g:Nat→Option α} {Q : α→Prop} (h:Evs (fun k=>g (k+1)) Q):Evs g Q:=by
 obtain ⟨r,h1,h2⟩:=h
 exact ⟨r,ev_succ h1,h2⟩
theorem Evs.bind {α β:Type} {g:Nat→Option α} {f:Nat→α→Option β} {Q : α→Prop} {R : β→Prop} (h:Evs g Q) (k:∀ a,Q a→Evs (fun n=>f n a) R):Evs (fun n=>(g n).bind (f n)) R:=by
 obtain ⟨a,h1,h2⟩:=h
 obtain ⟨r,k1,k2⟩:=k a h2
 exact ⟨r,Ev.bind h1 k1,k2⟩
theorem bsome {α β:Type} (a : α) (f : α→Option β):(some a).bind f=f a:=Eq.trans (Option.bind_some a f) (Eq.refl _)
end Go.Proofs.Ytmloblepcbimkaa.Q
namespace Go.Proofs.Ytmloblepcbimkaa.Q
open Go.RowKit Go.Proofs.Ytmloblepcbimkaa.T Go.Proofs.YtmloblepcbimkaaW.PrintWords Go.Proofs.YtmloblepcbimkaaW.PrintLast
set_option linter.unusedVariables false
set_option linter.unusedSimpArgs false
theorem wrap_id {x:Int} (h0 : -9223372036854775808≤x) (h1:x < 9223372036854775808):wrap64 x=x:=by unfold wrap64;omega
theorem Rv (a b c:Int):Qr.f a b c=some (decide (b≤a∧a≤c)):=by
 unfold Qr.f
 by_cases h:a ≥ b
 ·rw [if_pos h]
  have:(b≤a∧a≤c)↔a≤c:=⟨fun h=>h.2,fun h'=>⟨h,h'⟩⟩
  simp [this]
 ·rw [if_neg h]
  have:¬ (b≤a∧a≤c):=fun h'=>h h'.1
  simp [this]
theorem spec_l6In_eq (a b c:Int):Qw.f a b c=some (decide (b≤a∧a≤c)):=by
 unfold Qw.f
 by_cases h:a ≥ b
 ·rw [if_pos h]
  have:(b≤a∧a≤c)↔a≤c:=⟨fun h=>h.2,fun h'=>⟨h,h'⟩⟩
  simp [this]
 ·rw [if_neg h]
  have:¬ (b≤a∧a≤c):=fun h'=>h h'.1
  simp [this]
theorem rd_nat (l:List Int) (j:Nat) (h:j < l.length):rd l (j:Int)=l[j]:=by
 unfold rd
 rw [Int.toNat_natCast,List.getD_eq_getElem?_getD,List.getElem?_eq_getElem h]
 rfl
theorem drop_int {l:List Int} {i:Nat} (h:i < l.length):l.drop i=rd l i::l.drop (i+1):=by
 rw [List.drop_eq_getElem_cons h,rd_nat l i h]
def ab (l:List Int):Bool:=decide (∀ x∈l,0≤x∧x≤255)
theorem ab_cons (x:Int) (l:List Int):ab (x::l)=(decide (0≤x∧x≤255)&&ab l):=by
 rw [Bool.eq_iff_iff]
 simp [ab,List.forall_mem_cons]
theorem ab_nil:ab []=true:=by simp [ab]
theorem isByte_eq (a:Int):Ru.f a=some (decide (0≤a∧a≤255)):=by
 unfold Ru.f
 by_cases h:a ≥ 0
 ·rw [if_pos h]
  have:(0≤a∧a≤255)↔a≤255:=⟨fun h=>h.2,fun h'=>⟨h,h'⟩⟩
  simp [this]
 ·rw [if_neg h]
  have:¬ (0≤a∧a≤255):=fun h'=>h h'.1
  simp [this]
theorem baseValid_eq (a b:Int):Rh.f a b=some (decide ((0≤a∧a≤99999)∧(0≤b∧b≤99999))):=by
 unfold Rh.f
 rw [Rv,Rv]
 by_cases h : 0≤a∧a≤99999 <;> simp [h]
theorem idValid_eqB (a:Int):Rl.f a=some (decide (0≤a∧a≤254)):=by
 unfold Rl.f
 rw [Rv]
 rfl
theorem implAll_loop (l:List Int) (hl:l.length≤1000000000000000):∀ (d i:Nat),l.length - i=d→i≤l.length→Ev (fun k=>Q0.l0 k l (l.length:Int) (i:Int)) (ab (l.drop i)):=by
 intro d
 induction d with
 | zero=>
  intro i hd hi
  rw [show l.drop i = [] from List.drop_eq_nil_of_le (by omega),ab_nil]
  refine ev_succ ?_
  simp only [Q0.l0,if_neg (show ¬ (i:Int) < (l.length:Int) by omega)]
  exact ev_some _
 | succ d ih=>
  intro i hd hi
  have e1:wrap64 ((i:Int)+1)=((i+1:Nat):Int):=by rw [wrap_id (by omega) (by omega)];omega
  rw [drop_int (show i < l.length by omega),ab_cons]
  refine ev_succ ?_
  simp only [Q0.l0,if_pos (show (i:Int) < (l.length:Int) by omega),if_pos (show (0:Int)≤i by omega),isByte_eq,bsome,decide_eq_true_eq,e1]
  by_cases h : 0≤rd l (i:Int)∧rd l (i:Int)≤255
  ·simp only [if_pos h,decide_eq_true h,Bool.true_and]
   exact ih (i+1) (by omega) (by omega)
  ·simp only [if_neg h,decide_eq_false h,Bool.false_and]
   exact ev_some _
theorem implAll (l:List Int) (hl:l.length≤1000000000000000):Ev (fun k=>Q0.f k l) (ab l):=by
 unfold Q0.f
 have:=implAll_loop l hl l.length 0 (by omega) (by omega)
 simpa using this
theorem specAll_loop (l:List Int) (hl:l.length≤1000000000000000):∀ (d i:Nat),l.length - i=d→i≤l.length→Ev (fun k=>Q7.l0 k l (i:Int)) (ab (l.drop i)):=by
 intro d
 induction d with
 | zero=>
  intro i hd hi
  rw [show l.drop i = [] from List.drop_eq_nil_of_le (by omega),ab_nil]
  refine ev_succ ?_
  simp only [Q7.l0,if_neg (show ¬ (i:Int) < (l.length:Int) by omega)]
  exact ev_some _
 | succ d ih=>
  intro i hd hi
  have e1:wrap64 ((i:Int)+1)=((i+1:Nat):Int):=by rw [wrap_id (by omega) (by omega)];omega
  rw [drop_int (show i < l.length by omega),ab_cons]
  refine ev_succ ?_
  simp only [Q7.l0,if_pos (show (i:Int) < (l.length:Int) by omega),if_pos (show (0:Int)≤i by omega),spec_l6In_eq,bsome,decide_eq_true_eq,e1]
  by_cases h : 0≤rd l (i:Int)∧rd l (i:Int)≤255
  ·simp only [if_pos h,decide_eq_true h,Bool.true_and]
   exact ih (i+1) (by omega) (by omega)
  ·simp only [if_neg h,decide_eq_false h,Bool.false_and]
   exact ev_some _
theorem specAll (l:List Int) (hl:l.length≤1000000000000000):Ev (fun k=>Q7.f k l) (ab l):=by
 unfold Q7.f
 have:=specAll_loop l hl l.length 0 (by omega) (by omega)
 simpa using this
def pv (has:Bool) (l:List Int):Bool:=if has=true then decide (l.length≤12)&&ab l else decide (l.length=0)
theorem implPart (has:Bool) (l:List Int) (hl:l.length≤1000000000000000):Ev (fun k=>Q8.f k has l) (pv has l):=by
 unfold Q8.f pv
 cases has with
 | true=>
  simp only [if_true]
  by_cases h:(l.length:Int)≤12
  ·simp only [if_pos h,decide_eq_true (show l.length≤12 by omega),Bool.true_and]
   exact Ev.bind (implAll l hl) (ev_some _)
  ·simp only [if_neg h,decide_eq_false (show ¬ l.length≤12 by omega),Bool.false_and]
   exact ev_some _
 | false=>
  simp only [Bool.false_eq_true,if_false]
  rw [show ((l.length:Int)==0)=decide (l.length=0) by rw [Bool.eq_iff_iff];simp]
  exact ev_some _
theorem specPart (has:Bool) (l:List Int) (hl:l.length≤1000000000000000):Ev (fun k=>Rm.f k has l) (pv has l):=by
 unfold Rm.f pv
 cases has with
 | true=>
  simp only [if_true]
  refine Ev.bind (specAll l hl) ?_
  by_cases h:ab l=true
  ·simp only [if_pos h,h,Bool.and_true]
   rw [show decide ((l.length:Int)≤12)=decide (l.length≤12) by rw [decide_eq_decide];omega]
   exact ev_some _
  ·simp only [if_neg h,show ab l=false by simpa using h,Bool.and_false]
   exact ev_some _
 | false=>
  simp only [Bool.false_eq_true,if_false]
  by_cases h:l.length=0
  ·simp only [if_pos (show (l.length:Int)=0 by omega),decide_eq_true h]
   refine Ev.bind (specAll l hl) ?_
   have hn:l = []:=List.length_eq_zero_iff.1 h
   subst hn
   simp only [ab_nil,if_true]
   exact ev_some _
  ·simp only [if_neg (show ¬ (l.length:Int)=0 by omega),decide_eq_false h]
   exact ev_some _
abbrev Rc:=S42
abbrev rr (l:List Rc) (i:Int):Rc:=Qb l i
theorem rr_nat (l:List Rc) (j:Nat) (h:j < l.length):rr l (j:Int)=l[j]:=by
 unfold rr Qb
 rw [Int.toNat_natCast,List.getD_eq_getElem?_getD,List.getElem?_eq_getElem h]
 rfl
def smallR (r:Rc):Prop:=r.f3.length≤1000000000000000∧r.f5.length≤1000000000000000
def smallRs (l:List Rc):Prop:=l.length≤1000000000000000∧∀ r∈l,smallR r
theorem smallRs_at {l:List Rc} (h:smallRs l) (j:Nat) (hj:j < l.length):smallR (rr l (j:Int)):=by
 rw [rr_nat l j hj]
 exact h.2 _ (List.getElem_mem hj)
def rv (r:Rc):Bool:=decide ((0≤r.f0∧r.f0≤99999)∧(0≤r.f1∧r.f1≤99999))&&(pv r.f2 r.f3&&pv r.f4 r.f5)
theorem implRec (r:Rc) (h:smallR r):Ev (fun k=>Ra.f k r.f0 r.f1 r.f2 r.f3 r.f4 r.f5) (rv r):=by
 unfold Ra.f rv
 simp only [baseValid_eq,bsome,decide_eq_true_eq]
 by_cases h0:(0≤r.f0∧r.f0≤99999)∧(0≤r.f1∧r.f1≤99999)
 ·simp only [if_pos h0,decide_eq_true h0,Bool.true_and]
  refine Ev.bind (implPart _ _ h.1) ?_
  by_cases h1:pv r.f2 r.f3=true
  ·simp only [if_pos h1,h1,Bool.true_and]
   exact Ev.bind (implPart _ _ h.2) (ev_some _)
  ·simp only [if_neg h1,show pv r.f2 r.f3=false by simpa using h1,Bool.false_and]
   exact ev_some _
 ·simp only [if_neg h0,decide_eq_false h0,Bool.false_and]
  exact ev_some _
theorem specRec (r:Rc) (h:smallR r):Ev (fun k=>Q9.f k r.f0 r.f1 r.f2 r.f3 r.f4 r.f5) (rv r):=by
 unfold Q9.f rv
 simp only [spec_l6In_eq,bsome,decide_eq_true_eq]
 by_cases h0 : 0≤r.f0∧r.f0≤99999
 ·by_cases h1 : 0≤r.f1∧r.f1≤99999
  ·simp only [if_pos h0,if_pos h1,decide_eq_true (show (0≤r.f0∧r.f0≤99999)∧(0≤r.f1∧r.f1≤99999) from ⟨h0,h1⟩),Bool.true_and]
   refine Ev.bind (specPart _ _ h.1) ?_
   by_cases h2:pv r.f2 r.f3=true
   ·simp only [if_pos h2,h2,Bool.true_and]
    exact Ev.bind (specPart _ _ h.2) (ev_some _)
   ·simp only [if_neg h2,show pv r.f2 r.f3=false by simpa using h2,Bool.false_and]
    exact ev_some _
  ·simp only [if_pos h0,if_neg h1,decide_eq_false (show ¬ ((0≤r.f0∧r.f0≤99999)∧(0≤r.f1∧r.f1≤99999)) from fun h=>h1 h.2),Bool.false_and]
   exact ev_some _
 ·simp only [if_neg h0,decide_eq_false (show ¬ ((0≤r.f0∧r.f0≤99999)∧(0≤r.f1∧r.f1≤99999)) from fun h=>h0 h.1),Bool.false_and]
  exact ev_some _
def RF (l:List Rc) (i:Nat):Prop:=∀ j,i≤j→j < l.length→rv (rr l j)=true∧(0 < j→(rr l ((j:Int) - 1)).f0 < (rr l j).f0)
theorem RF_end {l:List Rc} {i:Nat} (h:l.length≤i):RF l i:=fun j h1 h2=>by omega
theorem RF_step {l:List Rc} {i:Nat} (h:i < l.length):RF l i↔(rv (rr l i)=true∧(0 < i→(rr l ((i:Int) - 1)).f0 < (rr l i).f0))∧RF l (i+1):=by
 constructor
 ·intro hv
  exact ⟨hv i (Nat.le_refl _) h,fun j h1 h2=>hv j (by omega) h2⟩
 ·rintro ⟨h1,h2⟩ j h3 h4
  by_cases e:j=i
  ·subst e;exact h1
  ·exact h2 j (by omega) h4
theorem implRecs_loop (l:List Rc) (hl:smallRs l) (a0 a1:Bool) (a2 a3 a4:Int):∀ (d i:Nat),l.length - i=d→i≤l.length→Evs (fun k=>Qd.l0 k l (l.length:Int) (i:Int) a0 a1 a2 a3 a4 l) (fun b=>b=true↔RF l i):=by
 intro d
 induction d with
 | zero=>
  intro i hd hi
  refine Evs.succ ?_
  simp only [Qd.l0,if_neg (show ¬ (i:Int) < (l.length:Int) by omega)]
  exact Evs.done (by simp;exact RF_end (by omega))
 | succ d ih=>
  intro i hd hi
  have hll:=hl.1
  have hn:=ih (i+1) (by omega) (by omega)
  have e1:wrap64 ((i:Int)+1)=((i+1:Nat):Int):=by rw [wrap_id (by omega) (by omega)];omega
  have e2:wrap64 ((i:Int) - 1)=(i:Int) - 1:=wrap_id (by omega) (by omega)
  rw [RF_step (show i < l.length by omega)]
  refine Evs.succ ?_
  simp only [Qd.l0,if_pos (show (i:Int) < (l.length:Int) by omega),if_pos (show (0:Int)≤i by omega),e1,e2]
  refine Evs.bind (Evs.of (implRec (rr l (i:Int)) (smallRs_at hl i (by omega))) rfl:Evs _ (fun x=>x=rv (rr l (i:Int)))) ?_
  rintro _ rfl
  by_cases h1:rv (rr l (i:Int))=true
  ·simp only [if_pos h1]
   by_cases h0:(i:Int) > 0
   ·simp only [if_pos h0,if_pos (show 0≤(i:Int) - 1 by omega),if_pos (show (i:Int) - 1 < (l.length:Int) by omega)]
    by_cases h2:(rr l ((i:Int) - 1)).f0 ≥ (rr l (i:Int)).f0
    ·simp only [if_pos h2]
     refine Evs.done ?_
     simp only [Bool.false_eq_true,false_iff]
     rintro ⟨⟨_,h3⟩,_⟩
     have:=h3 (by omega)
     omega
    ·simp only [if_neg h2]
     refine hn.mono fun b hb=>?_
     rw [hb]
     exact ⟨fun h=>⟨⟨h1,fun _=>by omega⟩,h⟩,fun h=>h.2⟩
   ·simp only [if_neg h0]
    refine hn.mono fun b hb=>?_
    rw [hb]
    exact ⟨fun h=>⟨⟨h1,fun h'=>absurd h' (by omega)⟩,h⟩,fun h=>h.2⟩
  ·simp only [if_neg h1]
   exact Evs.done (by simp only [Bool.false_eq_true,false_iff];exact fun h=>h1 h.1.1)
theorem specRecs_loop (l:List Rc) (hl:smallRs l):∀ (d i:Nat),l.length - i=d→i≤l.length→Evs (fun k=>Qg.l0 k l (i:Int)) (fun b=>b=true↔RF l i∧1≤l.length∧l.length≤6):=by
 intro d
 induction d with
 | zero=>
  intro i hd hi
  refine Evs.succ ?_
  simp only [Qg.l0,if_neg (show ¬ (i:Int) < (l.length:Int) by omega),spec_l6In_eq,bsome]
  exact Evs.done (by simp only [decide_eq_true_eq];exact ⟨fun h=>⟨RF_end (by omega),by omega,by omega⟩,fun h=>by have:=h.2;omega⟩)
 | succ d ih=>
  intro i hd hi
  have hll:=hl.1
  have hn:=ih (i+1) (by omega) (by omega)
  have e1:wrap64 ((i:Int)+1)=((i+1:Nat):Int):=by rw [wrap_id (by omega) (by omega)];omega
  have e2:wrap64 ((i:Int) - 1)=(i:Int) - 1:=wrap_id (by omega) (by omega)
  rw [RF_step (show i < l.length by omega)]
  refine Evs.succ ?_
  simp only [Qg.l0,if_pos (show (i:Int) < (l.length:Int) by omega),if_pos (show (0:Int)≤i by omega),e1,e2]
  refine Evs.bind (Evs.of (specRec (rr l (i:Int)) (smallRs_at hl i (by omega))) rfl:Evs _ (fun x=>x=rv (rr l (i:Int)))) ?_
  rintro _ rfl
  by_cases h1:rv (rr l (i:Int))=true
  ·simp only [if_pos h1]
   by_cases h0:(i:Int) > 0
   ·simp only [if_pos h0,if_pos (show 0≤(i:Int) - 1 by omega),if_pos (show (i:Int) - 1 < (l.length:Int) by omega)]
    by_cases h2:(rr l ((i:Int) - 1)).f0 ≥ (rr l (i:Int)).f0
    ·simp only [if_pos h2]
     refine Evs.done ?_
     simp only [Bool.false_eq_true,false_iff]
     rintro ⟨⟨⟨_,h3⟩,_⟩,_⟩
     have:=h3 (by omega)
     omega
    ·simp only [if_neg h2]
     refine hn.mono fun b hb=>?_
     rw [hb]
     exact ⟨fun h=>⟨⟨⟨h1,fun _=>by omega⟩,h.1⟩,h.2⟩,fun h=>⟨h.1.2,h.2⟩⟩
   ·simp only [if_neg h0]
    refine hn.mono fun b hb=>?_
    rw [hb]
    exact ⟨fun h=>⟨⟨⟨h1,fun h'=>absurd h' (by omega)⟩,h.1⟩,h.2⟩,fun h=>⟨h.1.2,h.2⟩⟩
  ·simp only [if_neg h1]
   exact Evs.done (by simp only [Bool.false_eq_true,false_iff];exact fun h=>h1 h.1.1.1)
def VB (a1:Bool) (a2 a3 a4:Int) (l:List Rc):Prop:=
 (if a2=255 then a3=0∧a4=0∧a1=false else (0≤a2∧a2≤254)∧(0≤a3∧a3≤99)∧(0≤a4∧a4≤9999))∧(1≤l.length∧l.length≤6)∧(a1=true→l.length=1)∧RF l 0
theorem implB_j0 (a0 a1:Bool) (a2 a3 a4:Int) (l:List Rc) (hl:smallRs l):Evs (fun k=>Qd.j0 k a0 a1 a2 a3 a4 l) (fun b=>b=true↔(1≤l.length∧l.length≤6)∧(a1=true→l.length=1)∧RF l 0):=by
 have hr:=implRecs_loop l hl a0 a1 a2 a3 a4 l.length 0 (by omega) (by omega)
 refine Evs.succ ?_
 simp only [Qd.j0,Rv,bsome,decide_eq_true_eq]
 by_cases h : 1≤(l.length:Int)∧(l.length:Int)≤6
 ·simp only [if_pos h]
  cases a1 with
  | true=>
   simp only [if_true]
   refine Evs.succ ?_
   by_cases h1:l.length=1
   ·simp only [Qd.j1,show ((l.length:Int) != 1)=false by rw [h1];rfl,Bool.false_eq_true,if_false]
    refine hr.mono fun b hb=>?_
    rw [hb]
    exact ⟨fun h2=>⟨by omega,fun _=>h1,h2⟩,fun h2=>h2.2.2⟩
   ·simp only [Qd.j1,show ((l.length:Int) != 1)=true by simp;omega,if_true]
    exact Evs.done (by simp only [Bool.false_eq_true,false_iff];exact fun h2=>h1 (h2.2.1 trivial))
  | false=>
   simp only [Bool.false_eq_true,if_false]
   refine Evs.succ ?_
   simp only [Qd.j1,Bool.false_eq_true,if_false]
   refine hr.mono fun b hb=>?_
   rw [hb]
   exact ⟨fun h2=>⟨by omega,(fun h3=>h3.elim),h2⟩,fun h2=>h2.2.2⟩
 ·simp only [if_neg h]
  refine Evs.succ ?_
  simp only [Qd.j1,if_true]
  exact Evs.done (by simp only [Bool.false_eq_true,false_iff];exact fun h2=>h ⟨by have:=h2.1.1;omega,by have:=h2.1.2;omega⟩)
theorem implB_evs (a0 a1:Bool) (a2 a3 a4:Int) (l:List Rc) (hl:smallRs l):Evs (fun k=>Qd.f k a0 a1 a2 a3 a4 l) (fun b=>b=true↔VB a1 a2 a3 a4 l):=by
 have hj:=implB_j0 a0 a1 a2 a3 a4 l hl
 unfold Qd.f VB
 by_cases h:a2=255
 ·simp only [if_pos h]
  by_cases h3:a3=0
  ·simp only [if_pos h3]
   by_cases h4:a4=0
   ·simp only [if_pos h4]
    cases a1 with
    | true=>
     simp only [if_true]
     exact Evs.done (by simp)
    | false=>
     simp only [Bool.false_eq_true,if_false]
     refine hj.mono fun b hb=>?_
     rw [hb]
     exact ⟨fun h2=>⟨⟨h3,h4,trivial⟩,h2.1,(fun h5=>h5.elim),h2.2.2⟩,fun h2=>⟨h2.2.1,(fun h5=>by cases h5),h2.2.2.2⟩⟩
   ·simp only [if_neg h4]
    exact Evs.done (by simp only [Bool.false_eq_true,false_iff];exact fun h2=>h4 h2.1.2.1)
  ·simp only [if_neg h3]
   exact Evs.done (by simp only [Bool.false_eq_true,false_iff];exact fun h2=>h3 h2.1.1)
 ·simp only [if_neg h,idValid_eqB,Rv,bsome,decide_eq_true_eq]
  by_cases h2 : 0≤a2∧a2≤254
  ·simp only [if_pos h2]
   by_cases h3 : 0≤a3∧a3≤99
   ·simp only [if_pos h3]
    by_cases h4 : 0≤a4∧a4≤9999
    ·simp only [if_pos h4]
     refine hj.mono fun b hb=>?_
     rw [hb]
     exact ⟨fun h5=>⟨⟨h2,h3,h4⟩,h5⟩,fun h5=>h5.2⟩
    ·simp only [if_neg h4]
     exact Evs.done (by simp only [Bool.false_eq_true,false_iff];exact fun h5=>h4 h5.1.2.2)
   ·simp only [if_neg h3]
    exact Evs.done (by simp only [Bool.false_eq_true,false_iff];exact fun h5=>h3 h5.1.2.1)
  ·simp only [if_neg h2]
   exact Evs.done (by simp only [Bool.false_eq_true,false_iff];exact fun h5=>h2 h5.1.1)
theorem specB_j0_true (a0 a1:Bool) (a2 a3 a4:Int) (l:List Rc):Evs (fun k=>Ql.j0 k true a0 a1 a2 a3 a4 l) (fun b=>b=false):=by
 refine Evs.succ ?_
 simp only [Ql.j0,if_true]
 exact Evs.done rfl
theorem specB_evs (a0 a1:Bool) (a2 a3 a4:Int) (l:List Rc) (hl:smallRs l):Evs (fun k=>Ql.f k a0 a1 a2 a3 a4 l) (fun b=>b=true↔VB a1 a2 a3 a4 l):=by
 have hr:=specRecs_loop l hl l.length 0 (by omega) (by omega)
 have no:∀ {P:Prop},¬ P→∀ b:Bool,b=false→(b=true↔P):=fun hP b hb=>by rw [hb];simp only [Bool.false_eq_true,false_iff];exact hP
 unfold Ql.f
 unfold Qg.f
 refine Evs.bind hr ?_
 intro t ht
 by_cases h:t=true
 ·obtain ⟨hRF,hl1⟩:=ht.1 h
  simp only [if_pos h,spec_l6In_eq,bsome,decide_eq_true_eq]
  by_cases h2 : 0≤a2∧a2≤255
  ·simp only [if_pos h2]
   by_cases h3 : 0≤a3∧a3≤99
   ·simp only [if_pos h3]
    by_cases h4 : 0≤a4∧a4≤9999
    ·simp only [decide_eq_true h4,Bool.not_true]
     refine Evs.succ ?_
     simp only [Ql.j0,Bool.false_eq_true,if_false]
     unfold VB
     by_cases h5:a2=255
     ·simp only [if_pos h5]
      by_cases h6:a3=0
      ·simp only [if_pos h6]
       by_cases h7:a4=0
       ·simp only [if_pos h7]
        refine Evs.done ?_
        cases a1
        ·simp;exact ⟨⟨h6,h7⟩,hl1,hRF⟩
        ·simp
       ·simp only [if_neg h7]
        exact Evs.done (no (fun h8=>h7 h8.1.2.1) _ rfl)
      ·simp only [if_neg h6]
       exact Evs.done (no (fun h8=>h6 h8.1.1) _ rfl)
     ·simp only [if_neg h5]
      cases a1 with
      | true=>
       simp only [if_true]
       refine Evs.done ?_
       simp only [beq_iff_eq]
       exact ⟨fun h8=>⟨⟨by omega,h3,h4⟩,hl1,fun _=>by omega,hRF⟩,fun h8=>by have:=h8.2.2.1 trivial;omega⟩
      | false=>
       simp only [Bool.false_eq_true,if_false]
       refine Evs.done ?_
       simp only [true_iff]
       exact ⟨⟨by omega,h3,h4⟩,hl1,(fun h8=>h8.elim),hRF⟩
    ·simp only [decide_eq_false h4,Bool.not_false]
     refine (specB_j0_true a0 a1 a2 a3 a4 l).mono (no ?_)
     unfold VB
     split
     ·rintro ⟨⟨_,h8,_⟩,_⟩
      exact h4 (by omega)
     ·exact fun h8=>h4 h8.1.2.2
   ·simp only [if_neg h3]
    refine (specB_j0_true a0 a1 a2 a3 a4 l).mono (no ?_)
    unfold VB
    split
    ·rintro ⟨⟨h8,_,_⟩,_⟩
     exact h3 (by omega)
    ·exact fun h8=>h3 h8.1.2.1
  ·simp only [if_neg h2]
   refine (specB_j0_true a0 a1 a2 a3 a4 l).mono (no ?_)
   unfold VB
   split
   ·rename_i h8
    exact fun _=>h2 (by omega)
   ·exact fun h8=>h2 (by have:=h8.1.1;omega)
 ·simp only [if_neg h]
  refine (specB_j0_true a0 a1 a2 a3 a4 l).mono (no ?_)
  exact fun h8=>h (ht.2 ⟨h8.2.2.2,h8.2.1⟩)
open Classical in
noncomputable def vb (a1:Bool) (a2 a3 a4:Int) (l:List Rc):Bool:=decide (VB a1 a2 a3 a4 l)
theorem vb_iff (a1:Bool) (a2 a3 a4:Int) (l:List Rc):vb a1 a2 a3 a4 l=true↔VB a1 a2 a3 a4 l:=by unfold vb;simp
theorem implB (a0 a1:Bool) (a2 a3 a4:Int) (l:List Rc) (hl:smallRs l):Ev (fun k=>Qd.f k a0 a1 a2 a3 a4 l) (vb a1 a2 a3 a4 l):=by
 obtain ⟨b,hb,h⟩:=implB_evs a0 a1 a2 a3 a4 l hl
 rw [show vb a1 a2 a3 a4 l=b by rw [Bool.eq_iff_iff,vb_iff,h]]
 exact hb
theorem specB (a0 a1:Bool) (a2 a3 a4:Int) (l:List Rc) (hl:smallRs l):Ev (fun k=>Ql.f k a0 a1 a2 a3 a4 l) (vb a1 a2 a3 a4 l):=by
 obtain ⟨b,hb,h⟩:=specB_evs a0 a1 a2 a3 a4 l hl
 rw [show vb a1 a2 a3 a4 l=b by rw [Bool.eq_iff_iff,vb_iff,h]]
 exact hb
abbrev Bt:=S39
abbrev rb (l:List Bt) (i:Int):Bt:=Qa l i
theorem rb_nat (l:List Bt) (j:Nat) (h:j < l.length):rb l (j:Int)=l[j]:=by
 unfold rb Qa
 rw [Int.toNat_natCast,List.getD_eq_getElem?_getD,List.getElem?_eq_getElem h]
 rfl
def smallBs (l:List Bt):Prop:=l.length≤2000000∧∀ b∈l,smallRs b.f5
theorem smallBs_at {l:List Bt} (h:smallBs l) (j:Nat) (hj:j < l.length):smallRs (rb l (j:Int)).f5:=by
 rw [rb_nat l j hj]
 exact h.2 _ (List.getElem_mem hj)
def fOff (b:Bt):Int:=(rr b.f5 0).f0
def lOff (b:Bt):Int:=(rr b.f5 ((b.f5.length:Int) - 1)).f0
def vB (b:Bt):Prop:=VB b.f1 b.f2 b.f3 b.f4 b.f5
theorem vB_pos {b:Bt} (h:vB b) : 1≤b.f5.length∧b.f5.length≤6:=h.2.1
theorem first_eq {b:Bt} (h:vB b):Re.f b.f0 b.f1 b.f2 b.f3 b.f4 b.f5=some (fOff b):=by
 have:=vB_pos h
 unfold Re.f
 rw [if_pos (show 0 < (b.f5.length:Int) by omega)]
 rfl
theorem last_eq {b:Bt} (h:vB b):Ri.f b.f0 b.f1 b.f2 b.f3 b.f4 b.f5=some (lOff b):=by
 have:=vB_pos h
 have e:wrap64 ((b.f5.length:Int) - 1)=(b.f5.length:Int) - 1:=wrap_id (by omega) (by omega)
 unfold Ri.f
 rw [e,if_pos (show 0≤(b.f5.length:Int) - 1 by omega),if_pos (show (b.f5.length:Int) - 1 < (b.f5.length:Int) by omega)]
 rfl
theorem lastS_eq {b:Bt} (h:vB b):Rf.f b.f0 b.f1 b.f2 b.f3 b.f4 b.f5=some (lOff b):=by
 have:=vB_pos h
 have e:wrap64 ((b.f5.length:Int) - 1)=(b.f5.length:Int) - 1:=wrap_id (by omega) (by omega)
 unfold Rf.f
 rw [e,if_pos (show 0≤(b.f5.length:Int) - 1 by omega),if_pos (show (b.f5.length:Int) - 1 < (b.f5.length:Int) by omega)]
 rfl
theorem RF_lt {l:List Rc} (h:RF l 0):∀ (d i:Nat),i+d+1 < l.length→(rr l (i:Int)).f0 < (rr l ((i+d+1:Nat):Int)).f0
 | 0,i,hi=>by
  have:=(h (i+1) (by omega) hi).2 (by omega)
  rw [show ((i+1:Nat):Int) - 1=(i:Int) by omega] at this
  exact this
 | d+1,i,hi=>by
  have h1:=RF_lt h d i (by omega)
  have:=(h (i+d+2) (by omega) (by omega)).2 (by omega)
  rw [show ((i+d+2:Nat):Int) - 1=((i+d+1:Nat):Int) by omega] at this
  exact Int.lt_trans h1 this
theorem fOff_le {b:Bt} (h:vB b):fOff b≤lOff b:=by
 have hp:=vB_pos h
 unfold fOff lOff
 by_cases h1:b.f5.length=1
 ·rw [h1]
  exact Int.le_refl _
 ·have:=RF_lt h.2.2.2 (b.f5.length - 2) 0 (by omega)
  rw [show ((0+(b.f5.length - 2)+1:Nat):Int)=(b.f5.length:Int) - 1 by omega] at this
  exact Int.le_of_lt this
theorem lOff_range {b:Bt} (h:vB b) : 0≤lOff b∧lOff b≤99999:=by
 have hp:=vB_pos h
 have:=(h.2.2.2 (b.f5.length - 1) (Nat.zero_le _) (by omega)).1
 unfold rv at this
 rw [Bool.and_eq_true,decide_eq_true_eq] at this
 rw [show ((b.f5.length - 1:Nat):Int)=(b.f5.length:Int) - 1 by omega] at this
 exact this.1.1
def LF (l:List Bt) (i:Nat):Prop:=∀ j,i≤j→j < l.length→vB (rb l j)∧(0 < j→lOff (rb l ((j:Int) - 1)) < fOff (rb l j))
def VL (l:List Bt):Prop:=l.length≤8∧LF l 0
theorem LF_end {l:List Bt} {i:Nat} (h:l.length≤i):LF l i:=fun j h1 h2=>by omega
theorem LF_step {l:List Bt} {i:Nat} (h:i < l.length):LF l i↔(vB (rb l i)∧(0 < i→lOff (rb l ((i:Int) - 1)) < fOff (rb l i)))∧LF l (i+1):=by
 constructor
 ·intro hl
  exact ⟨hl i (Nat.le_refl _) h,fun j h1 h2=>hl j (by omega) h2⟩
 ·rintro ⟨h0,h1⟩ j hj1 hj2
  by_cases he:j=i
  ·subst he;exact h0
  ·exact h1 j (by omega) hj2
open Classical in
noncomputable def vl (l:List Bt):Bool:=decide (VL l)
theorem vl_iff (l:List Bt):vl l=true↔VL l:=by unfold vl;simp
theorem vl_of {b:Bool} {l:List Bt} (h:b=true↔VL l):b=vl l:=by
 rw [Bool.eq_iff_iff,h,vl_iff]
theorem vb_vB (b:Bt):vb b.f1 b.f2 b.f3 b.f4 b.f5=true↔vB b:=vb_iff _ _ _ _ _
theorem implLog_loop (l:List Bt) (hl:smallBs l):∀ (d i:Nat),l.length - i=d→i≤l.length→(∀ j,j < i→vB (rb l (j:Int)))→Evs (fun k=>Qi.l0 k l l (l.length:Int) (i:Int)) (fun b=>b=true↔LF l i):=by
 have hs:=hl.1
 intro d
 induction d with
 | zero=>
  intro i hd hi _
  refine Evs.succ ?_
  simp only [Qi.l0,if_neg (show ¬ (i:Int) < (l.length:Int) by omega)]
  exact Evs.done ⟨fun _=>LF_end (by omega),fun _=>rfl⟩
 | succ d ih=>
  intro i hd hi hv
  have hlt:i < l.length:=by omega
  have e1:wrap64 ((i:Int)+1)=((i+1:Nat):Int):=by rw [wrap_id (by omega) (by omega)];omega
  refine Evs.succ ?_
  simp only [Qi.l0,if_pos (show (i:Int) < (l.length:Int) by omega),if_pos (show (0:Int)≤(i:Int) by omega),e1]
  refine Evs.bind (Evs.of (implB (rb l i).f0 (rb l i).f1 (rb l i).f2 (rb l i).f3 (rb l i).f4 (rb l i).f5 (smallBs_at hl i hlt)) rfl) ?_
  rintro _ rfl
  by_cases hb:vB (rb l i)
  ·have hb2:=(vb_vB (rb l i)).2 hb
   simp only [if_pos hb2]
   have hv2:∀ j,j < i+1→vB (rb l (j:Int)):=fun j hj=>by
    by_cases he:j=i
    ·subst he;exact hb
    ·exact hv j (by omega)
   by_cases h0:i=0
   ·subst h0
    simp only [if_neg (show ¬ ((0:Nat):Int) > 0 by omega)]
    refine (ih 1 (by omega) (by omega) hv2).mono fun b hb3=>?_
    rw [hb3,LF_step hlt]
    exact ⟨fun h=>⟨⟨hb,fun h=>absurd h (by omega)⟩,h⟩,fun h=>h.2⟩
   ·have e2:wrap64 ((i:Int) - 1)=(i:Int) - 1:=wrap_id (by omega) (by omega)
    have hp:vB (rb l ((i:Int) - 1)):=by have:=hv (i - 1) (by omega);rwa [show ((i - 1:Nat):Int)=(i:Int) - 1 by omega] at this
    have f1:=last_eq hp
    have f2:=first_eq hb
    simp only [if_pos (show (i:Int) > 0 by omega),e2,if_pos (show 0≤(i:Int) - 1 by omega),if_pos (show (i:Int) - 1 < (l.length:Int) by omega)]
    rw [show (Qa l ((i:Int) - 1))=rb l ((i:Int) - 1) from rfl,show (Qa l (i:Int))=rb l (i:Int) from rfl,f1,f2]
    simp only [bsome]
    by_cases hc:lOff (rb l ((i:Int) - 1)) ≥ fOff (rb l i)
    ·simp only [if_pos hc]
     refine Evs.done ?_
     rw [LF_step hlt]
     simp only [Bool.false_eq_true,false_iff]
     intro h
     have:=h.1.2 (by omega)
     omega
    ·simp only [if_neg hc]
     refine (ih (i+1) (by omega) (by omega) hv2).mono fun b hb3=>?_
     rw [hb3,LF_step hlt]
     exact ⟨fun h=>⟨⟨hb,fun _=>by omega⟩,h⟩,fun h=>h.2⟩
  ·have hb2:¬ vb (rb l i).f1 (rb l i).f2 (rb l i).f3 (rb l i).f4 (rb l i).f5=true:=fun h=>hb ((vb_vB (rb l i)).1 h)
   simp only [if_neg hb2]
   refine Evs.done ?_
   rw [LF_step hlt]
   simp only [Bool.false_eq_true,false_iff]
   exact fun h=>hb h.1.1
theorem implLog (l:List Bt) (hl:smallBs l):Ev (fun k=>Qi.f k l) (vl l):=by
 have hs:=hl.1
 unfold Qi.f
 by_cases h:(l.length:Int) > 8
 ·simp only [if_pos h]
  have:vl l=false:=by rw [← Bool.not_eq_true,vl_iff];exact fun h2=>by have:=h2.1;omega
  rw [this]
  exact ev_some _
 ·simp only [if_neg h]
  obtain ⟨b,h1,h2⟩:=implLog_loop l hl l.length 0 (by omega) (by omega) (fun j hj=>by omega)
  have:b=vl l:=vl_of (h2.trans ⟨fun h3=>⟨by omega,h3⟩,fun h3=>h3.2⟩)
  rw [← this]
  exact h1
theorem specLog_loop (l:List Bt) (hl:smallBs l):∀ (d i:Nat),l.length - i=d→i≤l.length→(∀ j,j < i→vB (rb l (j:Int)))→Evs (fun k=>Qk.l0 k l (i:Int)) (fun b=>b=true↔LF l i∧l.length≤8):=by
 have hs:=hl.1
 intro d
 induction d with
 | zero=>
  intro i hd hi _
  refine Evs.succ ?_
  simp only [Qk.l0,if_neg (show ¬ (i:Int) < (l.length:Int) by omega)]
  refine Evs.done ?_
  rw [decide_eq_true_eq]
  exact ⟨fun h=>⟨LF_end (by omega),by omega⟩,fun h=>by omega⟩
 | succ d ih=>
  intro i hd hi hv
  have hlt:i < l.length:=by omega
  have e1:wrap64 ((i:Int)+1)=((i+1:Nat):Int):=by rw [wrap_id (by omega) (by omega)];omega
  refine Evs.succ ?_
  simp only [Qk.l0,if_pos (show (i:Int) < (l.length:Int) by omega),if_pos (show (0:Int)≤(i:Int) by omega),e1]
  refine Evs.bind (Evs.of (specB (rb l i).f0 (rb l i).f1 (rb l i).f2 (rb l i).f3 (rb l i).f4 (rb l i).f5 (smallBs_at hl i hlt)) rfl) ?_
  rintro _ rfl
  by_cases hb:vB (rb l i)
  ·have hb2:=(vb_vB (rb l i)).2 hb
   simp only [if_pos hb2]
   have hv2:∀ j,j < i+1→vB (rb l (j:Int)):=fun j hj=>by
    by_cases he:j=i
    ·subst he;exact hb
    ·exact hv j (by omega)
   by_cases h0:i=0
   ·subst h0
    simp only [if_neg (show ¬ ((0:Nat):Int) > 0 by omega)]
    refine (ih 1 (by omega) (by omega) hv2).mono fun b hb3=>?_
    rw [hb3,LF_step hlt]
    exact ⟨fun h=>⟨⟨⟨hb,fun h=>absurd h (by omega)⟩,h.1⟩,h.2⟩,fun h=>⟨h.1.2,h.2⟩⟩
   ·have e2:wrap64 ((i:Int) - 1)=(i:Int) - 1:=wrap_id (by omega) (by omega)
    have hp:vB (rb l ((i:Int) - 1)):=by have:=hv (i - 1) (by omega);rwa [show ((i - 1:Nat):Int)=(i:Int) - 1 by omega] at this
    have f1:=lastS_eq hp
    have hpos:=(vB_pos hb).1
    simp only [if_pos (show (i:Int) > 0 by omega),e2,if_pos (show 0≤(i:Int) - 1 by omega),if_pos (show (i:Int) - 1 < (l.length:Int) by omega)]
    rw [show (Qa l ((i:Int) - 1))=rb l ((i:Int) - 1) from rfl,show (Qa l (i:Int))=rb l (i:Int) from rfl,f1]
    simp only [bsome,if_pos (show 0 < ((rb l (i:Int)).f5.length:Int) by omega)]
    by_cases hc:lOff (rb l ((i:Int) - 1)) ≥ fOff (rb l i)
    ·simp only [if_pos (show lOff (rb l ((i:Int) - 1)) ≥ (Qb (rb l (i:Int)).f5 0).f0 from hc)]
     refine Evs.done ?_
     rw [LF_step hlt]
     simp only [Bool.false_eq_true,false_iff]
     intro h
     have:=h.1.1.2 (by omega)
     omega
    ·simp only [if_neg (show ¬ lOff (rb l ((i:Int) - 1)) ≥ (Qb (rb l (i:Int)).f5 0).f0 from hc)]
     refine (ih (i+1) (by omega) (by omega) hv2).mono fun b hb3=>?_
     rw [hb3,LF_step hlt]
     exact ⟨fun h=>⟨⟨⟨hb,fun _=>by omega⟩,h.1⟩,h.2⟩,fun h=>⟨h.1.2,h.2⟩⟩
  ·have hb2:¬ vb (rb l i).f1 (rb l i).f2 (rb l i).f3 (rb l i).f4 (rb l i).f5=true:=fun h=>hb ((vb_vB (rb l i)).1 h)
   simp only [if_neg hb2]
   refine Evs.done ?_
   rw [LF_step hlt]
   simp only [Bool.false_eq_true,false_iff]
   exact fun h=>hb h.1.1.1
theorem specLog (l:List Bt) (hl:smallBs l):Ev (fun k=>Qk.f k l) (vl l):=by
 unfold Qk.f
 obtain ⟨b,h1,h2⟩:=specLog_loop l hl l.length 0 (by omega) (by omega) (fun j hj=>by omega)
 have:b=vl l:=vl_of (h2.trans ⟨fun h3=>⟨h3.2,h3.1⟩,fun h3=>⟨h3.2,h3.1⟩⟩)
 rw [← this]
 exact h1
theorem VL_at {l:List Bt} (h:VL l) (j:Nat) (hj:j < l.length):vB (rb l (j:Int)):=(h.2 j (Nat.zero_le _) hj).1
theorem VL_lt {l:List Bt} (h:VL l):∀ (d i:Nat),i+d+1 < l.length→fOff (rb l (i:Int)) < fOff (rb l ((i+d+1:Nat):Int))
 | 0,i,hi=>by
  have h1:=(h.2 (i+1) (Nat.zero_le _) hi).2 (by omega)
  rw [show ((i+1:Nat):Int) - 1=(i:Int) by omega] at h1
  have:=fOff_le (VL_at h i (by omega))
  exact Int.lt_of_le_of_lt this h1
 | d+1,i,hi=>by
  have h0:=VL_lt h d i (by omega)
  have h1:=(h.2 (i+d+2) (Nat.zero_le _) (by omega)).2 (by omega)
  rw [show ((i+d+2:Nat):Int) - 1=((i+d+1:Nat):Int) by omega] at h1
  have:=fOff_le (VL_at h (i+d+1) (by omega))
  exact Int.lt_trans h0 (Int.lt_of_le_of_lt this h1)
theorem VL_lt' {l:List Bt} (h:VL l) {i j:Nat} (hij:i < j) (hj:j < l.length):fOff (rb l (i:Int)) < fOff (rb l (j:Int)):=by
 have:=VL_lt h (j - i - 1) i (by omega)
 rwa [show i+(j - i - 1)+1=j by omega] at this
abbrev Lr:=S72
abbrev Lb:=S36
def toR (x:Lr):Rc:=⟨x.f0,x.f1,x.f2,x.f3,x.f4,x.f5⟩
def toB (x:Lb):Bt:=⟨x.f0,x.f1,x.f2,x.f3,x.f4,x.f5.map toR⟩
theorem rdLr (l:List Lr) (j:Nat) (h:j < l.length):Qp l (j:Int)=l[j]:=by
 unfold Qp
 rw [Int.toNat_natCast,List.getD_eq_getElem?_getD,List.getElem?_eq_getElem h]
 rfl
theorem rdLb (l:List Lb) (j:Nat) (h:j < l.length):Qs l (j:Int)=l[j]:=by
 unfold Qs
 rw [Int.toNat_natCast,List.getD_eq_getElem?_getD,List.getElem?_eq_getElem h]
 rfl
def sz (a:Int) (P:Prop) (r:Int):Prop:=r = -1∨(0≤r∧r≤a∧P)
theorem szInts (l:List Int) (hl:l.length≤9223372036854775807) (a:Int) (h0 : 0≤a) (h1:a≤1048576):∃ r,Rd.f l a=some r∧sz a (l.length≤1048576) r:=by
 have e:wrap64 (a - (l.length:Int))=a - (l.length:Int):=wrap_id (by omega) (by omega)
 unfold Rd.f
 rw [e]
 by_cases h:a - (l.length:Int) < 0
 ·rw [if_pos h];exact ⟨_,rfl,Or.inl rfl⟩
 ·rw [if_neg h];exact ⟨_,rfl,Or.inr ⟨by omega,by omega,by omega⟩⟩
def okR (x:Lr):Prop:=x.f3.length≤1048576∧x.f5.length≤1048576
def bigR (x:Lr):Prop:=x.f3.length≤9223372036854775807∧x.f5.length≤9223372036854775807
theorem szRec (x:Lr) (hx:bigR x) (a:Int) (h0 : 0≤a) (h1:a≤1048576):∃ r,Rn.f x.f0 x.f1 x.f2 x.f3 x.f4 x.f5 a=some r∧sz a (okR x) r:=by
 obtain ⟨r1,e1,p1⟩:=szInts x.f3 hx.1 a h0 h1
 unfold Rn.f
 rw [e1]
 rw [bsome]
 rcases p1 with rfl|⟨q0,q1,q2⟩
 ·rw [if_pos (by omega)];exact ⟨_,rfl,Or.inl rfl⟩
 ·rw [if_neg (by omega)]
  obtain ⟨r2,e2,p2⟩:=szInts x.f5 hx.2 r1 q0 (by omega)
  rw [e2]
  rw [bsome]
  rcases p2 with rfl|⟨s0,s1,s2⟩
  ·rw [if_pos (by omega)];exact ⟨_,rfl,Or.inl rfl⟩
  ·rw [if_neg (by omega)];exact ⟨_,rfl,Or.inr ⟨s0,by omega,q2,s2⟩⟩
theorem szRecs_loop (l:List Lr) (hl:l.length≤1048576) (hx:∀ x∈l,bigR x):∀ (d i:Nat) (a:Int),l.length - i=d→i≤l.length→0≤a→a≤1048576→Evs (fun k=>Qx.l0 k l a (i:Int)) (sz a (∀ j,i≤j→(h:j < l.length)→okR l[j])):=by
 intro d
 induction d with
 | zero=>
  intro i a hd hi h0 h1
  refine Evs.succ ?_
  simp only [Qx.l0,if_neg (show ¬ (i:Int) < (l.length:Int) by omega)]
  exact Evs.done (Or.inr ⟨h0,Int.le_refl _,fun j hj h=>by omega⟩)
 | succ d ih=>
  intro i a hd hi h0 h1
  have hlt:i < l.length:=by omega
  have e1:wrap64 ((i:Int)+1)=((i+1:Nat):Int):=by rw [wrap_id (by omega) (by omega)];omega
  refine Evs.succ ?_
  obtain ⟨r,er,pr⟩:=szRec l[i] (hx _ (List.getElem_mem hlt)) a h0 h1
  simp only [Qx.l0,if_pos (show (i:Int) < (l.length:Int) by omega),if_pos (show (0:Int)≤(i:Int) by omega),rdLr l i hlt,er,bsome,e1]
  rcases pr with rfl|⟨q0,q1,q2⟩
  ·simp only [if_pos (show (-1:Int) < 0 by omega)]
   exact Evs.done (Or.inl rfl)
  ·simp only [if_neg (show ¬ r < 0 by omega)]
   refine (ih (i+1) r (by omega) (by omega) q0 (by omega)).mono fun r2 h2=>?_
   rcases h2 with h2|⟨s0,s1,s2⟩
   ·exact Or.inl h2
   ·refine Or.inr ⟨s0,by omega,fun j hj h=>?_⟩
    by_cases he:j=i
    ·subst he;exact q2
    ·exact s2 j (by omega) h
theorem szRecs (l:List Lr) (hl:l.length≤9223372036854775807) (hx:∀ x∈l,bigR x) (a:Int) (h0 : 0≤a) (h1:a≤1048576):Evs (fun k=>Qx.f k l a) (sz a (l.length≤1048576∧∀ x∈l,okR x)):=by
 have e:wrap64 (a - (l.length:Int))=a - (l.length:Int):=wrap_id (by omega) (by omega)
 unfold Qx.f
 simp only [e]
 by_cases h:a - (l.length:Int) < 0
 ·simp only [if_pos h];exact Evs.done (Or.inl rfl)
 ·simp only [if_neg h]
  refine (szRecs_loop l (by omega) hx l.length 0 _ rfl (by omega) (by omega) (by omega)).mono fun r hr=>?_
  rcases hr with hr|⟨s0,s1,s2⟩
  ·exact Or.inl hr
  ·refine Or.inr ⟨s0,by omega,by omega,fun x hx2=>?_⟩
   obtain ⟨j,hj,rfl⟩:=List.getElem_of_mem hx2
   exact s2 j (Nat.zero_le _) hj
def okB (x:Lb):Prop:=x.f5.length≤1048576∧∀ y∈x.f5,okR y
def bigB (x:Lb):Prop:=x.f5.length≤9223372036854775807∧∀ y∈x.f5,bigR y
theorem szBat (x:Lb) (hx:bigB x) (a:Int) (h0 : 0≤a) (h1:a≤1048576):Evs (fun k=>Rp.f k x.f0 x.f1 x.f2 x.f3 x.f4 x.f5 a) (sz a (okB x)):=by
 unfold Rp.f
 refine Evs.bind (szRecs x.f5 hx.1 hx.2 a h0 h1) ?_
 intro r hr
 rcases hr with rfl|⟨s0,s1,s2⟩
 ·simp only [if_pos (show (-1:Int) < 0 by omega)];exact Evs.done (Or.inl rfl)
 ·simp only [if_neg (show ¬ r < 0 by omega)];exact Evs.done (Or.inr ⟨s0,s1,s2⟩)
theorem szBats_loop (l:List Lb) (hl:l.length≤1048576) (hx:∀ x∈l,bigB x):∀ (d i:Nat) (a:Int),l.length - i=d→i≤l.length→0≤a→a≤1048576→Evs (fun k=>Qv.l0 k l a (i:Int)) (sz a (∀ j,i≤j→(h:j < l.length)→okB l[j])):=by
 intro d
 induction d with
 | zero=>
  intro i a hd hi h0 h1
  refine Evs.succ ?_
  simp only [Qv.l0,if_neg (show ¬ (i:Int) < (l.length:Int) by omega)]
  exact Evs.done (Or.inr ⟨h0,Int.le_refl _,fun j hj h=>by omega⟩)
 | succ d ih=>
  intro i a hd hi h0 h1
  have hlt:i < l.length:=by omega
  have e1:wrap64 ((i:Int)+1)=((i+1:Nat):Int):=by rw [wrap_id (by omega) (by omega)];omega
  refine Evs.succ ?_
  simp only [Qv.l0,if_pos (show (i:Int) < (l.length:Int) by omega),if_pos (show (0:Int)≤(i:Int) by omega),rdLb l i hlt,e1]
  refine Evs.bind (szBat l[i] (hx _ (List.getElem_mem hlt)) a h0 h1) ?_
  intro r pr
  rcases pr with rfl|⟨q0,q1,q2⟩
  ·simp only [if_pos (show (-1:Int) < 0 by omega)]
   exact Evs.done (Or.inl rfl)
  ·simp only [if_neg (show ¬ r < 0 by omega)]
   refine (ih (i+1) r (by omega) (by omega) q0 (by omega)).mono fun r2 h2=>?_
   rcases h2 with h2|⟨s0,s1,s2⟩
   ·exact Or.inl h2
   ·refine Or.inr ⟨s0,by omega,fun j hj h=>?_⟩
    by_cases he:j=i
    ·subst he;exact q2
    ·exact s2 j (by omega) h
theorem szBats (l:List Lb) (hl:l.length≤9223372036854775807) (hx:∀ x∈l,bigB x) (a:Int) (h0 : 0≤a) (h1:a≤1048576):Evs (fun k=>Qv.f k l a) (sz a (l.length≤1048576∧∀ x∈l,okB x)):=by
 have e:wrap64 (a - (l.length:Int))=a - (l.length:Int):=wrap_id (by omega) (by omega)
 unfold Qv.f
 simp only [e]
 by_cases h:a - (l.length:Int) < 0
 ·simp only [if_pos h];exact Evs.done (Or.inl rfl)
 ·simp only [if_neg h]
  refine (szBats_loop l (by omega) hx l.length 0 _ rfl (by omega) (by omega) (by omega)).mono fun r hr=>?_
  rcases hr with hr|⟨s0,s1,s2⟩
  ·exact Or.inl hr
  ·refine Or.inr ⟨s0,by omega,by omega,fun x hx2=>?_⟩
   obtain ⟨j,hj,rfl⟩:=List.getElem_of_mem hx2
   exact s2 j (Nat.zero_le _) hj
theorem set_mid {α:Type} (a:List α) (x y : α) (b:List α) (i:Nat) (h:i=a.length):(a++x::b).set i y=a++y::b:=by
 subst h
 simp
theorem fill_step {α:Type} (l:List α) (z : α) (i:Nat) (h:i < l.length):(l.take i++List.replicate (l.length - i) z).set i l[i]=l.take (i+1)++List.replicate (l.length - (i+1)) z:=by
 have e:l.length - i=(l.length - (i+1))+1:=by omega
 rw [e,List.replicate_succ,set_mid _ _ _ _ _ (by rw [length_take];omega)]
 have h2:l.take (i+1)=l.take i ++ [l[i]]:=by simp
 rw [h2,List.append_assoc]
 rfl
theorem fill_len {α:Type} (l:List α) (z : α) (i:Nat) (h:i≤l.length):(l.take i++List.replicate (l.length - i) z).length=l.length:=by
 rw [List.length_append,length_take,List.length_replicate]
 omega
theorem toInts (l:List Int) (hl:l.length≤1048576):Ev (fun k=>Qz.f k l) l:=by
 have loop:∀ (d i:Nat),l.length - i=d→i≤l.length→Ev (fun k=>Qz.l0 k l (l.take i++List.replicate (l.length - i) 0) (i:Int)) l:=by
  intro d
  induction d with
  | zero=>
   intro i hd hi
   refine ev_succ ?_
   simp only [Qz.l0,if_neg (show ¬ (i:Int) < (l.length:Int) by omega)]
   have:l.take i++List.replicate (l.length - i) 0=l:=by rw [List.take_of_length_le (by omega),hd];simp
   rw [this]
   exact ev_some _
  | succ d ih=>
   intro i hd hi
   have hlt:i < l.length:=by omega
   have e1:wrap64 ((i:Int)+1)=((i+1:Nat):Int):=by rw [wrap_id (by omega) (by omega)];omega
   refine ev_succ ?_
   simp only [Qz.l0,if_pos (show (i:Int) < (l.length:Int) by omega),if_pos (show (0:Int)≤(i:Int) by omega),fill_len l 0 i hi,e1,Int.toNat_natCast,rd_nat l i hlt,fill_step l 0 i hlt]
   exact ih (i+1) (by omega) (by omega)
 unfold Qz.f
 simp only [if_pos (show 0≤(l.length:Int) by omega),Int.toNat_natCast,if_pos (show l.length≤35184372088832 by omega)]
 exact loop l.length 0 rfl (by omega)
theorem toRec (x:Lr) (hx:okR x):Ev (fun k=>Rt.f k x.f0 x.f1 x.f2 x.f3 x.f4 x.f5) (x.f0,x.f1,x.f2,x.f3,x.f4,x.f5):=by
 unfold Rt.f
 refine Ev.bind (toInts x.f3 hx.1) ?_
 exact Ev.bind (toInts x.f5 hx.2) (ev_some _)
theorem toRecs (l:List Lr) (hl:l.length≤1048576) (hx:∀ x∈l,okR x):Ev (fun k=>Qq.f k l) (l.map toR):=by
 have hml:(l.map toR).length=l.length:=List.length_map ..
 have loop:∀ (d i:Nat),l.length - i=d→i≤l.length→Ev (fun k=>Qq.l0 k l ((l.map toR).take i++List.replicate ((l.map toR).length - i) z42) (i:Int)) (l.map toR):=by
  intro d
  induction d with
  | zero=>
   intro i hd hi
   refine ev_succ ?_
   simp only [Qq.l0,if_neg (show ¬ (i:Int) < (l.length:Int) by omega)]
   have:(l.map toR).take i++List.replicate ((l.map toR).length - i) z42=l.map toR:=by rw [List.take_of_length_le (by omega),hml,hd];simp
   rw [this]
   exact ev_some _
  | succ d ih=>
   intro i hd hi
   have hlt:i < l.length:=by omega
   have e1:wrap64 ((i:Int)+1)=((i+1:Nat):Int):=by rw [wrap_id (by omega) (by omega)];omega
   have hfs:=fill_step (l.map toR) z42 i (by omega)
   have hfl:=fill_len (l.map toR) z42 i (by omega)
   refine ev_succ ?_
   simp only [Qq.l0,if_pos (show (i:Int) < (l.length:Int) by omega),if_pos (show (0:Int)≤(i:Int) by omega),rdLr l i hlt,e1,hfl,Int.toNat_natCast]
   refine Ev.bind (toRec l[i] (hx _ (List.getElem_mem hlt))) ?_
   simp only [if_pos (show (i:Int) < ((l.map toR).length:Int) by omega)]
   have hg:(l.map toR)[i]=toR l[i]:=by simp
   rw [hg] at hfs
   rw [show (⟨l[i].f0,l[i].f1,l[i].f2,l[i].f3,l[i].f4,l[i].f5⟩:Rc)=toR l[i] from rfl,hfs]
   exact ih (i+1) (by omega) (by omega)
 unfold Qq.f
 simp only [if_pos (show 0≤(l.length:Int) by omega),Int.toNat_natCast,if_pos (show l.length≤3518437208883 by omega)]
 have:=loop l.length 0 rfl (by omega)
 rw [hml] at this
 exact this
theorem toBat (x:Lb) (hx:okB x):Ev (fun k=>Ry.f k x.f0 x.f1 x.f2 x.f3 x.f4 x.f5) (x.f0,x.f1,x.f2,x.f3,x.f4,x.f5.map toR):=by
 unfold Ry.f
 exact Ev.bind (toRecs x.f5 hx.1 hx.2) (ev_some _)
theorem toBats (l:List Lb) (hl:l.length≤1048576) (hx:∀ x∈l,okB x):Ev (fun k=>Qh.f k l) (l.map toB):=by
 have hml:(l.map toB).length=l.length:=List.length_map ..
 have loop:∀ (d i:Nat),l.length - i=d→i≤l.length→Ev (fun k=>Qh.l0 k l ((l.map toB).take i++List.replicate ((l.map toB).length - i) z39) (i:Int)) (l.map toB):=by
  intro d
  induction d with
  | zero=>
   intro i hd hi
   refine ev_succ ?_
   simp only [Qh.l0,if_neg (show ¬ (i:Int) < (l.length:Int) by omega)]
   have:(l.map toB).take i++List.replicate ((l.map toB).length - i) z39=l.map toB:=by rw [List.take_of_length_le (by omega),hml,hd];simp
   rw [this]
   exact ev_some _
  | succ d ih=>
   intro i hd hi
   have hlt:i < l.length:=by omega
   have e1:wrap64 ((i:Int)+1)=((i+1:Nat):Int):=by rw [wrap_id (by omega) (by omega)];omega
   have hfs:=fill_step (l.map toB) z39 i (by omega)
   have hfl:=fill_len (l.map toB) z39 i (by omega)
   refine ev_succ ?_
   simp only [Qh.l0,if_pos (show (i:Int) < (l.length:Int) by omega),if_pos (show (0:Int)≤(i:Int) by omega),rdLb l i hlt,e1,hfl,Int.toNat_natCast]
   refine Ev.bind (toBat l[i] (hx _ (List.getElem_mem hlt))) ?_
   simp only [if_pos (show (i:Int) < ((l.map toB).length:Int) by omega)]
   have hg:(l.map toB)[i]=toB l[i]:=by simp
   rw [hg] at hfs
   rw [show (⟨l[i].f0,l[i].f1,l[i].f2,l[i].f3,l[i].f4,l[i].f5.map toR⟩:Bt)=toB l[i] from rfl,hfs]
   exact ih (i+1) (by omega) (by omega)
 unfold Qh.f
 simp only [if_pos (show 0≤(l.length:Int) by omega),Int.toNat_natCast,if_pos (show l.length≤5026338869833 by omega)]
 have:=loop l.length 0 rfl (by omega)
 rw [hml] at this
 exact this
theorem eqInts_self (a:List Int) (hs:a.length≤1048576):Ev (fun k=>Qy.f k a a) true:=by
 have loop:∀ (d i:Nat),a.length - i=d→i≤a.length→Ev (fun k=>Qy.l0 k a a (i:Int)) true:=by
  intro d
  induction d with
  | zero=>
   intro i hd hi
   refine ev_succ ?_
   simp only [Qy.l0,if_neg (show ¬ (i:Int) < (a.length:Int) by omega)]
   exact ev_some _
  | succ d ih=>
   intro i hd hi
   have e1:wrap64 ((i:Int)+1)=((i+1:Nat):Int):=by rw [wrap_id (by omega) (by omega)];omega
   refine ev_succ ?_
   simp only [Qy.l0,if_pos (show (i:Int) < (a.length:Int) by omega),if_pos (show (0:Int)≤(i:Int) by omega),if_true,e1]
   exact ih (i+1) (by omega) (by omega)
 unfold Qy.f
 simp only [if_true]
 exact loop a.length 0 rfl (by omega)
def okRc (x:Rc):Prop:=x.f3.length≤1048576∧x.f5.length≤1048576
theorem eqRec_self (x:Rc) (hx:okRc x):Ev (fun k=>Ro.f k x.f0 x.f1 x.f2 x.f3 x.f4 x.f5 x.f0 x.f1 x.f2 x.f3 x.f4 x.f5) true:=by
 unfold Ro.f
 simp only [if_true,bne_self_eq_false,Bool.false_eq_true,if_false]
 refine Ev.bind (eqInts_self x.f3 hx.1) ?_
 simp only [if_true]
 refine Ev.bind (eqInts_self x.f5 hx.2) ?_
 simp only [if_true]
 exact ev_some _
theorem eqRecs_self (a:List Rc) (hs:a.length≤1048576) (hx:∀ x∈a,okRc x):Ev (fun k=>Qf.f k a a) true:=by
 have loop:∀ (d i:Nat),a.length - i=d→i≤a.length→Ev (fun k=>Qf.l0 k a a (i:Int)) true:=by
  intro d
  induction d with
  | zero=>
   intro i hd hi
   refine ev_succ ?_
   simp only [Qf.l0,if_neg (show ¬ (i:Int) < (a.length:Int) by omega)]
   exact ev_some _
  | succ d ih=>
   intro i hd hi
   have hlt:i < a.length:=by omega
   have e1:wrap64 ((i:Int)+1)=((i+1:Nat):Int):=by rw [wrap_id (by omega) (by omega)];omega
   refine ev_succ ?_
   simp only [Qf.l0,if_pos (show (i:Int) < (a.length:Int) by omega),if_pos (show (0:Int)≤(i:Int) by omega),e1]
   refine Ev.bind (eqRec_self (rr a (i:Int)) (by rw [rr_nat a i hlt];exact hx _ (List.getElem_mem hlt))) ?_
   simp only [if_true]
   exact ih (i+1) (by omega) (by omega)
 unfold Qf.f
 simp only [if_true]
 exact loop a.length 0 rfl (by omega)
def okBt (x:Bt):Prop:=x.f5.length≤1048576∧∀ y∈x.f5,okRc y
theorem eqBat_self (x:Bt) (hx:okBt x):Ev (fun k=>Rs.f k x.f0 x.f1 x.f2 x.f3 x.f4 x.f5 x.f0 x.f1 x.f2 x.f3 x.f4 x.f5) true:=by
 unfold Rs.f
 simp only [if_true,bne_self_eq_false,Bool.false_eq_true,if_false]
 refine Ev.bind (eqRecs_self x.f5 hx.1 hx.2) ?_
 simp only [if_true]
 exact ev_some _
theorem eqBats_self (a:List Bt) (hs:a.length≤1048576) (hx:∀ x∈a,okBt x):Ev (fun k=>Qm.f k a a) true:=by
 have loop:∀ (d i:Nat),a.length - i=d→i≤a.length→Ev (fun k=>Qm.l0 k a a (i:Int)) true:=by
  intro d
  induction d with
  | zero=>
   intro i hd hi
   refine ev_succ ?_
   simp only [Qm.l0,if_neg (show ¬ (i:Int) < (a.length:Int) by omega)]
   exact ev_some _
  | succ d ih=>
   intro i hd hi
   have hlt:i < a.length:=by omega
   have e1:wrap64 ((i:Int)+1)=((i+1:Nat):Int):=by rw [wrap_id (by omega) (by omega)];omega
   refine ev_succ ?_
   simp only [Qm.l0,if_pos (show (i:Int) < (a.length:Int) by omega),if_pos (show (0:Int)≤(i:Int) by omega),e1]
   refine Ev.bind (eqBat_self (rb a (i:Int)) (by rw [rb_nat a i hlt];exact hx _ (List.getElem_mem hlt))) ?_
   simp only [if_true]
   exact ih (i+1) (by omega) (by omega)
 unfold Qm.f
 simp only [if_true]
 exact loop a.length 0 rfl (by omega)
theorem okBt_of (x:Lb) (h:okB x):okBt (toB x):=by
 refine ⟨by show (x.f5.map toR).length≤1048576;rw [List.length_map];exact h.1,fun y hy=>?_⟩
 obtain ⟨z,hz,rfl⟩:=List.mem_map.1 hy
 exact h.2 z hz
theorem smallRs_of (x:Lb) (h:okB x):smallRs (toB x).f5:=by
 have h2:=okBt_of x h
 exact ⟨by have:=h2.1;omega,fun y hy=>⟨by have:=(h2.2 y hy).1;omega,by have:=(h2.2 y hy).2;omega⟩⟩
theorem maxLen_le:maxLen≤9223372036854775807:=by unfold maxLen;omega
theorem bigB_of {x:Lb} (h:WF36 x):bigB x:=by
 have hm:=maxLen_le
 unfold WF36 at h
 have h5:=h.2.2.2.2.2
 refine ⟨Nat.le_trans h5.1 hm,fun y hy=>?_⟩
 have h6:=h5.2 y hy
 unfold WF72 at h6
 exact ⟨Nat.le_trans h6.2.2.2.1.1 hm,Nat.le_trans h6.2.2.2.2.2.1 hm⟩
theorem uptoI_get (a:Int) (n j:Nat) (h:j < n):rd (uptoI a n) (j:Int)=a+(j:Int):=by
 unfold rd
 rw [Int.toNat_natCast,List.getD_eq_getElem?_getD]
 have:∀ (n j:Nat) (a:Int),j < n→(uptoI a n)[j]? = some (a+(j:Int)):=by
  intro n
  induction n with
  | zero=>intro j a h;omega
  | succ n ih=>
   intro j a h
   cases j with
   | zero=>simp [uptoI]
   | succ j=>
    show (uptoI (a+1) n)[j]? = _
    rw [ih j (a+1) (by omega)]
    congr 1
    omega
 rw [this n j a h]
 rfl
theorem heldInts (n:Nat) (a:Int) (h0 : 0≤a) (h1:a+(n:Int)≤9000000000000000000):Ev (fun k=>Qo.f k (uptoI a n) a) (a+(n:Int)):=by
 have loop:∀ (d i:Nat),n - i=d→i≤n→Ev (fun k=>Qo.l0 k (uptoI a n) (a+(i:Int)) (i:Int)) (a+(n:Int)):=by
  intro d
  induction d with
  | zero=>
   intro i hd hi
   obtain rfl:i=n:=by omega
   refine ev_succ ?_
   simp only [Qo.l0,uptoI_len,if_neg (show ¬ (i:Int) < (i:Int) by omega)]
   exact ev_some _
  | succ d ih=>
   intro i hd hi
   have e1:wrap64 ((i:Int)+1)=((i+1:Nat):Int):=by rw [wrap_id (by omega) (by omega)];omega
   have e2:wrap64 (a+(i:Int)+1)=a+((i+1:Nat):Int):=by rw [wrap_id (by omega) (by omega)];omega
   refine ev_succ ?_
   simp only [Qo.l0,uptoI_len,if_pos (show (i:Int) < (n:Int) by omega),if_pos (show (0:Int)≤(i:Int) by omega),uptoI_get a n i (by omega),if_true,e1,e2]
   exact ih (i+1) (by omega) (by omega)
 unfold Qo.f
 have h:=loop n 0 rfl (by omega)
 rw [show a+((0:Nat):Int)=a by omega] at h
 exact h
theorem markL_get (l:List Rc):∀ (m:Nat) (a:Int) (x:Rc),l[m]? = some x→(markL l a)[m]? = some (mkRX x (a+(cntL (l.take m):Int))):=by
 induction l with
 | nil=>intro m a x h;simp at h
 | cons y t ih=>
  intro m a x h
  cases m with
  | zero=>
   have:y=x:=by simpa using h
   subst this
   simp [markL,cntL]
  | succ m=>
   have h' : t[m]? = some x:=by simpa using h
   show (markL t (a+(cntX y:Int)))[m]? = _
   rw [ih m _ x h',List.take_succ_cons,cntL]
   congr 2
   omega
theorem rr_mark (l:List Rc) (a:Int) (m:Nat) (h:m < l.length):rr (markL l a) (m:Int)=mkRX l[m] (a+(cntL (l.take m):Int)):=by
 have h1:=markL_get l m a _ (List.getElem?_eq_getElem h)
 have h2:m < (markL l a).length:=by rw [markL_len];exact h
 rw [rr_nat _ m h2]
 exact (List.getElem?_eq_some_iff.1 h1).2
theorem heldRecs (l:List Rc) (a:Int) (h0 : 0≤a) (h1:a+(cntL l:Int)≤9000000000000000000):Ev (fun k=>Qj.f k (markL l a) a) (a+(cntL l:Int)):=by
 have loop:∀ (d i:Nat),l.length - i=d→i≤l.length→Ev (fun k=>Qj.l0 k (markL l a) (a+(cntL (l.take i):Int)) (i:Int)) (a+(cntL l:Int)):=by
  intro d
  induction d with
  | zero=>
   intro i hd hi
   obtain rfl:i=l.length:=by omega
   rw [List.take_length]
   refine ev_succ ?_
   simp only [Qj.l0,markL_len,if_neg (show ¬ (l.length:Int) < (l.length:Int) by omega)]
   exact ev_some _
  | succ d ih=>
   intro i hd hi
   have hlt:i < l.length:=by omega
   have hle:=le_cntL l
   have e1:wrap64 ((i:Int)+1)=((i+1:Nat):Int):=by rw [wrap_id (by omega) (by omega)];omega
   have hr:=rr_mark l a i hlt
   have hc:=cnt_at l (List.getElem?_eq_getElem hlt)
   have ht:=cntL_take l (i+1)
   generalize l[i]=x at hr hc
   obtain ⟨kk,hkk⟩:∃ kk:Int,kk=a+(cntL (l.take i):Int):=⟨_,rfl⟩
   rw [← hkk] at hr
   rw [← hkk]
   have hcx:cntX x=4+x.f3.length+x.f5.length:=rfl
   have w1:wrap64 (kk+1)=kk+1:=wrap_id (by omega) (by omega)
   have w2:wrap64 (kk+1+1)=kk+1+1:=wrap_id (by omega) (by omega)
   have w3:wrap64 (kk+1+1+1)=kk+1+1+1:=wrap_id (by omega) (by omega)
   have w4:wrap64 (kk+1+1+1+(x.f3.length:Int)+1)=kk+1+1+1+(x.f3.length:Int)+1:=wrap_id (by omega) (by omega)
   have hi1:=heldInts x.f3.length (kk+1+1+1) (by omega) (by omega)
   have hi2:=heldInts x.f5.length (kk+1+1+1+(x.f3.length:Int)+1) (by omega) (by omega)
   have ih':=ih (i+1) (by omega) (by omega)
   have hend:a+(cntL (l.take (i+1)):Int)=kk+1+1+1+(x.f3.length:Int)+1+(x.f5.length:Int):=by omega
   rw [hend] at ih'
   have hn1:¬ kk+1+1+1+(x.f3.length:Int) < 0:=by omega
   have hn2:¬ kk+1+1+1+(x.f3.length:Int)+1+(x.f5.length:Int) < 0:=by omega
   have hr' : Qb (markL l a) (i:Int)=mkRX x kk:=hr
   refine ev_succ ?_
   simp only [Qj.l0,markL_len,if_pos (show (i:Int) < (l.length:Int) by omega),if_pos (show (0:Int)≤(i:Int) by omega),hr',mkRX,if_true,w1,w2,w3,bne_self_eq_false,Bool.false_eq_true,if_false,e1]
   refine Ev.bind hi1 ?_
   simp only [if_neg hn1,bne_self_eq_false,Bool.false_eq_true,if_false,w4]
   refine Ev.bind hi2 ?_
   simp only [if_neg hn2]
   exact ih'
 unfold Qj.f
 have h:=loop l.length 0 rfl (by omega)
 rw [show a+(cntL (l.take 0):Int)=a by simp [cntL]] at h
 exact h
theorem cntL_bound (l:List Rc) (hl:l.length≤1048576) (hx:∀ x∈l,okRc x):cntL l≤2199027449856:=by
 have:∀ l:List Rc,(∀ x∈l,okRc x)→cntL l≤l.length * 2097156:=by
  intro l
  induction l with
  | nil=>intro _;simp [cntL]
  | cons y t ih=>
   intro hx
   have h1:=hx y List.mem_cons_self
   have h2:=ih (fun x hx'=>hx x (List.mem_cons_of_mem _ hx'))
   have h3:cntX y=4+y.f3.length+y.f5.length:=rfl
   have h4:=h1.1
   have h5:=h1.2
   simp only [cntL,List.length_cons]
   omega
 have:=this l hx
 omega
theorem markRecs (l:List Rc) (hl:l.length≤1048576) (hx:∀ x∈l,okRc x):Q2.f l 1=some (1+(cntL l:Int),markL l 1)∧Ev (fun k=>Qj.f k (markL l 1) 1) (1+(cntL l:Int)):=by
 have hb:=cntL_bound l hl hx
 refine ⟨?_,heldRecs l 1 (by omega) (by omega)⟩
 unfold Q2.f
 rw [if_pos ⟨by omega,by omega⟩]
theorem cntR_boundU (len:Nat→Nat×Nat):∀ n,(∀ i,i < n→(len i).1≤1048576∧(len i).2≤1048576)→cntR len n≤n * 2097156
 | 0,_=>Nat.le_refl _
 | n+1,h=>by
  have h1:=cntR_boundU len n (fun i hi=>h i (by omega))
  have h2:=h n (by omega)
  have h3:cntR len (n+1)=cntR len n+(4+(len n).1+(len n).2):=rfl
  omega
theorem cntB_boundU (num:Nat→Nat) (len:Nat→Nat→Nat×Nat):∀ n,(∀ i,i < n→num i≤1048576∧∀ j,j < num i→(len i j).1≤1048576∧(len i j).2≤1048576)→cntB num len n≤n * 2199027449861
 | 0,_=>Nat.le_refl _
 | n+1,h=>by
  have h1:=cntB_boundU num len n (fun i hi=>h i (by omega))
  have h2:=h n (by omega)
  have h4:=cntR_boundU (len n) (num n) h2.2
  have h3:cntB num len (n+1)=cntB num len n+(5+cntR (len n) (num n)):=rfl
  omega
theorem markBatchS_f (l:List Bt) (hl:l.length≤1048576) (hx:∀ x∈l,okBt x):∃ z,Rj.f l 1=some z∧0≤z:=by
 have hb:=cntB_boundU (numB l) (lenB l) l.length (fun i hi=>by
  have e:Qa l (i:Int)=l[i]:=rb_nat l i hi
  have h:=hx _ (List.getElem_mem hi)
  rw [← e] at h
  refine ⟨h.1,fun j hj=>?_⟩
  have e2:Qb (Qa l (i:Int)).f5 (j:Int)=(Qa l (i:Int)).f5[j]:=rr_nat _ j hj
  have h2:=h.2 _ (List.getElem_mem hj)
  rw [← e2] at h2
  exact h2)
 have ho:okMarkB l 1=true:=by
  unfold okMarkB
  rw [decide_eq_true_eq]
  omega
 unfold Rj.f
 rw [if_pos ho]
 exact ⟨_,rfl,by omega⟩
abbrev pr (l:List Bt) (i:Nat):Int:=(rb l (i:Int)).f2
abbrev mk (l:List Bt) (i:Nat):Bool:=(rb l (i:Int)).f1
def nm (l:List Bt):Nat→Nat→Option Nat
 | 0,_=>none
 | k+1,i=>match nm l k i with
  | some j=>some j
  | none=>if i < k∧mk l k=true∧pr l k=pr l i then some k else none
theorem nm_succ_some {l:List Bt} {k i j:Nat} (h:nm l k i=some j):nm l (k+1) i=some j:=by simp only [nm,h]
theorem nm_le {l:List Bt} {i j:Nat} : ∀ {k m:Nat},nm l k i=some j→k≤m→nm l m i=some j:=by
 intro k m h hk
 induction m with
 | zero=>
  have:k=0:=by omega
  subst this;exact h
 | succ m ih=>
  by_cases he:k=m+1
  ·subst he;exact h
  ·exact nm_succ_some (ih (by omega))
theorem nm_some {l:List Bt} {i j:Nat} : ∀ {k:Nat},nm l k i=some j→i < j∧j < k∧mk l j=true∧pr l j=pr l i
 | 0,h=>by simp [nm] at h
 | k+1,h=>by
  simp only [nm] at h
  cases hn:nm l k i with
  | some j'=>
   rw [hn] at h
   obtain rfl:=Option.some.inj h
   have:=nm_some hn
   exact ⟨this.1,by omega,this.2.2⟩
  | none=>
   rw [hn] at h
   dsimp only at h
   split at h
   ·rename_i hc
    obtain rfl:=Option.some.inj h
    exact ⟨hc.1,by omega,hc.2⟩
   ·cases h
theorem nm_self {l:List Bt} : ∀ {k i:Nat},k≤i+1→nm l k i=none
 | 0,_,_=>rfl
 | k+1,i,h=>by
  simp only [nm,nm_self (show k≤i+1 by omega)]
  rw [if_neg (by omega)]
def wAt (l:List Bt) (k i:Nat):Int:=if pr l i=255 then 1 else if mk l i=true then 3 else match nm l k i with
 | none=>0
 | some j=>if tellsP (rb l (j:Int))=true then 1 else 2
def bAt (l:List Bt) (k i:Nat):Int:=if pr l i=255 then -1 else if mk l i=true then -1 else match nm l k i with
 | none=>-1
 | some j=>(j:Int)
def opens (l:List Bt) (k i:Nat):Bool:=decide (pr l i≠255)&&(!mk l i&&(nm l k i).isNone)
theorem fold_fin (l:List Bt) (i:Nat):∀ (xs:List Nat) (s:FSt),(∀ x∈xs,x < s.ws.length∧x < s.bs.length) →
  (xs.foldl (fin1 l i) s).op=s.op++xs.filter (fun x=>decide (pr l x≠pr l i)) ∧
  (∀ y,(xs.foldl (fin1 l i) s).ws.getD y 0=if y∈xs∧pr l y=pr l i then (if tellsP (rb l (i:Int))=true then 1 else 2) else s.ws.getD y 0) ∧
  (∀ y,(xs.foldl (fin1 l i) s).bs.getD y 0=if y∈xs∧pr l y=pr l i then (i:Int) else s.bs.getD y 0)
 | [],s,_=>by simp
 | x::xs,s,h=>by
  have hx:=h x (by simp)
  by_cases hp:pr l x=pr l i
  ·have hf:fin1 l i s x=⟨s.ws.set x (if tellsP (rb l (i:Int))=true then 1 else 2),s.bs.set x (i:Int),s.op⟩:=if_pos hp
   have ih:=fold_fin l i xs (fin1 l i s x) (fun y hy=>by rw [hf];simpa using h y (by simp [hy]))
   rw [List.foldl_cons]
   rw [hf] at ih ⊢
   refine ⟨?_,fun y=>?_,fun y=>?_⟩
   ·rw [ih.1];simp [hp]
   ·rw [ih.2.1 y]
    by_cases hy:y=x
    ·subst hy
     simp [hp,List.getD_eq_getElem?_getD,List.getElem?_set_self hx.1]
    ·simp [hy,List.getD_eq_getElem?_getD,List.getElem?_set_ne (Ne.symm hy)]
   ·rw [ih.2.2 y]
    by_cases hy:y=x
    ·subst hy
     simp [hp,List.getD_eq_getElem?_getD,List.getElem?_set_self hx.2]
    ·simp [hy,List.getD_eq_getElem?_getD,List.getElem?_set_ne (Ne.symm hy)]
  ·have hf:fin1 l i s x=⟨s.ws,s.bs,s.op ++ [x]⟩:=if_neg hp
   have ih:=fold_fin l i xs (fin1 l i s x) (fun y hy=>by rw [hf];exact h y (by simp [hy]))
   rw [List.foldl_cons]
   rw [hf] at ih ⊢
   refine ⟨?_,fun y=>?_,fun y=>?_⟩
   ·rw [ih.1];simp [hp]
   ·rw [ih.2.1 y]
    by_cases hy:y=x
    ·subst hy;simp [hp]
    ·simp [hy]
   ·rw [ih.2.2 y]
    by_cases hy:y=x
    ·subst hy;simp [hp]
    ·simp [hy]
structure FP (l:List Bt) (k:Nat) (s:FSt):Prop where
 op:s.op=(List.range k).filter (opens l k)
 ws:∀ i,i < k→s.ws.getD i 0=wAt l k i
 wz:∀ i,k≤i→s.ws.getD i 0=0
 bs:∀ i,i < k→s.bs.getD i 0=bAt l k i
theorem nm_step {l:List Bt} {k i:Nat} (h:¬ (mk l k=true∧pr l k=pr l i)):nm l (k+1) i=nm l k i:=by
 cases hn:nm l k i with
 | some j=>exact nm_succ_some hn
 | none=>simp only [nm,hn];rw [if_neg (fun h2=>h h2.2)]
theorem FP_step {l:List Bt} {k:Nat} (hk:k < l.length) {s:FSt} (hok:FOk l.length k s) (h:FP l k s):FP l (k+1) (fstep l s k):=by
 have hlw:=hok.lw
 have hlb:=hok.lb
 have gs:∀ (a:List Int) (i x:Nat) (v:Int),x < a.length→(a.set x v).getD i 0=if i=x then v else a.getD i 0:=by
  intro a i x v hx
  by_cases hi:i=x
  ·subst hi;simp [List.getD_eq_getElem?_getD,List.getElem?_set_self hx]
  ·simp [hi,List.getD_eq_getElem?_getD,List.getElem?_set_ne (Ne.symm hi)]
 unfold fstep
 by_cases h255:pr l k=255
 ·rw [if_pos h255]
  have same:∀ i,pr l i≠255→nm l (k+1) i=nm l k i:=fun i hi=>nm_step (fun h2=>hi (h2.2.symm.trans h255))
  refine ⟨?_,fun i hi=>?_,fun i hi=>?_,fun i hi=>?_⟩
  ·dsimp only
   rw [h.op,List.range_succ,List.filter_append]
   have h1 : [k].filter (opens l (k+1)) = []:=by simp [opens,h255]
   rw [h1,List.append_nil]
   refine List.filter_congr (fun i hi=>?_)
   unfold opens
   by_cases hp:pr l i=255
   ·simp [hp]
   ·rw [same i hp]
  ·dsimp only
   rw [gs _ _ _ _ (by omega)]
   by_cases he:i=k
   ·rw [if_pos he,he];unfold wAt;rw [if_pos h255]
   ·rw [if_neg he,h.ws i (by omega)]
    unfold wAt
    by_cases hp:pr l i=255
    ·rw [if_pos hp,if_pos hp]
    ·rw [if_neg hp,if_neg hp,same i hp]
  ·dsimp only
   rw [gs _ _ _ _ (by omega),if_neg (by omega)]
   exact h.wz i (by omega)
  ·dsimp only
   rw [gs _ _ _ _ (by omega)]
   by_cases he:i=k
   ·rw [if_pos he,he];unfold bAt;rw [if_pos h255]
   ·rw [if_neg he,h.bs i (by omega)]
    unfold bAt
    by_cases hp:pr l i=255
    ·rw [if_pos hp,if_pos hp]
    ·rw [if_neg hp,if_neg hp,same i hp]
 ·rw [if_neg h255]
  by_cases hm:mk l k=false
  ·rw [if_pos hm]
   have same:∀ i,nm l (k+1) i=nm l k i:=fun i=>nm_step (fun h2=>by rw [hm] at h2;cases h2.1)
   have hk0:nm l (k+1) k=none:=nm_self (Nat.le_refl _)
   refine ⟨?_,fun i hi=>?_,fun i hi=>?_,fun i hi=>?_⟩
   ·dsimp only
    rw [h.op,List.range_succ,List.filter_append]
    have h1 : [k].filter (opens l (k+1)) = [k]:=by simp [opens,h255,hm,hk0]
    rw [h1]
    congr 1
    refine List.filter_congr (fun i hi=>?_)
    unfold opens
    rw [same i]
   ·dsimp only
    by_cases he:i=k
    ·rw [he,h.wz k (Nat.le_refl _)]
     unfold wAt
     rw [if_neg h255,if_neg (by rw [hm];simp),hk0]
    ·rw [h.ws i (by omega)]
     unfold wAt
     rw [same i]
   ·dsimp only
    exact h.wz i (by omega)
   ·dsimp only
    rw [gs _ _ _ _ (by omega)]
    by_cases he:i=k
    ·rw [if_pos he,he];unfold bAt;rw [if_neg h255,if_neg (by rw [hm];simp),hk0]
    ·rw [if_neg he,h.bs i (by omega)]
     unfold bAt
     rw [same i]
  ·have hm' : mk l k=true:=by simpa using hm
   rw [if_neg hm]
   have hop:∀ x,x∈s.op↔x < k∧pr l x≠255∧mk l x=false∧nm l k x=none:=by
    intro x
    rw [h.op,List.mem_filter,List.mem_range]
    simp [opens]
   have hF:=fold_fin l k s.op ⟨s.ws.set k 3,s.bs.set k (-1),[]⟩ (fun x hx=>by
    have:=hok.op x hx
    simp only [List.length_set]
    omega)
   dsimp only at hF
   have hn:∀ i,i < k→nm l (k+1) i=match nm l k i with|some j=>some j|none=>if pr l k=pr l i then some k else none:=by
    intro i hi
    simp only [nm]
    cases nm l k i with
    | some j=>rfl
    | none=>simp [hi,hm']
   refine ⟨?_,fun i hi=>?_,fun i hi=>?_,fun i hi=>?_⟩
   ·rw [hF.1,List.nil_append,h.op,List.range_succ,List.filter_append,List.filter_filter]
    have h1 : [k].filter (opens l (k+1)) = []:=by simp [opens,hm']
    rw [h1,List.append_nil]
    refine List.filter_congr (fun i hi=>?_)
    rw [List.mem_range] at hi
    unfold opens
    rw [hn i hi]
    cases hni:nm l k i with
    | some j=>simp
    | none=>
     by_cases hp:pr l k=pr l i
     ·simp [hp]
     ·have hp2:¬ pr l i=pr l k:=fun e=>hp e.symm
      simp [hp,hp2]
   ·rw [hF.2.1 i]
    by_cases he:i=k
    ·subst he
     rw [if_neg (by rw [hop];omega),gs _ _ _ _ (by omega),if_pos rfl]
     unfold wAt
     rw [if_neg h255,if_pos hm']
    ·have hik:i < k:=by omega
     rw [gs _ _ _ _ (by omega),if_neg he,h.ws i hik]
     unfold wAt
     by_cases hp:pr l i=255
     ·rw [if_neg (by rw [hop];exact fun h2=>h2.1.2.1 hp),if_pos hp,if_pos hp]
     ·rw [if_neg hp,if_neg hp]
      by_cases hmi:mk l i=true
      ·rw [if_neg (by rw [hop];intro h2;rw [hmi] at h2;cases h2.1.2.2.1),if_pos hmi,if_pos hmi]
      ·rw [if_neg hmi,if_neg hmi,hn i hik]
       cases hni:nm l k i with
       | some j=>rw [if_neg (by rw [hop,hni];intro h2;cases h2.1.2.2.2)]
       | none=>
        by_cases hpk:pr l i=pr l k
        ·rw [if_pos ⟨(hop i).2 ⟨hik,hp,by simpa using hmi,hni⟩,hpk⟩]
         simp [hpk]
        ·rw [if_neg (fun h2=>hpk h2.2)]
         have hp2:¬ pr l k=pr l i:=fun e=>hpk e.symm
         simp [hp2]
   ·rw [hF.2.1 i,if_neg (by rw [hop];omega),gs _ _ _ _ (by omega),if_neg (by omega)]
    exact h.wz i (by omega)
   ·rw [hF.2.2 i]
    by_cases he:i=k
    ·subst he
     rw [if_neg (by rw [hop];omega),gs _ _ _ _ (by omega),if_pos rfl]
     unfold bAt
     rw [if_neg h255,if_pos hm']
    ·have hik:i < k:=by omega
     rw [gs _ _ _ _ (by omega),if_neg he,h.bs i hik]
     unfold bAt
     by_cases hp:pr l i=255
     ·rw [if_neg (by rw [hop];exact fun h2=>h2.1.2.1 hp),if_pos hp,if_pos hp]
     ·rw [if_neg hp,if_neg hp]
      by_cases hmi:mk l i=true
      ·rw [if_neg (by rw [hop];intro h2;rw [hmi] at h2;cases h2.1.2.2.1),if_pos hmi,if_pos hmi]
      ·rw [if_neg hmi,if_neg hmi,hn i hik]
       cases hni:nm l k i with
       | some j=>rw [if_neg (by rw [hop,hni];intro h2;cases h2.1.2.2.2)]
       | none=>
        by_cases hpk:pr l i=pr l k
        ·rw [if_pos ⟨(hop i).2 ⟨hik,hp,by simpa using hmi,hni⟩,hpk⟩]
         simp [hpk]
        ·rw [if_neg (fun h2=>hpk h2.2)]
         have hp2:¬ pr l k=pr l i:=fun e=>hpk e.symm
         simp [hp2]
theorem FP_all (l:List Bt):∀ k,k≤l.length→FP l k (fatesTo l k)
 | 0,_=>⟨by simp [fatesTo,fates0],fun i h=>by omega,fun i h=>by simp [fatesTo,fates0,List.getD_eq_getElem?_getD,List.getElem?_replicate];split <;> rfl,fun i h=>by omega⟩
 | k+1,h=>by
  rw [fatesTo_succ]
  exact FP_step (by omega) (fates_ok l k (by omega)) (FP_all l k (by omega))
theorem fates_len (l:List Bt):(fatesTo l l.length).ws.length=l.length∧(fatesTo l l.length).bs.length=l.length:=⟨(fates_ok l _ (Nat.le_refl _)).lw,(fates_ok l _ (Nat.le_refl _)).lb⟩
theorem fates_w (l:List Bt) (i:Nat) (h:i < l.length):rd (fatesTo l l.length).ws (i:Int)=wAt l l.length i:=by
 have:=(FP_all l l.length (Nat.le_refl _)).ws i h
 unfold rd
 rwa [Int.toNat_natCast]
theorem fates_fit {l:List Bt} (h:VL l):Rg.f l=some ((fatesTo l l.length).ws,(fatesTo l l.length).bs):=by
 unfold Rg.f
 rw [if_pos]
 unfold fatesFit
 rw [Bool.and_eq_true,decide_eq_true_eq,List.all_eq_true]
 refine ⟨by have:=h.1;omega,fun b hb=>?_⟩
 obtain ⟨j,hj,rfl⟩:=List.getElem_of_mem hb
 have:=(vB_pos (VL_at h j hj)).1
 rw [rb_nat l j hj] at this
 exact decide_eq_true (by omega)
def nmI:Option Nat→Int
 | none=>-1
 | some j=>(j:Int)
theorem specMark_loop (l:List Bt) (hl:l.length≤2000000) (i:Nat) (hi:i < l.length):∀ (d j:Nat),l.length - j=d→i < j→j≤l.length→nm l j i=none→Ev (fun k=>Qu.l0 k l (i:Int) (j:Int)) (nmI (nm l l.length i)):=by
 intro d
 induction d with
 | zero=>
  intro j hd h1 h2 hn
  have hj:j=l.length:=by omega
  subst hj
  refine ev_succ ?_
  simp only [Qu.l0,if_neg (show ¬ (l.length:Int) < (l.length:Int) by omega),hn]
  exact ev_some _
 | succ d ih=>
  intro j hd h1 h2 hn
  have e1:wrap64 ((j:Int)+1)=((j+1:Nat):Int):=by rw [wrap_id (by omega) (by omega)];omega
  refine ev_succ ?_
  simp only [Qu.l0,if_pos (show (j:Int) < (l.length:Int) by omega),if_pos (show (0:Int)≤(j:Int) by omega),e1]
  have next:¬ (mk l j=true∧pr l j=pr l i)→Ev (fun k=>Qu.l0 k l (i:Int) ((j+1:Nat):Int)) (nmI (nm l l.length i)):=fun h=>ih (j+1) (by omega) (by omega) (by omega) (by rw [nm_step h];exact hn)
  by_cases hm:mk l j=true
  ·simp only [if_pos (show (Qa l (j:Int)).f1=true from hm),if_pos (show (0:Int)≤(i:Int) by omega),if_pos (show (i:Int) < (l.length:Int) by omega)]
   by_cases hp:pr l j=pr l i
   ·simp only [if_pos (show (Qa l (j:Int)).f2=(Qa l (i:Int)).f2 from hp)]
    have h3:nm l (j+1) i=some j:=by simp only [nm,hn];rw [if_pos ⟨h1,hm,hp⟩]
    rw [nm_le h3 (by omega)]
    exact ev_some _
   ·simp only [if_neg (show ¬ (Qa l (j:Int)).f2=(Qa l (i:Int)).f2 from hp)]
    exact next (fun h=>hp h.2)
  ·simp only [if_neg (show ¬ (Qa l (j:Int)).f1=true from hm)]
   exact next (fun h=>hm h.1)
theorem specMarkAt (l:List Bt) (hl:l.length≤2000000) (i:Nat) (hi:i < l.length):Ev (fun k=>Qu.f k l (i:Int)) (nmI (nm l l.length i)):=by
 unfold Qu.f
 have e1:wrap64 ((i:Int)+1)=((i+1:Nat):Int):=by rw [wrap_id (by omega) (by omega)];omega
 rw [e1]
 exact specMark_loop l hl i hi _ (i+1) rfl (by omega) (by omega) (nm_self (Nat.le_refl _))
theorem ours_eq (b:Bt):Rb.f b.f0 b.f1 b.f2 b.f3 b.f4 b.f5=some (decide (b.f2≠255) && !b.f1):=by
 unfold Rb.f
 by_cases h:b.f2=255
 ·rw [if_pos h];simp [h]
 ·rw [if_neg h];simp [h]
theorem nmI_neg (o:Option Nat):nmI o < 0↔o=none:=by
 cases o with
 | none=>simp [nmI]
 | some j=>
  simp only [nmI];constructor
  ·intro h;omega
  ·intro h;cases h
theorem opens_iff (l:List Bt) (k i:Nat):opens l k i=true↔pr l i≠255∧mk l i=false∧nm l k i=none:=by
 unfold opens
 simp
theorem wAt_zero (l:List Bt) (k i:Nat):wAt l k i=0↔opens l k i=true:=by
 rw [opens_iff]
 unfold wAt
 by_cases h:pr l i=255
 ·simp [h]
 ·by_cases h2:mk l i=true
  ·simp [h,h2]
  ·cases h3:nm l k i with
   | none=>simp [h,h2]
   | some j=>by_cases h4:tellsP (rb l (j:Int))=true <;> simp [h,h2,h4]
def tailP (l:List Bt):Int:=if l.length=0 then 0 else lOff (rb l ((l.length:Int) - 1))+1
def EndP (l:List Bt) (r:Int):Prop:=(∃ i,i < l.length∧opens l l.length i=true∧(∀ j,j < i→opens l l.length j=false)∧r=fOff (rb l (i:Int)))∨((∀ j,j < l.length→opens l l.length j=false)∧r=tailP l)
theorem VL_last {l:List Bt} (h:VL l) (h0:l.length≠0):vB (rb l ((l.length:Int) - 1)):=by
 have:=VL_at h (l.length - 1) (by omega)
 rwa [show ((l.length - 1:Nat):Int)=(l.length:Int) - 1 by omega] at this
theorem vl_true {l:List Bt} (h:VL l):vl l=true:=(vl_iff l).2 h
theorem vl_false {l:List Bt} (h:¬ VL l):vl l=false:=by rw [← Bool.not_eq_true,vl_iff];exact h
theorem specEnd_loop (l:List Bt) (hl:smallBs l) (h:VL l):∀ (d i:Nat),l.length - i=d→i≤l.length→(∀ j,j < i→opens l l.length j=false)→Evs (fun k=>Q3.l0 k l (i:Int)) (EndP l):=by
 have hs:=hl.1
 intro d
 induction d with
 | zero=>
  intro i hd hi ho
  refine Evs.succ ?_
  simp only [Q3.l0,if_neg (show ¬ (i:Int) < (l.length:Int) by omega)]
  by_cases h0:l.length=0
  ·simp only [if_pos (show (l.length:Int)=0 by omega)]
   exact Evs.done (.inr ⟨fun j hj=>by omega,by unfold tailP;rw [if_pos h0]⟩)
  ·have e:wrap64 ((l.length:Int) - 1)=(l.length:Int) - 1:=wrap_id (by omega) (by omega)
   have hv:=VL_last h h0
   have hr:=lOff_range hv
   have e2:wrap64 (lOff (rb l ((l.length:Int) - 1))+1)=lOff (rb l ((l.length:Int) - 1))+1:=wrap_id (by omega) (by omega)
   have f:=lastS_eq hv
   simp only [if_neg (show ¬ (l.length:Int)=0 by omega),e,if_pos (show 0≤(l.length:Int) - 1 by omega),if_pos (show (l.length:Int) - 1 < (l.length:Int) by omega)]
   rw [show (Qa l ((l.length:Int) - 1))=rb l ((l.length:Int) - 1) from rfl,f]
   simp only [bsome,e2]
   exact Evs.done (.inr ⟨fun j hj=>ho j (by omega),by unfold tailP;rw [if_neg h0]⟩)
 | succ d ih=>
  intro i hd hi ho
  have hlt:i < l.length:=by omega
  have e1:wrap64 ((i:Int)+1)=((i+1:Nat):Int):=by rw [wrap_id (by omega) (by omega)];omega
  have next:opens l l.length i=false→Evs (fun k=>Q3.l0 k l ((i+1:Nat):Int)) (EndP l):=fun hz=>ih (i+1) (by omega) (by omega) (fun j hj=>by
   by_cases he:j=i
   ·subst he;exact hz
   ·exact ho j (by omega))
  refine Evs.succ ?_
  have f:=ours_eq (rb l (i:Int))
  simp only [Q3.l0,if_pos (show (i:Int) < (l.length:Int) by omega),if_pos (show (0:Int)≤(i:Int) by omega),e1]
  rw [show (Qa l (i:Int))=rb l (i:Int) from rfl,f]
  simp only [bsome]
  by_cases hu:(decide ((rb l (i:Int)).f2≠255) && !(rb l (i:Int)).f1)=true
  ·simp only [if_pos hu]
   refine Evs.bind (Evs.of (specMarkAt l hs i hlt) rfl) ?_
   rintro _ rfl
   have hu2:pr l i≠255∧mk l i=false:=by simpa using hu
   cases hn:nm l l.length i with
   | none=>
    have hpos:=(vB_pos (VL_at h i hlt)).1
    simp only [if_pos ((nmI_neg none).2 rfl),if_pos (show 0 < ((rb l (i:Int)).f5.length:Int) by omega)]
    exact Evs.done (.inl ⟨i,hlt,(opens_iff _ _ _).2 ⟨hu2.1,hu2.2,hn⟩,ho,rfl⟩)
   | some j=>
    simp only [if_neg (show ¬ nmI (some j) < 0 from fun h2=>by have:=(nmI_neg _).1 h2;cases this)]
    exact next (by rw [← Bool.not_eq_true,opens_iff,hn];exact fun h2=>by cases h2.2.2)
  ·simp only [if_neg hu]
   exact next (by rw [← Bool.not_eq_true,opens_iff];exact fun h2=>hu (by simp [h2.1,h2.2.1]))
theorem clone_eq (l:List Int) (h:l.length≤1048576):slices_Clone_int_int.f l=some l:=by
 unfold slices_Clone_int_int.f
 rw [if_pos (by omega)]
def okc (r:Rc):Prop:=r.f3.length≤1048576∧r.f5.length≤1048576
theorem copyRec (r:Rc) (h:okc r):Rk.f r.f0 r.f1 r.f2 r.f3 r.f4 r.f5=some (r.f0,r.f1,r.f2,r.f3,r.f4,r.f5):=by
 unfold Rk.f
 rw [clone_eq _ h.1,bsome,clone_eq _ h.2,bsome]
theorem take_snoc {α:Type} (l:List α) (i:Nat) (h:i < l.length):l.take i ++ [l[i]]=l.take (i+1):=by
 rw [List.take_add_one,List.getElem?_eq_getElem h]
 rfl
theorem copyRecs_loop (l:List Rc) (hl:l.length≤1048576) (hx:∀ r∈l,okc r):∀ (d i:Nat),l.length - i=d→i≤l.length→Ev (fun k=>Qn.l0 k (l.take i) l (l.length:Int) (i:Int)) l:=by
 intro d
 induction d with
 | zero=>
  intro i hd hi
  refine ev_succ ?_
  simp only [Qn.l0,if_neg (show ¬ (i:Int) < (l.length:Int) by omega)]
  rw [List.take_of_length_le (by omega)]
  exact ev_some _
 | succ d ih=>
  intro i hd hi
  have hlt:i < l.length:=by omega
  have e1:wrap64 ((i:Int)+1)=((i+1:Nat):Int):=by rw [wrap_id (by omega) (by omega)];omega
  have hr:Qb l (i:Int)=l[i]:=rr_nat l i hlt
  have next:=ih (i+1) (by omega) (by omega)
  refine ev_succ ?_
  simp only [Qn.l0,if_pos (show (i:Int) < (l.length:Int) by omega),if_pos (show (0:Int)≤(i:Int) by omega),e1,hr,copyRec l[i] (hx _ (List.getElem_mem hlt)),bsome,if_pos (show (l.take i).length < 1759218604441 by rw [length_take];omega)]
  rw [← take_snoc l i hlt] at next
  exact next
theorem copyRecs (l:List Rc) (hl:l.length≤1048576) (hx:∀ r∈l,okc r):Ev (fun k=>Qn.f k l) l:=by
 unfold Qn.f
 simp only [if_pos (show (0:Int)≤(l.length:Int) by omega),if_pos (show ((l.length:Int)).toNat≤3518437208883 by omega)]
 exact copyRecs_loop l hl hx l.length 0 (by omega) (by omega)
theorem pv_len {has:Bool} {l:List Int} (h:pv has l=true):l.length≤12:=by
 unfold pv at h
 split at h
 ·simp only [Bool.and_eq_true,decide_eq_true_eq] at h
  exact h.1
 ·simp only [decide_eq_true_eq] at h
  omega
theorem rv_okc {r:Rc} (h:rv r=true):okc r:=by
 unfold rv at h
 simp only [Bool.and_eq_true] at h
 have h1:=pv_len h.2.1
 have h2:=pv_len h.2.2
 exact ⟨by omega,by omega⟩
theorem vB_okc {b:Bt} (h:vB b):∀ r∈b.f5,okc r:=by
 intro r hr
 obtain ⟨j,hj,rfl⟩:=List.getElem_of_mem hr
 have:=(h.2.2.2 j (Nat.zero_le _) hj).1
 rw [rr_nat b.f5 j hj] at this
 exact rv_okc this
def rAt (l:List Bt) (i:Nat):List Rc:=if wAt l l.length i=1 then (rb l (i:Int)).f5 else []
def recTo (l:List Bt) (i:Nat):List Rc:=((List.range i).map (rAt l)).flatten
theorem recTo_succ (l:List Bt) (i:Nat):recTo l (i+1)=recTo l i++rAt l i:=by
 unfold recTo
 rw [List.range_succ,List.map_append,List.flatten_append]
 simp
theorem rAt_len {l:List Bt} (h:VL l) (i:Nat) (hi:i < l.length):(rAt l i).length≤6:=by
 unfold rAt
 split
 ·exact (vB_pos (VL_at h i hi)).2
 ·simp
theorem recTo_len {l:List Bt} (h:VL l):∀ i,i≤l.length→(recTo l i).length≤6 * i
 | 0,_=>by simp [recTo]
 | i+1,hi=>by
  rw [recTo_succ,List.length_append]
  have h1:=recTo_len h i (by omega)
  have h2:=rAt_len h i (by omega)
  omega
theorem recTo_mem {l:List Bt} {r:Rc} : ∀ {i:Nat},r∈recTo l i→∃ q,q < i∧wAt l l.length q=1∧r∈(rb l (q:Int)).f5
 | 0,hr=>by simp [recTo] at hr
 | i+1,hr=>by
  rw [recTo_succ] at hr
  rcases List.mem_append.1 hr with h|h
  ·obtain ⟨q,h1,h2⟩:=recTo_mem h
   exact ⟨q,by omega,h2⟩
  ·unfold rAt at h
   split at h
   ·exact ⟨i,by omega,by assumption,h⟩
   ·simp at h
def StR (l:List Bt) (r:List Rc):Prop:=∃ e,e≤l.length∧(∀ j,j < e→opens l l.length j=false)∧(e < l.length→opens l l.length e=true)∧r=recTo l e
theorem implStab_loop (l:List Bt) (hl:smallBs l) (h:VL l):∀ (d i:Nat),l.length - i=d→i≤l.length→(∀ j,j < i→opens l l.length j=false)→Evs (fun k=>Qe.l0 k l (recTo l i) (fatesTo l l.length).ws (l.length:Int) (i:Int)) (StR l):=by
 have hs:=h.1
 have hw:=(fates_len l).1
 intro d
 induction d with
 | zero=>
  intro i hd hi ho
  refine Evs.succ ?_
  simp only [Qe.l0,if_neg (show ¬ (i:Int) < (l.length:Int) by omega)]
  exact Evs.done ⟨i,hi,ho,fun h=>by omega,rfl⟩
 | succ d ih=>
  intro i hd hi ho
  have hlt:i < l.length:=by omega
  have e1:wrap64 ((i:Int)+1)=((i+1:Nat):Int):=by rw [wrap_id (by omega) (by omega)];omega
  refine Evs.succ ?_
  simp only [Qe.l0,if_pos (show (i:Int) < (l.length:Int) by omega),if_pos (show (0:Int)≤(i:Int) by omega),hw,e1,fates_w l i hlt]
  by_cases hz:opens l l.length i=true
  ·simp only [if_pos ((wAt_zero l l.length i).2 hz)]
   exact Evs.done ⟨i,hi,ho,fun _=>hz,rfl⟩
  ·have hnext:∀ j,j < i+1→opens l l.length j=false:=fun j hj=>by
    by_cases he:j=i
    ·subst he;simpa using hz
    ·exact ho j (by omega)
   have next:=ih (i+1) (by omega) (by omega) hnext
   simp only [if_neg (fun h2=>hz ((wAt_zero l l.length i).1 h2))]
   by_cases h1:wAt l l.length i=1
   ·have hv:=VL_at h i hlt
    have hp:=(vB_pos hv).2
    have hc:Ev (fun k=>Qn.f k (Qa l (i:Int)).f5) (rb l (i:Int)).f5:=copyRecs (rb l (i:Int)).f5 (by omega) (vB_okc hv)
    have hlen:=recTo_len h i (by omega)
    simp only [if_pos h1]
    refine Evs.bind (Evs.of hc rfl) ?_
    rintro _ rfl
    simp only [if_pos (show (recTo l i).length+(rb l (i:Int)).f5.length < 1759218604441 by omega)]
    rw [recTo_succ,show rAt l i=(rb l (i:Int)).f5 from if_pos h1] at next
    exact next
   ·simp only [if_neg h1]
    rw [recTo_succ,show rAt l i = [] from if_neg h1,List.append_nil] at next
    exact next
theorem implStab (l:List Bt) (hl:smallBs l) (h:VL l):Evs (fun k=>Qe.f k l) (StR l):=by
 have h2:=(fates_len l).1
 unfold Qe.f
 simp only [bsome]
 refine Evs.bind (Evs.of (implLog l hl) rfl) ?_
 rintro _ rfl
 rw [vl_true h]
 simp only [if_true,fates_fit h,bsome,h2]
 exact implStab_loop l hl h l.length 0 (by omega) (by omega) (fun j hj=>by omega)
theorem implStab_not (l:List Bt) (hl:smallBs l) (h:¬ VL l):Ev (fun k=>Qe.f k l) []:=by
 unfold Qe.f
 simp only [bsome]
 refine Ev.bind (implLog l hl) ?_
 rw [vl_false h]
 simp only [Bool.false_eq_true,if_false]
 exact ev_some _
theorem StR_unique {l:List Bt} {r r' : List Rc} (h:StR l r) (h' : StR l r'):r=r':=by
 obtain ⟨e,h1,h2,h3,rfl⟩:=h
 obtain ⟨e',h1',h2',h3',rfl⟩:=h'
 rcases Nat.lt_trichotomy e e' with h|h|h
 ·have:=h2' e h;rw [h3 (by omega)] at this;cases this
 ·rw [h]
 ·have:=h2 e' h;rw [h3' (by omega)] at this;cases this
theorem StR_len {l:List Bt} (h:VL l) {r:List Rc} (hr:StR l r):r.length≤48:=by
 obtain ⟨e,h1,_,_,rfl⟩:=hr
 have:=recTo_len h e h1
 have:=h.1
 omega
theorem recTo_okc {l:List Bt} (h:VL l) {i:Nat} (hi:i≤l.length):∀ r∈recTo l i,okc r:=by
 intro r hr
 obtain ⟨q,h1,_,h2⟩:=recTo_mem hr
 exact vB_okc (VL_at h q (by omega)) r h2
theorem StR_okc {l:List Bt} (h:VL l) {r:List Rc} (hr:StR l r):∀ x∈r,okc x:=by
 obtain ⟨e,h1,_,_,rfl⟩:=hr
 exact recTo_okc h h1
theorem fine_eq' {b:Bt} (h:vB b):Rq.f b.f0 b.f1 b.f2 b.f3 b.f4 b.f5=some (tellsP b):=by
 have hp:=vB_pos h
 unfold Rq.f tellsP
 rw [if_pos (show 0 < (b.f5.length:Int) by omega)]
 generalize (Qb b.f5 0).f5=v
 by_cases hl:(v.length:Int)=1
 ·rw [if_pos hl,if_pos (show 0 < (v.length:Int) by omega)]
  obtain ⟨x,rfl⟩:∃ x,v = [x]:=List.length_eq_one_iff.1 (by omega)
  simp [rd]
  rfl
 ·rw [if_neg hl,decide_eq_false (fun e=>hl (by rw [e];rfl))]
theorem l12Copy_eq (r:Rc) (h:okc r):Rw.f r.f0 r.f1 r.f2 r.f3 r.f4 r.f5=some (r.f0,r.f1,r.f2,r.f3,r.f4,r.f5):=by
 have h1:=h.1
 have h2:=h.2
 unfold Rw.f
 simp only [bsome,List.length_nil,Nat.zero_add,List.nil_append]
 rw [if_pos (by omega),if_pos (by omega)]
theorem specStab_l1 (l:List Bt) (i:Nat) (hi:i < l.length) (x:List Rc) (hx:x.length≤1000) (hp:(rb l (i:Int)).f5.length≤6) (hc:∀ r∈(rb l (i:Int)).f5,okc r) (R:List Rc) (e1:wrap64 ((i:Int)+1)=((i+1:Nat):Int)) (next:Ev (fun k=>Qc.l0 k l (x++(rb l (i:Int)).f5) ((i+1:Nat):Int)) R) :
  ∀ (d j:Nat),(rb l (i:Int)).f5.length - j=d→j≤(rb l (i:Int)).f5.length→Ev (fun k=>Qc.l1 k l (x++(rb l (i:Int)).f5.take j) (i:Int) (j:Int)) R:=by
 intro d
 induction d with
 | zero=>
  intro j hd hj
  refine ev_succ ?_
  simp only [Qc.l1,if_pos (show (0:Int)≤(i:Int) by omega),if_pos (show (i:Int) < (l.length:Int) by omega),if_neg (show ¬ (j:Int) < ((Qa l (i:Int)).f5.length:Int) from (show ¬ (j:Int) < ((rb l (i:Int)).f5.length:Int) by omega)),e1]
  rw [List.take_of_length_le (by omega)]
  exact next
 | succ d ih=>
  intro j hd hj
  have hlt:j < (rb l (i:Int)).f5.length:=by omega
  have e2:wrap64 ((j:Int)+1)=((j+1:Nat):Int):=by rw [wrap_id (by omega) (by omega)];omega
  have hr:Qb (Qa l (i:Int)).f5 (j:Int)=(rb l (i:Int)).f5[j]:=rr_nat _ j hlt
  have nx:=ih (j+1) (by omega) (by omega)
  refine ev_succ ?_
  simp only [Qc.l1,if_pos (show (0:Int)≤(i:Int) by omega),if_pos (show (i:Int) < (l.length:Int) by omega),if_pos (show (j:Int) < ((Qa l (i:Int)).f5.length:Int) from (show (j:Int) < ((rb l (i:Int)).f5.length:Int) by omega)),if_pos (show (0:Int)≤(j:Int) by omega),e2,hr,l12Copy_eq _ (hc _ (List.getElem_mem hlt)),bsome,if_pos (show (x++(rb l (i:Int)).f5.take j).length < 1759218604441 by rw [List.length_append,length_take];omega)]
  rw [← take_snoc _ j hlt,← List.append_assoc] at nx
  exact nx
structure AtEnd (l:List Bt) (e:Nat) (r:Int):Prop where
 le:e≤l.length
 before:∀ j,j < e→opens l l.length j=false
 there:e < l.length→opens l l.length e=true
 val:EndP l r
 cut:∀ j,j < l.length→(fOff (rb l (j:Int)) ≥ r↔e≤j)
theorem at_end {l:List Bt} (h:VL l) {r:Int} (he:EndP l r):∃ e,AtEnd l e r:=by
 rcases he with ⟨i,hi,ho,hf,rfl⟩|⟨ha,rfl⟩
 ·refine ⟨i,by omega,hf,fun _=>ho,.inl ⟨i,hi,ho,hf,rfl⟩,fun j hj=>⟨fun hge=>?_,fun hij=>?_⟩⟩
  ·rcases Nat.lt_or_ge j i with h1|h1
   ·have:=VL_lt' h h1 hi;omega
   ·exact h1
  ·by_cases hji:i=j
   ·rw [hji];exact Int.le_refl _
   ·have:=VL_lt' h (show i < j by omega) hj;omega
 ·refine ⟨l.length,Nat.le_refl _,ha,fun h=>by omega,.inr ⟨ha,rfl⟩,fun j hj=>⟨fun hge=>?_,fun hij=>by omega⟩⟩
  have h1:fOff (rb l (j:Int)) < tailP l:=by
   unfold tailP
   rw [if_neg (by omega)]
   have h1:fOff (rb l (j:Int))≤fOff (rb l ((l.length - 1:Nat):Int)):=by
    by_cases he:j=l.length - 1
    ·rw [he];omega
    ·have:=VL_lt' h (show j < l.length - 1 by omega) (by omega)
     omega
   have h2:=fOff_le (VL_at h (l.length - 1) (by omega))
   rw [show ((l.length - 1:Nat):Int)=(l.length:Int) - 1 by omega] at h1 h2
   omega
  omega
theorem specStab_loop (l:List Bt) (hl:smallBs l) (h:VL l) (e:Nat) (r:Int) (he:AtEnd l e r) (hr:Ev (fun k=>Q3.f k l) r):∀ (d i:Nat),l.length - i=d→i≤l.length→Ev (fun k=>Qc.l0 k l (recTo l (min i e)) (i:Int)) (recTo l e):=by
 have h8:=h.1
 intro d
 induction d with
 | zero=>
  intro i hd hi
  refine ev_succ ?_
  simp only [Qc.l0,if_neg (show ¬ (i:Int) < (l.length:Int) by omega)]
  refine ev_succ ?_
  simp only [Qc.j1,Bool.false_eq_true,if_false]
  rw [show min i e=e by have:=he.le;omega]
  exact ev_some _
 | succ d ih=>
  intro i hd hi
  have hlt:i < l.length:=by omega
  have e1:wrap64 ((i:Int)+1)=((i+1:Nat):Int):=by rw [wrap_id (by omega) (by omega)];omega
  have hv:=VL_at h i hlt
  have hpos : 0 < ((Qa l (i:Int)).f5.length:Int):=by
   have : 1≤(rb l (i:Int)).f5.length:=(vB_pos hv).1
   show 0 < ((rb l (i:Int)).f5.length:Int)
   omega
  have next:=ih (i+1) (by omega) (by omega)
  have hlen:=recTo_len h (min i e) (by omega)
  refine ev_succ ?_
  simp only [Qc.l0,if_pos (show (i:Int) < (l.length:Int) by omega)]
  refine Ev.bind (specLog l hl) ?_
  rw [vl_true h]
  refine ev_succ ?_
  simp only [Qc.j1,if_true,if_pos (show (i:Int) < (l.length:Int) by omega),if_pos (show (0:Int)≤(i:Int) by omega),if_pos hpos]
  have skip:rAt l i = []∨e≤i→Ev (fun k=>Qc.l0 k l (recTo l (min i e)) ((i+1:Nat):Int)) (recTo l e):=fun hs=>by
   rcases hs with hs|hs
   ·rcases Nat.lt_or_ge i e with hie|hie
    ·rw [show min (i+1) e=i+1 by omega,recTo_succ,hs,List.append_nil] at next
     rw [show min i e=i by omega]
     exact next
    ·rw [show min (i+1) e=e by omega] at next
     rw [show min i e=e by omega]
     exact next
   ·rw [show min (i+1) e=e by omega] at next
    rw [show min i e=e by omega]
    exact next
  have take:i < e→rAt l i=(rb l (i:Int)).f5→Ev (fun k=>Qc.l1 k l (recTo l (min i e)) (i:Int) 0) (recTo l e):=fun hie ht=>by
   rw [show min (i+1) e=i+1 by omega,recTo_succ,ht] at next
   rw [show min i e=i by omega]
   have:=specStab_l1 l i hlt (recTo l i) (by rw [show min i e=i by omega] at hlen;omega) (vB_pos hv).2 (vB_okc hv) (recTo l e) e1 next (rb l (i:Int)).f5.length 0 (by omega) (by omega)
   rw [List.take_zero,List.append_nil] at this
   exact this
  by_cases hm:mk l i=true
  ·simp only [if_pos (show (Qa l (i:Int)).f1=true from hm)]
   refine ev_succ ?_
   simp only [Qc.j2,if_true,e1]
   refine skip (.inl ?_)
   have hp:pr l i≠255:=fun hp=>by
    have h1:(if (rb l (i:Int)).f2=255 then (rb l (i:Int)).f3=0∧(rb l (i:Int)).f4=0∧(rb l (i:Int)).f1=false else _):=hv.1
    rw [if_pos hp] at h1
    have h2:mk l i=false:=h1.2.2
    rw [hm] at h2
    cases h2
   exact if_neg (by unfold wAt;rw [if_neg hp,if_pos hm];omega)
  ·simp only [if_neg (show ¬ (Qa l (i:Int)).f1=true from hm)]
   refine Ev.bind hr ?_
   refine ev_succ ?_
   by_cases hge:fOff (rb l (i:Int)) ≥ r
   ·rw [show (decide ((Qb (Qa l (i:Int)).f5 0).f0 ≥ r))=true from decide_eq_true hge]
    simp only [Qc.j2,if_true,e1]
    exact skip (.inr ((he.cut i hlt).1 hge))
   ·have hie:i < e:=by
     rcases Nat.lt_or_ge i e with h1|h1
     ·exact h1
     ·exact absurd ((he.cut i hlt).2 h1) hge
    rw [show (decide ((Qb (Qa l (i:Int)).f5 0).f0 ≥ r))=false from decide_eq_false hge]
    simp only [Qc.j2,Bool.false_eq_true,if_false,if_pos (show (i:Int) < (l.length:Int) by omega),if_pos (show (0:Int)≤(i:Int) by omega)]
    have hours:Rb.f (Qa l (i:Int)).f0 (Qa l (i:Int)).f1 (Qa l (i:Int)).f2 (Qa l (i:Int)).f3 (Qa l (i:Int)).f4 (Qa l (i:Int)).f5=some (decide (pr l i≠255) && !mk l i):=ours_eq (rb l (i:Int))
    rw [hours]
    simp only [bsome]
    by_cases hp:pr l i=255
    ·simp only [hp,ne_eq,not_true_eq_false,decide_false,Bool.false_and,Bool.false_eq_true,if_false]
     refine ev_succ ?_
     simp only [Qc.j3,Bool.false_eq_true,if_false]
     exact take hie (if_pos (by unfold wAt;rw [if_pos hp]))
    ·have hmf:mk l i=false:=by simpa using hm
     rw [show (decide (pr l i≠255) && !mk l i)=true by rw [hmf];simpa using hp]
     simp only [if_true]
     refine Ev.bind (specMarkAt l (by omega) i hlt) ?_
     cases hn:nm l l.length i with
     | none=>
      have:=he.before i hie
      rw [(opens_iff l l.length i).2 ⟨hp,hmf,hn⟩] at this
      cases this
     | some j=>
      have hj:=nm_some hn
      have hvj:=VL_at h j hj.2.1
      have hf:Rq.f (Qa l (j:Int)).f0 (Qa l (j:Int)).f1 (Qa l (j:Int)).f2 (Qa l (j:Int)).f3 (Qa l (j:Int)).f4 (Qa l (j:Int)).f5=some (tellsP (rb l (j:Int))):=fine_eq' hvj
      simp only [nmI,if_pos (show (0:Int)≤(j:Int) by omega),if_pos (show (j:Int) < (l.length:Int) by omega),hf,bsome]
      refine ev_succ ?_
      by_cases ht:tellsP (rb l (j:Int))=true
      ·rw [ht]
       simp only [Qc.j3,Bool.not_true,Bool.false_eq_true,if_false]
       exact take hie (if_pos (by unfold wAt;rw [if_neg hp,if_neg hm,hn];simp only [if_pos ht]))
      ·have htf:tellsP (rb l (j:Int))=false:=by simpa using ht
       rw [htf]
       simp only [Qc.j3,Bool.not_false,if_true,e1]
       exact skip (.inl (if_neg (by unfold wAt;rw [if_neg hp,if_neg hm,hn];simp only [if_neg ht];omega)))
theorem specStab (l:List Bt) (hl:smallBs l) (h:VL l):Evs (fun k=>Qc.f k l) (StR l):=by
 obtain ⟨r,hr,he⟩:=specEnd_loop l hl h l.length 0 (by omega) (by omega) (fun j hj=>by omega)
 obtain ⟨e,hat⟩:=at_end h he
 have hr2:Ev (fun k=>Q3.f k l) r:=hr
 have:=specStab_loop l hl h e r hat hr2 l.length 0 (by omega) (by omega)
 exact Evs.of (show Ev (fun k=>Qc.f k l) (recTo l e) by simpa [Qc.f,recTo] using this) ⟨e,hat.le,hat.before,hat.there,rfl⟩
theorem specStab_not (l:List Bt) (hl:smallBs l) (h:¬ VL l):Ev (fun k=>Qc.f k l) []:=by
 unfold Qc.f
 refine ev_succ ?_
 by_cases h0:(0:Int) < (l.length:Int)
 ·simp only [Qc.l0,if_pos h0]
  refine Ev.bind (specLog l hl) ?_
  rw [vl_false h]
  refine ev_succ ?_
  simp only [Qc.j1,Bool.false_eq_true,if_false]
  exact ev_some _
 ·simp only [Qc.l0,if_neg h0]
  refine ev_succ ?_
  simp only [Qc.j1,Bool.false_eq_true,if_false]
  exact ev_some _
end Go.Proofs.Ytmloblepcbimkaa.Q
namespace Go.Proofs.Ytmloblepcbimkaa.Pure
open Go.RowKit Go.Proofs.Ytmloblepcbimkaa.T Go.Proofs.YtmloblepcbimkaaW.PrintWords Go.Proofs.YtmloblepcbimkaaW.PrintLast Go.Proofs.Ytmloblepcbimkaa.Q
set_option linter.unusedVariables false
set_option linter.unusedSimpArgs false
theorem stab_out (l:List Bt) (hs:smallBs l):∃ x:List Rc,x.length≤1048576∧(∀ r∈x,okRc r)∧Ev (fun k=>Qe.f k l) x∧Ev (fun k=>Qc.f k l) x:=by
 by_cases hv:VL l
 ·obtain ⟨x,hx,hxp⟩:=implStab l hs hv
  obtain ⟨y,hy,hyp⟩:=specStab l hs hv
  obtain rfl:=StR_unique hxp hyp
  have h2:=StR_len hv hxp
  refine ⟨x,by omega,fun r hr=>StR_okc hv hxp r hr,hx,hy⟩
 ·exact ⟨[],by simp,fun r hr=>by simp at hr,implStab_not l hs hv,specStab_not l hs hv⟩
theorem FnExactStableRecords:∀ (l0:List (S36)),l0.length≤maxLen→(∀ v∈l0,WF36 v)→∃ k,laws_FnExactStableRecords.f k l0=some true:=by
 intro l0 hl hw
 refine Ev.rounds ?_
 unfold laws_FnExactStableRecords.f
 obtain ⟨r,h1,p1⟩:=szBats l0 (Nat.le_trans hl maxLen_le) (fun x hx=>bigB_of (hw x hx)) 1048576 (by omega) (by omega)
 refine Ev.bind h1 ?_
 rcases p1 with rfl|⟨s0,s1,s2,s3⟩
 ·simp only [if_pos (show (-1:Int) < 0 by omega)]
  exact ev_some _
 ·simp only [if_neg (show ¬ r < 0 by omega)]
  have ht:=toBats l0 s2 s3
  have hml:(l0.map toB).length=l0.length:=List.length_map ..
  have hs:smallBs (l0.map toB):=by
   refine ⟨by omega,fun b hb=>?_⟩
   obtain ⟨x,hx,rfl⟩:=List.mem_map.1 hb
   exact smallRs_of x (s3 x hx)
  have hk:∀ b∈l0.map toB,okBt b:=fun b hb=>by
   obtain ⟨x,hx,rfl⟩:=List.mem_map.1 hb
   exact okBt_of x (s3 x hx)
  obtain ⟨x,hxl,hxo,e1,e2⟩:=stab_out (l0.map toB) hs
  have eu:=eqRecs_self x hxl hxo
  have eb:=eqBats_self (l0.map toB) (by omega) hk
  obtain ⟨z,hz,hz0⟩:=markBatchS_f (l0.map toB) (by omega) hk
  obtain ⟨hmk,hheld⟩:=markRecs x hxl hxo
  have hn:¬ (1+(cntL x:Int)) < 0:=by omega
  refine Ev.bind ht ?_
  refine Ev.bind e2 ?_
  refine Ev.bind ht ?_
  refine Ev.bind e1 ?_
  refine Ev.bind eu ?_
  simp only [if_true]
  refine Ev.bind ht ?_
  refine Ev.bind eb ?_
  simp only [if_true]
  simp only [hz,bsome,if_neg (show ¬ z < 0 by omega)]
  refine Ev.bind eu ?_
  simp only [Bool.not_true]
  refine ev_succ ?_
  simp only [laws_FnExactStableRecords.j0,Bool.false_eq_true,if_false,hmk,bsome]
  refine Ev.bind hheld ?_
  simp only [if_neg hn,if_true]
  refine Ev.bind ht ?_
  refine Ev.bind e1 ?_
  refine Ev.bind eu ?_
  simp only [if_true]
  refine Ev.bind hheld ?_
  simp only [if_neg hn,if_true]
  exact ev_some _
end Go.Proofs.Ytmloblepcbimkaa.Pure
namespace Go.Proofs.Ytmloblepcbimkaa.fnExactStableRecords
open Go.ChangeShapes Go.WideShapes Go.ChangeAt Go.RowKit
open Go.ChangeMaps (open_string shut_string)
open Go.Proofs.YtmloblepcbimkaaW.PrintWords
set_option linter.unusedVariables false
theorem own:ownKnob Try.prog.godebug=none:=by kernel_rfl
theorem laidOut:laidOutB Try.prog=true:=by kernel_rfl
theorem lifted (os:Os) (started:os.Started) (H:Type) (enc:TypeId×Value→H) :
  ReturnsInHanded {} Try.checked os 3 .any (Rows.fnExactStableRecordsSpec.pre6 enc Try.prog Try.f3 Rows.fnExactStableRecordsRow.domain false) (Rows.fnExactStableRecordsSpec.post enc Try.prog Try.f3 false true false false):=by
 refine returnsInHanded_of_change_sized (C:=Try.checked) own started (by kernel_rfl) Try.func3
  (ChangeSpec.witness6 (enc:=enc) (C:=Try.checked) false ⟨#[],#[.slice none 0 0],[]⟩ 8 (by kernel_rfl) (by kernel_rfl) (by kernel_rfl) (by kernel_rfl)) ?_
 intro W base args ds gs before hval0 hW hcnd hsz0 _
 have hval:∀ (j:Nat) t v,Try.f3.params[j]? = some t→args[j]? = some v→Value.okWide Try.prog W .any base t v:=hval0
 have hW':=hW
 obtain ⟨p,q,hA0,hV,rfl,hfz,hnd⟩:=hW
 have hA:DataW.TrodAll enc Try.prog W 0 (fun _=>true) true Try.f3.params.toList args.toList ds p:=hA0
 rw [Try.params3] at hA hval
 obtain ⟨v0,vs0,d0,ds0,p0,q0,hargs,rfl,rfl,h0,r0⟩:=trodAll_cons hA
 obtain ⟨rfl,rfl,rfl⟩:=trodAll_nil r0
 obtain rfl:args = #[v0]:=by cases args;simp_all
 obtain ⟨rfl,rfl⟩:=trodVars_none hV
 obtain ⟨a0,len0,cap0,rfl⟩:=okWide_slice Try.underlying22 (hval 0 22 v0 rfl rfl)
 have k0:=h0
 have lt0:∀ x∈p0,x.block < W.heap.size:=by obtain ⟨m,hm⟩:=k0;exact DataW.trod_lt m _ _ _ hm
 obtain ⟨fu0,hf0⟩:=h0
 obtain ⟨l0,⟨A0,c0,hE0,hc0,hC0⟩,hm0,hw0⟩:=(Q.Opens.slice Try.underlying22 T.opens36 (by kernel_rfl)) _ enc W _ _ _ _ _ _ hf0
 replace hE0:([.slice a0 len0 cap0]:List Value) = [.slice A0 l0.length c0]:=hE0
 simp only [List.cons.injEq,Value.slice.injEq,and_true] at hE0
 obtain ⟨rfl,rfl,rfl⟩:=hE0
 clear hA0 hval0 hsz0
 obtain ⟨k,h⟩:=Pure.FnExactStableRecords l0 hm0 hw0
 refine (T.laws_FnExactStableRecords.calls k _ _ l0 true W hC0 hc0 h).mono ?_
 rintro e W' ⟨rfl,bel⟩
 exact ⟨_,rfl,_,_,_,[],_,[],hW',trodAll_mk1 (shut_bool Try.underlying4 _),(trodAll_cons_mk (Below.trod laidOut (by kernel_rfl) (of_decide_eq_true (by kernel_rfl)) k0 bel lt0) trodAll_mk0),rfl,bel.frame _,fun h=>by cases h⟩
theorem closed:joinedFacts Try.prog 3 Try.f3 Rows.fnExactStableRecordsSpec Rows.fnExactStableRecordsRow=true:=
 Head.closed_of _ _ _ _ _ (by kernel_rfl) (by kernel_rfl) (by kernel_rfl) (by kernel_rfl) (by kernel_rfl) (by kernel_rfl) (by kernel_rfl) (by kernel_rfl) (by kernel_rfl) (by kernel_rfl) (by kernel_rfl) (by kernel_rfl) (by kernel_rfl) (by kernel_rfl) (by kernel_rfl) (by kernel_rfl) (by kernel_rfl) (by kernel_rfl) (by kernel_rfl) (by kernel_rfl) (by kernel_rfl) (by kernel_rfl) (by kernel_rfl) (by kernel_rfl) (by kernel_rfl) Head.may_enter (by rw [Head.lifts_final];kernel_rfl) (by rw [Head.make_is];kernel_rfl) (by kernel_rfl) (by kernel_rfl) (by kernel_rfl) (by kernel_rfl)
theorem over:Rows.fnExactStableRecordsRow.holds Try.pinned (OpenSpec.ofChange Rows.fnExactStableRecordsSpec):=
 OpenClaim.holds_of_wide 3 Try.f3 rfl rfl rfl rfl rfl rfl rfl ⟨rfl,rfl,rfl,rfl,rfl⟩ rfl rfl rfl rfl rfl (by kernel_rfl) Try.func3 closed
  (of_decide_eq_true (by kernel_rfl)) (by unfold Func.isWrapper;first|(rw [if_pos (by decide +kernel)];kernel_rfl)|(rw [if_neg (by decide +kernel)];exact ⟨rfl,rfl⟩))
  (fun os started H enc _=>lifted os started H enc)
theorem proved:Rows.FnExactStableRecordsSaid:=over
end Go.Proofs.Ytmloblepcbimkaa.fnExactStableRecords
namespace Go.Proofs.Ytmloblepcbimkaa
theorem fnExactStableRecords_holds:Rows.FnExactStableRecordsSaid:=fnExactStableRecords.proved
end Go.Proofs.Ytmloblepcbimkaa
