/- The law FnStateLast holds (part 7 of 7; merged by pack2.py). -/
import Derived.RangeFuncNested
import Derived.RangeFuncBound
import Derived.RangeFuncCalls
import Derived.RangeFuncLeaves
import Derived.Shelf.Abstract
import Derived.Shelf.RegionOpen
import Derived.OwnWalkIn
import Derived.TacticsInMore
import Derived.LoopNIn
import Derived.LoopIn
import Derived.Maps.OwnIn
import Derived.Maps.Views
import Derived.StringKeys
import Derived.ProofKit
import Derived.OpenShut
import Derived.ShutString
import Derived.ChangeOld
import Derived.Test.YtkhjmhdgcmffaaaFnStateLastK5
open List (setIfInBounds_toArray set_cons_zero set_cons_succ map_toArray map_cons map_nil length_drop length_take)
namespace Go.Proofs.Ytkhjmhdgcmffaaa.U
open Go.RowKit Go.Proofs.YtkhjmhdgcmffaaaW.PrintWords Go.Proofs.YtkhjmhdgcmffaaaW.PrintLast Go.Proofs.YtkhjmhdgcmffaaaW.PrintMore
attribute [local go_sem] max2_int max_two
set_option linter.unusedVariables false
set_option linter.unusedSimpArgs false
section
open Go.Shelf
attribute [local go_sem] Oper.semAt_some
def KeepT (t:TypeId) (W W' : World):Prop:=∀ (k:Nat) (cs:Array Value) (f:Nat×Nat),W.heap[k]? = some (.cells cs t f)→W'.heap[k]? = some (.cells cs t f)
theorem KeepT.refl (t:TypeId) (W:World):KeepT t W W:=fun _ _ _ h=>h
theorem KeepT.trans {t:TypeId} {X Y Z:World} (h:KeepT t X Y) (k:KeepT t Y Z):KeepT t X Z:=fun i cs f hi=>k i cs f (h i cs f hi)
theorem KeepT.of_below {t:TypeId} {W W' : World} (h:Below W.heap.size W W'):KeepT t W W':=fun k cs f hk=>(h.block k (Array.getElem?_eq_some_iff.1 hk).1).trans hk
theorem KeepT.of_grownBy {t:TypeId} {W W' : World} {row:Option Nat} (h:W.grownBy W' row) (hr:∀ k,row=some k→∀ cs f,W.heap[k]? ≠ some (.cells cs t f)):KeepT t W W':=fun k cs f hk=>(h.block k (Array.getElem?_eq_some_iff.1 hk).1 (fun e=>hr k e.symm cs f hk)).trans hk
theorem KeepT.putObj {t:TypeId} (W:World) (l:Nat) (o o' : Obj) (h:W.heap[l]? = some o) (ho:o.isCells=false):KeepT t W (W.putObj l o'):=
 KeepT.of_grownBy (grownBy_putObj' W l o') (fun k e cs f hk=>by cases e;rw [h] at hk;cases hk;cases ho)
theorem KeepT.alloc {t:TypeId} (W:World) (o:Obj):KeepT t W (W.alloc o):=KeepT.of_grownBy (World.grownBy_alloc W o none) (fun k e=>by cases e)
theorem KeepT.setCell {t u:TypeId} {W:World} {p:Addr} {cs:Array Value} {f:Nat×Nat} (h:W.heap[p.block]? = some (.cells cs u f)) (hu:u≠t) (v:Value):KeepT t W (W.setCell p v):=fun k cs' f' hk=>by
 by_cases e:k=p.block
 ·
  subst e
  rw [h] at hk
  cases hk
  exact absurd rfl hu
 ·
  exact (Below.heap_setCell W p v k e).trans hk
structure Places (w:World) (A:Option Addr) (l:List S34) (AB:Nat→Option Addr) (CB:Nat→Nat) (AK:Nat→Nat→Option Addr) (CK:Nat→Nat→Nat) (AV:Nat→Nat→Option Addr) (CV:Nat→Nat→Nat):Prop where
 out:∀ i:Nat,i < l.length→∃ ad,A=some ad∧w.cell? (ad.add (i * 6))=some (.bool (Qa l i).f0)∧w.cell? ⟨(ad.add (i * 6)).block,(ad.add (i * 6)).off+1,none⟩=some (.bool (Qa l i).f1)∧w.cell? ⟨(ad.add (i * 6)).block,(ad.add (i * 6)).off+2,none⟩=some (.int .i64 (Qa l i).f2)∧w.cell? ⟨(ad.add (i * 6)).block,(ad.add (i * 6)).off+3,none⟩=some (.int .i64 (Qa l i).f3)∧w.cell? ⟨(ad.add (i * 6)).block,(ad.add (i * 6)).off+4,none⟩=some (.int .i64 (Qa l i).f4)∧w.cell? ⟨(ad.add (i * 6)).block,(ad.add (i * 6)).off+5,none⟩=some (.slice (AB i) (Qa l i).f5.length (CB i))
 row:∀ i:Nat,(Qa l i).f5.length≤CB i∧Kd.C k30 w (AB i) (Qa l i).f5.length (Qa l i).f5
 item:∀ i j:Nat,j < (Qa l i).f5.length→∃ ad,AB i=some ad∧w.cell? (ad.add (j * 6))=some (.int .i64 (Qb (Qa l i).f5 j).f0)∧w.cell? ⟨(ad.add (j * 6)).block,(ad.add (j * 6)).off+1,none⟩=some (.int .i64 (Qb (Qa l i).f5 j).f1)∧w.cell? ⟨(ad.add (j * 6)).block,(ad.add (j * 6)).off+2,none⟩=some (.bool (Qb (Qa l i).f5 j).f2)∧w.cell? ⟨(ad.add (j * 6)).block,(ad.add (j * 6)).off+3,none⟩=some (.slice (AK i j) (Qb (Qa l i).f5 j).f3.length (CK i j))∧w.cell? ⟨(ad.add (j * 6)).block,(ad.add (j * 6)).off+4,none⟩=some (.bool (Qb (Qa l i).f5 j).f4)∧w.cell? ⟨(ad.add (j * 6)).block,(ad.add (j * 6)).off+5,none⟩=some (.slice (AV i j) (Qb (Qa l i).f5 j).f5.length (CV i j))
 key:∀ i j:Nat,(Qb (Qa l i).f5 j).f3.length≤CK i j∧(Kd.int .i64).C w (AK i j) (Qb (Qa l i).f5 j).f3.length (Qb (Qa l i).f5 j).f3
 val:∀ i j:Nat,(Qb (Qa l i).f5 j).f5.length≤CV i j∧(Kd.int .i64).C w (AV i j) (Qb (Qa l i).f5 j).f5.length (Qb (Qa l i).f5 j).f5
theorem rd_none_B {l:List S34} {i:Nat} (h:¬ i < l.length):Qa l i=z34:=by
 unfold Qa;rw [Int.toNat_natCast,List.getD_eq_getElem?_getD,List.getElem?_eq_none (by omega)];rfl
theorem rd_none_R {l:List S30} {i:Nat} (h:¬ i < l.length):Qb l i=z30:=by
 unfold Qb;rw [Int.toNat_natCast,List.getD_eq_getElem?_getD,List.getElem?_eq_none (by omega)];rfl
theorem places_of {w:World} {A:Option Addr} {l:List S34} (h:Kd.C k34 w A l.length l):∃ AB CB AK CK AV CV,Places w A l AB CB AK CK AV CV:=by
 have h1:∀ i:Nat,∃ (p:Option Addr×Nat),(i < l.length→∃ ad,A=some ad∧w.cell? (ad.add (i * 6))=some (.bool (Qa l i).f0)∧w.cell? ⟨(ad.add (i * 6)).block,(ad.add (i * 6)).off+1,none⟩=some (.bool (Qa l i).f1)∧w.cell? ⟨(ad.add (i * 6)).block,(ad.add (i * 6)).off+2,none⟩=some (.int .i64 (Qa l i).f2)∧w.cell? ⟨(ad.add (i * 6)).block,(ad.add (i * 6)).off+3,none⟩=some (.int .i64 (Qa l i).f3)∧w.cell? ⟨(ad.add (i * 6)).block,(ad.add (i * 6)).off+4,none⟩=some (.int .i64 (Qa l i).f4)∧w.cell? ⟨(ad.add (i * 6)).block,(ad.add (i * 6)).off+5,none⟩=some (.slice p.1 (Qa l i).f5.length p.2)) ∧
   (Qa l i).f5.length≤p.2∧Kd.C k30 w p.1 (Qa l i).f5.length (Qa l i).f5:=by
  intro i;by_cases hi:i < l.length
  ·
   obtain ⟨ad,A5,c5,e,e0,e1,e2,e3,e4,e5,hl,hc⟩:=Qw h (i:Int) (by omega) (by omega);simp only [Int.toNat_natCast] at e0 e1 e2 e3 e4 e5;exact ⟨(A5,c5),fun _=>⟨ad,e,e0,e1,e2,e3,e4,e5⟩,hl,hc⟩
  ·
   refine ⟨(none,0),fun hi'=>absurd hi' hi,?_,?_⟩
   ·
    rw [rd_none_B hi];exact Nat.le_refl _
   ·
    rw [rd_none_B hi];exact Kd.C_nil k30 w
 obtain ⟨p,hp⟩:=Classical.axiomOfChoice h1;have h2:∀ x:Nat×Nat,∃ (q:(Option Addr×Nat)×(Option Addr×Nat)),(x.2 < (Qa l x.1).f5.length→∃ ad,(p x.1).1=some ad∧w.cell? (ad.add (x.2 * 6))=some (.int .i64 (Qb (Qa l x.1).f5 x.2).f0)∧w.cell? ⟨(ad.add (x.2 * 6)).block,(ad.add (x.2 * 6)).off+1,none⟩=some (.int .i64 (Qb (Qa l x.1).f5 x.2).f1)∧w.cell? ⟨(ad.add (x.2 * 6)).block,(ad.add (x.2 * 6)).off+2,none⟩=some (.bool (Qb (Qa l x.1).f5 x.2).f2)∧w.cell? ⟨(ad.add (x.2 * 6)).block,(ad.add (x.2 * 6)).off+3,none⟩=some (.slice q.1.1 (Qb (Qa l x.1).f5 x.2).f3.length q.1.2)∧w.cell? ⟨(ad.add (x.2 * 6)).block,(ad.add (x.2 * 6)).off+4,none⟩=some (.bool (Qb (Qa l x.1).f5 x.2).f4)∧w.cell? ⟨(ad.add (x.2 * 6)).block,(ad.add (x.2 * 6)).off+5,none⟩=some (.slice q.2.1 (Qb (Qa l x.1).f5 x.2).f5.length q.2.2)) ∧
   ((Qb (Qa l x.1).f5 x.2).f3.length≤q.1.2∧(Kd.int .i64).C w q.1.1 (Qb (Qa l x.1).f5 x.2).f3.length (Qb (Qa l x.1).f5 x.2).f3) ∧
   ((Qb (Qa l x.1).f5 x.2).f5.length≤q.2.2∧(Kd.int .i64).C w q.2.1 (Qb (Qa l x.1).f5 x.2).f5.length (Qb (Qa l x.1).f5 x.2).f5):=by
  rintro ⟨i,j⟩;dsimp only;by_cases hj:j < (Qa l i).f5.length
  ·
   obtain ⟨ad,A3,c3,A5,c5,e,e0,e1,e2,e3,e4,e5,hl3,hc3,hl5,hc5⟩:=Qy (hp i).2.2 (j:Int) (by omega) (by omega);simp only [Int.toNat_natCast] at e0 e1 e2 e3 e4 e5;exact ⟨((A3,c3),(A5,c5)),fun _=>⟨ad,e,e0,e1,e2,e3,e4,e5⟩,⟨hl3,hc3⟩,⟨hl5,hc5⟩⟩
  ·
   refine ⟨((none,0),(none,0)),fun hj'=>absurd hj' hj,?_,?_⟩
   ·
    rw [rd_none_R hj];exact ⟨Nat.le_refl _,Kd.C_nil _ w⟩
   ·
    rw [rd_none_R hj];exact ⟨Nat.le_refl _,Kd.C_nil _ w⟩
 obtain ⟨q,hq⟩:=Classical.axiomOfChoice h2;exact ⟨fun i=>(p i).1,fun i=>(p i).2,fun i j=>(q (i,j)).1.1,fun i j=>(q (i,j)).1.2,fun i j=>(q (i,j)).2.1,fun i j=>(q (i,j)).2.2,fun i hi=>(hp i).1 hi,fun i=>(hp i).2,fun i j hj=>(hq (i,j)).1 hj,fun i j=>(hq (i,j)).2.1,fun i j=>(hq (i,j)).2.2⟩
def ptsRow (l:List S34) (i:Nat):List (Nat×Nat):=(List.range (Qa l i).f5.length).map fun j=>(i,j)
def ptsTo (l:List S34) (i:Nat):List (Nat×Nat):=(List.range i).flatMap (ptsRow l)
def pts (l:List S34):List (Nat×Nat):=ptsTo l l.length
theorem ptsTo_succ (l:List S34) (i:Nat):ptsTo l (i+1)=ptsTo l i++ptsRow l i:=by
 unfold ptsTo;rw [List.range_succ,List.flatMap_append];simp
theorem ptsTo_prefix (l:List S34):∀ (d i:Nat),ptsTo l i <+: ptsTo l (i+d)
 | 0,i=>List.prefix_refl _
 | d+1,i=>by
  refine (ptsTo_prefix l d i).trans ?_
  rw [← Nat.add_assoc,ptsTo_succ]
  exact List.prefix_append _ _
def ptsAt (l:List S34) (i j:Nat):List (Nat×Nat):=ptsTo l i++(List.range j).map fun j=>(i,j)
theorem ptsAt_zero (l:List S34) (i:Nat):ptsAt l i 0=ptsTo l i:=by simp [ptsAt]
theorem ptsAt_succ (l:List S34) (i j:Nat):ptsAt l i (j+1)=ptsAt l i j ++ [(i,j)]:=by simp [ptsAt,List.range_succ]
theorem ptsAt_full (l:List S34) (i:Nat):ptsAt l i (Qa l i).f5.length=ptsTo l (i+1):=by rw [ptsTo_succ];rfl
theorem ptsAt_prefix {l:List S34} {i j:Nat} (hi:i < l.length) (hj:j≤(Qa l i).f5.length):ptsAt l i j <+: pts l:=by
 have h1:ptsAt l i j <+: ptsTo l (i+1):=by
  obtain ⟨d,hd⟩:∃ d,(Qa l i).f5.length=j+d:=⟨_,(Nat.add_sub_of_le hj).symm⟩;rw [← ptsAt_full,hd];unfold ptsAt;rw [List.range_add,List.map_append,← List.append_assoc];exact List.prefix_append _ _
 have h2:=ptsTo_prefix l (l.length - (i+1)) (i+1);rw [show i+1+(l.length - (i+1))=l.length by omega] at h2;exact h1.trans h2
theorem ptsAt_lt {l:List S34} {i j:Nat} (hi:i < l.length) (hj:j < (Qa l i).f5.length):(ptsAt l i j).length < (pts l).length:=by
 have:=(ptsAt_prefix hi (show j+1≤_ by omega)).length_le;rw [ptsAt_succ,List.length_append,List.length_singleton] at this;omega
def encB (l:List S34) (AB:Nat→Option Addr) (CB:Nat→Nat) (i:Nat):Value:=.agg #[.bool (Qa l i).f0,.bool (Qa l i).f1,.int .i64 (Qa l i).f2,.int .i64 (Qa l i).f3,.int .i64 (Qa l i).f4,.slice (AB i) (Qa l i).f5.length (CB i)]
def encR (l:List S34) (AK:Nat→Nat→Option Addr) (CK:Nat→Nat→Nat) (AV:Nat→Nat→Option Addr) (CV:Nat→Nat→Nat) (i j:Nat):Value:=.agg #[.int .i64 (Qb (Qa l i).f5 j).f0,.int .i64 (Qb (Qa l i).f5 j).f1,.bool (Qb (Qa l i).f5 j).f2,.slice (AK i j) (Qb (Qa l i).f5 j).f3.length (CK i j),.bool (Qb (Qa l i).f5 j).f4,.slice (AV i j) (Qb (Qa l i).f5 j).f5.length (CV i j)]
def KpR (n₀:Nat) (W W' : World):Prop:=Below n₀ W W'∧KeepT 34 W W'
theorem KpR.t {n₀:Nat} {A B C:World} (h:KpR n₀ A B) (k:KpR n₀ B C):KpR n₀ A C:=⟨h.1.trans k.1,h.2.trans k.2⟩
theorem KpR.b {n₀:Nat} {w:World} (hn:n₀≤w.heap.size) (W:World) (l:Nat) (o o' : Obj) (hl:w.heap.size≤l) (h:W.heap[l]? = some o) (hc:o.isCells=false) (hw:o.isWalk=false):KpR n₀ W (W.putObj l o'):=
 ⟨belowK_b hn W l o o' hl h hc hw,KeepT.putObj W l o o' h hc⟩
set_option maxRecDepth 100000 in
set_option maxHeartbeats 4000000 in
theorem recs1_in (F:Fence) (n:Nat) (h1:F.fn 70) (hro:F.round=none) (hn : 1≤n) (l Bs n₀:Nat) (A0:Option Addr) (c0:Nat) (l0:List S34) {AB:Nat→Option Addr} {CB:Nat→Nat} {AK:Nat→Nat→Option Addr} {CK:Nat→Nat→Nat} {AV:Nat→Nat→Option Addr} {CV:Nat→Nat→Nat}
  (w W:World) (hP:Places w A0 l0 AB CB AK CK AV CV) (hmax:l0.length≤9223372036854775807) (hn₀:n₀=w.heap.size) (J Jx:List (Nat×Nat)→World→Prop) (hJ:AbidesFrom W.heap.size J)
  (hY:∀ pre (x:Nat×Nat) W1,J pre W1→pre.length < (pts l0).length→YieldAt F (n - 1) Try.prog l #[encB l0 AB CB x.1,encR l0 AK CK AV CV x.1 x.2] W1 fun e W'=>
   (e = .returned (.bool true)∧J (pre ++ [x]) W'∧KpR n₀ W1 W')∨(e = .returned (.bool false)∧Jx (pre ++ [x]) W'))
  (hBs:W.cell? ⟨Bs,0,none⟩=some (.slice A0 l0.length c0)) (hWB:Below n₀ w W) (h0:J [] W) :
  CallsIn F n Try.prog 70 #[.func (.yield l) #[] #[],.pointer (some ⟨Bs,0,none⟩)] W fun e W'=>(∃ v,e = .returned v) ∧
   ((∃ ys,ys=pts l0∧J ys W')∨(∃ pre,pre <+: pts l0∧Jx pre W')):=by
 have HP:=zzm hP;have HJ:=zzm hJ;have HY:=zzm hY;clear hP hJ hY;refine callsIn_of_wp Try.func70 rfl h1 ?_ hro;simp only [Try.ntmps70,List.size_toArray,List.length_cons,List.length_nil,Nat.reduceAdd,Nat.reduceSub,Array.replicate_succ,Array.replicate_zero,List.push_toArray,List.append_toArray,List.nil_append,List.cons_append];gi_wp2;gi_loopw [9] (fun i wr=>∃ m:Nat,m≤l0.length∧i = .int .i64 (m:Int)∧J (ptsTo l0 m) wr∧Below n₀ W wr)
  (fun i _=>l0.length - (intOf i).toNat)
 case atStart=>exact ⟨0,Nat.zero_le _,by go_num,by simpa [ptsTo] using h0,Below.refl _ _⟩
 case round=>
  obtain ⟨m,hm,rfl,hJs,hnx⟩:=hrel;by_cases hlt:m < l0.length
  ·
   have hmi:((m:Nat):Int) < (l0.length:Int):=by omega
   obtain ⟨ad,he,hx0,hx1,hx2,hx3,hx4,hx5⟩:=HP.out.out m hlt;subst he;have hwb:=hWB.trans hnx;have hc0:=(hwb.cell (by rw [hn₀];exact zzn w _ hx0)).trans hx0;have hc1:=(hwb.cell (by rw [hn₀];exact zzn w _ hx1)).trans hx1;have hc2:=(hwb.cell (by rw [hn₀];exact zzn w _ hx2)).trans hx2;have hc3:=(hwb.cell (by rw [hn₀];exact zzn w _ hx3)).trans hx3;have hc4:=(hwb.cell (by rw [hn₀];exact zzn w _ hx4)).trans hx4;have hc5:=(hwb.cell (by rw [hn₀];exact zzn w _ hx5)).trans hx5;clear hx0 hx1 hx2 hx3 hx4 hx5;have HWB:=zzm hwb;clear hwb;gi_wp2;obtain ⟨B0,hB0⟩:∃ B0,wr.heap.size=B0:=⟨_,rfl⟩;rw [hB0];gi_loopw [16] (fun i w2=>∃ j:Nat,j≤(Qa l0 (m:Int)).f5.length∧i = .int .i64 (j:Int)∧J (ptsAt l0 m j) w2∧Below n₀ W w2∧w2.heap[B0]? = some (.cells #[.bool (Qa l0 (m:Int)).f0,.bool (Qa l0 (m:Int)).f1,.int .i64 (Qa l0 (m:Int)).f2,.int .i64 (Qa l0 (m:Int)).f3,.int .i64 (Qa l0 (m:Int)).f4,.slice (AB m) (Qa l0 (m:Int)).f5.length (CB m)] 34 (0,0)))
    (fun i _=>(Qa l0 (m:Int)).f5.length - (intOf i).toNat)
   case atStart=>exact ⟨0,Nat.zero_le _,by go_num,by rw [ptsAt_zero];exact HJ.out _ _ _ none hJs (World.grownBy_alloc wr _ none) (fun r e=>by cases e),hnx.trans ((Below.refl _ wr).alloc (by have:=hnx.size;have:=hWB.size;omega) _),hB0 ▸ World.alloc_heap_new wr _⟩
   case round=>
    obtain ⟨j,hj,rfl,hJ2,hn2,hbx⟩:=hrel;have hmx:(Qa l0 (m:Int)).f5.length≤9223372036854775807:=(HP.out.row m).2.2.1;by_cases hltj:j < (Qa l0 (m:Int)).f5.length
    ·
     have hji:((j:Nat):Int) < ((Qa l0 (m:Int)).f5.length:Int):=by omega
     obtain ⟨ad2,he2,hx0,hx1,hx2,hx3,hx4,hx5⟩:=HP.out.item m j hltj;rw [he2];rw [he2] at hbx;have hwb:=hWB.trans hn2;have hd0:=(hwb.cell (by rw [hn₀];exact zzn w _ hx0)).trans hx0;have hd1:=(hwb.cell (by rw [hn₀];exact zzn w _ hx1)).trans hx1;have hd2:=(hwb.cell (by rw [hn₀];exact zzn w _ hx2)).trans hx2;have hd3:=(hwb.cell (by rw [hn₀];exact zzn w _ hx3)).trans hx3;have hd4:=(hwb.cell (by rw [hn₀];exact zzn w _ hx4)).trans hx4;have hd5:=(hwb.cell (by rw [hn₀];exact zzn w _ hx5)).trans hx5;clear hx0 hx1 hx2 hx3 hx4 hx5 hc0 hc1 hc2 hc3 hc4 hc5;have hbx2:=(Below.heap_alloc wr (.cells #[.int .i64 (Qb (Qa l0 (m:Int)).f5 (j:Int)).f0,.int .i64 (Qb (Qa l0 (m:Int)).f5 (j:Int)).f1,.bool (Qb (Qa l0 (m:Int)).f5 (j:Int)).f2,.slice (AK m j) (Qb (Qa l0 (m:Int)).f5 (j:Int)).f3.length (CK m j),.bool (Qb (Qa l0 (m:Int)).f5 (j:Int)).f4,.slice (AV m j) (Qb (Qa l0 (m:Int)).f5 (j:Int)).f5.length (CV m j)] 30) B0 (Array.getElem?_eq_some_iff.1 hbx).1).trans hbx;have hb0:(wr.alloc (.cells #[.int .i64 (Qb (Qa l0 (m:Int)).f5 (j:Int)).f0,.int .i64 (Qb (Qa l0 (m:Int)).f5 (j:Int)).f1,.bool (Qb (Qa l0 (m:Int)).f5 (j:Int)).f2,.slice (AK m j) (Qb (Qa l0 (m:Int)).f5 (j:Int)).f3.length (CK m j),.bool (Qb (Qa l0 (m:Int)).f5 (j:Int)).f4,.slice (AV m j) (Qb (Qa l0 (m:Int)).f5 (j:Int)).f5.length (CV m j)] 30)).cell? ⟨B0,0,none⟩=some (.bool (Qa l0 (m:Int)).f0):=by simp [World.cell?,hbx2]
     have hb1:(wr.alloc (.cells #[.int .i64 (Qb (Qa l0 (m:Int)).f5 (j:Int)).f0,.int .i64 (Qb (Qa l0 (m:Int)).f5 (j:Int)).f1,.bool (Qb (Qa l0 (m:Int)).f5 (j:Int)).f2,.slice (AK m j) (Qb (Qa l0 (m:Int)).f5 (j:Int)).f3.length (CK m j),.bool (Qb (Qa l0 (m:Int)).f5 (j:Int)).f4,.slice (AV m j) (Qb (Qa l0 (m:Int)).f5 (j:Int)).f5.length (CV m j)] 30)).cell? ⟨B0,1,none⟩=some (.bool (Qa l0 (m:Int)).f1):=by simp [World.cell?,hbx2]
     have hb2:(wr.alloc (.cells #[.int .i64 (Qb (Qa l0 (m:Int)).f5 (j:Int)).f0,.int .i64 (Qb (Qa l0 (m:Int)).f5 (j:Int)).f1,.bool (Qb (Qa l0 (m:Int)).f5 (j:Int)).f2,.slice (AK m j) (Qb (Qa l0 (m:Int)).f5 (j:Int)).f3.length (CK m j),.bool (Qb (Qa l0 (m:Int)).f5 (j:Int)).f4,.slice (AV m j) (Qb (Qa l0 (m:Int)).f5 (j:Int)).f5.length (CV m j)] 30)).cell? ⟨B0,2,none⟩=some (.int .i64 (Qa l0 (m:Int)).f2):=by simp [World.cell?,hbx2]
     have hb3:(wr.alloc (.cells #[.int .i64 (Qb (Qa l0 (m:Int)).f5 (j:Int)).f0,.int .i64 (Qb (Qa l0 (m:Int)).f5 (j:Int)).f1,.bool (Qb (Qa l0 (m:Int)).f5 (j:Int)).f2,.slice (AK m j) (Qb (Qa l0 (m:Int)).f5 (j:Int)).f3.length (CK m j),.bool (Qb (Qa l0 (m:Int)).f5 (j:Int)).f4,.slice (AV m j) (Qb (Qa l0 (m:Int)).f5 (j:Int)).f5.length (CV m j)] 30)).cell? ⟨B0,3,none⟩=some (.int .i64 (Qa l0 (m:Int)).f3):=by simp [World.cell?,hbx2]
     have hb4:(wr.alloc (.cells #[.int .i64 (Qb (Qa l0 (m:Int)).f5 (j:Int)).f0,.int .i64 (Qb (Qa l0 (m:Int)).f5 (j:Int)).f1,.bool (Qb (Qa l0 (m:Int)).f5 (j:Int)).f2,.slice (AK m j) (Qb (Qa l0 (m:Int)).f5 (j:Int)).f3.length (CK m j),.bool (Qb (Qa l0 (m:Int)).f5 (j:Int)).f4,.slice (AV m j) (Qb (Qa l0 (m:Int)).f5 (j:Int)).f5.length (CV m j)] 30)).cell? ⟨B0,4,none⟩=some (.int .i64 (Qa l0 (m:Int)).f4):=by simp [World.cell?,hbx2]
     have hb5:(wr.alloc (.cells #[.int .i64 (Qb (Qa l0 (m:Int)).f5 (j:Int)).f0,.int .i64 (Qb (Qa l0 (m:Int)).f5 (j:Int)).f1,.bool (Qb (Qa l0 (m:Int)).f5 (j:Int)).f2,.slice (AK m j) (Qb (Qa l0 (m:Int)).f5 (j:Int)).f3.length (CK m j),.bool (Qb (Qa l0 (m:Int)).f5 (j:Int)).f4,.slice (AV m j) (Qb (Qa l0 (m:Int)).f5 (j:Int)).f5.length (CV m j)] 30)).cell? ⟨B0,5,none⟩=some (.slice (some ad2) (Qa l0 (m:Int)).f5.length (CB m)):=by simp [World.cell?,hbx2]
     obtain ⟨fn,tmps,assign,body,hy,hR⟩:=HY.out _ (m,j) (wr.alloc (.cells #[.int .i64 (Qb (Qa l0 (m:Int)).f5 (j:Int)).f0,.int .i64 (Qb (Qa l0 (m:Int)).f5 (j:Int)).f1,.bool (Qb (Qa l0 (m:Int)).f5 (j:Int)).f2,.slice (AK m j) (Qb (Qa l0 (m:Int)).f5 (j:Int)).f3.length (CK m j),.bool (Qb (Qa l0 (m:Int)).f5 (j:Int)).f4,.slice (AV m j) (Qb (Qa l0 (m:Int)).f5 (j:Int)).f5.length (CV m j)] 30)) (HJ.out _ _ _ none hJ2 (World.grownBy_alloc wr _ none) (fun r e=>by cases e)) (ptsAt_lt hlt hltj);dsimp only [encB,encR] at hy;rw [he2] at hy;gi_wp2;have hn3:=hn2.trans ((Below.refl n₀ wr).alloc (by have:=hn2.size;have:=hWB.size;omega) (.cells #[.int .i64 (Qb (Qa l0 (m:Int)).f5 (j:Int)).f0,.int .i64 (Qb (Qa l0 (m:Int)).f5 (j:Int)).f1,.bool (Qb (Qa l0 (m:Int)).f5 (j:Int)).f2,.slice (AK m j) (Qb (Qa l0 (m:Int)).f5 (j:Int)).f3.length (CK m j),.bool (Qb (Qa l0 (m:Int)).f5 (j:Int)).f4,.slice (AV m j) (Qb (Qa l0 (m:Int)).f5 (j:Int)).f5.length (CV m j)] 30));refine hR.mono ?_;rintro e W3 (⟨rfl,hJ3,hk3⟩|⟨rfl,hJx3⟩)
     ·
      gi_wp2;go_roundw
      case rel=>exact ⟨j+1,by omega,by go_num,by rw [ptsAt_succ];exact hJ3,hn3.trans hk3.1,hk3.2 _ _ _ hbx2⟩
      case measure=>simp [intOf] <;> omega
     ·
      gi_wp2;refine bodyPost_ret (results_none rfl _ _ _) rfl ?_;exact ⟨⟨_,rfl⟩,.inr ⟨ptsAt l0 m j ++ [(m,j)],by rw [← ptsAt_succ];exact ptsAt_prefix hlt (by omega),hJx3⟩⟩
    ·
     have hje:j=(Qa l0 (m:Int)).f5.length:=by omega
     have hji:¬ ((j:Nat):Int) < ((Qa l0 (m:Int)).f5.length:Int):=by omega
     gi_wp2;go_roundw
     case rel=>exact ⟨m+1,by omega,by go_num,by rw [← ptsAt_full,← hje];exact hJ2,hn2⟩
     case measure=>simp [intOf] <;> omega
  ·
   have hme:m=l0.length:=by omega
   have hmi:¬ ((m:Nat):Int) < (l0.length:Int):=by omega
   gi_wp2;go_end0;exact ⟨⟨_,rfl⟩,.inl (by have h:=hJs;rw [hme] at h;exact h)⟩
theorem recs_stops (F:Fence) (n:Nat) (h1:F.fn 70) (hro:F.round=none) (hn : 1≤n) (Bs:Nat) (A0:Option Addr) (c0:Nat) (l0:List S34) {AB:Nat→Option Addr} {CB:Nat→Nat} {AK:Nat→Nat→Option Addr} {CK:Nat→Nat→Nat} {AV:Nat→Nat→Option Addr} {CV:Nat→Nat→Nat}
  (w W0:World) (hP:Places w A0 l0 AB CB AK CK AV CV) (hmax:l0.length≤9223372036854775807) (hWB:Below w.heap.size w W0) (hc:W0.cell? ⟨Bs,0,none⟩=some (.slice A0 l0.length c0)) :
  SeqStopsK F n Try.prog 70 #[.pointer (some ⟨Bs,0,none⟩)] (fun x:Nat×Nat=>#[encB l0 AB CB x.1,encR l0 AK CK AV CV x.1 x.2]) (KpR w.heap.size) (fun ys=>ys=pts l0) (fun pre=>pre <+: pts l0) (pts l0).length W0:=
 fun l J Jx W hW hJ _ hY h0=>recs1_in F n h1 hro hn l Bs w.heap.size A0 c0 l0 w W hP hmax rfl J Jx hJ hY ((hW.cell (zzn W0 _ hc)).trans hc) (hWB.trans (hW.mono hWB.size)) h0
set_option maxHeartbeats 1000000 in
theorem recs_in (F:Fence) (n:Nat) (h6:F.fn 41) (hro:F.round=none) (A0:Option Addr) (len cap:Nat) (w:World) :
  CallsIn F n Try.prog 41 #[.slice A0 len cap] w fun e w'=>e = .returned (.func (.func 70) #[] #[.pointer (some ⟨w.heap.size,0,none⟩)])∧w' = w.alloc (.cells #[.slice A0 len cap] 23):=by
 refine callsIn_of_wp Try.func41 rfl h6 ?_ hro;simp only [Try.ntmps41,List.size_toArray,List.length_cons,List.length_nil,Nat.reduceAdd,Nat.reduceSub,Array.replicate_succ,Array.replicate_zero,List.push_toArray,List.append_toArray,List.nil_append,List.cons_append];gi_wp2;go_ret;exact ⟨rfl,rfl⟩
end
section
open Go.Shelf
variable {F:Fence} {n:Nat} {P:Program} {ops:Array Oper} {Q:Exit→Act→World→Prop}
theorem wpAnyIn_inv' {md:Region.Mode} (Inv:Array Bool→Act→World→Prop) (todo:Array Bool→Nat)
  (h:∀ listed a w,Inv listed a w→(Region.ready md ops listed = []→Q .normal a w)∧∀ i∈Region.ready md ops listed,wpOpIn F n P ops Q i (fun a' w'=>Inv (listed.setIfInBounds i true) a' w') a w)
  (h0:∀ listed a w,Inv listed a w→todo listed=0→Region.ready md ops listed = [])
  (hdec:∀ listed i a w,Inv listed a w→i∈Region.ready md ops listed→todo (listed.setIfInBounds i true) < todo listed) :
  ∀ (fuel:Nat) (listed:Array Bool) (a:Act) (w:World),Inv listed a w→todo listed≤fuel→wpAnyIn F n P md ops Q fuel listed a w
 | 0,listed,a,w,hi,ht=>by
  have hr:=h0 listed a w hi (by omega)
  exact ⟨hr,(h listed a w hi).1 hr⟩
 | fuel+1,listed,a,w,hi,ht=>by
  refine ⟨(h listed a w hi).1,fun i hm=>?_⟩
  have hd:=hdec listed i a w hi hm
  refine wpOpIn_mono ?_ ((h listed a w hi).2 i hm)
  intro a' w' hi'
  exact wpAnyIn_inv' Inv todo h h0 hdec fuel _ a' w' hi' (by omega)
def appSt (b:Bool) (s:Nat):Array Bool:=#[b,decide (1≤s),decide (2≤s),decide (3≤s),decide (4≤s),decide (5≤s)]
def appRd (b:Bool) (s:Nat):List Nat:=(if b=true then [] else [0])++(match s with
 | 0=>[1]
 | 1=>[2]
 | 2=>[3]
 | 3=>if b=true then [4] else []
 | 4=>[5]
 | _=>[])
def appAll:List (Bool×Nat):=[(false,0),(false,1),(false,2),(false,3),(true,0),(true,1),(true,2),(true,3),(true,4),(true,5)]
def appTab (ops:Array Oper):Bool:=appAll.all fun p=>Region.ready .any ops (appSt p.1 p.2)==appRd p.1 p.2
theorem wpAnyIn_app6 (htab:appTab ops=true) (I:Bool→Nat→Act→World→Prop)
  (hdone:∀ a w,I true 5 a w→Q .normal a w)
  (s0:∀ s a w,s≤3→I false s a w→wpOpIn F n P ops Q 0 (fun a' w'=>I true s a' w') a w)
  (s1:∀ b a w,I b 0 a w→wpOpIn F n P ops Q 1 (fun a' w'=>I b 1 a' w') a w)
  (s2:∀ b a w,I b 1 a w→wpOpIn F n P ops Q 2 (fun a' w'=>I b 2 a' w') a w)
  (s3:∀ b a w,I b 2 a w→wpOpIn F n P ops Q 3 (fun a' w'=>I b 3 a' w') a w)
  (s4:∀ a w,I true 3 a w→wpOpIn F n P ops Q 4 (fun a' w'=>I true 4 a' w') a w)
  (s5:∀ a w,I true 4 a w→wpOpIn F n P ops Q 5 (fun a' w'=>I true 5 a' w') a w)
  {a:Act} {w:World} (hi:I false 0 a w):wpAnyIn F n P .any ops Q 6 (zzB 6 0) a w:=by
 have htab' : ∀ p∈appAll,Region.ready .any ops (appSt p.1 p.2)=appRd p.1 p.2:=fun p hp=>eq_of_beq (List.all_eq_true.mp htab p hp);refine wpAnyIn_inv' (fun l a w=>∃ p∈appAll,l=appSt p.1 p.2∧I p.1 p.2 a w) (fun l=>l.toList.count false) ?_ ?_ ?_ _ _ _ _ ⟨(false,0),by decide,rfl,hi⟩ (by decide)
 ·
  rintro listed a w ⟨p,hp,rfl,hI⟩;rw [htab' p hp];simp only [appAll,List.mem_cons,List.not_mem_nil,or_false] at hp;have put:∀ {i:Nat} {b:Bool} {s:Nat} {b' : Bool} {s' : Nat},(b',s')∈appAll→(appSt b s).setIfInBounds i true=appSt b' s'→wpOpIn F n P ops Q i (fun a' w'=>I b' s' a' w') a w→wpOpIn F n P ops Q i (fun a' w'=>∃ p∈appAll,(appSt b s).setIfInBounds i true=appSt p.1 p.2∧I p.1 p.2 a' w') a w:=
   fun h1 h2 h3=>wpOpIn_mono (fun a' w' h=>⟨_,h1,h2,h⟩) h3
  rcases hp with rfl|rfl|rfl|rfl|rfl|rfl|rfl|rfl|rfl|rfl
  ·
   refine ⟨fun e=>by simp [appRd] at e,fun i hi=>?_⟩;simp [appRd] at hi;rcases hi with rfl|rfl
   ·
    exact put (by decide) rfl (s0 _ _ _ (by decide) hI)
   ·
    exact put (by decide) rfl (s1 _ _ _ hI)
  ·
   refine ⟨fun e=>by simp [appRd] at e,fun i hi=>?_⟩;simp [appRd] at hi;rcases hi with rfl|rfl
   ·
    exact put (by decide) rfl (s0 _ _ _ (by decide) hI)
   ·
    exact put (by decide) rfl (s2 _ _ _ hI)
  ·
   refine ⟨fun e=>by simp [appRd] at e,fun i hi=>?_⟩;simp [appRd] at hi;rcases hi with rfl|rfl
   ·
    exact put (by decide) rfl (s0 _ _ _ (by decide) hI)
   ·
    exact put (by decide) rfl (s3 _ _ _ hI)
  ·
   refine ⟨fun e=>by simp [appRd] at e,fun i hi=>?_⟩;simp [appRd] at hi;rcases hi with rfl;exact put (by decide) rfl (s0 _ _ _ (by decide) hI)
  ·
   refine ⟨fun e=>by simp [appRd] at e,fun i hi=>?_⟩;simp [appRd] at hi;rcases hi with rfl;exact put (by decide) rfl (s1 _ _ _ hI)
  ·
   refine ⟨fun e=>by simp [appRd] at e,fun i hi=>?_⟩;simp [appRd] at hi;rcases hi with rfl;exact put (by decide) rfl (s2 _ _ _ hI)
  ·
   refine ⟨fun e=>by simp [appRd] at e,fun i hi=>?_⟩;simp [appRd] at hi;rcases hi with rfl;exact put (by decide) rfl (s3 _ _ _ hI)
  ·
   refine ⟨fun e=>by simp [appRd] at e,fun i hi=>?_⟩;simp [appRd] at hi;rcases hi with rfl;exact put (by decide) rfl (s4 _ _ hI)
  ·
   refine ⟨fun e=>by simp [appRd] at e,fun i hi=>?_⟩;simp [appRd] at hi;rcases hi with rfl;exact put (by decide) rfl (s5 _ _ hI)
  ·
   exact ⟨fun _=>hdone _ _ hI,fun i hi=>by simp [appRd] at hi⟩
 ·
  rintro listed a w ⟨p,hp,rfl,hI⟩ h0;rw [htab' p hp];simp only [appAll,List.mem_cons,List.not_mem_nil,or_false] at hp;rcases hp with rfl|rfl|rfl|rfl|rfl|rfl|rfl|rfl|rfl|rfl <;> first|rfl|exact absurd h0 (by decide)
 ·
  rintro listed i a w ⟨p,hp,rfl,hI⟩ hi;rw [htab' p hp] at hi;simp only [appAll,List.mem_cons,List.not_mem_nil,or_false] at hp;rcases hp with rfl|rfl|rfl|rfl|rfl|rfl|rfl|rfl|rfl|rfl <;> (simp [appRd] at hi) <;> first|(rcases hi with rfl|rfl <;> decide)|(subst hi;decide)
section
variable {o:Oper} {a:Act} {W:World} {K:Act→World→Prop} {α:Type}
theorem S_append_in (d:Kd α) (base:Nat) (s x:Operand) (t e:TypeId) (z:Value) (bytes:Nat)
  (ho:o.op = .call { callee:=.builtin .append,args:=#[s,x],argTypes:=#[t,t] })
  (ht:P.underlying t=some (.slice e)) (hinfo:(P.info? e).map (fun i=>(i.zero,i.size,i.bytes))=some (some z,d.sz,bytes)) (hz:z.cells.size=d.sz) (hs0 : 0 < d.sz) (hb0 : 0 < bytes)
  (v:Value) (xs:List α) (p : α) (cs:List Value) (ok okp:Nat→Prop) (hs:a.eval s=v) (ad:Addr) (c:Nat) (hx:a.eval x = .slice (some ad) 1 c) (hcs:∀ j u,cs[j]? = some u→W.cell? (ad.add j)=some u) (hp:d.M W base okp p cs) (hokp:∀ k,okp k→ok k∧some k≠v.ownBlock) (hfresh:∀ k,W.heap.size≤k→ok k)
  (HO:Kd.S d e W base (fun k=>ok k∧¬ okp k) v xs) (hbase:base≤W.heap.size) (hl:(xs.length+1) * bytes≤140737488355328)
  (h:∀ v1 w1,Kd.S d e w1 base ok v1 (xs ++ [p])→W.grownBy w1 v.ownBlock→(v1.ownBlock=v.ownBlock∨∃ b,v1.ownBlock=some b∧W.heap.size≤b)→K (a.put o.dst v1) w1) :
  Oper.wpIn F n P o a W K Q:=by
 obtain ⟨f,hf,hR⟩:=Kd.S_tag HO xs.length okp (fun _ hk h2=>h2.2 hk);obtain ⟨h0,inner,hown,hr⟩:=Kd.R_mono hR (fun _ hk=>hk.1);obtain ⟨i0,hi,hzz⟩:=Option.map_eq_some_iff.1 hinfo;simp only [Prod.mk.injEq] at hzz;obtain ⟨hz0,hz1,hz2⟩:=hzz;have hlen:xs.length+1≤140737488355328:=Nat.le_trans (Nat.le_mul_of_pos_right _ hb0) hl;have hM:(Kd.tag f d).M W base okp (p,xs.length) cs:=d.M_mono (fun k hk=>⟨hk,hf k hk⟩) hp;obtain ⟨v1,w1,hrun,hown1,hg,_,hat⟩:=run_append_own_at (P:=P) W base t o.type e i0 z d.sz bytes ht hi hz0 hz1 hz2 hz hs0 v xs.zipIdx.length inner hown ad 1 c cs (by rw [d.K_len (d.K_of_M hp),Nat.one_mul]) hcs (d.K_one (d.K_of_M hp)) (by rw [List.length_zipIdx];simp only [maxLen];omega) (by rw [List.length_zipIdx];exact hl) hbase;have hat' : v1.ownBlock=v.ownBlock∨∃ b,v1.ownBlock=some b∧W.heap.size≤b:=hat.imp id (fun h=>⟨_,h,Nat.le_refl _⟩);have hS:Kd.S d e w1 base ok v1 (xs ++ [p]):=⟨f,by rw [Kd.zip_snoc];exact Kd.R_appended h0 hr hM hokp hfresh hown1 hg hat'⟩;unfold Oper.wpIn;refine ⟨by simp [Oper.about,ho,resolve,Target.leads,Sem.run_pure],?_⟩;rw [Oper.semAt_plain F _ _ (by rw [ho];intro c hc';cases hc')];simp only [ho,execOp,resolve,invoke,builtin,Sem.run_bind,Sem.run_pure,Result.andThen_ok,map_toArray,map_cons,map_nil,hs,hx,hrun];exact h v1 w1 hS hg hat'
end
end
section
open Go.Shelf
variable {F:Fence} {n:Nat} {P:Program} {ops:Array Oper} {Q:Exit→Act→World→Prop}
theorem wpAnyIn_inv3 {md:Region.Mode} (Inv:Array Bool→Act→World→Prop) (todo:Array Bool→Nat)
  (h:∀ listed a w,Inv listed a w→(Region.ready md ops listed = []→Q .normal a w)∧∀ i∈Region.ready md ops listed,wpOpIn F n P ops Q i (fun a' w'=>Inv (listed.setIfInBounds i true) a' w') a w)
  (h0:∀ listed a w,Inv listed a w→todo listed=0→Region.ready md ops listed = [])
  (hdec:∀ listed i a w,Inv listed a w→i∈Region.ready md ops listed→todo (listed.setIfInBounds i true) < todo listed) :
  ∀ (fuel:Nat) (listed:Array Bool) (a:Act) (w:World),Inv listed a w→todo listed≤fuel→wpAnyIn F n P md ops Q fuel listed a w
 | 0,listed,a,w,hi,ht=>by
  have hr:=h0 listed a w hi (by omega)
  exact ⟨hr,(h listed a w hi).1 hr⟩
 | fuel+1,listed,a,w,hi,ht=>by
  refine ⟨(h listed a w hi).1,fun i hm=>?_⟩
  have hd:=hdec listed i a w hi hm
  refine wpOpIn_mono ?_ ((h listed a w hi).2 i hm)
  intro a' w' hi'
  exact wpAnyIn_inv3 Inv todo h h0 hdec fuel _ a' w' hi' (by omega)
def stTab {σ:Type} [DecidableEq σ] (ops:Array Oper) (all:List σ) (st : σ→Array Bool) (go : σ→List (Nat×σ)):Bool:=
 all.all fun s=>(Region.ready .any ops (st s)==(go s).map (·.1))&&((go s).all fun p=>decide (p.2∈all)&&(((st s).setIfInBounds p.1 true==st p.2)&&decide ((st p.2).toList.count false < (st s).toList.count false)))&&(decide ((st s).toList.count false≠0)||(go s).isEmpty)
theorem wpAnyIn_states {σ:Type} [DecidableEq σ] (all:List σ) (st : σ→Array Bool) (go : σ→List (Nat×σ)) (htab:stTab ops all st go=true) (I : σ→Act→World→Prop)
  (hdone:∀ s∈all,go s = []→∀ a w,I s a w→Q .normal a w)
  (hstep:∀ s∈all,∀ p∈go s,∀ a w,I s a w→wpOpIn F n P ops Q p.1 (fun a' w'=>I p.2 a' w') a w)
  (s0 : σ) (hs0:s0∈all) (fuel:Nat) (hf:(st s0).toList.count false≤fuel) {a:Act} {w:World} (hi:I s0 a w):wpAnyIn F n P .any ops Q fuel (st s0) a w:=by
 have tab:∀ s∈all,Region.ready .any ops (st s)=(go s).map (·.1)∧(∀ p∈go s,p.2∈all∧(st s).setIfInBounds p.1 true=st p.2∧(st p.2).toList.count false < (st s).toList.count false)∧((st s).toList.count false=0→go s = []):=by
  intro s hs;have h:=List.all_eq_true.mp htab s hs;simp only [Bool.and_eq_true,Bool.or_eq_true,decide_eq_true_eq] at h;obtain ⟨⟨h1,h2⟩,h3⟩:=h;refine ⟨eq_of_beq h1,fun p hp=>?_,fun h0=>?_⟩
  ·
   have:=List.all_eq_true.mp h2 p hp;simp only [Bool.and_eq_true,decide_eq_true_eq] at this;exact ⟨this.1,eq_of_beq this.2.1,this.2.2⟩
  ·
   rcases h3 with h3|h3
   ·
    exact absurd h0 h3
   ·
    simpa using h3
 refine wpAnyIn_inv3 (fun l a w=>∃ s∈all,l=st s∧I s a w) (fun l=>l.toList.count false) ?_ ?_ ?_ _ _ _ _ ⟨s0,hs0,rfl,hi⟩ hf
 ·
  rintro listed a w ⟨s,hs,rfl,hI⟩;obtain ⟨t1,t2,t3⟩:=tab s hs;rw [t1];refine ⟨fun e=>hdone s hs (by simpa using e) a w hI,fun i hm=>?_⟩;obtain ⟨p,hp,rfl⟩:=List.mem_map.1 hm;obtain ⟨p1,p2,p3⟩:=t2 p hp;exact wpOpIn_mono (fun a' w' h=>⟨p.2,p1,p2,h⟩) (hstep s hs p hp a w hI)
 ·
  rintro listed a w ⟨s,hs,rfl,hI⟩ h0;obtain ⟨t1,t2,t3⟩:=tab s hs;rw [t1,t3 h0];rfl
 ·
  rintro listed i a w ⟨s,hs,rfl,hI⟩ hm;obtain ⟨t1,t2,t3⟩:=tab s hs;rw [t1] at hm;obtain ⟨p,hp,rfl⟩:=List.mem_map.1 hm;obtain ⟨p1,p2,p3⟩:=t2 p hp;rw [p2];exact p3
abbrev St3:=Option (Nat×Nat×Nat)
def st132:St3→Array Bool
 | none=>(zzB 7 127)
 | some (a,b,c)=>#[decide (1≤a),decide (1≤b),decide (2≤b),decide (3≤b),decide (1≤c),decide (2≤c),false]
def go132:St3→List (Nat×St3)
 | none=>[]
 | some (a,b,c)=>(if a=0 then [(0,some (1,b,c))] else [])++((if b=0 then [(1,some (a,1,c))] else if b=1 then [(2,some (a,2,c))] else if b=2 then [(3,some (a,3,c))] else [])++((if c=0 then [(4,some (a,b,1))] else if c=1 then [(5,some (a,b,2))] else [])++(if a=1∧b=3∧c=2 then [(6,none)] else [])))
def all132:List St3:=none::(List.range 2).flatMap fun a=>(List.range 4).flatMap fun b=>(List.range 3).map fun c=>some (a,b,c)
theorem wpAnyIn_132 (htab:stTab ops all132 st132 go132=true) (I:Nat→Nat→Nat→Act→World→Prop) (J:Act→World→Prop)
  (hdone:∀ a w,J a w→Q .normal a w)
  (s0:∀ y z a w,I 0 y z a w→wpOpIn F n P ops Q 0 (fun a' w'=>I 1 y z a' w') a w)
  (s1:∀ x z a w,I x 0 z a w→wpOpIn F n P ops Q 1 (fun a' w'=>I x 1 z a' w') a w)
  (s2:∀ x z a w,I x 1 z a w→wpOpIn F n P ops Q 2 (fun a' w'=>I x 2 z a' w') a w)
  (s3:∀ x z a w,I x 2 z a w→wpOpIn F n P ops Q 3 (fun a' w'=>I x 3 z a' w') a w)
  (s4:∀ x y a w,I x y 0 a w→wpOpIn F n P ops Q 4 (fun a' w'=>I x y 1 a' w') a w)
  (s5:∀ x y a w,I x y 1 a w→wpOpIn F n P ops Q 5 (fun a' w'=>I x y 2 a' w') a w)
  (s6:∀ a w,I 1 3 2 a w→wpOpIn F n P ops Q 6 (fun a' w'=>J a' w') a w)
  {a:Act} {w:World} (hi:I 0 0 0 a w):wpAnyIn F n P .any ops Q 7 (zzB 7 0) a w:=by
 refine wpAnyIn_states all132 st132 go132 htab (fun s a w=>match s with
  | none=>J a w
  | some (x,y,z)=>I x y z a w) ?_ ?_ (some (0,0,0)) (by decide) 7 (by decide) hi
 ·
  rintro s hs hg a w hI;cases s with
  | none=>exact hdone a w hI
  | some p=>
   obtain ⟨x,y,z⟩:=p;exfalso;simp only [go132,List.append_eq_nil_iff] at hg;obtain ⟨g1,g2,g3,g4⟩:=hg;simp only [all132,List.mem_cons,List.mem_flatMap,List.mem_map,List.mem_range,reduceCtorEq,false_or] at hs;obtain ⟨a',ha,b',hb,c',hc,e⟩:=hs;cases e;have h1:x=1:=by
    by_cases h:x=0
    ·
     rw [if_pos h] at g1;cases g1
    ·
     omega
   have h2:y=3:=by
    by_cases h:y=0
    ·
     rw [if_pos h] at g2;cases g2
    ·
     by_cases h' : y=1
     ·
      rw [if_neg h,if_pos h'] at g2;cases g2
     ·
      by_cases h'' : y=2
      ·
       rw [if_neg h,if_neg h',if_pos h''] at g2;cases g2
      ·
       omega
   have h3:z=2:=by
    by_cases h:z=0
    ·
     rw [if_pos h] at g3;cases g3
    ·
     by_cases h' : z=1
     ·
      rw [if_neg h,if_pos h'] at g3;cases g3
     ·
      omega
   rw [if_pos ⟨h1,h2,h3⟩] at g4;cases g4
 ·
  rintro s hs p hp a w hI;cases s with
  | none=>simp [go132] at hp
  | some q=>
   obtain ⟨x,y,z⟩:=q;simp only [go132,List.mem_append] at hp;rcases hp with hp|hp|hp|hp
   ·
    split at hp
    ·
     obtain rfl:=List.mem_singleton.1 hp;subst x;exact s0 y z a w hI
    ·
     cases hp
   ·
    split at hp
    ·
     obtain rfl:=List.mem_singleton.1 hp;subst y;exact s1 x z a w hI
    ·
     split at hp
     ·
      obtain rfl:=List.mem_singleton.1 hp;subst y;exact s2 x z a w hI
     ·
      split at hp
      ·
       obtain rfl:=List.mem_singleton.1 hp;subst y;exact s3 x z a w hI
      ·
       cases hp
   ·
    split at hp
    ·
     obtain rfl:=List.mem_singleton.1 hp;subst z;exact s4 x y a w hI
    ·
     split at hp
     ·
      obtain rfl:=List.mem_singleton.1 hp;subst z;exact s5 x y a w hI
     ·
      cases hp
   ·
    split at hp
    ·
     rename_i h;obtain ⟨rfl,rfl,rfl⟩:=h;obtain rfl:=List.mem_singleton.1 hp;exact s6 a w hI
    ·
     cases hp
abbrev St20:=Nat×Nat×Nat×Nat×Nat
def st20:St20→Array Bool
 | (0,x,_,_,_)=>#[decide (1≤x),decide (2≤x),false,false,false,false,false,false,false,false,false,false,false,false,false,false,false,false,false,false]
 | (1,x,y,z,d)=>#[true,true,true,decide (1≤x),decide (1≤y),decide (2≤y),decide (3≤y),decide (1≤d),decide (1≤z),decide (2≤z),false,false,false,false,false,false,false,false,false,false]
 | (_,x,_,_,_)=>#[true,true,true,true,true,true,true,true,true,true,decide (1≤x),decide (2≤x),decide (3≤x),decide (4≤x),decide (5≤x),decide (6≤x),decide (7≤x),decide (8≤x),decide (9≤x),decide (10≤x)]
def go20:St20→List (Nat×St20)
 | (0,x,_,_,_)=>if x=0 then [(0,(0,1,0,0,0))] else if x=1 then [(1,(0,2,0,0,0))] else [(2,(1,0,0,0,0))]
 | (1,x,y,z,d)=>(if x=0 then [(3,(1,1,y,z,d))] else [])++((if y=0 then [(4,(1,x,1,z,d))] else if y=1 then [(5,(1,x,2,z,d))] else if y=2 then [(6,(1,x,3,z,d))] else [])++((if x=1∧y=3∧d=0 then [(7,(1,x,y,z,1))] else [])++((if z=0 then [(8,(1,x,y,1,d))] else if z=1 then [(9,(1,x,y,2,d))] else [])++(if d=1∧z=2 then [(10,(2,1,0,0,0))] else []))))
 | (_,x,_,_,_)=>if x < 10 then [(10+x,(2,x+1,0,0,0))] else []
def all20:List St20:=(List.range 3).map (fun x=>(0,x,0,0,0))++(((List.range 2).flatMap fun x=>(List.range 4).flatMap fun y=>(List.range 3).map fun z=>(1,x,y,z,0))++((List.range 3).map (fun z=>(1,1,3,z,1))++(List.range 10).map (fun x=>(2,x+1,0,0,0))))
theorem wpAnyIn_20 (htab:stTab ops all20 st20 go20=true) (I0:Nat→Act→World→Prop) (I1:Nat→Nat→Nat→Nat→Act→World→Prop) (I2:Nat→Act→World→Prop)
  (hdone:∀ a w,I2 10 a w→Q .normal a w)
  (s0:∀ a w,I0 0 a w→wpOpIn F n P ops Q 0 (fun a' w'=>I0 1 a' w') a w)
  (s1:∀ a w,I0 1 a w→wpOpIn F n P ops Q 1 (fun a' w'=>I0 2 a' w') a w)
  (s2:∀ a w,I0 2 a w→wpOpIn F n P ops Q 2 (fun a' w'=>I1 0 0 0 0 a' w') a w)
  (s3:∀ y z d a w,I1 0 y z d a w→wpOpIn F n P ops Q 3 (fun a' w'=>I1 1 y z d a' w') a w)
  (s4:∀ x z d a w,I1 x 0 z d a w→wpOpIn F n P ops Q 4 (fun a' w'=>I1 x 1 z d a' w') a w)
  (s5:∀ x z d a w,I1 x 1 z d a w→wpOpIn F n P ops Q 5 (fun a' w'=>I1 x 2 z d a' w') a w)
  (s6:∀ x z d a w,I1 x 2 z d a w→wpOpIn F n P ops Q 6 (fun a' w'=>I1 x 3 z d a' w') a w)
  (s7:∀ z a w,I1 1 3 z 0 a w→wpOpIn F n P ops Q 7 (fun a' w'=>I1 1 3 z 1 a' w') a w)
  (s8:∀ x y d a w,I1 x y 0 d a w→wpOpIn F n P ops Q 8 (fun a' w'=>I1 x y 1 d a' w') a w)
  (s9:∀ x y d a w,I1 x y 1 d a w→wpOpIn F n P ops Q 9 (fun a' w'=>I1 x y 2 d a' w') a w)
  (s10:∀ a w,I1 1 3 2 1 a w→wpOpIn F n P ops Q 10 (fun a' w'=>I2 1 a' w') a w)
  (s11:∀ a w,I2 1 a w→wpOpIn F n P ops Q 11 (fun a' w'=>I2 2 a' w') a w)
  (s12:∀ a w,I2 2 a w→wpOpIn F n P ops Q 12 (fun a' w'=>I2 3 a' w') a w)
  (s13:∀ a w,I2 3 a w→wpOpIn F n P ops Q 13 (fun a' w'=>I2 4 a' w') a w)
  (s14:∀ a w,I2 4 a w→wpOpIn F n P ops Q 14 (fun a' w'=>I2 5 a' w') a w)
  (s15:∀ a w,I2 5 a w→wpOpIn F n P ops Q 15 (fun a' w'=>I2 6 a' w') a w)
  (s16:∀ a w,I2 6 a w→wpOpIn F n P ops Q 16 (fun a' w'=>I2 7 a' w') a w)
  (s17:∀ a w,I2 7 a w→wpOpIn F n P ops Q 17 (fun a' w'=>I2 8 a' w') a w)
  (s18:∀ a w,I2 8 a w→wpOpIn F n P ops Q 18 (fun a' w'=>I2 9 a' w') a w)
  (s19:∀ a w,I2 9 a w→wpOpIn F n P ops Q 19 (fun a' w'=>I2 10 a' w') a w)
  {a:Act} {w:World} (hi:I0 0 a w):wpAnyIn F n P .any ops Q 20 (zzB 20 0) a w:=by
 refine wpAnyIn_states all20 st20 go20 htab (fun s a w=>match s with
  | (0,x,_,_,_)=>I0 x a w
  | (1,x,y,z,d)=>I1 x y z d a w
  | (_,x,_,_,_)=>I2 x a w) ?_ ?_ (0,0,0,0,0) (by decide) 20 (by decide) hi
 ·
  have h20:∀ s∈all20,go20 s = []→s=(2,10,0,0,0):=by decide +kernel
  intro s hs hg a w hI;rw [h20 s hs hg] at hI;exact hdone a w hI
 ·
  rintro ⟨p0,x,y,z,d⟩ hs p hp a w hI;simp only [all20,List.mem_append,List.mem_map,List.mem_range,List.mem_flatMap,Prod.mk.injEq] at hs;rcases hs with ⟨x',hx',rfl,rfl,rfl,rfl,rfl⟩|⟨x',hx',y',hy',z',hz',rfl,rfl,rfl,rfl,rfl⟩|⟨z',hz',rfl,rfl,rfl,rfl,rfl⟩|⟨x',hx',rfl,rfl,rfl,rfl,rfl⟩
  ·
   simp only [go20] at hp;split at hp
   ·
    obtain rfl:=List.mem_singleton.1 hp;subst x';exact s0 a w hI
   ·
    split at hp
    ·
     obtain rfl:=List.mem_singleton.1 hp;subst x';exact s1 a w hI
    ·
     obtain rfl:=List.mem_singleton.1 hp;obtain rfl:x' = 2:=by omega
     exact s2 a w hI
  ·
   simp only [go20,List.mem_append] at hp;rcases hp with hp|hp|hp|hp|hp
   ·
    split at hp
    ·
     obtain rfl:=List.mem_singleton.1 hp;subst x';exact s3 y' z' 0 a w hI
    ·
     cases hp
   ·
    split at hp
    ·
     obtain rfl:=List.mem_singleton.1 hp;subst y';exact s4 x' z' 0 a w hI
    ·
     split at hp
     ·
      obtain rfl:=List.mem_singleton.1 hp;subst y';exact s5 x' z' 0 a w hI
     ·
      split at hp
      ·
       obtain rfl:=List.mem_singleton.1 hp;subst y';exact s6 x' z' 0 a w hI
      ·
       cases hp
   ·
    split at hp
    ·
     rename_i h;obtain ⟨rfl,rfl,-⟩:=h;obtain rfl:=List.mem_singleton.1 hp;exact s7 z' a w hI
    ·
     cases hp
   ·
    split at hp
    ·
     obtain rfl:=List.mem_singleton.1 hp;subst z';exact s8 x' y' 0 a w hI
    ·
     split at hp
     ·
      obtain rfl:=List.mem_singleton.1 hp;subst z';exact s9 x' y' 0 a w hI
     ·
      cases hp
   ·
    rw [if_neg (by omega)] at hp;cases hp
  ·
   simp only [go20,List.mem_append] at hp;rcases hp with hp|hp|hp|hp|hp
   ·
    rw [if_neg (by omega)] at hp;cases hp
   ·
    rw [if_neg (by omega),if_neg (by omega),if_neg (by omega)] at hp;cases hp
   ·
    rw [if_neg (by omega)] at hp;cases hp
   ·
    split at hp
    ·
     obtain rfl:=List.mem_singleton.1 hp;subst z';exact s8 1 3 1 a w hI
    ·
     split at hp
     ·
      obtain rfl:=List.mem_singleton.1 hp;subst z';exact s9 1 3 1 a w hI
     ·
      cases hp
   ·
    split at hp
    ·
     rename_i h;obtain ⟨-,rfl⟩:=h;obtain rfl:=List.mem_singleton.1 hp;exact s10 a w hI
    ·
     cases hp
  ·
   simp only [go20] at hp;split at hp
   ·
    rename_i h;obtain rfl:=List.mem_singleton.1 hp;match x',h,hI with
    | 0,h,hI=>exact s11 a w hI
    | 1,h,hI=>exact s12 a w hI
    | 2,h,hI=>exact s13 a w hI
    | 3,h,hI=>exact s14 a w hI
    | 4,h,hI=>exact s15 a w hI
    | 5,h,hI=>exact s16 a w hI
    | 6,h,hI=>exact s17 a w hI
    | 7,h,hI=>exact s18 a w hI
    | 8,h,hI=>exact s19 a w hI
    | x' + 9,h,hI=>exact absurd h (by omega)
   ·
    cases hp
end
section
open Go.Shelf
attribute [local go_sem] Oper.semAt_some
def okLog (l:List S34):Bool:=decide ((pts l).length≤1000000)&&l.all fun b=>b.f5.all fun r=>(decide (0≤r.f0∧r.f0≤99999)&&decide (r.f3.length≤1000))&&(decide (r.f5.length≤1000)&&(!r.f2||keyOk r.f3))
def rcOf (l:List S34) (x:Nat×Nat):S30:=Qb (Qa l (x.1:Int)).f5 (x.2:Int)
def mkOf (l:List S34) (x:Nat×Nat):Bool:=(Qa l (x.1:Int)).f1
theorem okLog_len {l:List S34} (h:okLog l=true):(pts l).length≤1000000:=by
 unfold okLog at h;rw [Bool.and_eq_true,decide_eq_true_eq] at h;exact h.1
theorem okLog_at {l:List S34} (h:okLog l=true) (x:Nat×Nat):(0≤(rcOf l x).f0∧(rcOf l x).f0≤99999)∧(rcOf l x).f3.length≤1000∧(rcOf l x).f5.length≤1000∧((rcOf l x).f2=true→keyOk (rcOf l x).f3=true):=by
 obtain ⟨i,j⟩:=x;unfold rcOf;dsimp only;by_cases hi:i < l.length
 ·
  by_cases hj:j < (Qa l i).f5.length
  ·
   have h1:Qa l i=l[i]:=by unfold Qa;rw [Int.toNat_natCast,List.getD_eq_getElem?_getD,List.getElem?_eq_getElem hi];rfl
   have h2:Qb (Qa l i).f5 j=(Qa l i).f5[j]:=by unfold Qb;rw [Int.toNat_natCast,List.getD_eq_getElem?_getD,List.getElem?_eq_getElem hj];rfl
   unfold okLog at h;rw [Bool.and_eq_true] at h;have h3:=List.all_eq_true.1 (List.all_eq_true.1 h.2 (Qa l i) (by rw [h1];exact List.getElem_mem hi)) _ (List.getElem_mem hj);rw [h2];simp only [Bool.and_eq_true,decide_eq_true_eq,Bool.or_eq_true,Bool.not_eq_true'] at h3;refine ⟨h3.1.1,h3.1.2,h3.2.1,fun h4=>?_⟩;rcases h3.2.2 with h5|h5
   ·
    rw [h4] at h5;cases h5
   ·
    exact h5
  ·
   rw [rd_none_R hj];exact ⟨by decide,by decide,by decide,by decide⟩
 ·
  rw [rd_none_B hi,rd_none_R (by simp [z34])];exact ⟨by decide,by decide,by decide,by decide⟩
def lastStep (l:List S34) (D:DataW Unit) (x:Nat×Nat):DataW Unit:=if (!mkOf l x&&(rcOf l x).f2)=true then D.put (.string (hexOf (rcOf l x).f3)) (.lit (.int .i64 (rcOf l x).f0)) else D
def lastD (l:List S34) (pre:List (Nat×Nat)):DataW Unit:=pre.foldl (lastStep l) (.map [])
def offStep (l:List S34) (kk:List UInt8) (a:Int) (x:Nat×Nat):Int:=if (!mkOf l x&&((rcOf l x).f2&&decide (hexOf (rcOf l x).f3=kk)))=true then (rcOf l x).f0 else a
def lastOff (l:List S34) (pre:List (Nat×Nat)) (kk:List UInt8):Int:=pre.foldl (offStep l kk) 0
theorem last_fold (l:List S34):∀ (xs:List (Nat×Nat)) (D:DataW Unit) (a:List UInt8→Int),Maps.IsMap D→(∀ kk,D.atKey (.string kk) (.lit (.int .i64 0)) = .lit (.int .i64 (a kk))) →
  ∀ kk,(xs.foldl (lastStep l) D).atKey (.string kk) (.lit (.int .i64 0)) = .lit (.int .i64 (xs.foldl (offStep l kk) (a kk)))
 | [],D,a,hm,h,kk=>h kk
 | x::xs,D,a,hm,h,kk=>by
  rw [List.foldl_cons,List.foldl_cons]
  refine last_fold l xs (lastStep l D x) (fun kk=>offStep l kk (a kk) x) ?_ ?_ kk
  ·
   unfold lastStep
   split
   ·
    exact Maps.IsMap.put hm _ _
   ·
    exact hm
  ·
   intro kk
   unfold lastStep offStep
   by_cases h1:(!mkOf l x&&(rcOf l x).f2)=true
   ·
    rw [if_pos h1]
    rw [Bool.and_eq_true] at h1
    by_cases h2:hexOf (rcOf l x).f3=kk
    ·
     rw [if_pos (by simp [h1.2,h2];simpa using h1.1),← h2]
     exact Maps.atKey_put_same hm (by exact True.intro) _ _
    ·
     rw [if_neg (by simp [h2]),Maps.atKey_put_other (fun e=>h2 (by cases e;rfl))]
     exact h kk
   ·
    rw [if_neg h1,if_neg (fun h3=>h1 (by simp only [Bool.and_eq_true] at h3 ⊢;exact ⟨h3.1,h3.2.1⟩))]
    exact h kk
theorem lastD_at (l:List S34) (pre:List (Nat×Nat)) (kk:List UInt8):(lastD l pre).atKey (.string kk) (.lit (.int .i64 0)) = .lit (.int .i64 (lastOff l pre kk)):=
 last_fold l pre (.map []) (fun _=>0) Maps.isMap_empty (fun kk=>rfl) kk
theorem lastD_snoc (l:List S34) (pre:List (Nat×Nat)) (x:Nat×Nat):lastD l (pre ++ [x])=lastStep l (lastD l pre) x:=by simp [lastD]
theorem allBytes_from (l:List Int) (h:∀ m:Nat,m < l.length→0≤rd l (m:Int)∧rd l (m:Int)≤255) (hl:l.length≤1000):∀ (d i:Nat),l.length - i=d→i≤l.length→Qt.l0 (d+1) l (l.length:Int) (i:Int)=some true
 | 0,i,hd,hi=>by
  simp only [Qt.l0]
  rw [if_neg (by omega)]
 | d+1,i,hd,hi=>by
  have:=h i (by omega)
  have e1:wrap64 ((i:Int)+1)=((i+1:Nat):Int):=by unfold wrap64;omega
  have e2:Rg.f (rd l (i:Int))=some true:=by unfold Rg.f;rw [if_pos (by omega)];simp [this.2]
  have ih:=allBytes_from l h hl d (i+1) (by omega) (by omega)
  unfold Qt.l0
  rw [if_pos (by omega),if_pos (by omega),e2,Option.bind_some,if_pos rfl,e1,if_pos (by omega)]
  exact ih
theorem allBytes_true {l:List Int} (h:keyOk l=true):Qt.f (l.length+1) l=some true:=by
 unfold Qt.f;exact allBytes_from l (keyOk_at h) (keyOk_len h) l.length 0 (by omega) (by omega)
theorem bytesText_f {l:List Int} (h:keyOk l=true):Re.f (l.length+1) l=some ⟨(hexOf l).toArray⟩:=by
 unfold Re.f;rw [allBytes_true h];simp only [Option.bind_some,if_true,h]
theorem ownsMap_below {W W' : World} {b n:Nat} {D:DataW Unit} {P:Program} {k:TypeId} {R:Value→Option (DataW Unit×List MemPlace)} (h:W.ownsMap P k R b n D) (hb:Below W.heap.size W W'):W'.ownsMap P k R b n D:=by
 obtain ⟨es,clock,h1,F,hs,hD⟩:=h;exact ⟨es,clock,(hb.block _ (Array.getElem?_eq_some_iff.1 h1).1).trans h1,F,hs,hD⟩
theorem Boxed.of_below {W W' : World} {B:Nat} {t:TypeId} {v:Value} (h:Boxed W B t v) (hb:Below W.heap.size W W'):Boxed W' B t v:=(hb.block _ (Array.getElem?_eq_some_iff.1 h).1).trans h
theorem KeepsFrom.of_below {B:Nat} {W W' : World} (h:Below W.heap.size W W'):KeepsFrom B W W':=⟨h.size,fun i o hB hi ho=>(h.block i (Array.getElem?_eq_some_iff.1 hi).1).trans hi⟩
theorem S_mapUpdate_in {F:Fence} {n:Nat} {P:Program} {W:World} {o:Oper} {a:Act} {K:Act→World→Prop} {Q:Exit→Act→World→Prop} (m x v:Operand) (t:TypeId) (hop:o.op=Op.mapUpdate t m x v)
  (k e:TypeId) (KD:Maps.Keyed P k) (ht:P.underlying t=some (.map k e)) (R:Value→Option (DataW Unit×List MemPlace)) (b nn:Nat) (D:DataW Unit)
  (hm:a.eval m = .map (some b)) (hown:W.ownsMap P k R b nn D) (hn:nn < maxLen) (key val:Value) (kl:Lit) (hx:a.eval x=key) (hv:a.eval v=val) (hkey:keyOf P k key=some kl)
  (d:DataW Unit) (ps:List MemPlace) (hval:R val=some (d,ps))
  (h:∀ w',w'.ownsMap P k R b (nn+1) (D.put kl d)→W.grownBy w' (some b)→K (a.put o.dst undef) w'):Oper.wpIn F n P o a W K Q:=by
 obtain ⟨w',hrun,r1,r2⟩:=hown.update KD ht hn hkey hval;unfold Oper.wpIn;refine ⟨by simp [Oper.about,hop],?_⟩;rw [Oper.semAt_plain F _ _ (by rw [hop];intro c hc';cases hc')];simp [execOp,hop,hm,hx,hv,hrun,Result.andThen];exact h w' r1 r2
set_option maxRecDepth 100000 in
set_option maxHeartbeats 4000000 in
theorem stayer_calls (A0:Option Addr) (c0:Nat) (l0:List (S34)) (gone:Bool) (w:World) (hr0:Kd.C k34 w A0 l0.length l0) (hc0:l0.length≤c0) (hok:okLog l0=true) :
  Calls Try.prog 40 #[.slice A0 l0.length c0,.bool gone] w fun e w'=>∃ Bm Bg bm,e = .returned (.func (.func 69) #[] #[.pointer (some ⟨Bm,0,none⟩),.pointer (some ⟨Bg,0,none⟩)])∧w.heap.size≤Bm∧w.heap.size≤Bg∧w.heap.size≤bm∧Boxed w' Bm 80 (.map (some bm))∧Boxed w' Bg 4 (.bool gone)∧w'.ownsMap Try.prog 9 (plainElem Try.prog 3) bm (pts l0).length (lastD l0 (pts l0))∧Below w.heap.size w w':=by
 have hm0:l0.length≤9223372036854775807:=hr0.2.1;obtain ⟨AB,CB,AK,CK,AV,CV,hP⟩:=places_of hr0;have HP:=zzm hP;have HR0:=zzm hr0;have HC0:=zzm hc0;have HOK:=zzm hok;clear hr0 hc0 hP hok;refine callsIn_wide (n:=8).1 ?_;have hro:(Fence.wide).round=none:=rfl;refine callsIn_of_wp_marks Try.func40 rfl trivial ?_ hro;simp only [Try.ntmps40,List.size_toArray,List.length_cons,List.length_nil,Nat.reduceAdd,Nat.reduceSub,Array.replicate_succ,Array.replicate_zero,List.push_toArray,List.append_toArray,List.nil_append,List.cons_append];have hmm:=@run_makeMap Try.prog;gi_wp2_with (refine ⟨trivial,?_⟩;gi_at_call 41;refine (recs_in Fence.wide 7 trivial hro A0 _ _ _).mono ?_;rintro e w3 ⟨rfl,rfl⟩;dsimp only);obtain ⟨W0,hW0⟩:∃ W0,W0=((((w.alloc (.cells #[.bool gone] 4)).alloc (.map #[] 0)).alloc (.cells #[.map (some (w.heap.size+1))] 80)).alloc (.cells #[.slice A0 l0.length c0] 23)):=⟨_,rfl⟩;obtain ⟨Bs,hBs⟩:∃ Bs,Bs=(((w.alloc (.cells #[.bool gone] 4)).alloc (.map #[] 0)).alloc (.cells #[.map (some (w.heap.size+1))] 80)).heap.size:=⟨_,rfl⟩;have hB0:Below w.heap.size w W0:=by rw [hW0];exact ((((Below.refl _ w).alloc (Nat.le_refl _) _).alloc (by simp) _).alloc (by simp;omega) _).alloc (by simp;omega) _
 have hsz0:W0.heap.size=w.heap.size+4:=by rw [hW0];simp
 have hb1:Boxed W0 w.heap.size 4 (.bool gone):=by rw [hW0];exact (((Boxed.new w 4 _).alloc _).alloc _).alloc _
 have hb2:Boxed W0 (w.heap.size+1+1) 80 (.map (some (w.heap.size+1))):=by
  have:=(Boxed.new ((w.alloc (.cells #[.bool gone] 4)).alloc (.map #[] 0)) 80 (.map (some (w.heap.size+1)))).alloc (.cells #[.slice A0 l0.length c0] 23);simp only [World.size_alloc] at this;rw [hW0];exact this
 have hsb:Boxed W0 Bs 23 (.slice A0 l0.length c0):=by rw [hW0,hBs];exact Boxed.new _ _ _
 have hown0:W0.ownsMap Try.prog 9 (plainElem (H:=Unit) Try.prog 3) (w.heap.size+1) 0 (.map []):=by
  have:=((World.ownsMap_made (w.alloc (.cells #[.bool gone] 4)) Try.prog 9 (plainElem (H:=Unit) Try.prog 3)).alloc (.cells #[.map (some (w.heap.size+1))] 80)).alloc (.cells #[.slice A0 l0.length c0] 23);simp only [World.size_alloc] at this;rw [hW0];exact this
 rw [← hW0,← hBs];clear hW0 hBs;refine wpIn_rangeFunc_ownH rfl (by omega) (gf:=70) (lb:=#[.pointer (some ⟨Bs,0,none⟩)]) rfl trivial (enters_of Try.func70 (by kernel_rfl) rfl)
  (recs_stops Fence.wide _ trivial rfl (by omega) Bs A0 c0 l0 w W0 HP.out hm0 hB0 hsb.cell) KpR.t (KpR.b hB0.size) (Below.refl _ _) (fun _=>rfl)
  (fun pre W=>W.ownsMap Try.prog 9 (plainElem Try.prog 3) (w.heap.size+1) pre.length (lastD l0 pre)∧Boxed W (w.heap.size+1+1) 80 (.map (some (w.heap.size+1)))∧Boxed W w.heap.size 4 (.bool gone)∧Below w.heap.size w W)
  (fun _ _ _=>False)
  (fun s X Y row hs hg hr=>by
   obtain ⟨e1,e2,e3,e4⟩:=hs;have hc:∀ r,row=some r→∃ o:Obj,X.heap[r]? = some o∧o.isCells=false:=fun r e=>(hr r e).2;exact ⟨e1.kept hg (fun e=>by have:=(hr _ e.symm).1;omega),boxed_own _ _ (fun _:Unit=>_) () X Y row e2 hg hc,boxed_own _ _ (fun _:Unit=>_) () X Y row e3 hg hc,ownFrom_below (Nat.le_refl _) hB0.size () X Y row e4 hg hr⟩)
  (fun _ _ _ _ _ hs _ _=>hs)
  ⟨hown0,hb2,hb1,hB0⟩
  (fun x a' W=>∃ Bx,W.heap[Bx]? = some (.cells #[.bool (Qa l0 (x.1:Int)).f0,.bool (Qa l0 (x.1:Int)).f1,.int .i64 (Qa l0 (x.1:Int)).f2,.int .i64 (Qa l0 (x.1:Int)).f3,.int .i64 (Qa l0 (x.1:Int)).f4,.slice (AB x.1) (Qa l0 (x.1:Int)).f5.length (CB x.1)] 34 (0,0))∧W.heap[Bx+1]? = some (.cells #[.int .i64 (rcOf l0 x).f0,.int .i64 (rcOf l0 x).f1,.bool (rcOf l0 x).f2,.slice (AK x.1 x.2) (rcOf l0 x).f3.length (CK x.1 x.2),.bool (rcOf l0 x).f4,.slice (AV x.1 x.2) (rcOf l0 x).f5.length (CV x.1 x.2)] 30 (0,0))∧a' = { tmps:=#[.slice A0 l0.length c0,.bool gone,undef,.pointer (some ⟨w.heap.size,0,none⟩),.nilFunc,.pointer (some ⟨w.heap.size+1+1,0,none⟩),.pointer (some ⟨Bx,0,none⟩),.pointer (some ⟨Bx+1,0,none⟩),.map (some (w.heap.size+1)),.slice A0 l0.length c0,.func (.func 70) #[] #[.pointer (some ⟨Bs,0,none⟩)],encB l0 AB CB x.1,encR l0 AK CK AV CV x.1 x.2,undef,undef,undef,undef,undef,undef,undef,undef,undef,undef,undef,undef,undef,undef],defers:=[] })
  (fun x a' _ X Y row hs hg hr=>by
   obtain ⟨Bx,e1,e2,e3⟩:=hs;have hne:∀ k cs t f,X.heap[k]? = some (.cells cs t f)→some k≠row:=fun k cs t f h e=>by obtain ⟨o,ho,hoc⟩:=(hr k e.symm).2;rw [h] at ho;cases ho;cases hoc
   exact ⟨Bx,(hg.block _ (Array.getElem?_eq_some_iff.1 e1).1 (hne _ _ _ _ e1)).trans e1,(hg.block _ (Array.getElem?_eq_some_iff.1 e2).1 (hne _ _ _ _ e2)).trans e2,e3⟩)
  ?assign ?body ?done ?stop
 case assign=>
  rintro l pre x W K ⟨e1,e2,e3,e4⟩ hK;unfold encB encR;gi_wp2;have hs1:=World.alloc_heap_new W (.cells #[.bool (Qa l0 (x.1:Int)).f0,.bool (Qa l0 (x.1:Int)).f1,.int .i64 (Qa l0 (x.1:Int)).f2,.int .i64 (Qa l0 (x.1:Int)).f3,.int .i64 (Qa l0 (x.1:Int)).f4,.slice (AB x.1) (Qa l0 (x.1:Int)).f5.length (CB x.1)] 34);have hs2:=World.alloc_heap_new (W.alloc (.cells #[.bool (Qa l0 (x.1:Int)).f0,.bool (Qa l0 (x.1:Int)).f1,.int .i64 (Qa l0 (x.1:Int)).f2,.int .i64 (Qa l0 (x.1:Int)).f3,.int .i64 (Qa l0 (x.1:Int)).f4,.slice (AB x.1) (Qa l0 (x.1:Int)).f5.length (CB x.1)] 34)) (.cells #[.int .i64 (rcOf l0 x).f0,.int .i64 (rcOf l0 x).f1,.bool (rcOf l0 x).f2,.slice (AK x.1 x.2) (rcOf l0 x).f3.length (CK x.1 x.2),.bool (rcOf l0 x).f4,.slice (AV x.1 x.2) (rcOf l0 x).f5.length (CV x.1 x.2)] 30);refine hK _ _ (((KeepsOthers.alloc _ _).trans (KeepsOthers.alloc _ _)).from _) ⟨((Below.refl _ W).alloc e4.size _).alloc (by simp;have:=e4.size;omega) _,(KeepT.alloc _ _).trans (KeepT.alloc _ _)⟩ ?_ ?_
  ·
   exact ⟨(e1.alloc _).alloc _,(e2.alloc _).alloc _,(e3.alloc _).alloc _,(e4.alloc e4.size _).alloc (by simp;have:=e4.size;omega) _⟩
  ·
   exact ⟨W.heap.size,(Below.heap_alloc _ _ _ (by simp)).trans hs1,by have h:=hs2;simp only [World.size_alloc] at h;exact h,rfl⟩
 case body=>
  rintro l pre x a' W hl ⟨lr,hlr⟩ ⟨e1,e2,e3,e4⟩ ⟨Bx,cB,cR,rfl⟩ hlt;have m1:W.cell? ⟨Bx,1,none⟩=some (.bool (mkOf l0 x)):=by simp [World.cell?,cB];rfl
  have r2:W.cell? ⟨Bx+1,2,none⟩=some (.bool (rcOf l0 x).f2):=by simp [World.cell?,cR]
  have hpl:(pre ++ [x]).length=pre.length+1:=by simp
  have same:(!mkOf l0 x&&(rcOf l0 x).f2)=false→lastD l0 (pre ++ [x])=lastD l0 pre:=fun h=>by rw [lastD_snoc];unfold lastStep;rw [h];rfl
  have stay:(!mkOf l0 x&&(rcOf l0 x).f2)=false→W.ownsMap Try.prog 9 (plainElem (H:=Unit) Try.prog 3) (w.heap.size+1) (pre ++ [x]).length (lastD l0 (pre ++ [x])):=fun h=>by rw [same h,hpl];exact e1.mono (Nat.le_succ _)
  cases hm:mkOf l0 x with
  | true=>
   rw [hm] at m1;have hst:=stay (by simp [hm]);clear same stay;gi_wp2;exact ⟨KeepsFrom.refl _ _,⟨Below.refl _ _,KeepT.refl _ _⟩,hst,e2,e3,e4⟩
  | false=>
   rw [hm] at m1;cases hf:(rcOf l0 x).f2 with
   | false=>
    rw [hf] at r2;have hst:=stay (by simp [hf]);clear same stay;gi_wp2;exact ⟨KeepsFrom.refl _ _,⟨Below.refl _ _,KeepT.refl _ _⟩,hst,e2,e3,e4⟩
   | true=>
    rw [hf] at r2;clear same stay;gi_wp2;have hkey:=(okLog_at HOK.out x).2.2.2 hf;have hoff:=(okLog_at HOK.out x).1;have hBT:=zzm (bytesText_f hkey);have hnx:lastD l0 (pre ++ [x])=(lastD l0 pre).put (.string (hexOf (rcOf l0 x).f3)) (.lit (.int .i64 (rcOf l0 x).f0)):=by rw [lastD_snoc];unfold lastStep;rw [hm,hf];rfl
    have hwf:(Lit.int .i64 (rcOf l0 x).f0).wf=true:=by simp [Lit.wf,IntKind.min,IntKind.max,IntKind.signed,IntKind.bits];omega
    have hplt:pre.length < 1000000:=by have:=okLog_len HOK.out;omega
    have cM:=e2.cell;have hmx:Try.prog.follows .mixedOrders=true:=by kernel_rfl
    obtain ⟨mk,hmk⟩:∃ mk:Value→Value→Value→Value→Value→Value→Act,mk=fun u0 u1 u2 u3 u4 u5=>{ tmps:=#[.slice A0 l0.length c0,.bool gone,undef,.pointer (some ⟨w.heap.size,0,none⟩),.nilFunc,.pointer (some ⟨w.heap.size+1+1,0,none⟩),.pointer (some ⟨Bx,0,none⟩),.pointer (some ⟨Bx+1,0,none⟩),.map (some (w.heap.size+1)),.slice A0 l0.length c0,.func (.func 70) #[] #[.pointer (some ⟨Bs,0,none⟩)],encB l0 AB CB x.1,encR l0 AK CK AV CV x.1 x.2,.pointer (some ⟨Bx,1,none⟩),.bool false,.bool true,.bool true,.pointer (some ⟨Bx+1,2,none⟩),.bool true,.bool true,u0,u1,u2,u3,u4,u5,undef],defers:=[] }:=⟨_,rfl⟩;refine wpIn_region_any hmx (wpAnyIn_132 (by kernel_rfl) (fun p q s a' W'=>∃ u0 u1 u2 u3 u4 u5,a' = mk u0 u1 u2 u3 u4 u5∧Below W.heap.size W W'∧(p=1→u0 = .map (some (w.heap.size+1)))∧(1≤q→u1 = .pointer (some ⟨Bx+1,3,none⟩))∧(2≤q→u2 = .slice (AK x.1 x.2) (rcOf l0 x).f3.length (CK x.1 x.2))∧(3≤q→u3 = .string ⟨(hexOf (rcOf l0 x).f3).toArray⟩)∧(1≤s→u4 = .pointer (some ⟨Bx+1,0,none⟩))∧(2≤s→u5 = .int .i64 (rcOf l0 x).f0))
     (fun a' W'=>(∃ u0 u1 u2 u3 u4 u5,a' = mk u0 u1 u2 u3 u4 u5)∧KeepsFrom W0.heap.size W W'∧KpR w.heap.size W W'∧W'.ownsMap Try.prog 9 (plainElem (H:=Unit) Try.prog 3) (w.heap.size+1) (pre ++ [x]).length (lastD l0 (pre ++ [x]))∧Boxed W' (w.heap.size+1+1) 80 (.map (some (w.heap.size+1)))∧Boxed W' w.heap.size 4 (.bool gone)∧Below w.heap.size w W')
     ?hdone ?s0 ?s1 ?s2 ?s3 ?s4 ?s5 ?s6 ⟨_,_,_,_,_,_,by rw [hmk],?hini,by simp,by simp,by simp,by simp,by simp,by simp⟩)
    case hini=>exact zzb (Below.refl _ W) 1
    case hdone=>
     rintro a' W' ⟨⟨u0,u1,u2,u3,u4,u5,rfl⟩,k1,k2,k3,k4,k5,k6⟩;rw [hmk];gi_wp2;exact ⟨k1,k2,k3,k4,k5,k6⟩
    case s0=>
     rintro q s a' W' ⟨u0,u1,u2,u3,u4,u5,rfl,hb,h0,h1,h2,h3,h4,h5⟩;rw [hmk];refine wpOpIn_step rfl (fun K hK=>?_);have HK:=zzm hK;have cMn:=(hb.cell (zzn W _ cM)).trans cM;clear hK;go_simp;exact HK.out _ _ ⟨_,u1,u2,u3,u4,u5,rfl,hb,fun _=>rfl,h1,h2,h3,h4,h5⟩
    case s1=>
     rintro p s a' W' ⟨u0,u1,u2,u3,u4,u5,rfl,hb,h0,h1,h2,h3,h4,h5⟩;rw [hmk];refine wpOpIn_step rfl (fun K hK=>?_);have HK:=zzm hK;clear hK;go_simp;exact HK.out _ _ ⟨u0,_,u2,u3,u4,u5,rfl,hb,h0,fun _=>rfl,by simp,by simp,h4,h5⟩
    case s2=>
     rintro p s a' W' ⟨u0,u1,u2,u3,u4,u5,rfl,hb,h0,h1,h2,h3,h4,h5⟩;obtain rfl:=h1 (by decide);rw [hmk];refine wpOpIn_step rfl (fun K hK=>?_);have HK:=zzm hK;have hcR:=(hb.block _ (Array.getElem?_eq_some_iff.1 cR).1).trans cR;have q3:W'.cell? ⟨Bx+1,3,none⟩=some (.slice (AK x.1 x.2) (rcOf l0 x).f3.length (CK x.1 x.2)):=by simp [World.cell?,hcR]
     clear hK hcR;go_simp;exact HK.out _ _ ⟨u0,_,_,u3,u4,u5,rfl,hb,h0,fun _=>rfl,fun _=>rfl,by simp,h4,h5⟩
    case s3=>
     rintro p s a' W' ⟨u0,u1,u2,u3,u4,u5,rfl,hb,h0,h1,h2,h3,h4,h5⟩;obtain rfl:=h1 (by decide);obtain rfl:=h2 (by decide);rw [hmk];refine wpOpIn_step rfl (fun K hK=>?_);have HK:=zzm hK;have hKy:=zzm (Kd.C_below (HP.out.key x.1 x.2).2 (e4.trans (hb.mono e4.size)));clear hK;go_simp;gi_wp2_with (refine ⟨trivial,?_⟩;gi_at_call 68;refine (CallsIn.inRound l (callsIn_wide.2 (Re.calls _ _ _ _ _ _ hKy.out (HP.out.key x.1 x.2).1 hBT.out))).mono ?_;rintro e w7 ⟨rfl,hb7⟩;dsimp only);exact HK.out _ _ ⟨u0,_,_,_,u4,u5,rfl,zzp hb hb7,h0,fun _=>rfl,fun _=>rfl,fun _=>rfl,h4,h5⟩
    case s4=>
     rintro p q a' W' ⟨u0,u1,u2,u3,u4,u5,rfl,hb,h0,h1,h2,h3,h4,h5⟩;rw [hmk];refine wpOpIn_step rfl (fun K hK=>?_);have HK:=zzm hK;clear hK;go_simp;exact HK.out _ _ ⟨u0,u1,u2,u3,_,u5,rfl,hb,h0,h1,h2,h3,fun _=>rfl,by simp⟩
    case s5=>
     rintro p q a' W' ⟨u0,u1,u2,u3,u4,u5,rfl,hb,h0,h1,h2,h3,h4,h5⟩;obtain rfl:=h4 (by decide);rw [hmk];refine wpOpIn_step rfl (fun K hK=>?_);have HK:=zzm hK;have hcR:=(hb.block _ (Array.getElem?_eq_some_iff.1 cR).1).trans cR;have q0:W'.cell? ⟨Bx+1,0,none⟩=some (.int .i64 (rcOf l0 x).f0):=by simp [World.cell?,hcR]
     clear hK hcR;go_simp;exact HK.out _ _ ⟨u0,u1,u2,u3,_,_,rfl,hb,h0,h1,h2,h3,fun _=>rfl,fun _=>rfl⟩
    case s6=>
     rintro a' W' ⟨u0,u1,u2,u3,u4,u5,rfl,hb,h0,h1,h2,h3,h4,h5⟩;obtain rfl:=h0 rfl;obtain rfl:=h3 (by decide);obtain rfl:=h5 (by decide);rw [hmk];have howW:=ownsMap_below e1 hb;refine wpOpIn_step rfl (fun K hK=>?_);rw [if_pos (by rfl)];have hmax:maxLen=9223372036854775807:=rfl;have hkeyo:keyOf Try.prog 9 (.string ⟨(hexOf (rcOf l0 x).f3).toArray⟩)=some (.string (hexOf (rcOf l0 x).f3)):=by
      rw [Go.WideMaps.keyOf_string_mk Try.underlying9 (by have h7:=hexOf_len (rcOf l0 x).f3;have h8:=keyOk_len hkey;show (hexOf (rcOf l0 x).f3).toArray.size≤maxLen;rw [List.size_toArray];omega)]
     refine S_mapUpdate_in (.tmp 20) (.tmp 23) (.tmp 25) 80 rfl 9 3 (Maps.string_keyed Try.underlying9) Try.underlying80 (plainElem Try.prog 3) (w.heap.size+1) pre.length (lastD l0 pre) rfl howW (by omega) _ _ _ rfl rfl hkeyo (.lit (.int .i64 (rcOf l0 x).f0)) [] (plainElem_int Try.underlying3 hwf) ?_;intro w7 ho7 hg7;rw [← hnx] at ho7;have hszW:=zzn W _ cM;have hsz7:=hb.size;obtain ⟨es7,ck7,hmp7,_⟩:=howW;refine hK _ _ ⟨⟨_,_,_,_,_,_,rfl⟩,?_,⟨?_,?_⟩,?_,?_,?_,?_⟩
     ·
      exact (KeepsFrom.of_below hb).trans (KeepsFrom.of_grownBy hg7 (fun j e=>by cases e;omega))
     ·
      exact ((Below.refl _ W).trans (hb.mono e4.size)).grown hg7 (by have:=e4.size;omega) (fun j e=>by cases e;omega)
     ·
      exact (KeepT.of_below hb).trans (KeepT.of_grownBy hg7 (fun j e cs f h=>by cases e;rw [hmp7] at h;cases h))
     ·
      rw [hpl];exact ho7
     ·
      exact (Boxed.of_below e2 hb).kept hg7 (fun e=>by have:=Option.some.inj e;omega)
     ·
      exact (Boxed.of_below e3 hb).kept hg7 (fun e=>by have:=Option.some.inj e;omega)
     ·
      exact (e4.trans (hb.mono e4.size)).grown hg7 (by have:=e4.size;omega) (fun j e=>by cases e;omega)
 case done=>
  rintro D ys W hD rfl ⟨e1,e2,e3,e4⟩ hK;gi_wp2;refine ⟨by simp,.inl ⟨_,_,rfl,run_takeDeferred hK,?_⟩⟩;have hg:=grownBy_putObj' W D (.deferred none);have hne:∀ k cs t f,W.heap[k]? = some (.cells cs t f)→some k≠some D:=fun k cs t f h e=>by cases e;rw [hK] at h;cases h
  refine ⟨_,results_tmp rfl _ _ _,w.heap.size+1+1,w.heap.size,w.heap.size+1,rfl,by omega,by omega,by omega,e2.kept hg (hne _ _ _ _ e2),e3.kept hg (hne _ _ _ _ e3),e1.kept hg (fun e=>by cases e;obtain ⟨_,_,h,_⟩:=e1;rw [hK] at h;cases h),?_⟩;exact e4.trans (belowK_b (w:=w) (Nat.le_refl _) W D _ _ (by omega) hK rfl rfl)
 case stop=>
  rintro D c pre W hD hp h hK;exact h.elim
end
section
open Go.Shelf
attribute [local go_sem] Oper.semAt_some
theorem S_lookup_in {F:Fence} {n:Nat} {P:Program} {W:World} {o:Oper} {a:Act} {K:Act→World→Prop} {Q:Exit→Act→World→Prop} (m x:Operand) (t:TypeId) (hop:o.op=Op.lookup t m x false)
  (k e:TypeId) (q:IntKind) (KD:Maps.Keyed P k) (ht:P.underlying t=some (.map k e)) (he:P.underlying e=some (.int q)) (hz:(zeroValue e).run P W = .ok (.int q 0) W) (b nn:Nat) (D:DataW Unit)
  (hm:a.eval m = .map (some b)) (hown:W.ownsMap P k (plainElem P e) b nn D) (key:Value) (kl:Lit) (hx:a.eval x=key) (hkey:keyOf P k key=some kl)
  (h:∀ c,D.atKey kl (.lit (.int q 0)) = .lit (.int q c)→K (a.put o.dst (.int q c)) W):Oper.wpIn F n P o a W K Q:=by
 obtain ⟨c,hrun,hat,_⟩:=hown.lookup_int KD ht he hz hkey;unfold Oper.wpIn;refine ⟨by simp [Oper.about,hop],?_⟩;rw [Oper.semAt_plain F _ _ (by rw [hop];intro c hc';cases hc')];simp [execOp,hop,hm,hx,hrun,Result.andThen];exact h c hat
set_option maxRecDepth 100000 in
set_option maxHeartbeats 4000000 in
theorem stays_calls (b0 b1 r2 r4 gone:Bool) (b2 b3 b4 r0 r1 c:Int) (P3 P5 P6:Option Addr) (n5 q5 q3 n6 q6:Nat) (Bm Bg bm nn:Nat) (key:List Int) (D:DataW Unit) (w:World)
  (hBm:Boxed w Bm 80 (.map (some bm))) (hBg:Boxed w Bg 4 (.bool gone)) (hown:w.ownsMap Try.prog 9 (plainElem Try.prog 3) bm nn D) (hk:(Kd.int .i64).C w P3 key.length key) (hq:key.length≤q3)
  (hok:r2=true→keyOk key=true) (hc:r2=true→D.atKey (.string (hexOf key)) (.lit (.int .i64 0)) = .lit (.int .i64 c)) :
  Calls Try.prog 69 #[.agg #[.bool b0,.bool b1,.int .i64 b2,.int .i64 b3,.int .i64 b4,.slice P5 n5 q5],.agg #[.int .i64 r0,.int .i64 r1,.bool r2,.slice P3 key.length q3,.bool r4,.slice P6 n6 q6],.pointer (some ⟨Bm,0,none⟩),.pointer (some ⟨Bg,0,none⟩)] w fun e w'=>e = .returned (.bool (b1||(r2&&((c==r0)&&(r4||gone)))))∧Below w.heap.size w w':=by
 have cM:=hBm.cell;have cG:=hBg.cell;have HOWN:=zzm hown;have HK3:=zzm hk;have HOK:=zzm hok;have HC:=zzm hc;have hltM:=hBm.lt;have hltG:=hBg.lt;clear hBm hBg hown hk hok hc;refine callsIn_wide (n:=4).1 ?_;have hro:(Fence.wide).round=none:=rfl;refine callsIn_of_wp Try.func69 rfl trivial ?_ hro;simp only [Try.ntmps69,List.size_toArray,List.length_cons,List.length_nil,Nat.reduceAdd,Nat.reduceSub,Array.replicate_succ,Array.replicate_zero,List.push_toArray,List.append_toArray,List.nil_append,List.cons_append];cases b1 with
 | true=>
  gi_wp2;exact bodyPost_ret (results_tmp rfl _ _ _) rfl ⟨rfl,((Below.refl _ w).alloc (Nat.le_refl _) _).alloc (by simp) _⟩
 | false=>
  have hmx:Try.prog.follows .mixedOrders=true:=by kernel_rfl
  gi_wp2;obtain ⟨W,hW⟩:∃ W,W=(w.alloc (.cells #[.bool b0,.bool false,.int .i64 b2,.int .i64 b3,.int .i64 b4,.slice P5 n5 q5] 34)).alloc (.cells #[.int .i64 r0,.int .i64 r1,.bool r2,.slice P3 key.length q3,.bool r4,.slice P6 n6 q6] 30):=⟨_,rfl⟩;have hBW:Below w.heap.size w W:=by rw [hW];exact ((Below.refl _ w).alloc (Nat.le_refl _) _).alloc (by simp) _
  have cR:W.heap[w.heap.size+1]? = some (.cells #[.int .i64 r0,.int .i64 r1,.bool r2,.slice P3 key.length q3,.bool r4,.slice P6 n6 q6] 30 (0,0)):=by
   have h:=World.alloc_heap_new (w.alloc (.cells #[.bool b0,.bool false,.int .i64 b2,.int .i64 b3,.int .i64 b4,.slice P5 n5 q5] 34)) (.cells #[.int .i64 r0,.int .i64 r1,.bool r2,.slice P3 key.length q3,.bool r4,.slice P6 n6 q6] 30);simp only [World.size_alloc] at h;rw [hW];exact h
  rw [← hW];clear hW;obtain ⟨mk,hmk⟩:∃ mk:Value→Value→Value→Value→Value→Value→Value→Value→Value→Value→Value→Value→Value→Value→Value→Value→Value→Value→Value→Value→Act,mk=fun u6 u9 u10 u11 u12 u13 u14 u15 u16 u17 u18 u19 u20 u21 u22 u23 u24 u25 u26 u27=>{ tmps:=#[.agg #[.bool b0,.bool false,.int .i64 b2,.int .i64 b3,.int .i64 b4,.slice P5 n5 q5],.agg #[.int .i64 r0,.int .i64 r1,.bool r2,.slice P3 key.length q3,.bool r4,.slice P6 n6 q6],.pointer (some ⟨Bm,0,none⟩),.pointer (some ⟨Bg,0,none⟩),.pointer (some ⟨w.heap.size,0,none⟩),.pointer (some ⟨w.heap.size+1,0,none⟩),u6,.pointer (some ⟨w.heap.size,1,none⟩),.bool false,u9,u10,u11,u12,u13,u14,u15,u16,u17,u18,u19,u20,u21,u22,u23,u24,u25,u26,u27],defers:=[] }:=⟨_,rfl⟩;cases r2 with
  | false=>
   refine wpIn_region_any hmx (wpAnyIn_20 (by kernel_rfl) (fun k a' W'=>Below w.heap.size w W'∧W'.heap[w.heap.size+1]? = W.heap[w.heap.size+1]?∧a' = (if k=0 then mk (.bool false) undef undef undef undef undef undef undef undef undef undef undef undef undef undef undef undef undef undef undef else if k=1 then mk (.bool false) (.pointer (some ⟨w.heap.size+1,2,none⟩)) undef undef undef undef undef undef undef undef undef undef undef undef undef undef undef undef undef undef else mk (.bool false) (.pointer (some ⟨w.heap.size+1,2,none⟩)) (.bool false) undef undef undef undef undef undef undef undef undef undef undef undef undef undef undef undef undef)) (fun _ _ _ _ a' W'=>Below w.heap.size w W'∧a' = mk (.bool false) (.pointer (some ⟨w.heap.size+1,2,none⟩)) (.bool false) (.bool false) undef undef undef undef undef undef undef undef undef undef undef undef undef undef undef undef) (fun k a' W'=>Below w.heap.size w W'∧a' = (if k=1 then mk (.bool false) (.pointer (some ⟨w.heap.size+1,2,none⟩)) (.bool false) (.bool false) undef undef undef undef undef undef undef undef undef undef undef undef undef undef undef undef else if k=2 then mk (.bool false) (.pointer (some ⟨w.heap.size+1,2,none⟩)) (.bool false) (.bool false) undef undef undef undef undef undef undef undef (.bool false) undef undef undef undef undef undef undef else if k=3 then mk (.bool false) (.pointer (some ⟨w.heap.size+1,2,none⟩)) (.bool false) (.bool false) undef undef undef undef undef undef undef undef (.bool false) (.bool false) undef undef undef undef undef undef else if k=4 then mk (.bool false) (.pointer (some ⟨w.heap.size+1,2,none⟩)) (.bool false) (.bool false) undef undef undef undef undef undef undef undef (.bool false) (.bool false) undef undef undef undef undef undef else if k=5 then mk (.bool false) (.pointer (some ⟨w.heap.size+1,2,none⟩)) (.bool false) (.bool false) undef undef undef undef undef undef undef undef (.bool false) (.bool false) undef undef undef undef undef undef else if k=6 then mk (.bool false) (.pointer (some ⟨w.heap.size+1,2,none⟩)) (.bool false) (.bool false) undef undef undef undef undef undef undef undef (.bool false) (.bool false) undef undef undef undef undef undef else if k=7 then mk (.bool false) (.pointer (some ⟨w.heap.size+1,2,none⟩)) (.bool false) (.bool false) undef undef undef undef undef undef undef undef (.bool false) (.bool false) undef undef undef undef undef undef else if k=8 then mk (.bool false) (.pointer (some ⟨w.heap.size+1,2,none⟩)) (.bool false) (.bool false) undef undef undef undef undef undef undef undef (.bool false) (.bool false) undef undef undef undef undef undef else if k=9 then mk (.bool false) (.pointer (some ⟨w.heap.size+1,2,none⟩)) (.bool false) (.bool false) undef undef undef undef undef undef undef undef (.bool false) (.bool false) undef undef undef undef undef (.bool false) else mk (.bool false) (.pointer (some ⟨w.heap.size+1,2,none⟩)) (.bool false) (.bool false) undef undef undef undef undef undef undef undef (.bool false) (.bool false) undef undef undef undef undef (.bool false))) ?hdone ?s0 ?s1 ?s2 ?s3 ?s4 ?s5 ?s6 ?s7 ?s8 ?s9 ?s10 ?s11 ?s12 ?s13 ?s14 ?s15 ?s16 ?s17 ?s18 ?s19 ?hini)
   case hini=>exact ⟨zzb hBW 1,rfl,by rw [hmk];rfl⟩
   case hdone=>
    rintro a' W' ⟨hb,rfl⟩;simp only [Nat.reduceEqDiff,if_false];rw [hmk];gi_wp2;exact bodyPost_ret (results_tmp rfl _ _ _) rfl ⟨rfl,hb⟩
   case s0=>
    rintro a' W' ⟨hb,hw,rfl⟩;simp only [Nat.reduceEqDiff,if_true,if_false];rw [hmk];rw [cR] at hw;skip;refine wpOpIn_step rfl (fun K hK=>?_);have HK:=zzm hK;clear hK;go_simp;exact HK.out _ _ ⟨hb,hw.trans cR.symm,rfl⟩
   case s1=>
    rintro a' W' ⟨hb,hw,rfl⟩;simp only [Nat.reduceEqDiff,if_true,if_false];rw [hmk];rw [cR] at hw;have q2:W'.cell? ⟨w.heap.size+1,2,none⟩=some (.bool false):=by simp [World.cell?,hw]
    refine wpOpIn_step rfl (fun K hK=>?_);have HK:=zzm hK;clear hK;go_simp;exact HK.out _ _ ⟨hb,hw.trans cR.symm,rfl⟩
   case s2=>
    rintro a' W' ⟨hb,hw,rfl⟩;simp only [Nat.reduceEqDiff,if_true,if_false];rw [hmk];rw [cR] at hw;skip;refine wpOpIn_step rfl (fun K hK=>?_);have HK:=zzm hK;clear hK;go_simp;exact HK.out _ _ ⟨hb,rfl⟩
   case s3=>
    rintro y z d a' W' ⟨hb,rfl⟩;skip;rw [hmk];refine wpOpIn_step rfl (fun K hK=>?_);have HK:=zzm hK;clear hK;go_simp;exact HK.out _ _ ⟨hb,rfl⟩
   case s4=>
    rintro x z d a' W' ⟨hb,rfl⟩;skip;rw [hmk];refine wpOpIn_step rfl (fun K hK=>?_);have HK:=zzm hK;clear hK;go_simp;exact HK.out _ _ ⟨hb,rfl⟩
   case s5=>
    rintro x z d a' W' ⟨hb,rfl⟩;skip;rw [hmk];refine wpOpIn_step rfl (fun K hK=>?_);have HK:=zzm hK;clear hK;go_simp;exact HK.out _ _ ⟨hb,rfl⟩
   case s6=>
    rintro x z d a' W' ⟨hb,rfl⟩;skip;rw [hmk];refine wpOpIn_step rfl (fun K hK=>?_);have HK:=zzm hK;clear hK;go_simp;exact ⟨trivial,HK.out _ _ ⟨hb,rfl⟩⟩
   case s7=>
    rintro z a' W' ⟨hb,rfl⟩;skip;rw [hmk];refine wpOpIn_step rfl (fun K hK=>?_);have HK:=zzm hK;clear hK;go_simp;exact HK.out _ _ ⟨hb,rfl⟩
   case s8=>
    rintro x y d a' W' ⟨hb,rfl⟩;skip;rw [hmk];refine wpOpIn_step rfl (fun K hK=>?_);have HK:=zzm hK;clear hK;go_simp;exact HK.out _ _ ⟨hb,rfl⟩
   case s9=>
    rintro x y d a' W' ⟨hb,rfl⟩;skip;rw [hmk];refine wpOpIn_step rfl (fun K hK=>?_);have HK:=zzm hK;clear hK;go_simp;exact HK.out _ _ ⟨hb,rfl⟩
   case s10=>
    rintro  a' W' ⟨hb,rfl⟩;skip;rw [hmk];refine wpOpIn_step rfl (fun K hK=>?_);have HK:=zzm hK;clear hK;go_simp;exact HK.out _ _ ⟨hb,rfl⟩
   case s11=>
    rintro  a' W' ⟨hb,rfl⟩;simp only [Nat.reduceEqDiff,if_true,if_false];rw [hmk];refine wpOpIn_step rfl (fun K hK=>?_);have HK:=zzm hK;clear hK;go_simp;exact HK.out _ _ ⟨hb,rfl⟩
   case s12=>
    rintro  a' W' ⟨hb,rfl⟩;simp only [Nat.reduceEqDiff,if_true,if_false];rw [hmk];refine wpOpIn_step rfl (fun K hK=>?_);have HK:=zzm hK;clear hK;go_simp;exact HK.out _ _ ⟨hb,rfl⟩
   case s13=>
    rintro  a' W' ⟨hb,rfl⟩;simp only [Nat.reduceEqDiff,if_true,if_false];rw [hmk];refine wpOpIn_step rfl (fun K hK=>?_);have HK:=zzm hK;clear hK;go_simp;exact HK.out _ _ ⟨hb,rfl⟩
   case s14=>
    rintro  a' W' ⟨hb,rfl⟩;simp only [Nat.reduceEqDiff,if_true,if_false];rw [hmk];refine wpOpIn_step rfl (fun K hK=>?_);have HK:=zzm hK;clear hK;go_simp;exact HK.out _ _ ⟨hb,rfl⟩
   case s15=>
    rintro  a' W' ⟨hb,rfl⟩;simp only [Nat.reduceEqDiff,if_true,if_false];rw [hmk];refine wpOpIn_step rfl (fun K hK=>?_);have HK:=zzm hK;clear hK;go_simp;exact HK.out _ _ ⟨hb,rfl⟩
   case s16=>
    rintro  a' W' ⟨hb,rfl⟩;simp only [Nat.reduceEqDiff,if_true,if_false];rw [hmk];refine wpOpIn_step rfl (fun K hK=>?_);have HK:=zzm hK;clear hK;go_simp;exact HK.out _ _ ⟨hb,rfl⟩
   case s17=>
    rintro  a' W' ⟨hb,rfl⟩;simp only [Nat.reduceEqDiff,if_true,if_false];rw [hmk];refine wpOpIn_step rfl (fun K hK=>?_);have HK:=zzm hK;clear hK;go_simp;exact HK.out _ _ ⟨hb,rfl⟩
   case s18=>
    rintro  a' W' ⟨hb,rfl⟩;simp only [Nat.reduceEqDiff,if_true,if_false];rw [hmk];refine wpOpIn_step rfl (fun K hK=>?_);have HK:=zzm hK;clear hK;go_simp;exact HK.out _ _ ⟨hb,rfl⟩
   case s19=>
    rintro  a' W' ⟨hb,rfl⟩;simp only [Nat.reduceEqDiff,if_true,if_false];rw [hmk];refine wpOpIn_step rfl (fun K hK=>?_);have HK:=zzm hK;clear hK;go_simp;exact HK.out _ _ ⟨hb,rfl⟩
  | true=>
   have hkey:=HOK.out rfl;have hcc:=zzm (HC.out rfl);have hBT:=zzm (bytesText_f hkey);have hkeyo:keyOf Try.prog 9 (.string ⟨(hexOf key).toArray⟩)=some (.string (hexOf key)):=by
    have hmax:maxLen=9223372036854775807:=rfl;rw [Go.WideMaps.keyOf_string_mk Try.underlying9 (by have h7:=hexOf_len key;have h8:=keyOk_len hkey;show (hexOf key).toArray.size≤maxLen;rw [List.size_toArray];omega)]
   obtain ⟨q,hq0⟩:∃ q,q=(c==r0):=⟨_,rfl⟩;refine wpIn_region_any hmx (wpAnyIn_20 (by kernel_rfl) (fun k a' W'=>Below w.heap.size w W'∧W'.heap[w.heap.size+1]? = W.heap[w.heap.size+1]?∧a' = (if k=0 then mk (.bool false) undef undef undef undef undef undef undef undef undef undef undef undef undef undef undef undef undef undef undef else if k=1 then mk (.bool false) (.pointer (some ⟨w.heap.size+1,2,none⟩)) undef undef undef undef undef undef undef undef undef undef undef undef undef undef undef undef undef undef else mk (.bool false) (.pointer (some ⟨w.heap.size+1,2,none⟩)) (.bool true) undef undef undef undef undef undef undef undef undef undef undef undef undef undef undef undef undef)) (fun x y z d a' W'=>Below w.heap.size w W'∧W'.heap[w.heap.size+1]? = W.heap[w.heap.size+1]?∧∃ u12 u13 u14 u15 u16 u17 u18,a' = mk (.bool false) (.pointer (some ⟨w.heap.size+1,2,none⟩)) (.bool true) (.bool true) (u12) (u13) (u14) (u15) (u16) (u17) (u18) undef undef undef undef undef undef undef undef undef∧(1≤x→u12 = .map (some bm))∧(1≤y→u13 = .pointer (some ⟨w.heap.size+1,3,none⟩))∧(2≤y→u14 = .slice P3 key.length q3)∧(3≤y→u15 = .string ⟨(hexOf key).toArray⟩)∧(1≤d→u16 = .int .i64 c)∧(1≤z→u17 = .pointer (some ⟨w.heap.size+1,0,none⟩))∧(2≤z→u18 = .int .i64 r0)) (fun k a' W'=>Below w.heap.size w W'∧W'.heap[w.heap.size+1]? = W.heap[w.heap.size+1]?∧a' = (if k=1 then mk (.bool false) (.pointer (some ⟨w.heap.size+1,2,none⟩)) (.bool true) (.bool true) (.map (some bm)) (.pointer (some ⟨w.heap.size+1,3,none⟩)) (.slice P3 key.length q3) (.string ⟨(hexOf key).toArray⟩) (.int .i64 c) (.pointer (some ⟨w.heap.size+1,0,none⟩)) (.int .i64 r0) (.bool q) undef undef undef undef undef undef undef undef else if k=2 then mk (.bool false) (.pointer (some ⟨w.heap.size+1,2,none⟩)) (.bool true) (.bool true) (.map (some bm)) (.pointer (some ⟨w.heap.size+1,3,none⟩)) (.slice P3 key.length q3) (.string ⟨(hexOf key).toArray⟩) (.int .i64 c) (.pointer (some ⟨w.heap.size+1,0,none⟩)) (.int .i64 r0) (.bool q) (.bool q) undef undef undef undef undef undef undef else if k=3 then mk (.bool false) (.pointer (some ⟨w.heap.size+1,2,none⟩)) (.bool true) (.bool true) (.map (some bm)) (.pointer (some ⟨w.heap.size+1,3,none⟩)) (.slice P3 key.length q3) (.string ⟨(hexOf key).toArray⟩) (.int .i64 c) (.pointer (some ⟨w.heap.size+1,0,none⟩)) (.int .i64 r0) (.bool q) (.bool q) (.bool q) undef undef undef undef undef undef else if k=4 then mk (.bool false) (.pointer (some ⟨w.heap.size+1,2,none⟩)) (.bool true) (.bool true) (.map (some bm)) (.pointer (some ⟨w.heap.size+1,3,none⟩)) (.slice P3 key.length q3) (.string ⟨(hexOf key).toArray⟩) (.int .i64 c) (.pointer (some ⟨w.heap.size+1,0,none⟩)) (.int .i64 r0) (.bool q) (.bool q) (.bool q) (if q=true then .pointer (some ⟨w.heap.size+1,4,none⟩) else undef) undef undef undef undef undef else if k=5 then mk (.bool false) (.pointer (some ⟨w.heap.size+1,2,none⟩)) (.bool true) (.bool true) (.map (some bm)) (.pointer (some ⟨w.heap.size+1,3,none⟩)) (.slice P3 key.length q3) (.string ⟨(hexOf key).toArray⟩) (.int .i64 c) (.pointer (some ⟨w.heap.size+1,0,none⟩)) (.int .i64 r0) (.bool q) (.bool q) (.bool q) (if q=true then .pointer (some ⟨w.heap.size+1,4,none⟩) else undef) (if q=true then .bool r4 else undef) undef undef undef undef else if k=6 then mk (.bool false) (.pointer (some ⟨w.heap.size+1,2,none⟩)) (.bool true) (.bool true) (.map (some bm)) (.pointer (some ⟨w.heap.size+1,3,none⟩)) (.slice P3 key.length q3) (.string ⟨(hexOf key).toArray⟩) (.int .i64 c) (.pointer (some ⟨w.heap.size+1,0,none⟩)) (.int .i64 r0) (.bool q) (.bool q) (.bool q) (if q=true then .pointer (some ⟨w.heap.size+1,4,none⟩) else undef) (if q=true then .bool r4 else undef) (if q=true then .bool r4 else undef) undef undef undef else if k=7 then mk (.bool false) (.pointer (some ⟨w.heap.size+1,2,none⟩)) (.bool true) (.bool true) (.map (some bm)) (.pointer (some ⟨w.heap.size+1,3,none⟩)) (.slice P3 key.length q3) (.string ⟨(hexOf key).toArray⟩) (.int .i64 c) (.pointer (some ⟨w.heap.size+1,0,none⟩)) (.int .i64 r0) (.bool q) (.bool q) (.bool q) (if q=true then .pointer (some ⟨w.heap.size+1,4,none⟩) else undef) (if q=true then .bool r4 else undef) (if q=true then .bool r4 else undef) (if (q && !r4)=true then .bool gone else undef) undef undef else if k=8 then mk (.bool false) (.pointer (some ⟨w.heap.size+1,2,none⟩)) (.bool true) (.bool true) (.map (some bm)) (.pointer (some ⟨w.heap.size+1,3,none⟩)) (.slice P3 key.length q3) (.string ⟨(hexOf key).toArray⟩) (.int .i64 c) (.pointer (some ⟨w.heap.size+1,0,none⟩)) (.int .i64 r0) (.bool q) (.bool q) (.bool q) (if q=true then .pointer (some ⟨w.heap.size+1,4,none⟩) else undef) (if q=true then .bool r4 else undef) (if q=true then .bool r4 else undef) (if (q && !r4)=true then .bool gone else undef) (if q=true then .bool (r4||gone) else undef) undef else if k=9 then mk (.bool false) (.pointer (some ⟨w.heap.size+1,2,none⟩)) (.bool true) (.bool true) (.map (some bm)) (.pointer (some ⟨w.heap.size+1,3,none⟩)) (.slice P3 key.length q3) (.string ⟨(hexOf key).toArray⟩) (.int .i64 c) (.pointer (some ⟨w.heap.size+1,0,none⟩)) (.int .i64 r0) (.bool q) (.bool q) (.bool q) (if q=true then .pointer (some ⟨w.heap.size+1,4,none⟩) else undef) (if q=true then .bool r4 else undef) (if q=true then .bool r4 else undef) (if (q && !r4)=true then .bool gone else undef) (if q=true then .bool (r4||gone) else undef) (.bool (q&&(r4||gone))) else mk (.bool (q&&(r4||gone))) (.pointer (some ⟨w.heap.size+1,2,none⟩)) (.bool true) (.bool true) (.map (some bm)) (.pointer (some ⟨w.heap.size+1,3,none⟩)) (.slice P3 key.length q3) (.string ⟨(hexOf key).toArray⟩) (.int .i64 c) (.pointer (some ⟨w.heap.size+1,0,none⟩)) (.int .i64 r0) (.bool q) (.bool q) (.bool q) (if q=true then .pointer (some ⟨w.heap.size+1,4,none⟩) else undef) (if q=true then .bool r4 else undef) (if q=true then .bool r4 else undef) (if (q && !r4)=true then .bool gone else undef) (if q=true then .bool (r4||gone) else undef) (.bool (q&&(r4||gone))))) ?hdone ?s0 ?s1 ?s2 ?s3 ?s4 ?s5 ?s6 ?s7 ?s8 ?s9 ?s10 ?s11 ?s12 ?s13 ?s14 ?s15 ?s16 ?s17 ?s18 ?s19 ?hini)
   case hini=>exact ⟨zzb hBW 1,rfl,by rw [hmk];rfl⟩
   case hdone=>
    rintro a' W' ⟨hb,-,rfl⟩;simp only [Nat.reduceEqDiff,if_false];generalize (if q=true then Value.pointer (some ⟨w.heap.size+1,4,none⟩) else undef)=y22;generalize (if q=true then Value.bool r4 else undef)=y23;generalize (if (q && !r4)=true then Value.bool gone else undef)=y25;generalize (if q=true then Value.bool (r4||gone) else undef)=y26;rw [hq0];clear hq0;generalize hz:((c==r0)&&(r4||gone))=z;rw [hmk];gi_wp2;exact bodyPost_ret (results_tmp rfl _ _ _) rfl ⟨by rw [← hz];rfl,hb⟩
   case s0=>
    rintro a' W' ⟨hb,hw,rfl⟩;simp only [Nat.reduceEqDiff,if_true,if_false];rw [hmk];skip;refine wpOpIn_step rfl (fun K hK=>?_);have HK:=zzm hK;clear hK;go_simp;exact HK.out _ _ ⟨hb,hw,rfl⟩
   case s1=>
    rintro a' W' ⟨hb,hw,rfl⟩;simp only [Nat.reduceEqDiff,if_true,if_false];rw [hmk];have q2:W'.cell? ⟨w.heap.size+1,2,none⟩=some (.bool true):=by simp [World.cell?,hw,cR]
    refine wpOpIn_step rfl (fun K hK=>?_);have HK:=zzm hK;clear hK;go_simp;exact HK.out _ _ ⟨hb,hw,rfl⟩
   case s2=>
    rintro a' W' ⟨hb,hw,rfl⟩;simp only [Nat.reduceEqDiff,if_true,if_false];rw [hmk];skip;refine wpOpIn_step rfl (fun K hK=>?_);have HK:=zzm hK;clear hK;go_simp;exact HK.out _ _ ⟨hb,hw,_,_,_,_,_,_,_,rfl,by simp,by simp,by simp,by simp,by simp,by simp,by simp⟩
   case s3=>
    rintro y z d a' W' ⟨hb,hw,u12,u13,u14,u15,u16,u17,u18,rfl,h1,h2,h3,h4,h5,h6,h7⟩;have cMn:=(hb.cell hltM).trans cM;rw [hmk];refine wpOpIn_step rfl (fun K hK=>?_);have HK:=zzm hK;clear hK;go_simp;exact HK.out _ _ ⟨hb,hw,_,u13,u14,u15,u16,u17,u18,rfl,fun _=>rfl,h2,h3,h4,h5,h6,h7⟩
   case s4=>
    rintro x z d a' W' ⟨hb,hw,u12,u13,u14,u15,u16,u17,u18,rfl,h1,h2,h3,h4,h5,h6,h7⟩;rw [hmk];refine wpOpIn_step rfl (fun K hK=>?_);have HK:=zzm hK;clear hK;go_simp;exact HK.out _ _ ⟨hb,hw,u12,_,u14,u15,u16,u17,u18,rfl,h1,fun _=>rfl,by simp,by simp,h5,h6,h7⟩
   case s5=>
    rintro x z d a' W' ⟨hb,hw,u12,u13,u14,u15,u16,u17,u18,rfl,h1,h2,h3,h4,h5,h6,h7⟩;obtain rfl:=h2 (by decide);have q2:W'.cell? ⟨w.heap.size+1,3,none⟩=some (.slice P3 key.length q3):=by simp [World.cell?,hw,cR]
    rw [hmk];refine wpOpIn_step rfl (fun K hK=>?_);have HK:=zzm hK;clear hK;go_simp;exact HK.out _ _ ⟨hb,hw,u12,_,_,u15,u16,u17,u18,rfl,h1,fun _=>rfl,fun _=>rfl,by simp,h5,h6,h7⟩
   case s6=>
    rintro x z d a' W' ⟨hb,hw,u12,u13,u14,u15,u16,u17,u18,rfl,h1,h2,h3,h4,h5,h6,h7⟩;obtain rfl:=h2 (by decide);obtain rfl:=h3 (by decide);have hKy:=zzm (Kd.C_below HK3.out hb);have hsz:=hBW.size;have hlt:w.heap.size+1 < W'.heap.size:=by rw [cR] at hw;exact (Array.getElem?_eq_some_iff.1 hw).1
    rw [hmk];refine wpOpIn_step rfl (fun K hK=>?_);have HK:=zzm hK;clear hK;go_simp;gi_wp2_with (refine ⟨trivial,?_⟩;gi_at_call 68;refine (callsIn_wide.2 (Re.calls _ _ _ _ _ _ hKy.out hq hBT.out)).mono ?_;rintro e w7 ⟨rfl,hb7⟩;dsimp only);exact HK.out _ _ ⟨hb.trans (hb7.mono (by omega)),(hb7.block _ hlt).trans hw,u12,_,_,_,u16,u17,u18,rfl,h1,fun _=>rfl,fun _=>rfl,fun _=>rfl,h5,h6,h7⟩
   case s7=>
    rintro z a' W' ⟨hb,hw,u12,u13,u14,u15,u16,u17,u18,rfl,h1,h2,h3,h4,h5,h6,h7⟩;obtain rfl:=h1 (by decide);obtain rfl:=h4 (by decide);rw [hmk];have howW:=ownsMap_below HOWN.out hb;refine wpOpIn_step rfl (fun K hK=>?_);rw [if_pos (by rfl)];refine S_lookup_in (.tmp 12) (.tmp 15) 80 rfl 9 3 .i64 (Maps.string_keyed Try.underlying9) Try.underlying80 Try.underlying3 (Try.zeroValue3 _) bm nn D rfl howW _ _ rfl hkeyo ?_;intro c' hc';have hcc2:=hcc.out;rw [hc'] at hcc2;obtain rfl:c' = c:=by injection hcc2 with h;injection h
    exact hK _ _ ⟨hb,hw,_,u13,u14,_,_,u17,u18,rfl,fun _=>rfl,h2,h3,fun _=>rfl,fun _=>rfl,h6,h7⟩
   case s8=>
    rintro x y d a' W' ⟨hb,hw,u12,u13,u14,u15,u16,u17,u18,rfl,h1,h2,h3,h4,h5,h6,h7⟩;rw [hmk];refine wpOpIn_step rfl (fun K hK=>?_);have HK:=zzm hK;clear hK;go_simp;exact HK.out _ _ ⟨hb,hw,u12,u13,u14,u15,u16,_,u18,rfl,h1,h2,h3,h4,h5,fun _=>rfl,by simp⟩
   case s9=>
    rintro x y d a' W' ⟨hb,hw,u12,u13,u14,u15,u16,u17,u18,rfl,h1,h2,h3,h4,h5,h6,h7⟩;obtain rfl:=h6 (by decide);have q2:W'.cell? ⟨w.heap.size+1,0,none⟩=some (.int .i64 r0):=by simp [World.cell?,hw,cR]
    rw [hmk];refine wpOpIn_step rfl (fun K hK=>?_);have HK:=zzm hK;clear hK;go_simp;exact HK.out _ _ ⟨hb,hw,u12,u13,u14,u15,u16,_,_,rfl,h1,h2,h3,h4,h5,fun _=>rfl,fun _=>rfl⟩
   case s10=>
    rintro a' W' ⟨hb,hw,u12,u13,u14,u15,u16,u17,u18,rfl,h1,h2,h3,h4,h5,h6,h7⟩;obtain rfl:=h1 (by decide);obtain rfl:=h2 (by decide);obtain rfl:=h3 (by decide);obtain rfl:=h4 (by decide);obtain rfl:=h5 (by decide);obtain rfl:=h6 (by decide);obtain rfl:=h7 (by decide);rw [hmk];refine wpOpIn_step rfl (fun K hK=>?_);have HK:=zzm hK;clear hK;go_simp;exact HK.out _ _ ⟨hb,hw,by rw [hq0];rfl⟩
   case s11=>
    rintro a' W' ⟨hb,hw,rfl⟩;simp only [Nat.reduceEqDiff,if_true,if_false];rw [hmk];clear hq0;cases q <;> (refine wpOpIn_step rfl (fun K hK=>?_);have HK:=zzm hK;clear hK;go_simp;exact HK.out _ _ ⟨hb,hw,rfl⟩)
   case s12=>
    rintro a' W' ⟨hb,hw,rfl⟩;simp only [Nat.reduceEqDiff,if_true,if_false];rw [hmk];clear hq0;cases q <;> (refine wpOpIn_step rfl (fun K hK=>?_);have HK:=zzm hK;clear hK;go_simp;exact HK.out _ _ ⟨hb,hw,rfl⟩)
   case s13=>
    rintro a' W' ⟨hb,hw,rfl⟩;simp only [Nat.reduceEqDiff,if_true,if_false];rw [hmk];clear hq0;cases q <;> cases r4 <;> (refine wpOpIn_step rfl (fun K hK=>?_);have HK:=zzm hK;clear hK;go_simp;exact HK.out _ _ ⟨hb,hw,rfl⟩)
   case s14=>
    rintro a' W' ⟨hb,hw,rfl⟩;simp only [Nat.reduceEqDiff,if_true,if_false];rw [hmk];have q2:W'.cell? ⟨w.heap.size+1,4,none⟩=some (.bool r4):=by simp [World.cell?,hw,cR]
    clear hq0;cases q <;> cases r4 <;> (refine wpOpIn_step rfl (fun K hK=>?_);have HK:=zzm hK;clear hK;go_simp;exact HK.out _ _ ⟨hb,hw,rfl⟩)
   case s15=>
    rintro a' W' ⟨hb,hw,rfl⟩;simp only [Nat.reduceEqDiff,if_true,if_false];rw [hmk];clear hq0;cases q <;> cases r4 <;> (refine wpOpIn_step rfl (fun K hK=>?_);have HK:=zzm hK;clear hK;go_simp;exact HK.out _ _ ⟨hb,hw,rfl⟩)
   case s16=>
    rintro a' W' ⟨hb,hw,rfl⟩;simp only [Nat.reduceEqDiff,if_true,if_false];rw [hmk];have cGn:=(hb.cell hltG).trans cG;clear hq0;cases q <;> cases r4 <;> (refine wpOpIn_step rfl (fun K hK=>?_);have HK:=zzm hK;clear hK;go_simp;exact HK.out _ _ ⟨hb,hw,rfl⟩)
   case s17=>
    rintro a' W' ⟨hb,hw,rfl⟩;simp only [Nat.reduceEqDiff,if_true,if_false];rw [hmk];clear hq0;cases q <;> cases r4 <;> (refine wpOpIn_step rfl (fun K hK=>?_);have HK:=zzm hK;clear hK;go_simp;exact HK.out _ _ ⟨hb,hw,rfl⟩)
   case s18=>
    rintro a' W' ⟨hb,hw,rfl⟩;simp only [Nat.reduceEqDiff,if_true,if_false];rw [hmk];clear hq0;cases q <;> cases r4 <;> (refine wpOpIn_step rfl (fun K hK=>?_);have HK:=zzm hK;clear hK;go_simp;exact HK.out _ _ ⟨hb,hw,rfl⟩)
   case s19=>
    rintro a' W' ⟨hb,hw,rfl⟩;simp only [Nat.reduceEqDiff,if_true,if_false];rw [hmk];clear hq0;cases q <;> cases r4 <;> (refine wpOpIn_step rfl (fun K hK=>?_);have HK:=zzm hK;clear hK;go_simp;exact HK.out _ _ ⟨hb,hw,rfl⟩)
end
section
open Go.Shelf
attribute [local go_sem] Oper.semAt_some
@[local go_sem] theorem run_store_func {P:Program} {w:World} {a:Addr} {m:Mode} (f:Fn) (b c:Array Value):(store a (.func f b c) m).run P w=stored P w a (.func f b c) m:=run_store P w a _ m rfl
theorem S_lit0 {α:Type} (d:Kd α) (e:Nat) (W:World) (base:Nat) (ok:Nat→Prop) (hok:ok W.heap.size) (hbase:base≤W.heap.size):Kd.S d e (W.alloc (.cells #[] e)) base ok (.slice (some ⟨W.heap.size,0,none⟩) 0 0) []:=by
 refine ⟨fun _=>0,fun k hk=>?_,[],?_,by simp [Reps]⟩
 ·
  have:W.heap.size=k:=by simpa [Value.ownBlock] using hk
  rw [← this];exact hok
 ·
  exact World.ownsRow_lit (base:=base) (e:=e) (size:=d.sz) W #[] 0 hbase (by simp [maxLen]) (by simp)
theorem S_own {α:Type} {d:Kd α} {e base:Nat} {ok:Nat→Prop} {v:Value} {xs:List α} {X Y:World} {row:Option Nat} (h:Kd.S d e X base ok v xs) (hg:X.grownBy Y row) (hr:∀ r,row=some r→∃ o:Obj,X.heap[r]? = some o∧o.isCells=false):Kd.S d e Y base ok v xs:=by
 refine Kd.S_mono (Kd.S_move (Kd.S_bound h) (fun k hk=>hg.block k hk.2.2.1 (fun e=>?_))) (fun k hk=>hk.1);obtain ⟨_,_,_,q,_,cs,hc⟩:=hk;obtain ⟨o,ho,hoc⟩:=hr k e.symm;rw [hc] at ho;cases ho;cases hoc
theorem keeps_row {B:Nat} {W W' : World} {row:Option Nat} {t:TypeId} (hg:W.grownBy W' row) (hr:∀ k,row=some k→∃ cs,W.heap[k]? = some (.cells cs t (0,0))):KeepsFrom B W W':=
 ⟨hg.size,fun k o _ hk ho=>(hg.block k (Array.getElem?_eq_some_iff.1 hk).1 (fun e=>by obtain ⟨cs,hc⟩:=hr k e.symm;rw [hc] at hk;cases hk;cases ho)).trans hk⟩
theorem keeps_below {B:Nat} {W W' : World} (h:Below W.heap.size W W'):KeepsFrom B W W':=KeepsFrom.of_below h
theorem copyOf_st {l:List S34} (h:okLog l=true) (x:Nat×Nat):Rf.f (rcOf l x).f0 (rcOf l x).f1 (rcOf l x).f2 (rcOf l x).f3 (rcOf l x).f4 (rcOf l x).f5=some ((rcOf l x).f0,(rcOf l x).f1,(rcOf l x).f2,(rcOf l x).f3,(rcOf l x).f4,(rcOf l x).f5):=by
 have:=okLog_at h x;unfold Rf.f slices_Clone_int_int.f;rw [if_pos (by omega),if_pos (by omega)];rfl
def stayB (l:List S34) (gone:Bool) (x:Nat×Nat):Bool:=mkOf l x||((rcOf l x).f2&&((lastOff l (pts l) (hexOf (rcOf l x).f3)==(rcOf l x).f0)&&((rcOf l x).f4||gone)))
def stKeep (l:List S34) (x:Nat×Nat):Bool:=!mkOf l x&&stayB l false x
def stOut (l:List S34) (pre:List (Nat×Nat)):List S30:=(pre.filter (stKeep l)).map (rcOf l)
theorem stOut_len (l:List S34) (pre:List (Nat×Nat)):(stOut l pre).length≤pre.length:=by unfold stOut;rw [List.length_map];exact List.length_filter_le _ _
def okSt (Bo Bs Bm Bg bm:Nat) (k:Nat):Prop:=k≠Bo∧k≠Bs∧k≠Bm∧k≠Bg∧k≠bm
def Q1.f (k:Nat) (l0:List S34):Option (List S30):=(Qn.f k l0).bind fun t=>if t=true then (if okLog l0=true then some (stOut l0 (pts l0)) else none) else some []
set_option maxRecDepth 100000 in
set_option maxHeartbeats 4000000 in
theorem Q1.calls (k:Nat) (A0:Option Addr) (c0:Nat) (l0:List (S34)) (r:List (S30)) (w:World) (hr0:Kd.C k34 w A0 l0.length l0) (hc0:l0.length≤c0) (h:Q1.f k l0=some r) :
  Calls Try.prog 16 #[.slice A0 l0.length c0] w fun e w'=>∃ v0_:Value,e = .returned (v0_)∧Kd.S k30 30 w' w.heap.size (fun _=>True) v0_ r∧Below w.heap.size w w':=by
 have hm0:l0.length≤9223372036854775807:=hr0.2.1;obtain ⟨AB,CB,AK,CK,AV,CV,hP⟩:=places_of hr0;unfold Q1.f at h;replace h:=Option.bind_eq_some_iff.mp h;obtain ⟨t0,hv0,h⟩:=h;have HV0:=zzm hv0;have HP:=zzm hP;have HR0:=zzm hr0;have HC0:=zzm hc0;have H:=zzm h;clear hr0 hc0 h hv0 hP;refine callsIn_wide (n:=8).1 ?_;have hro:(Fence.wide).round=none:=rfl;refine callsIn_of_wp_marks Try.func16 rfl trivial ?_ hro;simp only [Try.ntmps16,List.size_toArray,List.length_cons,List.length_nil,Nat.reduceAdd,Nat.reduceSub,Array.replicate_succ,Array.replicate_zero,List.push_toArray,List.append_toArray,List.nil_append,List.cons_append];gi_wp2;refine ⟨trivial,?_⟩;obtain ⟨W4,hW4⟩:∃ W4,W4=((w.alloc (.cells #[] 30)).alloc (.cells #[.slice (some ⟨w.heap.size,0,none⟩) 0 0] 25)):=⟨_,rfl⟩;have hB4:Below w.heap.size w W4:=by rw [hW4];exact ((Below.refl _ w).alloc (Nat.le_refl _) _).alloc (by simp) _
 have hsz4:W4.heap.size=w.heap.size+2:=by rw [hW4];simp
 have hb3:Boxed W4 (w.heap.size+1) 25 (.slice (some ⟨w.heap.size,0,none⟩) 0 0):=by
  have:=Boxed.new (w.alloc (.cells #[] 30)) 25 (.slice (some ⟨w.heap.size,0,none⟩) 0 0);simp only [World.size_alloc] at this;rw [hW4];exact this
 have hS:Kd.S k30 30 W4 w.heap.size (fun k=>k=w.heap.size) (.slice (some ⟨w.heap.size,0,none⟩) 0 0) []:=by
  have h0:=S_lit0 k30 30 w w.heap.size (fun k=>k=w.heap.size) rfl (Nat.le_refl _);rw [hW4];exact Kd.S_alloc h0 _
 rw [← hW4];clear hW4;have HR4:=zzm (Kd.C_below HR0.out hB4);refine (callsIn_wide.2 (Qn.calls k _ _ l0 _ _ HR4.out HC0.out HV0.out)).mono ?_;rintro e w1 ⟨rfl,hbl⟩;dsimp only;have hB1:Below w.heap.size w w1:=hB4.trans (hbl.mono (by omega));replace hb3:Boxed w1 (w.heap.size+1) 25 (.slice (some ⟨w.heap.size,0,none⟩) 0 0):=(hbl.block _ hb3.lt).trans hb3;replace hS:=Kd.S_below hS hbl;have hsz1:w.heap.size+2≤w1.heap.size:=by have:=hbl.size;omega
 clear hbl hB4 hsz4 HR4;have c3:=hb3.cell;cases t0 with
 | false=>
  have hr:r = []:=by have:=H.out;simpa using this.symm
  gi_wp2;subst hr;exact ⟨_,results_tmp rfl _ _ _,_,rfl,Kd.S_mono hS (fun _ _=>trivial),hB1⟩
 | true=>
  have H2:=zzm ((if_pos rfl).symm.trans H.out:(if okLog l0=true then some (stOut l0 (pts l0)) else none)=some r);clear H;have hok:okLog l0=true∧r=stOut l0 (pts l0):=by
   have h:=H2.out;by_cases h5:okLog l0=true
   ·
    rw [if_pos h5] at h;exact ⟨h5,(Option.some.inj h).symm⟩
   ·
    rw [if_neg h5] at h;cases h
  have HOK:=zzm hok.1;have HRR:=zzm hok.2;clear hok H2;have HR1:=zzm (Kd.C_below HR0.out hB1);gi_wp2_with (refine ⟨trivial,?_⟩;gi_at_call 40;refine (callsIn_wide.2 (stayer_calls A0 c0 l0 false _ HR1.out HC0.out HOK.out)).mono ?_;rintro e w2 ⟨Bm,Bg,bm,rfl,hm1,hm2,hm3,hbm,hbg,hown,hb12⟩;dsimp only);gi_wp2_with (refine ⟨trivial,?_⟩;gi_at_call 41;refine (recs_in Fence.wide 7 trivial hro A0 _ _ _).mono ?_;rintro e w3 ⟨rfl,rfl⟩;dsimp only);obtain ⟨W0,hW0⟩:∃ W0,W0=((w2.alloc (.cells #[.func (.func 69) #[] #[.pointer (some ⟨Bm,0,none⟩),.pointer (some ⟨Bg,0,none⟩)]] 52)).alloc (.cells #[.slice A0 l0.length c0] 23)):=⟨_,rfl⟩;obtain ⟨Bst,hBst⟩:∃ Bst,Bst=w2.heap.size:=⟨_,rfl⟩;obtain ⟨Bs,hBs⟩:∃ Bs,Bs=(w2.alloc (.cells #[.func (.func 69) #[] #[.pointer (some ⟨Bm,0,none⟩),.pointer (some ⟨Bg,0,none⟩)]] 52)).heap.size:=⟨_,rfl⟩;have hs12:=hb12.size;have hB2:Below w.heap.size w w2:=hB1.trans (hb12.mono (by omega));have hB0:Below w.heap.size w W0:=by rw [hW0];exact (hB2.alloc hB2.size _).alloc (by simp;omega) _
  have hB10:Below w2.heap.size w2 W0:=by rw [hW0];exact ((Below.refl _ w2).alloc (Nat.le_refl _) _).alloc (by simp) _
  have hsz0:W0.heap.size=w2.heap.size+2:=by rw [hW0];simp
  have ltm:Bm < w2.heap.size:=hbm.lt;have ltg:Bg < w2.heap.size:=hbg.lt;have ltb:bm < w2.heap.size:=hown.lt;have hst0:Boxed W0 Bst 52 (.func (.func 69) #[] #[.pointer (some ⟨Bm,0,none⟩),.pointer (some ⟨Bg,0,none⟩)]):=by rw [hW0,hBst];exact (Boxed.new _ _ _).alloc _
  have hsb:Boxed W0 Bs 23 (.slice A0 l0.length c0):=by rw [hW0,hBs];exact Boxed.new _ _ _
  have hd3:Boxed W0 (w.heap.size+1) 25 (.slice (some ⟨w.heap.size,0,none⟩) 0 0):=Boxed.of_below (Boxed.of_below hb3 hb12) hB10;have hdm:Boxed W0 Bm 80 (.map (some bm)):=Boxed.of_below hbm hB10;have hdg:Boxed W0 Bg 4 (.bool false):=Boxed.of_below hbg hB10;have hdo:=ownsMap_below hown hB10;have hSd:Kd.S k30 30 W0 w.heap.size (okSt (w.heap.size+1) Bst Bm Bg bm) (.slice (some ⟨w.heap.size,0,none⟩) 0 0) []:=Kd.S_mono (Kd.S_below (Kd.S_below hS hb12) hB10) (fun k hk=>by simp only [okSt];omega);rw [← hBst,← hW0,← hBs];have lto:w.heap.size+1 < Bst:=by omega
  have lt1:w.heap.size+1 < w1.heap.size:=by omega
  have hsz0' : W0.heap.size=Bst+2:=by omega
  rw [← hBst] at ltm ltg ltb;clear hW0 hBs hB10 hb3 hS c3 hB1 hsz1 hbm hbg hown hB2 hBst hsz0 hs12;refine wpIn_rangeFunc_ownH rfl (by omega) (gf:=70) (lb:=#[.pointer (some ⟨Bs,0,none⟩)]) rfl trivial (enters_of Try.func70 (by kernel_rfl) rfl)
   (recs_stops Fence.wide _ trivial rfl (by omega) Bs A0 c0 l0 w W0 HP.out hm0 hB0 hsb.cell) KpR.t (KpR.b hB0.size) (Below.refl _ _) (fun _=>rfl)
   (fun pre W=>(∃ v,Boxed W (w.heap.size+1) 25 v∧Kd.S k30 30 W w.heap.size (okSt (w.heap.size+1) Bst Bm Bg bm) v (stOut l0 pre))∧Boxed W Bst 52 (.func (.func 69) #[] #[.pointer (some ⟨Bm,0,none⟩),.pointer (some ⟨Bg,0,none⟩)])∧Boxed W Bm 80 (.map (some bm))∧Boxed W Bg 4 (.bool false)∧W.ownsMap Try.prog 9 (plainElem Try.prog 3) bm (pts l0).length (lastD l0 (pts l0))∧Below w.heap.size w W)
   (fun _ _ _=>False)
   (fun s X Y row hs hg hr=>by
    obtain ⟨⟨v,e1,e2⟩,e3,e4,e5,e6,e7⟩:=hs;have hc:∀ r,row=some r→∃ o:Obj,X.heap[r]? = some o∧o.isCells=false:=fun r e=>(hr r e).2;exact ⟨⟨v,boxed_own _ _ (fun _:Unit=>v) () X Y row e1 hg hc,S_own e2 hg hc⟩,boxed_own _ _ (fun _:Unit=>_) () X Y row e3 hg hc,boxed_own _ _ (fun _:Unit=>_) () X Y row e4 hg hc,boxed_own _ _ (fun _:Unit=>_) () X Y row e5 hg hc,e6.kept hg (fun e=>by have:=(hr _ e.symm).1;omega),ownFrom_below (Nat.le_refl _) hB0.size () X Y row e7 hg hr⟩)
   (fun _ _ _ _ _ hs _ _=>hs)
   ⟨⟨_,hd3,hSd⟩,hst0,hdm,hdg,hdo,hB0⟩
   (fun x a' W=>∃ Bx,W.heap[Bx]? = some (.cells #[.bool (Qa l0 (x.1:Int)).f0,.bool (Qa l0 (x.1:Int)).f1,.int .i64 (Qa l0 (x.1:Int)).f2,.int .i64 (Qa l0 (x.1:Int)).f3,.int .i64 (Qa l0 (x.1:Int)).f4,.slice (AB x.1) (Qa l0 (x.1:Int)).f5.length (CB x.1)] 34 (0,0))∧W.heap[Bx+1]? = some (.cells #[.int .i64 (rcOf l0 x).f0,.int .i64 (rcOf l0 x).f1,.bool (rcOf l0 x).f2,.slice (AK x.1 x.2) (rcOf l0 x).f3.length (CK x.1 x.2),.bool (rcOf l0 x).f4,.slice (AV x.1 x.2) (rcOf l0 x).f5.length (CV x.1 x.2)] 30 (0,0))∧a' = { tmps:=#[.slice A0 l0.length c0,undef,.slice none 0 0,.pointer (some ⟨w.heap.size+1,0,none⟩),.pointer (some ⟨Bst,0,none⟩),.pointer (some ⟨Bx,0,none⟩),.pointer (some ⟨Bx+1,0,none⟩),.slice (some ⟨w.heap.size,0,none⟩) 0 0,.slice A0 l0.length c0,.bool true,.bool false,undef,.slice A0 l0.length c0,.func (.func 69) #[] #[.pointer (some ⟨Bm,0,none⟩),.pointer (some ⟨Bg,0,none⟩)],.slice A0 l0.length c0,.func (.func 70) #[] #[.pointer (some ⟨Bs,0,none⟩)],encB l0 AB CB x.1,encR l0 AK CK AV CV x.1 x.2,undef,undef,undef,undef,undef,undef,undef,undef,undef,undef,undef,undef,undef,undef,undef],defers:=[] })
   (fun x a' _ X Y row hs hg hr=>by
    obtain ⟨Bx,e1,e2,e3⟩:=hs;have hne:∀ k cs t f,X.heap[k]? = some (.cells cs t f)→some k≠row:=fun k cs t f h e=>by obtain ⟨o,ho,hoc⟩:=(hr k e.symm).2;rw [h] at ho;cases ho;cases hoc
    exact ⟨Bx,(hg.block _ (Array.getElem?_eq_some_iff.1 e1).1 (hne _ _ _ _ e1)).trans e1,(hg.block _ (Array.getElem?_eq_some_iff.1 e2).1 (hne _ _ _ _ e2)).trans e2,e3⟩)
   ?assign ?body ?done ?stop
  case assign=>
   rintro l pre x W K ⟨⟨v,e1,e2⟩,e3,e4,e5,e6,e7⟩ hK;unfold encB encR;gi_wp2;have hs1:=World.alloc_heap_new W (.cells #[.bool (Qa l0 (x.1:Int)).f0,.bool (Qa l0 (x.1:Int)).f1,.int .i64 (Qa l0 (x.1:Int)).f2,.int .i64 (Qa l0 (x.1:Int)).f3,.int .i64 (Qa l0 (x.1:Int)).f4,.slice (AB x.1) (Qa l0 (x.1:Int)).f5.length (CB x.1)] 34);have hs2:=World.alloc_heap_new (W.alloc (.cells #[.bool (Qa l0 (x.1:Int)).f0,.bool (Qa l0 (x.1:Int)).f1,.int .i64 (Qa l0 (x.1:Int)).f2,.int .i64 (Qa l0 (x.1:Int)).f3,.int .i64 (Qa l0 (x.1:Int)).f4,.slice (AB x.1) (Qa l0 (x.1:Int)).f5.length (CB x.1)] 34)) (.cells #[.int .i64 (rcOf l0 x).f0,.int .i64 (rcOf l0 x).f1,.bool (rcOf l0 x).f2,.slice (AK x.1 x.2) (rcOf l0 x).f3.length (CK x.1 x.2),.bool (rcOf l0 x).f4,.slice (AV x.1 x.2) (rcOf l0 x).f5.length (CV x.1 x.2)] 30);refine hK _ _ (((KeepsOthers.alloc _ _).trans (KeepsOthers.alloc _ _)).from _) ⟨((Below.refl _ W).alloc e7.size _).alloc (by simp;have:=e7.size;omega) _,(KeepT.alloc _ _).trans (KeepT.alloc _ _)⟩ ?_ ?_
   ·
    exact ⟨⟨v,(e1.alloc _).alloc _,Kd.S_alloc (Kd.S_alloc e2 _) _⟩,(e3.alloc _).alloc _,(e4.alloc _).alloc _,(e5.alloc _).alloc _,(e6.alloc _).alloc _,(e7.alloc e7.size _).alloc (by simp;have:=e7.size;omega) _⟩
   ·
    exact ⟨W.heap.size,(Below.heap_alloc _ _ _ (by simp)).trans hs1,by have h:=hs2;simp only [World.size_alloc] at h;exact h,rfl⟩
  case body=>
   rintro l pre x a' W hl ⟨lr,hlr⟩ ⟨⟨v,e1,e2⟩,e3,e4,e5,e6,e7⟩ ⟨Bx,cB,cR,rfl⟩ hlt;obtain ⟨Av,cv,rfl⟩:=Kd.S_slice e2;have cst:=e3.cell;have m0:W.cell? ⟨Bx,0,none⟩=some (.bool (Qa l0 (x.1:Int)).f0):=by simp [World.cell?,cB]
   have m1:W.cell? ⟨Bx,1,none⟩=some (.bool (mkOf l0 x)):=by simp [World.cell?,cB];rfl
   cases hm:mkOf l0 x with
   | true=>
    rw [hm] at m1;have hk:stOut l0 (pre ++ [x])=stOut l0 pre:=by simp [stOut,stKeep,hm]
    clear m0 cst;gi_wp2;refine ⟨by simp,?_⟩;gi_wp2;exact ⟨KeepsFrom.refl _ _,⟨Below.refl _ _,KeepT.refl _ _⟩,⟨_,e1,by rw [hk];exact e2⟩,e3,e4,e5,e6,e7⟩
   | false=>
    rw [hm] at m1;have m2:W.cell? ⟨Bx,2,none⟩=some (.int .i64 (Qa l0 (x.1:Int)).f2):=by simp [World.cell?,cB]
    have m3:W.cell? ⟨Bx,3,none⟩=some (.int .i64 (Qa l0 (x.1:Int)).f3):=by simp [World.cell?,cB]
    have m4:W.cell? ⟨Bx,4,none⟩=some (.int .i64 (Qa l0 (x.1:Int)).f4):=by simp [World.cell?,cB]
    have m5:W.cell? ⟨Bx,5,none⟩=some (.slice (AB x.1) (Qa l0 (x.1:Int)).f5.length (CB x.1)):=by simp [World.cell?,cB]
    have r0:W.cell? ⟨Bx+1,0,none⟩=some (.int .i64 (rcOf l0 x).f0):=by simp [World.cell?,cR]
    have r1:W.cell? ⟨Bx+1,1,none⟩=some (.int .i64 (rcOf l0 x).f1):=by simp [World.cell?,cR]
    have r2:W.cell? ⟨Bx+1,2,none⟩=some (.bool (rcOf l0 x).f2):=by simp [World.cell?,cR]
    have r3:W.cell? ⟨Bx+1,3,none⟩=some (.slice (AK x.1 x.2) (rcOf l0 x).f3.length (CK x.1 x.2)):=by simp [World.cell?,cR]
    have r4:W.cell? ⟨Bx+1,4,none⟩=some (.bool (rcOf l0 x).f4):=by simp [World.cell?,cR]
    have r5:W.cell? ⟨Bx+1,5,none⟩=some (.slice (AV x.1 x.2) (rcOf l0 x).f5.length (CV x.1 x.2)):=by simp [World.cell?,cR]
    have HST:=stays_calls (Qa l0 (x.1:Int)).f0 false (rcOf l0 x).f2 (rcOf l0 x).f4 false (Qa l0 (x.1:Int)).f2 (Qa l0 (x.1:Int)).f3 (Qa l0 (x.1:Int)).f4 (rcOf l0 x).f0 (rcOf l0 x).f1 (lastOff l0 (pts l0) (hexOf (rcOf l0 x).f3)) (AK x.1 x.2) (AB x.1) (AV x.1 x.2) (Qa l0 (x.1:Int)).f5.length (CB x.1) (CK x.1 x.2) (rcOf l0 x).f5.length (CV x.1 x.2) Bm Bg bm _ (rcOf l0 x).f3 (lastD l0 (pts l0)) W
     e4 e5 e6 (Kd.C_below (HP.out.key x.1 x.2).2 e7) (HP.out.key x.1 x.2).1 (fun h=>(okLog_at HOK.out x).2.2.2 h) (fun _=>lastD_at l0 (pts l0) _)
    rw [show (false||((rcOf l0 x).f2&&((lastOff l0 (pts l0) (hexOf (rcOf l0 x).f3)==(rcOf l0 x).f0)&&((rcOf l0 x).f4||false))))=stKeep l0 x by simp [stKeep,stayB,hm]] at HST;replace HST:=zzm HST;cases hk0:stKeep l0 x with
    | false=>
     rw [hk0] at HST;have hk:stOut l0 (pre ++ [x])=stOut l0 pre:=by simp [stOut,hk0]
     gi_wp2_with (refine ⟨trivial,?_⟩;gi_at_call 69;refine (CallsIn.inRound l (callsIn_wide.2 HST.out)).mono ?_;rintro e w7 ⟨rfl,hb7⟩;dsimp only);exact ⟨keeps_below hb7,⟨hb7.mono e7.size,KeepT.of_below hb7⟩,⟨_,Boxed.of_below e1 hb7,by rw [hk];exact Kd.S_below e2 hb7⟩,Boxed.of_below e3 hb7,Boxed.of_below e4 hb7,Boxed.of_below e5 hb7,ownsMap_below e6 hb7,e7.trans (hb7.mono e7.size)⟩
    | true=>
     rw [hk0] at HST;have hk:stOut l0 (pre ++ [x])=stOut l0 pre ++ [rcOf l0 x]:=by simp [stOut,hk0]
     gi_wp2_with (refine ⟨trivial,?_⟩;gi_at_call 69;refine (CallsIn.inRound l (callsIn_wide.2 HST.out)).mono ?_;rintro e w7 ⟨rfl,hb7⟩;dsimp only);have f1:=Boxed.of_below e1 hb7;have f2:=Kd.S_below e2 hb7;have f3:=Boxed.of_below e3 hb7;have f4:=Boxed.of_below e4 hb7;have f5:=Boxed.of_below e5 hb7;have f6:=ownsMap_below e6 hb7;have f7:Below w.heap.size w w7:=e7.trans (hb7.mono e7.size);have fR:=(hb7.block _ (Array.getElem?_eq_some_iff.1 cR).1).trans cR;have hKp:KpR w.heap.size W w7:=⟨hb7.mono e7.size,KeepT.of_below hb7⟩;have hKf:KeepsFrom W0.heap.size W w7:=keeps_below hb7;have ev:=f1.cell;clear e1 e2 e3 e4 e5 e6 cB cR m0 m1 m2 m3 m4 m5 r0 r1 r2 r3 r4 r5 cst;have HCO:=zzm (copyOf_st HOK.out x);have hmx:Try.prog.follows .mixedOrders=true:=by kernel_rfl
     obtain ⟨mk,hmk⟩:∃ mk:Value→Value→Value→Value→Value→Act,mk=fun u0 u1 u2 u3 u4=>{ tmps:=#[.slice A0 l0.length c0,undef,.slice none 0 0,.pointer (some ⟨w.heap.size+1,0,none⟩),.pointer (some ⟨Bst,0,none⟩),.pointer (some ⟨Bx,0,none⟩),.pointer (some ⟨Bx+1,0,none⟩),.slice (some ⟨w.heap.size,0,none⟩) 0 0,.slice A0 l0.length c0,.bool true,.bool false,undef,.slice A0 l0.length c0,.func (.func 69) #[] #[.pointer (some ⟨Bm,0,none⟩),.pointer (some ⟨Bg,0,none⟩)],.slice A0 l0.length c0,.func (.func 70) #[] #[.pointer (some ⟨Bs,0,none⟩)],encB l0 AB CB x.1,encR l0 AK CK AV CV x.1 x.2,.pointer (some ⟨Bx,1,none⟩),.bool false,.bool true,.bool true,.func (.func 69) #[] #[.pointer (some ⟨Bm,0,none⟩),.pointer (some ⟨Bg,0,none⟩)],.agg #[.bool (Qa l0 (x.1:Int)).f0,.bool false,.int .i64 (Qa l0 (x.1:Int)).f2,.int .i64 (Qa l0 (x.1:Int)).f3,.int .i64 (Qa l0 (x.1:Int)).f4,.slice (AB x.1) (Qa l0 (x.1:Int)).f5.length (CB x.1)],.agg #[.int .i64 (rcOf l0 x).f0,.int .i64 (rcOf l0 x).f1,.bool (rcOf l0 x).f2,.slice (AK x.1 x.2) (rcOf l0 x).f3.length (CK x.1 x.2),.bool (rcOf l0 x).f4,.slice (AV x.1 x.2) (rcOf l0 x).f5.length (CV x.1 x.2)],.bool true,.bool true,u0,u1,u2,u3,u4,undef],defers:=[] }:=⟨_,rfl⟩;refine wpIn_region_any hmx (wpAnyIn_app6 (by kernel_rfl) (fun b s a' W'=>∃ u0 u1 u2 u3 u4,a' = mk u0 u1 u2 u3 u4∧(b=true→u0 = .slice Av (stOut l0 pre).length cv)∧(1≤s→u1 = .agg #[.int .i64 (rcOf l0 x).f0,.int .i64 (rcOf l0 x).f1,.bool (rcOf l0 x).f2,.slice (AK x.1 x.2) (rcOf l0 x).f3.length (CK x.1 x.2),.bool (rcOf l0 x).f4,.slice (AV x.1 x.2) (rcOf l0 x).f5.length (CV x.1 x.2)]) ∧
      (s≤3→Below w7.heap.size w7 W') ∧
      (s=2∨s=3→∃ v3 v5,u2 = .agg #[.int .i64 (rcOf l0 x).f0,.int .i64 (rcOf l0 x).f1,.bool (rcOf l0 x).f2,v3,.bool (rcOf l0 x).f4,v5]∧Kd.R (Kd.int .i64) 3 W' w7.heap.size (fun k_=>some k_≠(v5:Value).ownBlock) v3 (rcOf l0 x).f3∧Kd.R (Kd.int .i64) 3 W' w7.heap.size (fun k_=>some k_≠(v3:Value).ownBlock) v5 (rcOf l0 x).f5 ∧
       (s=3→∃ g,w7.heap.size≤g∧u3 = .slice (some ⟨g,0,none⟩) 1 1∧W'.heap[g]? = some (.cells #[.int .i64 (rcOf l0 x).f0,.int .i64 (rcOf l0 x).f1,.bool (rcOf l0 x).f2,v3,.bool (rcOf l0 x).f4,v5] 30 (0,0)))) ∧
      (4≤s→KeepsFrom W0.heap.size w7 W'∧KpR w.heap.size w7 W'∧Boxed W' Bst 52 (.func (.func 69) #[] #[.pointer (some ⟨Bm,0,none⟩),.pointer (some ⟨Bg,0,none⟩)])∧Boxed W' Bm 80 (.map (some bm))∧Boxed W' Bg 4 (.bool false)∧W'.ownsMap Try.prog 9 (plainElem Try.prog 3) bm (pts l0).length (lastD l0 (pts l0))∧Below w.heap.size w W'∧Kd.S k30 30 W' w.heap.size (okSt (w.heap.size+1) Bst Bm Bg bm) u4 (stOut l0 (pre ++ [x])) ∧
       (s=4→Boxed W' (w.heap.size+1) 25 (.slice Av (stOut l0 pre).length cv))∧(s=5→Boxed W' (w.heap.size+1) 25 u4)))
      ?hdone ?s0 ?s1 ?s2 ?s3 ?s4 ?s5 ⟨_,_,_,_,_,by rw [hmk],by simp,by simp,fun _=>?hini,by simp,by simp⟩)
     case hini=>exact zzb (Below.refl _ w7) 1
     case hdone=>
      rintro a' W' ⟨u0,u1,u2,u3,u4,rfl,h0,h1,h2,h3,h4⟩;rw [hmk];obtain ⟨k1,k2,k3,k4,k5,k6,k7,k8,-,k9⟩:=h4 (by decide);exact ⟨hKf.trans k1,hKp.t k2,⟨u4,k9 rfl,k8⟩,k3,k4,k5,k6,k7⟩
     case s0=>
      rintro s a' W' hs ⟨u0,u1,u2,u3,u4,rfl,h0,h1,h2,h3,h4⟩;rw [hmk];refine wpOpIn_step rfl (fun K hK=>?_);have HK:=zzm hK;have evn:=((h2 hs).cell (zzn _ _ ev)).trans ev;clear hK;go_simp;exact HK.out _ _ ⟨_,u1,u2,u3,u4,rfl,fun _=>rfl,h1,h2,h3,h4⟩
     case s1=>
      rintro b a' W' ⟨u0,u1,u2,u3,u4,rfl,h0,h1,h2,h3,h4⟩;rw [hmk];refine wpOpIn_step rfl (fun K hK=>?_);have HK:=zzm hK;have hcR:=((h2 (by decide)).block _ (Array.getElem?_eq_some_iff.1 fR).1).trans fR;have q0:W'.cell? ⟨Bx+1,0,none⟩=some (.int .i64 (rcOf l0 x).f0):=by simp [World.cell?,hcR]
      have q1:W'.cell? ⟨Bx+1,1,none⟩=some (.int .i64 (rcOf l0 x).f1):=by simp [World.cell?,hcR]
      have q2:W'.cell? ⟨Bx+1,2,none⟩=some (.bool (rcOf l0 x).f2):=by simp [World.cell?,hcR]
      have q3:W'.cell? ⟨Bx+1,3,none⟩=some (.slice (AK x.1 x.2) (rcOf l0 x).f3.length (CK x.1 x.2)):=by simp [World.cell?,hcR]
      have q4:W'.cell? ⟨Bx+1,4,none⟩=some (.bool (rcOf l0 x).f4):=by simp [World.cell?,hcR]
      have q5:W'.cell? ⟨Bx+1,5,none⟩=some (.slice (AV x.1 x.2) (rcOf l0 x).f5.length (CV x.1 x.2)):=by simp [World.cell?,hcR]
      clear hK fR hcR;go_simp;exact HK.out _ _ ⟨u0,_,u2,u3,u4,rfl,h0,fun _=>rfl,fun _=>h2 (by decide),by simp,by simp⟩
     case s2=>
      rintro b a' W' ⟨u0,u1,u2,u3,u4,rfl,h0,h1,h2,h3,h4⟩;obtain rfl:=h1 (by decide);rw [hmk];refine wpOpIn_step rfl (fun K hK=>?_);have HK:=zzm hK;have hbw:=f7.trans ((h2 (by decide)).mono f7.size);have HKy:=zzm (Kd.C_below (HP.out.key x.1 x.2).2 hbw);have HVy:=zzm (Kd.C_below (HP.out.val x.1 x.2).2 hbw);clear hK fR;go_simp;gi_wp2_with (refine ⟨trivial,?_⟩;gi_at_call 42;refine (CallsIn.inRound l (callsIn_wide.2 (Rf.calls _ _ _ _ _ _ _ _ _ _ _ _ _ _ _ _ _ HKy.out (HP.out.key x.1 x.2).1 HVy.out (HP.out.val x.1 x.2).1 HCO.out))).mono ?_;rintro e w8 ⟨v3,v5,rfl,hv3,hv5,hb8⟩;dsimp only);exact HK.out _ _ ⟨u0,_,_,u3,u4,rfl,h0,fun _=>rfl,fun _=>zzp (h2 (by decide)) hb8,fun _=>⟨v3,v5,rfl,Kd.R_lower hv3 (h2 (by decide)).size,Kd.R_lower hv5 (h2 (by decide)).size,by simp⟩,by simp⟩
     case s3=>
      rintro b a' W' ⟨u0,u1,u2,u3,u4,rfl,h0,h1,h2,h3,h4⟩;rw [hmk];obtain ⟨v3,v5,rfl,hv3,hv5,-⟩:=h3 (.inl rfl);obtain rfl:=h1 (by decide);refine wpOpIn_step rfl (fun K hK=>?_);have HK:=zzm hK;clear hK fR;obtain ⟨A3,c3,rfl⟩:=Kd.R_slice hv3;obtain ⟨A5,c5,rfl⟩:=Kd.R_slice hv5;go_simp;refine HK.out _ _ ⟨u0,.agg #[.int .i64 (rcOf l0 x).f0,.int .i64 (rcOf l0 x).f1,.bool (rcOf l0 x).f2,.slice (AK x.1 x.2) (rcOf l0 x).f3.length (CK x.1 x.2),.bool (rcOf l0 x).f4,.slice (AV x.1 x.2) (rcOf l0 x).f5.length (CV x.1 x.2)],.agg #[.int .i64 (rcOf l0 x).f0,.int .i64 (rcOf l0 x).f1,.bool (rcOf l0 x).f2,.slice A3 (rcOf l0 x).f3.length c3,.bool (rcOf l0 x).f4,.slice A5 (rcOf l0 x).f5.length c5],.slice (some ⟨W'.heap.size,0,none⟩) 1 1,u4,rfl,h0,fun _=>rfl,fun _=>(h2 (by decide)).alloc (h2 (by decide)).size _,fun _=>⟨_,_,rfl,Kd.R_alloc hv3 _,Kd.R_alloc hv5 _,fun _=>⟨W'.heap.size,(h2 (by decide)).size,rfl,World.alloc_heap_new W' _⟩⟩,by simp⟩
     case s4=>
      rintro a' W' ⟨u0,u1,u2,u3,u4,rfl,h0,h1,h2,h3,h4⟩;rw [hmk];obtain rfl:=h0 rfl;obtain ⟨v3,v5,rfl,hv3,hv5,h5⟩:=h3 (.inr rfl);obtain ⟨g,hg,rfl,hgc⟩:=h5 rfl;have hbW:=h2 (by decide);have hlt:=Kd.R_lt (Kd.S_R f2);have hty:=Kd.R_typed (Kd.S_R f2);have hown:=(Kd.S_R f2).1;have hl1:=f1.lt;have hl3:=f3.lt;have hl4:=f4.lt;have hl5:=f5.lt;have hl6:=f6.lt;have hlen:=stOut_len l0 pre;have hplt:=okLog_len HOK.out;refine wpOpIn_step rfl (fun K hK=>?_);rw [if_pos (by rfl)];refine S_append_in k30 w.heap.size (.tmp 27) (.tmp 30) 25 30 (.agg #[(.int .i64 0),(.int .i64 0),(.bool false),(.slice none 0 0),(.bool false),(.slice none 0 0)]) 80 rfl Try.underlying25 info30 rfl (by decide) (by omega) _ _ (rcOf l0 x) _ (okSt (w.heap.size+1) Bst Bm Bg bm) (fun k_=>w7.heap.size≤k_) rfl ⟨g,0,none⟩ 1 rfl (by simpa using World.news_of_block hgc)
       (k30_mkM W' w.heap.size _ (rcOf l0 x) (Kd.R_mono (Kd.R_lower (Kd.R_bound hv3) f7.size) (fun _ hk=>hk.2.1)) (Kd.R_mono (Kd.R_lower (Kd.R_bound hv5) f7.size) (fun _ hk=>hk.2.1)))
       (fun k hk=>⟨by simp only [okSt];omega,fun e=>by have:=hlt k e.symm;omega⟩) (fun k hk=>by have:=hbW.size;simp only [okSt];omega)
       (Kd.S_mono (Kd.S_below (Kd.S_bound f2) hbW) (fun k hk=>⟨hk.1,by omega⟩)) (Nat.le_trans f7.size hbW.size) (by omega) ?_
      intro v1 w1 hS1 hg1 hat;have hrow:∀ k,(Value.slice Av (stOut l0 pre).length cv).ownBlock=some k→∃ cs,W'.heap[k]? = some (.cells cs 30 (0,0)):=fun k hk=>by
       obtain ⟨cs,hc⟩:=hty k hk;exact ⟨cs,(hbW.block k (hlt k hk)).trans hc⟩
      have hbe:∀ {b:Nat} {t:TypeId} {u:Value},Boxed w7 b t u→(∀ k,(okSt (w.heap.size+1) Bst Bm Bg bm) k→k≠b)→Boxed w1 b t u:=fun h hne=>(show Boxed W' _ _ _ from (hbW.block _ h.lt).trans h).kept hg1 (fun e=>hne _ (hown _ e.symm) rfl);have hB1:Below w.heap.size w7 w1:=(hbW.mono f7.size).grown hg1 (Nat.le_trans f7.size hbW.size) (fun k e=>Kd.R_base (Kd.S_R f2) k e);refine hK _ _ ⟨_,_,_,_,_,rfl,fun _=>rfl,fun _=>h1 (by decide),by simp,by simp,fun _=>⟨(keeps_below hbW).trans (keeps_row hg1 hrow),⟨hB1,(KeepT.of_below hbW).trans (KeepT.of_grownBy hg1 (fun k e cs f hc=>?_))⟩,hbe f3 (fun k hk=>hk.2.1),hbe f4 (fun k hk=>hk.2.2.1),hbe f5 (fun k hk=>hk.2.2.2.1),(ownsMap_below f6 hbW).kept hg1 (fun e=>(hown _ e.symm).2.2.2.2 rfl),f7.trans hB1,by rw [hk];exact hS1,fun _=>hbe f1 (fun k hk=>hk.1),by simp⟩⟩;obtain ⟨cs',hc'⟩:=hrow k e;rw [hc'] at hc;cases hc
     case s5=>
      rintro a' W' ⟨u0,u1,u2,u3,u4,rfl,h0,h1,h2,h3,h4⟩;rw [hmk];obtain ⟨k1,k2,k3,k4,k5,k6,k7,k8,k9,-⟩:=h4 (by decide);obtain rfl:=h0 rfl;obtain rfl:=h1 (by decide);have hbo:=k9 rfl;have cbo:=hbo.cell;have fbo:=hbo.frozen;rw [hk] at k8;obtain ⟨A1,c1,he1⟩:=Kd.S_slice k8;rw [List.length_append,List.length_singleton] at he1;subst he1;refine wpOpIn_step rfl (fun K hK=>?_);have HK:=zzm hK;clear hK fR;go_simp;refine HK.out _ _ ⟨_,_,u2,u3,_,rfl,fun _=>rfl,fun _=>rfl,by simp,by simp,fun _=>⟨k1.trans ((KeepsOthers.setCell _ _ _).from _),⟨k2.1.setCell (p:=⟨w.heap.size+1,0,none⟩) (by simp) _,k2.2.trans (KeepT.setCell (p:=⟨w.heap.size+1,0,none⟩) hbo (by decide) _)⟩,k3.other (by omega) _,k4.other (by omega) _,k5.other (by omega) _,k6.setCell (a:=⟨w.heap.size+1,0,none⟩) (by show bm≠w.heap.size+1;omega) _,k7.setCell (p:=⟨w.heap.size+1,0,none⟩) (by simp) _,(by rw [hk];exact Kd.S_far (p:=⟨w.heap.size+1,0,none⟩) k8 (fun k hk=>hk.1) _),by simp,fun _=>hbo.set _⟩⟩
  case done=>
   rintro D ys W hD rfl ⟨⟨v,e1,e2⟩,e3,e4,e5,e6,e7⟩ hK;have ev:=e1.cell;gi_wp2;refine ⟨by simp,.inl ⟨_,_,rfl,run_takeDeferred hK,?_⟩⟩;have hB2:Below w.heap.size w (W.putObj D (.deferred none)):=e7.trans (belowK_b (w:=w) (Nat.le_refl _) W D _ _ (by omega) hK rfl rfl);have hS2:=S_own e2 (grownBy_putObj' W D (.deferred none)) (fun r e=>by cases e;exact ⟨_,hK,rfl⟩);refine ⟨_,results_tmp rfl _ _ _,v,rfl,?_,hB2⟩;rw [HRR.out];exact Kd.S_mono hS2 (fun _ _=>trivial)
  case stop=>
   rintro D c pre W hD hp h hK;exact h.elim
end
mutual
def laws_FnStateLast.j0:Nat→List (S34)→List (S30)→List (S30)→Bool→Option (Bool)
 | 0,_,_,_,_=>none
 | k+1,x3,x4,x5,x27=>if x27=true then ((Qj.f k x4 x5).bind fun t421=>(some t421)) else (laws_FnStateLast.l0 k x3 x4 0)
def laws_FnStateLast.l0:Nat→List (S34)→List (S30)→Int→Option (Bool)
 | 0,_,_,_=>none
 | k+1,x3,x4,x6=>if x6 < (x3.length:Int) then (laws_FnStateLast.l1 k x3 x4 x6 0) else (some true)
def laws_FnStateLast.l1:Nat→List (S34)→List (S30)→Int→Int→Option (Bool)
 | 0,_,_,_,_=>none
 | k+1,x3,x4,x6,x7=>if 0≤x6 then (if x6 < (x3.length:Int) then (if x7 < (((Qa x3 x6).f5).length:Int) then (laws_FnStateLast.j3 k x3 x4 x6 x7 (!((Qa x3 x6).f1))) else (laws_FnStateLast.j3 k x3 x4 x6 x7 false)) else (none)) else (none)
def laws_FnStateLast.j3:Nat→List (S34)→List (S30)→Int→Int→Bool→Option (Bool)
 | 0,_,_,_,_,_=>none
 | k+1,x3,x4,x6,x7,x52=>if x52=true then (if 0≤x6 then (if x6 < (x3.length:Int) then (if 0≤x7 then (if x7 < (((Qa x3 x6).f5).length:Int) then (laws_FnStateLast.l2 k x3 x4 x6 x7 0 ((Qb ((Qa x3 x6).f5) x7).f0) ((Qb ((Qa x3 x6).f5) x7).f1) ((Qb ((Qa x3 x6).f5) x7).f2) ((Qb ((Qa x3 x6).f5) x7).f3) ((Qb ((Qa x3 x6).f5) x7).f4) ((Qb ((Qa x3 x6).f5) x7).f5)) else (none)) else (none)) else (none)) else (none)) else (laws_FnStateLast.l0 k x3 x4 (wrap64 (x6+1)))
def laws_FnStateLast.l2:Nat→List (S34)→List (S30)→Int→Int→Int→Int→Int→Bool→List Int→Bool→List Int→Option (Bool)
 | 0,_,_,_,_,_,_,_,_,_,_,_=>none
 | k+1,x3,x4,x6,x7,x9,x427000,x427001,x427002,x427003,x427004,x427005=>if x9 < (x4.length:Int) then (if x427002=true then (if 0≤x9 then ((Qq.f k x427003 ((Qb x4 x9).f3)).bind fun t428=>(if t428=true then (if x427000 > ((Qb x4 x9).f0) then (some false) else (laws_FnStateLast.l2 k x3 x4 x6 x7 (wrap64 (x9+1)) x427000 x427001 x427002 x427003 x427004 x427005)) else (laws_FnStateLast.l2 k x3 x4 x6 x7 (wrap64 (x9+1)) x427000 x427001 x427002 x427003 x427004 x427005))) else (none)) else (laws_FnStateLast.l2 k x3 x4 x6 x7 (wrap64 (x9+1)) x427000 x427001 x427002 x427003 x427004 x427005)) else (laws_FnStateLast.l1 k x3 x4 x6 (wrap64 (x7+1)))
end
def laws_FnStateLast.f (k:Nat) (l0:List Int):Option (Bool):=if (l0.length:Int) > 1048576 then (some true) else ((Q5.f k l0).bind fun t411=>((Q1.f k t411).bind fun t414=>((Qf.f k t411).bind fun t417=>((Qj.f k t414 t417).bind fun t420=>(if t420=true then (laws_FnStateLast.j0 k t411 t414 t417 ((t417.length:Int)==0)) else (laws_FnStateLast.j0 k t411 t414 t417 true))))))
set_option maxHeartbeats 8000000 in
set_option maxRecDepth 100000 in
theorem laws_FnStateLast.calls (k:Nat) (A0:Option Addr) (c0:Nat) (l0:List Int) (r:Bool) (w:World) (hr0:Kd.C (Kd.int .u8) w A0 l0.length l0) (hc0:l0.length≤c0) (h:laws_FnStateLast.f k l0=some r) :
  Calls Try.prog 4 #[.slice A0 l0.length c0] w fun e w'=>e = .returned (.bool r)∧Below w.heap.size w w':=by
 have hu30:=Try.underlying30;have HR0:=zzm hr0;have HC0:=zzm hc0;clear hr0 hc0;have HB:=zzm (Below.refl w.heap.size w);have H:(if (l0.length:Int) > 1048576 then (some true) else ((Q5.f k l0).bind fun t411=>((Q1.f k t411).bind fun t414=>((Qf.f k t411).bind fun t417=>((Qj.f k t414 t417).bind fun t420=>(if t420=true then (laws_FnStateLast.j0 k t411 t414 t417 ((t417.length:Int)==0)) else (laws_FnStateLast.j0 k t411 t414 t417 true)))))))=some r:=h;clear h;by_cases c2:(l0.length:Int) > 1048576
 ·
  rw [if_pos c2] at H;have c2b0:decide (1048576 < (l0.length:Int))=true:=decide_eq_true c2;have c2b1:decide (1048576 < l0.length)=true:=decide_eq_true (by omega);clear c2;obtain rfl:=Option.some.inj H;go_enter Try.func4,Try.ntmps4;go_wp2;repeat (go_quiet (fail);try go_wp2)
  go_ret;exact ⟨by first|rfl|(simp [errW_none,errW_some] <;> rfl)|(simp [*,errW_none,errW_some] <;> rfl),zzh1⟩
 ·
  rw [if_neg c2] at H;have c2b0:decide (1048576 < (l0.length:Int))=false:=decide_eq_false c2;have c2b1:decide (1048576 < l0.length)=false:=decide_eq_false (by omega);clear c2;replace H:=Option.bind_eq_some_iff.mp H;obtain ⟨t411,A30,H⟩:=H;replace H:((Q1.f k t411).bind fun t414=>((Qf.f k t411).bind fun t417=>((Qj.f k t414 t417).bind fun t420=>(if t420=true then (laws_FnStateLast.j0 k t411 t414 t417 ((t417.length:Int)==0)) else (laws_FnStateLast.j0 k t411 t414 t417 true)))))=some r:=H;have A3:=zzm A30;clear A30;replace H:=Option.bind_eq_some_iff.mp H;obtain ⟨t414,A40,H⟩:=H;replace H:((Qf.f k t411).bind fun t417=>((Qj.f k t414 t417).bind fun t420=>(if t420=true then (laws_FnStateLast.j0 k t411 t414 t417 ((t417.length:Int)==0)) else (laws_FnStateLast.j0 k t411 t414 t417 true))))=some r:=H;have A4:=zzm A40;clear A40;replace H:=Option.bind_eq_some_iff.mp H;obtain ⟨t417,A50,H⟩:=H;replace H:((Qj.f k t414 t417).bind fun t420=>(if t420=true then (laws_FnStateLast.j0 k t411 t414 t417 ((t417.length:Int)==0)) else (laws_FnStateLast.j0 k t411 t414 t417 true)))=some r:=H;have A5:=zzm A50;clear A50;have HC6:=zzm H;clear H;go_enter Try.func4,Try.ntmps4;go_upto_region 6 with (first|(go_at_call 15;(with_reducible refine (Q5.calls k _ _ l0 t411 _ ?side1 ?side2 A3.out).mono ?_);(case side1=>repeat (first|exact HR0.out|(with_reducible refine Kd.C_alloc ?_ _)|(with_reducible refine Kd.C_drewN ?_ _)|(with_reducible refine Kd.C_drew ?_)));(case side2=>exact HC0.out);rintro e w7 ⟨v412,rfl,ho0,hb⟩;have n0_:=zzm (Kd.N_lower (Kd.N_mono (ok':=fun k_=>True) ho0 (fun k_ hk_=>trivial)) (zzo zzh1));have n1_:=zzm (zzp zzh1 hb);clear HB;have HO413:=n0_;have HB:=n1_;clear n0_ n1_;(try clear hb);(try clear hb2);(try clear hk);(try clear hi);(try clear ho0);obtain ⟨Ao8,co8,eo8⟩:=Kd.N_slice HO413.out;subst eo8)|(go_at_call 16;(with_reducible refine (Q1.calls k _ _ t411 t414 _ ?side1 ?side2 A4.out).mono ?_);(case side1=>repeat (first|exact (Kd.N_reads' HO413.out).2.2|(with_reducible refine Kd.C_alloc ?_ _)|(with_reducible refine Kd.C_drewN ?_ _)|(with_reducible refine Kd.C_drew ?_)));(case side2=>exact (Kd.N_reads' HO413.out).2.1);rintro e w9 ⟨v415,rfl,ho0,hb⟩;have n0_:=zzm (Kd.N_elder' (zzN HO413.out) (by first|exact Kd.N_base ho0|exact Kd.S_base ho0|exact Kd.R_base ho0) hb);have n1_:=zzm (Kd.N_lower (Kd.N_mono (ok':=fun k_=>some k_≠(.slice Ao8 t411.length co8:Value).ownBlock) (Kd.S_N (Kd.S_bound ho0)) (fun k_ hk_=>(Kd.fresh' (Kd.N_lt (zzN HO413.out)) k_ hk_.2.1))) (zzo zzh1));have n2_:=zzm (zzp zzh1 hb);clear HO413 HB;have HO413:=n0_;have HO416:=n1_;have HB:=n2_;clear n0_ n1_ n2_;(try clear hb);(try clear hb2);(try clear hk);(try clear hi);(try clear ho0))|(go_at_call 17;(with_reducible refine (Qf.calls k _ _ t411 t417 _ ?side1 ?side2 A5.out).mono ?_);(case side1=>repeat (first|exact (Kd.N_reads' HO413.out).2.2|(with_reducible refine Kd.C_alloc ?_ _)|(with_reducible refine Kd.C_drewN ?_ _)|(with_reducible refine Kd.C_drew ?_)));(case side2=>exact (Kd.N_reads' HO413.out).2.1);rintro e w10 ⟨v418,rfl,ho0,hb⟩;have n0_:=zzm (Kd.N_elder' (zzN HO413.out) (by first|exact Kd.N_base ho0|exact Kd.S_base ho0|exact Kd.R_base ho0) hb);have n1_:=zzm (Kd.N_elder' (zzN HO416.out) (by first|exact Kd.N_base ho0|exact Kd.S_base ho0|exact Kd.R_base ho0) hb);have n2_:=zzm (Kd.N_lower (Kd.N_mono (ok':=fun k_=>some k_≠(.slice Ao8 t411.length co8:Value).ownBlock∧some k_≠(v415:Value).ownBlock) (Kd.S_N (Kd.S_bound ho0)) (fun k_ hk_=>⟨(Kd.fresh' (Kd.N_lt (zzN HO413.out)) k_ hk_.2.1),(Kd.fresh' (Kd.N_lt (zzN HO416.out)) k_ hk_.2.1)⟩)) (zzo zzh1));have n3_:=zzm (zzp zzh1 hb);clear HO413 HO416 HB;have HO413:=n0_;have HO416:=n1_;have HO419:=n2_;have HB:=n3_;clear n0_ n1_ n2_ n3_;(try clear hb);(try clear hb2);(try clear hk);(try clear hi);(try clear ho0)));repeat (go_quiet (first|(go_at_call 15;(with_reducible refine (Q5.calls k _ _ l0 t411 _ ?side1 ?side2 A3.out).mono ?_);(case side1=>repeat (first|exact HR0.out|(with_reducible refine Kd.C_alloc ?_ _)|(with_reducible refine Kd.C_drewN ?_ _)|(with_reducible refine Kd.C_drew ?_)));(case side2=>exact HC0.out);rintro e w7 ⟨v412,rfl,ho0,hb⟩;have n0_:=zzm (Kd.N_lower (Kd.N_mono (ok':=fun k_=>True) ho0 (fun k_ hk_=>trivial)) (zzo zzh1));have n1_:=zzm (zzp zzh1 hb);clear HB;have HO413:=n0_;have HB:=n1_;clear n0_ n1_;(try clear hb);(try clear hb2);(try clear hk);(try clear hi);(try clear ho0);obtain ⟨Ao8,co8,eo8⟩:=Kd.N_slice HO413.out;subst eo8)|(go_at_call 16;(with_reducible refine (Q1.calls k _ _ t411 t414 _ ?side1 ?side2 A4.out).mono ?_);(case side1=>repeat (first|exact (Kd.N_reads' HO413.out).2.2|(with_reducible refine Kd.C_alloc ?_ _)|(with_reducible refine Kd.C_drewN ?_ _)|(with_reducible refine Kd.C_drew ?_)));(case side2=>exact (Kd.N_reads' HO413.out).2.1);rintro e w9 ⟨v415,rfl,ho0,hb⟩;have n0_:=zzm (Kd.N_elder' (zzN HO413.out) (by first|exact Kd.N_base ho0|exact Kd.S_base ho0|exact Kd.R_base ho0) hb);have n1_:=zzm (Kd.N_lower (Kd.N_mono (ok':=fun k_=>some k_≠(.slice Ao8 t411.length co8:Value).ownBlock) (Kd.S_N (Kd.S_bound ho0)) (fun k_ hk_=>(Kd.fresh' (Kd.N_lt (zzN HO413.out)) k_ hk_.2.1))) (zzo zzh1));have n2_:=zzm (zzp zzh1 hb);clear HO413 HB;have HO413:=n0_;have HO416:=n1_;have HB:=n2_;clear n0_ n1_ n2_;(try clear hb);(try clear hb2);(try clear hk);(try clear hi);(try clear ho0))|(go_at_call 17;(with_reducible refine (Qf.calls k _ _ t411 t417 _ ?side1 ?side2 A5.out).mono ?_);(case side1=>repeat (first|exact (Kd.N_reads' HO413.out).2.2|(with_reducible refine Kd.C_alloc ?_ _)|(with_reducible refine Kd.C_drewN ?_ _)|(with_reducible refine Kd.C_drew ?_)));(case side2=>exact (Kd.N_reads' HO413.out).2.1);rintro e w10 ⟨v418,rfl,ho0,hb⟩;have n0_:=zzm (Kd.N_elder' (zzN HO413.out) (by first|exact Kd.N_base ho0|exact Kd.S_base ho0|exact Kd.R_base ho0) hb);have n1_:=zzm (Kd.N_elder' (zzN HO416.out) (by first|exact Kd.N_base ho0|exact Kd.S_base ho0|exact Kd.R_base ho0) hb);have n2_:=zzm (Kd.N_lower (Kd.N_mono (ok':=fun k_=>some k_≠(.slice Ao8 t411.length co8:Value).ownBlock∧some k_≠(v415:Value).ownBlock) (Kd.S_N (Kd.S_bound ho0)) (fun k_ hk_=>⟨(Kd.fresh' (Kd.N_lt (zzN HO413.out)) k_ hk_.2.1),(Kd.fresh' (Kd.N_lt (zzN HO416.out)) k_ hk_.2.1)⟩)) (zzo zzh1));have n3_:=zzm (zzp zzh1 hb);clear HO413 HO416 HB;have HO413:=n0_;have HO416:=n1_;have HO419:=n2_;have HB:=n3_;clear n0_ n1_ n2_ n3_;(try clear hb);(try clear hb2);(try clear hk);(try clear hi);(try clear ho0)));go_upto_region 6 with (first|(go_at_call 15;(with_reducible refine (Q5.calls k _ _ l0 t411 _ ?side1 ?side2 A3.out).mono ?_);(case side1=>repeat (first|exact HR0.out|(with_reducible refine Kd.C_alloc ?_ _)|(with_reducible refine Kd.C_drewN ?_ _)|(with_reducible refine Kd.C_drew ?_)));(case side2=>exact HC0.out);rintro e w7 ⟨v412,rfl,ho0,hb⟩;have n0_:=zzm (Kd.N_lower (Kd.N_mono (ok':=fun k_=>True) ho0 (fun k_ hk_=>trivial)) (zzo zzh1));have n1_:=zzm (zzp zzh1 hb);clear HB;have HO413:=n0_;have HB:=n1_;clear n0_ n1_;(try clear hb);(try clear hb2);(try clear hk);(try clear hi);(try clear ho0);obtain ⟨Ao8,co8,eo8⟩:=Kd.N_slice HO413.out;subst eo8)|(go_at_call 16;(with_reducible refine (Q1.calls k _ _ t411 t414 _ ?side1 ?side2 A4.out).mono ?_);(case side1=>repeat (first|exact (Kd.N_reads' HO413.out).2.2|(with_reducible refine Kd.C_alloc ?_ _)|(with_reducible refine Kd.C_drewN ?_ _)|(with_reducible refine Kd.C_drew ?_)));(case side2=>exact (Kd.N_reads' HO413.out).2.1);rintro e w9 ⟨v415,rfl,ho0,hb⟩;have n0_:=zzm (Kd.N_elder' (zzN HO413.out) (by first|exact Kd.N_base ho0|exact Kd.S_base ho0|exact Kd.R_base ho0) hb);have n1_:=zzm (Kd.N_lower (Kd.N_mono (ok':=fun k_=>some k_≠(.slice Ao8 t411.length co8:Value).ownBlock) (Kd.S_N (Kd.S_bound ho0)) (fun k_ hk_=>(Kd.fresh' (Kd.N_lt (zzN HO413.out)) k_ hk_.2.1))) (zzo zzh1));have n2_:=zzm (zzp zzh1 hb);clear HO413 HB;have HO413:=n0_;have HO416:=n1_;have HB:=n2_;clear n0_ n1_ n2_;(try clear hb);(try clear hb2);(try clear hk);(try clear hi);(try clear ho0))|(go_at_call 17;(with_reducible refine (Qf.calls k _ _ t411 t417 _ ?side1 ?side2 A5.out).mono ?_);(case side1=>repeat (first|exact (Kd.N_reads' HO413.out).2.2|(with_reducible refine Kd.C_alloc ?_ _)|(with_reducible refine Kd.C_drewN ?_ _)|(with_reducible refine Kd.C_drew ?_)));(case side2=>exact (Kd.N_reads' HO413.out).2.1);rintro e w10 ⟨v418,rfl,ho0,hb⟩;have n0_:=zzm (Kd.N_elder' (zzN HO413.out) (by first|exact Kd.N_base ho0|exact Kd.S_base ho0|exact Kd.R_base ho0) hb);have n1_:=zzm (Kd.N_elder' (zzN HO416.out) (by first|exact Kd.N_base ho0|exact Kd.S_base ho0|exact Kd.R_base ho0) hb);have n2_:=zzm (Kd.N_lower (Kd.N_mono (ok':=fun k_=>some k_≠(.slice Ao8 t411.length co8:Value).ownBlock∧some k_≠(v415:Value).ownBlock) (Kd.S_N (Kd.S_bound ho0)) (fun k_ hk_=>⟨(Kd.fresh' (Kd.N_lt (zzN HO413.out)) k_ hk_.2.1),(Kd.fresh' (Kd.N_lt (zzN HO416.out)) k_ hk_.2.1)⟩)) (zzo zzh1));have n3_:=zzm (zzp zzh1 hb);clear HO413 HO416 HB;have HO413:=n0_;have HO416:=n1_;have HO419:=n2_;have HB:=n3_;clear n0_ n1_ n2_ n3_;(try clear hb);(try clear hb2);(try clear hk);(try clear hi);(try clear ho0))))
  (try simp only [Act.put,zzq,zzr,zzs]);go_cut [27] (fun v27 wc=>∃ (kq:Nat) (x27_5:Bool),v27 = .bool x27_5∧Aside0 (laws_FnStateLast.j0 kq t411 t414 t417 x27_5=some r)∧Aside0 (kq≤k)∧Aside0 (Kd.N k34 34 wc w.heap.size (fun k_=>some k_≠(v415:Value).ownBlock∧some k_≠(v418:Value).ownBlock) (.slice Ao8 t411.length co8) t411)∧Aside0 (Kd.N k30 30 wc w.heap.size (fun k_=>some k_≠((.slice Ao8 t411.length co8):Value).ownBlock∧some k_≠(v418:Value).ownBlock) v415 t414)∧Aside0 (Kd.N k30 30 wc w.heap.size (fun k_=>some k_≠((.slice Ao8 t411.length co8):Value).ownBlock∧some k_≠(v415:Value).ownBlock) v418 t417)∧Aside0 (Below w.heap.size w wc))
  case first=>
   have H:=HC6.out;clear HC6;replace H:=Option.bind_eq_some_iff.mp H;obtain ⟨t420,A110,H⟩:=H;replace H:(if t420=true then (laws_FnStateLast.j0 k t411 t414 t417 ((t417.length:Int)==0)) else (laws_FnStateLast.j0 k t411 t414 t417 true))=some r:=H;have A11:=zzm A110;clear A110;by_cases c12:t420=true
   ·
    subst c12;have H1:(laws_FnStateLast.j0 k t411 t414 t417 ((t417.length:Int)==0))=some r:=by rw [if_pos rfl] at H;exact H
    clear H;have H:=H1;clear H1;have H':=zzm H;clear H;obtain ⟨Ao13,co13,eo13⟩:=Kd.N_slice HO416.out;subst eo13;obtain ⟨Ao14,co14,eo14⟩:=Kd.N_slice HO419.out;subst eo14;go_wp2_with (first|(go_at_call 18;(with_reducible refine (Qj.calls k _ _ t414 _ _ t417 true _ ?side1 ?side2 ?side3 ?side4 A11.out).mono ?_);(case side1=>repeat (first|exact (Kd.N_reads' HO416.out).2.2|(with_reducible refine Kd.C_alloc ?_ _)|(with_reducible refine Kd.C_drewN ?_ _)|(with_reducible refine Kd.C_drew ?_)));(case side2=>exact (Kd.N_reads' HO416.out).2.1);(case side3=>repeat (first|exact (Kd.N_reads' HO419.out).2.2|(with_reducible refine Kd.C_alloc ?_ _)|(with_reducible refine Kd.C_drewN ?_ _)|(with_reducible refine Kd.C_drew ?_)));(case side4=>exact (Kd.N_reads' HO419.out).2.1);rintro e w15 ⟨rfl,hb⟩;have n0_:=zzm (Kd.N_below (zzN HO413.out) hb);have n1_:=zzm (Kd.N_below (zzN HO416.out) hb);have n2_:=zzm (Kd.N_below (zzN HO419.out) hb);have n3_:=zzm (zzp zzh1 hb);clear HO413 HO416 HO419 HB;have HO413:=n0_;have HO416:=n1_;have HO419:=n2_;have HB:=n3_;clear n0_ n1_ n2_ n3_;(try clear hb);(try clear hb2);(try clear hk);(try clear hi)));repeat (go_quiet (first|(go_at_call 18;(with_reducible refine (Qj.calls k _ _ t414 _ _ t417 true _ ?side1 ?side2 ?side3 ?side4 A11.out).mono ?_);(case side1=>repeat (first|exact (Kd.N_reads' HO416.out).2.2|(with_reducible refine Kd.C_alloc ?_ _)|(with_reducible refine Kd.C_drewN ?_ _)|(with_reducible refine Kd.C_drew ?_)));(case side2=>exact (Kd.N_reads' HO416.out).2.1);(case side3=>repeat (first|exact (Kd.N_reads' HO419.out).2.2|(with_reducible refine Kd.C_alloc ?_ _)|(with_reducible refine Kd.C_drewN ?_ _)|(with_reducible refine Kd.C_drew ?_)));(case side4=>exact (Kd.N_reads' HO419.out).2.1);rintro e w15 ⟨rfl,hb⟩;have n0_:=zzm (Kd.N_below (zzN HO413.out) hb);have n1_:=zzm (Kd.N_below (zzN HO416.out) hb);have n2_:=zzm (Kd.N_below (zzN HO419.out) hb);have n3_:=zzm (zzp zzh1 hb);clear HO413 HO416 HO419 HB;have HO413:=n0_;have HO416:=n1_;have HO419:=n2_;have HB:=n3_;clear n0_ n1_ n2_ n3_;(try clear hb);(try clear hb2);(try clear hk);(try clear hi)));try go_wp2_with (first|(go_at_call 18;(with_reducible refine (Qj.calls k _ _ t414 _ _ t417 true _ ?side1 ?side2 ?side3 ?side4 A11.out).mono ?_);(case side1=>repeat (first|exact (Kd.N_reads' HO416.out).2.2|(with_reducible refine Kd.C_alloc ?_ _)|(with_reducible refine Kd.C_drewN ?_ _)|(with_reducible refine Kd.C_drew ?_)));(case side2=>exact (Kd.N_reads' HO416.out).2.1);(case side3=>repeat (first|exact (Kd.N_reads' HO419.out).2.2|(with_reducible refine Kd.C_alloc ?_ _)|(with_reducible refine Kd.C_drewN ?_ _)|(with_reducible refine Kd.C_drew ?_)));(case side4=>exact (Kd.N_reads' HO419.out).2.1);rintro e w15 ⟨rfl,hb⟩;have n0_:=zzm (Kd.N_below (zzN HO413.out) hb);have n1_:=zzm (Kd.N_below (zzN HO416.out) hb);have n2_:=zzm (Kd.N_below (zzN HO419.out) hb);have n3_:=zzm (zzp zzh1 hb);clear HO413 HO416 HO419 HB;have HO413:=n0_;have HO416:=n1_;have HO419:=n2_;have HB:=n3_;clear n0_ n1_ n2_ n3_;(try clear hb);(try clear hb2);(try clear hk);(try clear hi))))
    go_meet
    case rel=>exact ⟨_,(((t417.length:Int)==0)),(by first|rfl|(simp;done)|(simp [*];done)),H',⟨by first|omega|exact Nat.le_refl _⟩,⟨by (with_reducible repeat (first|apply Kd.N_alloc|apply Kd.N_drewN|apply Kd.N_drew));exact Kd.N_mono HO413.out (fun _ hk=>⟨hk.1.2,hk.2⟩)⟩,⟨by (with_reducible repeat (first|apply Kd.N_alloc|apply Kd.N_drewN|apply Kd.N_drew));exact HO416.out⟩,⟨by (with_reducible repeat (first|apply Kd.N_alloc|apply Kd.N_drewN|apply Kd.N_drew));exact HO419.out⟩,⟨zzh1⟩⟩
   ·
    replace c12:=Bool.eq_false_iff.mpr c12;subst c12;have H1:(laws_FnStateLast.j0 k t411 t414 t417 true)=some r:=by rw [if_neg (show ¬ (false=true) by decide)] at H;exact H
    clear H;have H:=H1;clear H1;have H':=zzm H;clear H;obtain ⟨Ao16,co16,eo16⟩:=Kd.N_slice HO416.out;subst eo16;obtain ⟨Ao17,co17,eo17⟩:=Kd.N_slice HO419.out;subst eo17;go_wp2_with (first|(go_at_call 18;(with_reducible refine (Qj.calls k _ _ t414 _ _ t417 false _ ?side1 ?side2 ?side3 ?side4 A11.out).mono ?_);(case side1=>repeat (first|exact (Kd.N_reads' HO416.out).2.2|(with_reducible refine Kd.C_alloc ?_ _)|(with_reducible refine Kd.C_drewN ?_ _)|(with_reducible refine Kd.C_drew ?_)));(case side2=>exact (Kd.N_reads' HO416.out).2.1);(case side3=>repeat (first|exact (Kd.N_reads' HO419.out).2.2|(with_reducible refine Kd.C_alloc ?_ _)|(with_reducible refine Kd.C_drewN ?_ _)|(with_reducible refine Kd.C_drew ?_)));(case side4=>exact (Kd.N_reads' HO419.out).2.1);rintro e w18 ⟨rfl,hb⟩;have n0_:=zzm (Kd.N_below (zzN HO413.out) hb);have n1_:=zzm (Kd.N_below (zzN HO416.out) hb);have n2_:=zzm (Kd.N_below (zzN HO419.out) hb);have n3_:=zzm (zzp zzh1 hb);clear HO413 HO416 HO419 HB;have HO413:=n0_;have HO416:=n1_;have HO419:=n2_;have HB:=n3_;clear n0_ n1_ n2_ n3_;(try clear hb);(try clear hb2);(try clear hk);(try clear hi)));repeat (go_quiet (first|(go_at_call 18;(with_reducible refine (Qj.calls k _ _ t414 _ _ t417 false _ ?side1 ?side2 ?side3 ?side4 A11.out).mono ?_);(case side1=>repeat (first|exact (Kd.N_reads' HO416.out).2.2|(with_reducible refine Kd.C_alloc ?_ _)|(with_reducible refine Kd.C_drewN ?_ _)|(with_reducible refine Kd.C_drew ?_)));(case side2=>exact (Kd.N_reads' HO416.out).2.1);(case side3=>repeat (first|exact (Kd.N_reads' HO419.out).2.2|(with_reducible refine Kd.C_alloc ?_ _)|(with_reducible refine Kd.C_drewN ?_ _)|(with_reducible refine Kd.C_drew ?_)));(case side4=>exact (Kd.N_reads' HO419.out).2.1);rintro e w18 ⟨rfl,hb⟩;have n0_:=zzm (Kd.N_below (zzN HO413.out) hb);have n1_:=zzm (Kd.N_below (zzN HO416.out) hb);have n2_:=zzm (Kd.N_below (zzN HO419.out) hb);have n3_:=zzm (zzp zzh1 hb);clear HO413 HO416 HO419 HB;have HO413:=n0_;have HO416:=n1_;have HO419:=n2_;have HB:=n3_;clear n0_ n1_ n2_ n3_;(try clear hb);(try clear hb2);(try clear hk);(try clear hi)));try go_wp2_with (first|(go_at_call 18;(with_reducible refine (Qj.calls k _ _ t414 _ _ t417 false _ ?side1 ?side2 ?side3 ?side4 A11.out).mono ?_);(case side1=>repeat (first|exact (Kd.N_reads' HO416.out).2.2|(with_reducible refine Kd.C_alloc ?_ _)|(with_reducible refine Kd.C_drewN ?_ _)|(with_reducible refine Kd.C_drew ?_)));(case side2=>exact (Kd.N_reads' HO416.out).2.1);(case side3=>repeat (first|exact (Kd.N_reads' HO419.out).2.2|(with_reducible refine Kd.C_alloc ?_ _)|(with_reducible refine Kd.C_drewN ?_ _)|(with_reducible refine Kd.C_drew ?_)));(case side4=>exact (Kd.N_reads' HO419.out).2.1);rintro e w18 ⟨rfl,hb⟩;have n0_:=zzm (Kd.N_below (zzN HO413.out) hb);have n1_:=zzm (Kd.N_below (zzN HO416.out) hb);have n2_:=zzm (Kd.N_below (zzN HO419.out) hb);have n3_:=zzm (zzp zzh1 hb);clear HO413 HO416 HO419 HB;have HO413:=n0_;have HO416:=n1_;have HO419:=n2_;have HB:=n3_;clear n0_ n1_ n2_ n3_;(try clear hb);(try clear hb2);(try clear hk);(try clear hi))))
    go_meet
    case rel=>exact ⟨_,(true),(by first|rfl|(simp;done)|(simp [*];done)),H',⟨by first|omega|exact Nat.le_refl _⟩,⟨by (with_reducible repeat (first|apply Kd.N_alloc|apply Kd.N_drewN|apply Kd.N_drew));exact Kd.N_mono HO413.out (fun _ hk=>⟨hk.1.2,hk.2⟩)⟩,⟨by (with_reducible repeat (first|apply Kd.N_alloc|apply Kd.N_drewN|apply Kd.N_drew));exact HO416.out⟩,⟨by (with_reducible repeat (first|apply Kd.N_alloc|apply Kd.N_drewN|apply Kd.N_drew));exact HO419.out⟩,⟨zzh1⟩⟩
  case rest=>
   clear HC6;try clear c1
   try clear c2
   try clear c2b0
   try clear c2b1
   try clear p2
   try clear c4
   try clear c12
   obtain ⟨kq,x27_5,rfl,HA,HJ5,HO_3,HO_4,HO_5,HB⟩:=hcut;cases kq with
   | zero=>exact absurd HA.out (by simp [laws_FnStateLast.j0])
   | succ kj5=>
    have H:=HA.out;clear HA;simp only [laws_FnStateLast.j0] at H;by_cases c19:x27_5=true
    ·
     subst c19;have H1:((Qj.f kj5 t414 t417).bind fun t421=>(some t421))=some r:=by rw [if_pos rfl] at H;exact H
     clear H;have H:=H1;clear H1;replace H:=Option.bind_eq_some_iff.mp H;obtain ⟨t421,A200,H⟩:=H;replace H:(some t421)=some r:=H;have A20:=zzm A200;clear A200;obtain rfl:=Option.some.inj H;obtain ⟨Ao21,co21,eo21⟩:=Kd.N_slice HO_4.out;subst eo21;obtain ⟨Ao22,co22,eo22⟩:=Kd.N_slice HO_5.out;subst eo22;go_wp2_with (first|(go_at_call 18;(with_reducible refine (Qj.calls kj5 _ _ t414 _ _ t417 t421 _ ?side1 ?side2 ?side3 ?side4 A20.out).mono ?_);(case side1=>repeat (first|exact (Kd.N_reads' HO_4.out).2.2|(with_reducible refine Kd.C_alloc ?_ _)|(with_reducible refine Kd.C_drewN ?_ _)|(with_reducible refine Kd.C_drew ?_)));(case side2=>exact (Kd.N_reads' HO_4.out).2.1);(case side3=>repeat (first|exact (Kd.N_reads' HO_5.out).2.2|(with_reducible refine Kd.C_alloc ?_ _)|(with_reducible refine Kd.C_drewN ?_ _)|(with_reducible refine Kd.C_drew ?_)));(case side4=>exact (Kd.N_reads' HO_5.out).2.1);rintro e w23 ⟨rfl,hb⟩;have n0_:=zzm (Kd.N_below (zzN HO_3.out) hb);have n1_:=zzm (Kd.N_below (zzN HO_4.out) hb);have n2_:=zzm (Kd.N_below (zzN HO_5.out) hb);have n3_:=zzm (zzp zzh1 hb);clear HO_3 HO_4 HO_5 HB;have HO_3:=n0_;have HO_4:=n1_;have HO_5:=n2_;have HB:=n3_;clear n0_ n1_ n2_ n3_;(try clear hb);(try clear hb2);(try clear hk);(try clear hi)));repeat (go_quiet (first|(go_at_call 18;(with_reducible refine (Qj.calls kj5 _ _ t414 _ _ t417 t421 _ ?side1 ?side2 ?side3 ?side4 A20.out).mono ?_);(case side1=>repeat (first|exact (Kd.N_reads' HO_4.out).2.2|(with_reducible refine Kd.C_alloc ?_ _)|(with_reducible refine Kd.C_drewN ?_ _)|(with_reducible refine Kd.C_drew ?_)));(case side2=>exact (Kd.N_reads' HO_4.out).2.1);(case side3=>repeat (first|exact (Kd.N_reads' HO_5.out).2.2|(with_reducible refine Kd.C_alloc ?_ _)|(with_reducible refine Kd.C_drewN ?_ _)|(with_reducible refine Kd.C_drew ?_)));(case side4=>exact (Kd.N_reads' HO_5.out).2.1);rintro e w23 ⟨rfl,hb⟩;have n0_:=zzm (Kd.N_below (zzN HO_3.out) hb);have n1_:=zzm (Kd.N_below (zzN HO_4.out) hb);have n2_:=zzm (Kd.N_below (zzN HO_5.out) hb);have n3_:=zzm (zzp zzh1 hb);clear HO_3 HO_4 HO_5 HB;have HO_3:=n0_;have HO_4:=n1_;have HO_5:=n2_;have HB:=n3_;clear n0_ n1_ n2_ n3_;(try clear hb);(try clear hb2);(try clear hk);(try clear hi)));try go_wp2_with (first|(go_at_call 18;(with_reducible refine (Qj.calls kj5 _ _ t414 _ _ t417 t421 _ ?side1 ?side2 ?side3 ?side4 A20.out).mono ?_);(case side1=>repeat (first|exact (Kd.N_reads' HO_4.out).2.2|(with_reducible refine Kd.C_alloc ?_ _)|(with_reducible refine Kd.C_drewN ?_ _)|(with_reducible refine Kd.C_drew ?_)));(case side2=>exact (Kd.N_reads' HO_4.out).2.1);(case side3=>repeat (first|exact (Kd.N_reads' HO_5.out).2.2|(with_reducible refine Kd.C_alloc ?_ _)|(with_reducible refine Kd.C_drewN ?_ _)|(with_reducible refine Kd.C_drew ?_)));(case side4=>exact (Kd.N_reads' HO_5.out).2.1);rintro e w23 ⟨rfl,hb⟩;have n0_:=zzm (Kd.N_below (zzN HO_3.out) hb);have n1_:=zzm (Kd.N_below (zzN HO_4.out) hb);have n2_:=zzm (Kd.N_below (zzN HO_5.out) hb);have n3_:=zzm (zzp zzh1 hb);clear HO_3 HO_4 HO_5 HB;have HO_3:=n0_;have HO_4:=n1_;have HO_5:=n2_;have HB:=n3_;clear n0_ n1_ n2_ n3_;(try clear hb);(try clear hb2);(try clear hk);(try clear hi))))
     go_ret;exact ⟨by first|rfl|(simp [errW_none,errW_some] <;> rfl)|(simp [*,errW_none,errW_some] <;> rfl),zzh1⟩
    ·
     replace c19:=Bool.eq_false_iff.mpr c19;subst c19;have H1:(laws_FnStateLast.l0 kj5 t411 t414 0)=some r:=by rw [if_neg (show ¬ (false=true) by decide)] at H;exact H
     clear H;have H:=H1;clear H1;have H':=zzm H;clear H;go_wp2;repeat (go_quiet (fail);try go_wp2)
     go_loopg [6] kj5 (fun kq v6 w'=>∃ (x6_2:Int),v6 = .int .i64 x6_2∧Aside0 (laws_FnStateLast.l0 kq t411 t414 x6_2=some r)∧Aside0 (kq≤kj5)∧Aside0 (Kd.N k34 34 w' w.heap.size (fun k_=>some k_≠(v415:Value).ownBlock) (.slice Ao8 t411.length co8) t411)∧Aside0 (Kd.N k30 30 w' w.heap.size (fun k_=>some k_≠((.slice Ao8 t411.length co8):Value).ownBlock) v415 t414)∧Aside0 (Below w.heap.size w w'))
     case atStart=>exact ⟨(0),(by first|rfl|(simp;done)|(simp [*];done)),H',⟨Nat.le_refl _⟩,⟨by (with_reducible repeat (first|apply Kd.N_alloc|apply Kd.N_drewN|apply Kd.N_drew));exact Kd.N_mono HO_3.out (fun _ hk=>hk.1)⟩,⟨by (with_reducible repeat (first|apply Kd.N_alloc|apply Kd.N_drewN|apply Kd.N_drew));exact Kd.N_mono HO_4.out (fun _ hk=>hk.1)⟩,⟨zzh1⟩⟩
     case round=>
      clear H';try clear c1
      try clear c2
      try clear c2b0
      try clear c2b1
      try clear p2
      try clear c4
      try clear c12
      try clear c19
      try clear p2
      obtain ⟨x6_2,rfl,HA,HK2,HO_3,HO_4,HB⟩:=hrel;cases gk with
      | zero=>exact absurd HA.out (by simp [laws_FnStateLast.l0])
      | succ k2=>
       have H:=HA.out;clear HA;simp only [laws_FnStateLast.l0] at H;by_cases c24:x6_2 < (t411.length:Int)
       ·
        rw [if_pos c24] at H;have c24b0:decide (x6_2 < (t411.length:Int))=true:=decide_eq_true c24;clear c24;have H':=zzm H;clear H;go_wp2;repeat (go_quiet (fail);try go_wp2)
        go_loopg [7] k2 (fun kq v7 w'=>∃ (x7_3:Int),v7 = .int .i64 x7_3∧Aside0 (laws_FnStateLast.l1 kq t411 t414 x6_2 x7_3=some r)∧Aside0 (kq≤k2)∧Aside0 (Kd.N k34 34 w' w.heap.size (fun k_=>some k_≠(v415:Value).ownBlock) (.slice Ao8 t411.length co8) t411)∧Aside0 (Kd.N k30 30 w' w.heap.size (fun k_=>some k_≠((.slice Ao8 t411.length co8):Value).ownBlock) v415 t414)∧Aside0 (Below w.heap.size w w'))
        case atStart=>exact ⟨(0),(by first|rfl|(simp;done)|(simp [*];done)),H',⟨Nat.le_refl _⟩,⟨by (with_reducible repeat (first|apply Kd.N_alloc|apply Kd.N_drewN|apply Kd.N_drew));exact HO_3.out⟩,⟨by (with_reducible repeat (first|apply Kd.N_alloc|apply Kd.N_drewN|apply Kd.N_drew));exact HO_4.out⟩,⟨zzh1⟩⟩
        case round=>
         clear H';try clear c1
         try clear c2
         try clear c2b0
         try clear c2b1
         try clear p2
         try clear c4
         try clear c12
         try clear c19
         try clear c24
         try clear c24b0
         try clear p2
         obtain ⟨x7_3,rfl,HA,HK3,HO_3,HO_4,HB⟩:=hrel;cases gk with
         | zero=>exact absurd HA.out (by simp [laws_FnStateLast.l1])
         | succ k3=>
          have H:=HA.out;clear HA;simp only [laws_FnStateLast.l1] at H;have HC25:=zzm H;clear H;go_upto_region 12 with (fail);repeat (go_quiet (fail);go_upto_region 12 with (fail))
          go_cut [52] (fun v52 wc=>∃ (kq:Nat) (x52_24:Bool),v52 = .bool x52_24∧Aside0 (laws_FnStateLast.j3 kq t411 t414 x6_2 x7_3 x52_24=some r)∧Aside0 (kq≤k3)∧Aside0 (Kd.N k34 34 wc w.heap.size (fun k_=>some k_≠(v415:Value).ownBlock) (.slice Ao8 t411.length co8) t411)∧Aside0 (Kd.N k30 30 wc w.heap.size (fun k_=>some k_≠((.slice Ao8 t411.length co8):Value).ownBlock) v415 t414)∧Aside0 (Below w.heap.size w wc))
          case first=>
           have H:=HC25.out;clear HC25;by_cases c26 : 0≤x6_2
           ·
            rw [if_pos c26] at H;have c26b0:decide (0≤x6_2)=true:=decide_eq_true c26;clear c26
            (first|rw [c26b0]|(simp only [i64_w,i32_w];rw [c26b0])|skip);by_cases c27:x6_2 < (t411.length:Int)
            ·
             rw [if_pos c27] at H;have c27b0:decide (x6_2 < (t411.length:Int))=true:=decide_eq_true c27;clear c27;by_cases c28:x7_3 < (((Qa t411 x6_2).f5).length:Int)
             ·
              rw [if_pos c28] at H;have c28b0:decide (x7_3 < (((Qa t411 x6_2).f5).length:Int))=true:=decide_eq_true c28;clear c28;have H':=zzm H;clear H;have p422 : 0≤(x6_2:Int):=zzt;have q422:x6_2 < (t411.length:Int):=zzt;obtain ⟨ad422,A422_5,c422_5,e422,hx422_0,hx422_1,hx422_2,hx422_3,hx422_4,hx422_5,hl422_5,hi422_5⟩:=Qw (Kd.N_reads' HO_3.out).2.2 x6_2 p422 q422;cases e422;obtain ⟨ce422,hce422,hMe422,hcc422⟩:=Kd.N_get HO_3.out z34 x6_2 p422 (by first|exact q422|exact zzt|(have e_:=(Kd.N_reads' HO_3.out).1;omega));obtain ⟨ua422_5,uc422_5,rfl,ul422_5,ge422_5⟩:=k34_openF hMe422;have hv422_5:=hcc422 5 _ rfl;rw [add_field _ _ 5 (by omega)] at hv422_5;replace hv422_5:=Option.some.inj (hv422_5.symm.trans hx422_5);injection hv422_5 with hva_ hvn_ hvc_;rw [hva_] at ge422_5;rw [hvc_] at ul422_5;have HL422_5:=zzm (show Kd.V k30 30 _ w.heap.size _ _ ((Qa t411 x6_2).f5) from Kd.V_mk ul422_5 ge422_5);clear hva_ hvn_ hvc_ ge422_5 ul422_5;clear hcc422 hce422;have HR422_5:=zzm hi422_5;have HC422_5:=zzm hl422_5;clear hi422_5 hl422_5;replace p422:=eq_true p422;replace q422:=eq_true q422;have p423 : 0≤(x6_2:Int):=zzt;have q423:x6_2 < (t411.length:Int):=zzt;obtain ⟨ad423,A423_5,c423_5,e423,hx423_0,hx423_1,hx423_2,hx423_3,hx423_4,hx423_5,hl423_5,hi423_5⟩:=Qw (Kd.N_reads' HO_3.out).2.2 x6_2 p423 q423;obtain rfl:ad422=ad423:=(by injection e423);obtain ⟨ce423,hce423,hMe423,hcc423⟩:=Kd.N_get HO_3.out z34 x6_2 p423 (by first|exact q423|exact zzt|(have e_:=(Kd.N_reads' HO_3.out).1;omega));obtain ⟨ua423_5,uc423_5,rfl,ul423_5,ge423_5⟩:=k34_openF hMe423;have hv423_5:=hcc423 5 _ rfl;rw [add_field _ _ 5 (by omega)] at hv423_5;replace hv423_5:=Option.some.inj (hv423_5.symm.trans hx423_5);injection hv423_5 with hva_ hvn_ hvc_;rw [hva_] at ge423_5;rw [hvc_] at ul423_5;have HL423_5:=zzm (show Kd.V k30 30 _ w.heap.size _ _ ((Qa t411 x6_2).f5) from Kd.V_mk ul423_5 ge423_5);clear hva_ hvn_ hvc_ ge423_5 ul423_5;clear hcc423 hce423;have HR423_5:=zzm hi423_5;have HC423_5:=zzm hl423_5;clear hi423_5 hl423_5;replace p423:=eq_true p423;replace q423:=eq_true q423;have ea_:=Option.some.inj (hx422_5.symm.trans hx423_5);injection ea_ with ea_ en_ ec_;subst ea_;subst ec_;clear en_;go_wp2;repeat (go_quiet (fail);try go_wp2)
              go_meet
              case rel=>exact ⟨_,(!((Qa t411 x6_2).f1)),(by first|rfl|(simp;done)|(simp [*];done)),H',⟨by have:=HJ5.out;have:=HK2.out;have:=HK3.out;first|omega|exact Nat.le_refl _⟩,⟨by (with_reducible repeat (first|apply Kd.N_alloc|apply Kd.N_drewN|apply Kd.N_drew));exact HO_3.out⟩,⟨by (with_reducible repeat (first|apply Kd.N_alloc|apply Kd.N_drewN|apply Kd.N_drew));exact HO_4.out⟩,⟨zzh1⟩⟩
             ·
              rw [if_neg c28] at H;have c28b0:decide (x7_3 < (((Qa t411 x6_2).f5).length:Int))=false:=decide_eq_false c28;clear c28;have H':=zzm H;clear H;have p422 : 0≤(x6_2:Int):=zzt;have q422:x6_2 < (t411.length:Int):=zzt;obtain ⟨ad422,A422_5,c422_5,e422,hx422_0,hx422_1,hx422_2,hx422_3,hx422_4,hx422_5,hl422_5,hi422_5⟩:=Qw (Kd.N_reads' HO_3.out).2.2 x6_2 p422 q422;cases e422;obtain ⟨ce422,hce422,hMe422,hcc422⟩:=Kd.N_get HO_3.out z34 x6_2 p422 (by first|exact q422|exact zzt|(have e_:=(Kd.N_reads' HO_3.out).1;omega));obtain ⟨ua422_5,uc422_5,rfl,ul422_5,ge422_5⟩:=k34_openF hMe422;have hv422_5:=hcc422 5 _ rfl;rw [add_field _ _ 5 (by omega)] at hv422_5;replace hv422_5:=Option.some.inj (hv422_5.symm.trans hx422_5);injection hv422_5 with hva_ hvn_ hvc_;rw [hva_] at ge422_5;rw [hvc_] at ul422_5;have HL422_5:=zzm (show Kd.V k30 30 _ w.heap.size _ _ ((Qa t411 x6_2).f5) from Kd.V_mk ul422_5 ge422_5);clear hva_ hvn_ hvc_ ge422_5 ul422_5;clear hcc422 hce422;have HR422_5:=zzm hi422_5;have HC422_5:=zzm hl422_5;clear hi422_5 hl422_5;replace p422:=eq_true p422;replace q422:=eq_true q422;go_wp2;repeat (go_quiet (fail);try go_wp2)
              go_meet
              case rel=>exact ⟨_,(false),(by first|rfl|(simp;done)|(simp [*];done)),H',⟨by have:=HJ5.out;have:=HK2.out;have:=HK3.out;first|omega|exact Nat.le_refl _⟩,⟨by (with_reducible repeat (first|apply Kd.N_alloc|apply Kd.N_drewN|apply Kd.N_drew));exact HO_3.out⟩,⟨by (with_reducible repeat (first|apply Kd.N_alloc|apply Kd.N_drewN|apply Kd.N_drew));exact HO_4.out⟩,⟨zzh1⟩⟩
            ·
             rw [if_neg c27] at H;exact absurd H (by simp)
           ·
            rw [if_neg c26] at H;exact absurd H (by simp)
          case rest=>
           clear HC25;try clear c1
           try clear c2
           try clear c2b0
           try clear c2b1
           try clear p2
           try clear c4
           try clear p4
           try clear q4
           try clear hx4
           try clear c12
           try clear c19
           try clear c24
           try clear c24b0
           try clear c26
           try clear c26b0
           try clear c27
           try clear c27b0
           try clear c28
           try clear c28b0
           try clear hx422_0
           try clear hx422_1
           try clear hx422_2
           try clear hx422_3
           try clear hx422_4
           try clear hx422_5
           try clear hx423_0
           try clear hx423_1
           try clear hx423_2
           try clear hx423_3
           try clear hx423_4
           try clear hx423_5
           try clear p2
           try clear p422
           try clear p423
           try clear q422
           try clear q423
           obtain ⟨kq,x52_24,rfl,HA,HJ24,HO_3,HO_4,HB⟩:=hcut;cases kq with
           | zero=>exact absurd HA.out (by simp [laws_FnStateLast.j3])
           | succ kj24=>
            have H:=HA.out;clear HA;simp only [laws_FnStateLast.j3] at H;by_cases c29:x52_24=true
            ·
             subst c29;have H1:(if 0≤x6_2 then (if x6_2 < (t411.length:Int) then (if 0≤x7_3 then (if x7_3 < (((Qa t411 x6_2).f5).length:Int) then (laws_FnStateLast.l2 kj24 t411 t414 x6_2 x7_3 0 ((Qb ((Qa t411 x6_2).f5) x7_3).f0) ((Qb ((Qa t411 x6_2).f5) x7_3).f1) ((Qb ((Qa t411 x6_2).f5) x7_3).f2) ((Qb ((Qa t411 x6_2).f5) x7_3).f3) ((Qb ((Qa t411 x6_2).f5) x7_3).f4) ((Qb ((Qa t411 x6_2).f5) x7_3).f5)) else (none)) else (none)) else (none)) else (none))=some r:=by rw [if_pos rfl] at H;exact H
             clear H;have H:=H1;clear H1;by_cases c30 : 0≤x6_2
             ·
              rw [if_pos c30] at H;have c30b0:decide (0≤x6_2)=true:=decide_eq_true c30;clear c30;by_cases c31:x6_2 < (t411.length:Int)
              ·
               rw [if_pos c31] at H;have c31b0:decide (x6_2 < (t411.length:Int))=true:=decide_eq_true c31;clear c31;by_cases c32 : 0≤x7_3
               ·
                rw [if_pos c32] at H;have c32b0:decide (0≤x7_3)=true:=decide_eq_true c32;clear c32;by_cases c33:x7_3 < (((Qa t411 x6_2).f5).length:Int)
                ·
                 rw [if_pos c33] at H;have c33b0:decide (x7_3 < (((Qa t411 x6_2).f5).length:Int))=true:=decide_eq_true c33;clear c33;have H':=zzm H;clear H;have p424 : 0≤(x6_2:Int):=zzt;have q424:x6_2 < (t411.length:Int):=zzt;obtain ⟨ad424,A424_5,c424_5,e424,hx424_0,hx424_1,hx424_2,hx424_3,hx424_4,hx424_5,hl424_5,hi424_5⟩:=Qw (Kd.N_reads' HO_3.out).2.2 x6_2 p424 q424;cases e424;obtain ⟨ce424,hce424,hMe424,hcc424⟩:=Kd.N_get HO_3.out z34 x6_2 p424 (by first|exact q424|exact zzt|(have e_:=(Kd.N_reads' HO_3.out).1;omega));obtain ⟨ua424_5,uc424_5,rfl,ul424_5,ge424_5⟩:=k34_openF hMe424;have hv424_5:=hcc424 5 _ rfl;rw [add_field _ _ 5 (by omega)] at hv424_5;replace hv424_5:=Option.some.inj (hv424_5.symm.trans hx424_5);injection hv424_5 with hva_ hvn_ hvc_;rw [hva_] at ge424_5;rw [hvc_] at ul424_5;have HL424_5:=zzm (show Kd.V k30 30 _ w.heap.size _ _ ((Qa t411 x6_2).f5) from Kd.V_mk ul424_5 ge424_5);clear hva_ hvn_ hvc_ ge424_5 ul424_5;clear hcc424 hce424;have HR424_5:=zzm hi424_5;have HC424_5:=zzm hl424_5;clear hi424_5 hl424_5;replace p424:=eq_true p424;replace q424:=eq_true q424;have p425 : 0≤(x7_3:Int):=zzt;have q425:x7_3 < (((Qa t411 x6_2).f5).length:Int):=zzt;obtain ⟨ad425,A425_3,c425_3,A425_5,c425_5,e425,hx425_0,hx425_1,hx425_2,hx425_3,hx425_4,hx425_5,hl425_3,hi425_3,hl425_5,hi425_5⟩:=Qy (zzC HR424_5.out) x7_3 p425 q425;cases e425;obtain ⟨ce425,hce425,hMe425,hcc425⟩:=Kd.V_get HL424_5.out z30 x7_3 p425 (by first|exact q425|exact zzt|(have e_:=(Kd.V_reads' HL424_5.out).1;omega));obtain ⟨ua425_3,uc425_3,ua425_5,uc425_5,rfl,ul425_3,ge425_3,ul425_5,ge425_5⟩:=k30_openF hMe425;have hv425_3:=hcc425 3 _ rfl;rw [add_field _ _ 3 (by omega)] at hv425_3;replace hv425_3:=Option.some.inj (hv425_3.symm.trans hx425_3);injection hv425_3 with hva_ hvn_ hvc_;rw [hva_] at ge425_3;rw [hvc_] at ul425_3;have HL425_3:=zzm (show Kd.V (Kd.int .i64) 3 _ w.heap.size _ _ ((Qb ((Qa t411 x6_2).f5) x7_3).f3) from Kd.V_mk ul425_3 ge425_3);clear hva_ hvn_ hvc_ ge425_3 ul425_3;have hv425_5:=hcc425 5 _ rfl;rw [add_field _ _ 5 (by omega)] at hv425_5;replace hv425_5:=Option.some.inj (hv425_5.symm.trans hx425_5);injection hv425_5 with hva_ hvn_ hvc_;rw [hva_] at ge425_5;rw [hvc_] at ul425_5;have HL425_5:=zzm (show Kd.V (Kd.int .i64) 3 _ w.heap.size _ _ ((Qb ((Qa t411 x6_2).f5) x7_3).f5) from Kd.V_mk ul425_5 ge425_5);clear hva_ hvn_ hvc_ ge425_5 ul425_5;clear hcc425 hce425;have HR425_3:=zzm hi425_3;have HC425_3:=zzm hl425_3;clear hi425_3 hl425_3;have HR425_5:=zzm hi425_5;have HC425_5:=zzm hl425_5;clear hi425_5 hl425_5;replace p425:=eq_true p425;replace q425:=eq_true q425;go_wp2_with (first|((with_reducible refine gate_dst (N:=8) rfl ?_);(try (refine gate_guard (by rfl) ?_;dsimp only));refine box_event ?hg (N:=8) ?hd (cs:=#[.int .i64 0,.int .i64 0,.bool false,.slice none 0 0,.bool false,.slice none 0 0]) (t:=30) ?hr ?_;(case hd=>rfl);(case hg=>rfl);(case hr=>first|(go_simp;done)|(go_simp;rfl));intro gb426 hg w34 hbox hb;have n0_:=zzm (Kd.N_below (Kd.N_elderB (zzN HO_3.out) gb426 (Nat.le_of_eq hg.symm)) hb);have n1_:=zzm (Kd.N_below (Kd.N_elderB (zzN HO_4.out) gb426 (Nat.le_of_eq hg.symm)) hb);have n2_:=zzm (Kd.V_below (Kd.V_elderB (zzV HL424_5.out) gb426 (Nat.le_of_eq hg.symm)) hb);have n3_:=zzm (Kd.V_below (Kd.V_elderB (zzV HL425_3.out) gb426 (Nat.le_of_eq hg.symm)) hb);have n4_:=zzm (Kd.V_below (Kd.V_elderB (zzV HL425_5.out) gb426 (Nat.le_of_eq hg.symm)) hb);have n5_:=zzm (Kd.C_below (zzC HR424_5.out) hb);have n6_:=zzm (Kd.C_below (zzC HR425_3.out) hb);have n7_:=zzm (Kd.C_below (zzC HR425_5.out) hb);have n8_:=zzm (zzp zzh1 hb);have n9_:=zzm (hbox);have n10_:=zzm ((by rw [hg];exact (zzo zzh1):w.heap.size≤gb426));have n11_:=zzm ((by rw [hg];exact (zzo zzh1):w.heap.size≤gb426));clear HO_3 HO_4 HL424_5 HL425_3 HL425_5 HR424_5 HR425_3 HR425_5 HB;have HO_3:=n0_;have HO_4:=n1_;have HL424_5:=n2_;have HL425_3:=n3_;have HL425_5:=n4_;have HR424_5:=n5_;have HR425_3:=n6_;have HR425_5:=n7_;have HB:=n8_;have BK426:=n9_;have GW426:=n10_;have GE426:=n11_;clear n0_ n1_ n2_ n3_ n4_ n5_ n6_ n7_ n8_ n9_ n10_ n11_ hb hbox hg;obtain ⟨hcz35_0,hcz35_1,hcz35_2,hcz35_3,hcz35_4,hcz35_5,hfz35_0,hfz35_1,hfz35_2,hfz35_3,hfz35_4,hfz35_5⟩:=zzc6 BK426.out));repeat (go_quiet (first|((with_reducible refine gate_dst (N:=8) rfl ?_);(try (refine gate_guard (by rfl) ?_;dsimp only));refine box_event ?hg (N:=8) ?hd (cs:=#[.int .i64 0,.int .i64 0,.bool false,.slice none 0 0,.bool false,.slice none 0 0]) (t:=30) ?hr ?_;(case hd=>rfl);(case hg=>rfl);(case hr=>first|(go_simp;done)|(go_simp;rfl));intro gb426 hg w34 hbox hb;have n0_:=zzm (Kd.N_below (Kd.N_elderB (zzN HO_3.out) gb426 (Nat.le_of_eq hg.symm)) hb);have n1_:=zzm (Kd.N_below (Kd.N_elderB (zzN HO_4.out) gb426 (Nat.le_of_eq hg.symm)) hb);have n2_:=zzm (Kd.V_below (Kd.V_elderB (zzV HL424_5.out) gb426 (Nat.le_of_eq hg.symm)) hb);have n3_:=zzm (Kd.V_below (Kd.V_elderB (zzV HL425_3.out) gb426 (Nat.le_of_eq hg.symm)) hb);have n4_:=zzm (Kd.V_below (Kd.V_elderB (zzV HL425_5.out) gb426 (Nat.le_of_eq hg.symm)) hb);have n5_:=zzm (Kd.C_below (zzC HR424_5.out) hb);have n6_:=zzm (Kd.C_below (zzC HR425_3.out) hb);have n7_:=zzm (Kd.C_below (zzC HR425_5.out) hb);have n8_:=zzm (zzp zzh1 hb);have n9_:=zzm (hbox);have n10_:=zzm ((by rw [hg];exact (zzo zzh1):w.heap.size≤gb426));have n11_:=zzm ((by rw [hg];exact (zzo zzh1):w.heap.size≤gb426));clear HO_3 HO_4 HL424_5 HL425_3 HL425_5 HR424_5 HR425_3 HR425_5 HB;have HO_3:=n0_;have HO_4:=n1_;have HL424_5:=n2_;have HL425_3:=n3_;have HL425_5:=n4_;have HR424_5:=n5_;have HR425_3:=n6_;have HR425_5:=n7_;have HB:=n8_;have BK426:=n9_;have GW426:=n10_;have GE426:=n11_;clear n0_ n1_ n2_ n3_ n4_ n5_ n6_ n7_ n8_ n9_ n10_ n11_ hb hbox hg;obtain ⟨hcz35_0,hcz35_1,hcz35_2,hcz35_3,hcz35_4,hcz35_5,hfz35_0,hfz35_1,hfz35_2,hfz35_3,hfz35_4,hfz35_5⟩:=zzc6 BK426.out));try go_wp2_with (first|((with_reducible refine gate_dst (N:=8) rfl ?_);(try (refine gate_guard (by rfl) ?_;dsimp only));refine box_event ?hg (N:=8) ?hd (cs:=#[.int .i64 0,.int .i64 0,.bool false,.slice none 0 0,.bool false,.slice none 0 0]) (t:=30) ?hr ?_;(case hd=>rfl);(case hg=>rfl);(case hr=>first|(go_simp;done)|(go_simp;rfl));intro gb426 hg w34 hbox hb;have n0_:=zzm (Kd.N_below (Kd.N_elderB (zzN HO_3.out) gb426 (Nat.le_of_eq hg.symm)) hb);have n1_:=zzm (Kd.N_below (Kd.N_elderB (zzN HO_4.out) gb426 (Nat.le_of_eq hg.symm)) hb);have n2_:=zzm (Kd.V_below (Kd.V_elderB (zzV HL424_5.out) gb426 (Nat.le_of_eq hg.symm)) hb);have n3_:=zzm (Kd.V_below (Kd.V_elderB (zzV HL425_3.out) gb426 (Nat.le_of_eq hg.symm)) hb);have n4_:=zzm (Kd.V_below (Kd.V_elderB (zzV HL425_5.out) gb426 (Nat.le_of_eq hg.symm)) hb);have n5_:=zzm (Kd.C_below (zzC HR424_5.out) hb);have n6_:=zzm (Kd.C_below (zzC HR425_3.out) hb);have n7_:=zzm (Kd.C_below (zzC HR425_5.out) hb);have n8_:=zzm (zzp zzh1 hb);have n9_:=zzm (hbox);have n10_:=zzm ((by rw [hg];exact (zzo zzh1):w.heap.size≤gb426));have n11_:=zzm ((by rw [hg];exact (zzo zzh1):w.heap.size≤gb426));clear HO_3 HO_4 HL424_5 HL425_3 HL425_5 HR424_5 HR425_3 HR425_5 HB;have HO_3:=n0_;have HO_4:=n1_;have HL424_5:=n2_;have HL425_3:=n3_;have HL425_5:=n4_;have HR424_5:=n5_;have HR425_3:=n6_;have HR425_5:=n7_;have HB:=n8_;have BK426:=n9_;have GW426:=n10_;have GE426:=n11_;clear n0_ n1_ n2_ n3_ n4_ n5_ n6_ n7_ n8_ n9_ n10_ n11_ hb hbox hg;obtain ⟨hcz35_0,hcz35_1,hcz35_2,hcz35_3,hcz35_4,hcz35_5,hfz35_0,hfz35_1,hfz35_2,hfz35_3,hfz35_4,hfz35_5⟩:=zzc6 BK426.out)))
                 go_loopg [9] kj24 (fun kq v9 w'=>∃ (x9_5:Int),v9 = .int .i64 x9_5∧Aside0 (laws_FnStateLast.l2 kq t411 t414 x6_2 x7_3 x9_5 ((Qb ((Qa t411 x6_2).f5) x7_3).f0) ((Qb ((Qa t411 x6_2).f5) x7_3).f1) ((Qb ((Qa t411 x6_2).f5) x7_3).f2) ((Qb ((Qa t411 x6_2).f5) x7_3).f3) ((Qb ((Qa t411 x6_2).f5) x7_3).f4) ((Qb ((Qa t411 x6_2).f5) x7_3).f5)=some r)∧Aside0 (kq≤kj24)∧Aside0 (Kd.N k34 34 w' w.heap.size (fun k_=>some k_≠(v415:Value).ownBlock∧k_≠gb426) (.slice (some ad424) t411.length co8) t411)∧Aside0 (Kd.N k30 30 w' w.heap.size (fun k_=>some k_≠((.slice (some ad424) t411.length co8):Value).ownBlock∧k_≠gb426) v415 t414)∧Aside0 (w'.heap[gb426]? = some (.cells #[.int .i64 ((Qb ((Qa t411 x6_2).f5) x7_3).f0),.int .i64 ((Qb ((Qa t411 x6_2).f5) x7_3).f1),.bool ((Qb ((Qa t411 x6_2).f5) x7_3).f2),(.slice A425_3 ((Qb ((Qa t411 x6_2).f5) x7_3).f3).length c425_3),.bool ((Qb ((Qa t411 x6_2).f5) x7_3).f4),(.slice A425_5 ((Qb ((Qa t411 x6_2).f5) x7_3).f5).length c425_5)] 30 (0,0)))∧Aside0 (Kd.C k30 w' (some ad425) ((Qa t411 x6_2).f5).length ((Qa t411 x6_2).f5))∧Aside0 (Kd.C (Kd.int .i64) w' A425_3 ((Qb ((Qa t411 x6_2).f5) x7_3).f3).length ((Qb ((Qa t411 x6_2).f5) x7_3).f3))∧Aside0 (Kd.C (Kd.int .i64) w' A425_5 ((Qb ((Qa t411 x6_2).f5) x7_3).f5).length ((Qb ((Qa t411 x6_2).f5) x7_3).f5))∧Aside0 (Below w.heap.size w w'))
                 case atStart=>exact ⟨(0),(by first|rfl|(simp;done)|(simp [*];done)),H',⟨Nat.le_refl _⟩,⟨by (with_reducible repeat (first|apply Kd.N_alloc|apply Kd.N_drewN|apply Kd.N_drew));exact Kd.N_mono (Kd.N_far (p:=⟨gb426,5,none⟩) (Kd.N_far (p:=⟨gb426,4,none⟩) (Kd.N_far (p:=⟨gb426,3,none⟩) (Kd.N_far (p:=⟨gb426,2,none⟩) (Kd.N_far (p:=⟨gb426,1,none⟩) (Kd.N_far (p:=⟨gb426,0,none⟩) (Kd.N_mono HO_3.out (fun k_ hk=>(⟨hk,hk.2⟩:_∧k_≠gb426))) (fun _ hk=>hk.2) (.int .i64 ((Qb ((Qa t411 x6_2).f5) x7_3).f0))) (fun _ hk=>hk.2) (.int .i64 ((Qb ((Qa t411 x6_2).f5) x7_3).f1))) (fun _ hk=>hk.2) (.bool ((Qb ((Qa t411 x6_2).f5) x7_3).f2))) (fun _ hk=>hk.2) (.slice A425_3 ((Qb ((Qa t411 x6_2).f5) x7_3).f3).length c425_3)) (fun _ hk=>hk.2) (.bool ((Qb ((Qa t411 x6_2).f5) x7_3).f4))) (fun _ hk=>hk.2) (.slice A425_5 ((Qb ((Qa t411 x6_2).f5) x7_3).f5).length c425_5)) (fun _ hk=>⟨hk.1.1,hk.1.2⟩)⟩,⟨by (with_reducible repeat (first|apply Kd.N_alloc|apply Kd.N_drewN|apply Kd.N_drew));exact Kd.N_mono (Kd.N_far (p:=⟨gb426,5,none⟩) (Kd.N_far (p:=⟨gb426,4,none⟩) (Kd.N_far (p:=⟨gb426,3,none⟩) (Kd.N_far (p:=⟨gb426,2,none⟩) (Kd.N_far (p:=⟨gb426,1,none⟩) (Kd.N_far (p:=⟨gb426,0,none⟩) (Kd.N_mono HO_4.out (fun k_ hk=>(⟨hk,hk.2⟩:_∧k_≠gb426))) (fun _ hk=>hk.2) (.int .i64 ((Qb ((Qa t411 x6_2).f5) x7_3).f0))) (fun _ hk=>hk.2) (.int .i64 ((Qb ((Qa t411 x6_2).f5) x7_3).f1))) (fun _ hk=>hk.2) (.bool ((Qb ((Qa t411 x6_2).f5) x7_3).f2))) (fun _ hk=>hk.2) (.slice A425_3 ((Qb ((Qa t411 x6_2).f5) x7_3).f3).length c425_3)) (fun _ hk=>hk.2) (.bool ((Qb ((Qa t411 x6_2).f5) x7_3).f4))) (fun _ hk=>hk.2) (.slice A425_5 ((Qb ((Qa t411 x6_2).f5) x7_3).f5).length c425_5)) (fun _ hk=>⟨hk.1.1,hk.1.2⟩)⟩,⟨by (with_reducible repeat (first|apply zzf|apply zzg|apply zze));refine zzi (cs:=#[.int .i64 ((Qb ((Qa t411 x6_2).f5) x7_3).f0),.int .i64 ((Qb ((Qa t411 x6_2).f5) x7_3).f1),.bool ((Qb ((Qa t411 x6_2).f5) x7_3).f2),.slice A425_3 ((Qb ((Qa t411 x6_2).f5) x7_3).f3).length c425_3,.bool ((Qb ((Qa t411 x6_2).f5) x7_3).f4),.slice none 0 0]) ?_ 5 _ rfl;(with_reducible repeat (first|apply zzf|apply zzg|apply zze));refine zzi (cs:=#[.int .i64 ((Qb ((Qa t411 x6_2).f5) x7_3).f0),.int .i64 ((Qb ((Qa t411 x6_2).f5) x7_3).f1),.bool ((Qb ((Qa t411 x6_2).f5) x7_3).f2),.slice A425_3 ((Qb ((Qa t411 x6_2).f5) x7_3).f3).length c425_3,.bool false,.slice none 0 0]) ?_ 4 _ rfl;(with_reducible repeat (first|apply zzf|apply zzg|apply zze));refine zzi (cs:=#[.int .i64 ((Qb ((Qa t411 x6_2).f5) x7_3).f0),.int .i64 ((Qb ((Qa t411 x6_2).f5) x7_3).f1),.bool ((Qb ((Qa t411 x6_2).f5) x7_3).f2),.slice none 0 0,.bool false,.slice none 0 0]) ?_ 3 _ rfl;(with_reducible repeat (first|apply zzf|apply zzg|apply zze));refine zzi (cs:=#[.int .i64 ((Qb ((Qa t411 x6_2).f5) x7_3).f0),.int .i64 ((Qb ((Qa t411 x6_2).f5) x7_3).f1),.bool false,.slice none 0 0,.bool false,.slice none 0 0]) ?_ 2 _ rfl;(with_reducible repeat (first|apply zzf|apply zzg|apply zze));refine zzi (cs:=#[.int .i64 ((Qb ((Qa t411 x6_2).f5) x7_3).f0),.int .i64 0,.bool false,.slice none 0 0,.bool false,.slice none 0 0]) ?_ 1 _ rfl;(with_reducible repeat (first|apply zzf|apply zzg|apply zze));refine zzi (cs:=#[.int .i64 0,.int .i64 0,.bool false,.slice none 0 0,.bool false,.slice none 0 0]) ?_ 0 _ rfl;(with_reducible repeat (first|apply zzf|apply zzg|apply zze));exact BK426.out⟩,⟨(Kd.V_reads' (zzV ((Kd.V_mono (Kd.V_far (p:=⟨gb426,5,none⟩) (Kd.V_far (p:=⟨gb426,4,none⟩) (Kd.V_far (p:=⟨gb426,3,none⟩) (Kd.V_far (p:=⟨gb426,2,none⟩) (Kd.V_far (p:=⟨gb426,1,none⟩) (Kd.V_far (p:=⟨gb426,0,none⟩) (Kd.V_mono HL424_5.out (fun k_ hk=>(⟨hk,hk.2⟩:_∧k_≠gb426))) (fun _ hk=>hk.2) (.int .i64 ((Qb ((Qa t411 x6_2).f5) x7_3).f0))) (fun _ hk=>hk.2) (.int .i64 ((Qb ((Qa t411 x6_2).f5) x7_3).f1))) (fun _ hk=>hk.2) (.bool ((Qb ((Qa t411 x6_2).f5) x7_3).f2))) (fun _ hk=>hk.2) (.slice A425_3 ((Qb ((Qa t411 x6_2).f5) x7_3).f3).length c425_3)) (fun _ hk=>hk.2) (.bool ((Qb ((Qa t411 x6_2).f5) x7_3).f4))) (fun _ hk=>hk.2) (.slice A425_5 ((Qb ((Qa t411 x6_2).f5) x7_3).f5).length c425_5)) (fun _ h_=>h_.1))))).2.2⟩,⟨(Kd.V_reads' (zzV ((Kd.V_mono (Kd.V_far (p:=⟨gb426,5,none⟩) (Kd.V_far (p:=⟨gb426,4,none⟩) (Kd.V_far (p:=⟨gb426,3,none⟩) (Kd.V_far (p:=⟨gb426,2,none⟩) (Kd.V_far (p:=⟨gb426,1,none⟩) (Kd.V_far (p:=⟨gb426,0,none⟩) (Kd.V_mono HL425_3.out (fun k_ hk=>(⟨hk,hk.2⟩:_∧k_≠gb426))) (fun _ hk=>hk.2) (.int .i64 ((Qb ((Qa t411 x6_2).f5) x7_3).f0))) (fun _ hk=>hk.2) (.int .i64 ((Qb ((Qa t411 x6_2).f5) x7_3).f1))) (fun _ hk=>hk.2) (.bool ((Qb ((Qa t411 x6_2).f5) x7_3).f2))) (fun _ hk=>hk.2) (.slice A425_3 ((Qb ((Qa t411 x6_2).f5) x7_3).f3).length c425_3)) (fun _ hk=>hk.2) (.bool ((Qb ((Qa t411 x6_2).f5) x7_3).f4))) (fun _ hk=>hk.2) (.slice A425_5 ((Qb ((Qa t411 x6_2).f5) x7_3).f5).length c425_5)) (fun _ h_=>h_.1))))).2.2⟩,⟨(Kd.V_reads' (zzV ((Kd.V_mono (Kd.V_far (p:=⟨gb426,5,none⟩) (Kd.V_far (p:=⟨gb426,4,none⟩) (Kd.V_far (p:=⟨gb426,3,none⟩) (Kd.V_far (p:=⟨gb426,2,none⟩) (Kd.V_far (p:=⟨gb426,1,none⟩) (Kd.V_far (p:=⟨gb426,0,none⟩) (Kd.V_mono HL425_5.out (fun k_ hk=>(⟨hk,hk.2⟩:_∧k_≠gb426))) (fun _ hk=>hk.2) (.int .i64 ((Qb ((Qa t411 x6_2).f5) x7_3).f0))) (fun _ hk=>hk.2) (.int .i64 ((Qb ((Qa t411 x6_2).f5) x7_3).f1))) (fun _ hk=>hk.2) (.bool ((Qb ((Qa t411 x6_2).f5) x7_3).f2))) (fun _ hk=>hk.2) (.slice A425_3 ((Qb ((Qa t411 x6_2).f5) x7_3).f3).length c425_3)) (fun _ hk=>hk.2) (.bool ((Qb ((Qa t411 x6_2).f5) x7_3).f4))) (fun _ hk=>hk.2) (.slice A425_5 ((Qb ((Qa t411 x6_2).f5) x7_3).f5).length c425_5)) (fun _ h_=>h_.1))))).2.2⟩,⟨by repeat (first|(with_reducible first|exact HB.out|apply zza|apply zzb|apply zzc|refine zzd ?_ GE426.out)|exact HB.out)⟩⟩
                 case round=>
                  clear H';try clear c1
                  try clear c2
                  try clear c2b0
                  try clear c2b1
                  try clear p2
                  try clear c3
                  try clear c4
                  try clear p4
                  try clear q4
                  try clear hx4
                  try clear c12
                  try clear c19
                  try clear c24
                  try clear c24b0
                  try clear c26
                  try clear c26b0
                  try clear c27
                  try clear c27b0
                  try clear c28
                  try clear c28b0
                  try clear c29
                  try clear c30
                  try clear c30b0
                  try clear c31
                  try clear c31b0
                  try clear c32
                  try clear c32b0
                  try clear c33
                  try clear c33b0
                  try clear hcz35_0
                  try clear hcz35_1
                  try clear hcz35_2
                  try clear hcz35_3
                  try clear hcz35_4
                  try clear hcz35_5
                  try clear hfz35_0
                  try clear hfz35_1
                  try clear hfz35_2
                  try clear hfz35_3
                  try clear hfz35_4
                  try clear hfz35_5
                  try clear hx422_0
                  try clear hx422_1
                  try clear hx422_2
                  try clear hx422_3
                  try clear hx422_4
                  try clear hx422_5
                  try clear hx423_0
                  try clear hx423_1
                  try clear hx423_2
                  try clear hx423_3
                  try clear hx423_4
                  try clear hx423_5
                  try clear hx424_0
                  try clear hx424_1
                  try clear hx424_2
                  try clear hx424_3
                  try clear hx424_4
                  try clear hx424_5
                  try clear hx425_0
                  try clear hx425_1
                  try clear hx425_2
                  try clear hx425_3
                  try clear hx425_4
                  try clear hx425_5
                  try clear p2
                  try clear p4
                  try clear p422
                  try clear p423
                  try clear p424
                  try clear p425
                  try clear q4
                  try clear q422
                  try clear q423
                  try clear q424
                  try clear q425
                  obtain ⟨x9_5,rfl,HA,HK5,HO_3,HO_4,BK426,HR424_5,HR425_3,HR425_5,HB⟩:=hrel;cases gk with
                  | zero=>exact absurd HA.out (by simp [laws_FnStateLast.l2])
                  | succ k5=>
                   have H:=HA.out;clear HA;simp only [laws_FnStateLast.l2] at H;by_cases c36:x9_5 < (t414.length:Int)
                   ·
                    rw [if_pos c36] at H;have c36b0:decide (x9_5 < (t414.length:Int))=true:=decide_eq_true c36;clear c36;by_cases c37:((Qb ((Qa t411 x6_2).f5) x7_3).f2)=true
                    ·
                     rw [if_pos c37] at H;have c37b0:((Qb ((Qa t411 x6_2).f5) x7_3).f2)=true:=c37;clear c37;by_cases c38 : 0≤x9_5
                     ·
                      rw [if_pos c38] at H;have c38b0:decide (0≤x9_5)=true:=decide_eq_true c38;clear c38;replace H:=Option.bind_eq_some_iff.mp H;obtain ⟨t428,A390,H⟩:=H;replace H:(if t428=true then (if ((Qb ((Qa t411 x6_2).f5) x7_3).f0) > ((Qb t414 x9_5).f0) then (some false) else (laws_FnStateLast.l2 k5 t411 t414 x6_2 x7_3 (wrap64 (x9_5+1)) ((Qb ((Qa t411 x6_2).f5) x7_3).f0) ((Qb ((Qa t411 x6_2).f5) x7_3).f1) ((Qb ((Qa t411 x6_2).f5) x7_3).f2) ((Qb ((Qa t411 x6_2).f5) x7_3).f3) ((Qb ((Qa t411 x6_2).f5) x7_3).f4) ((Qb ((Qa t411 x6_2).f5) x7_3).f5))) else (laws_FnStateLast.l2 k5 t411 t414 x6_2 x7_3 (wrap64 (x9_5+1)) ((Qb ((Qa t411 x6_2).f5) x7_3).f0) ((Qb ((Qa t411 x6_2).f5) x7_3).f1) ((Qb ((Qa t411 x6_2).f5) x7_3).f2) ((Qb ((Qa t411 x6_2).f5) x7_3).f3) ((Qb ((Qa t411 x6_2).f5) x7_3).f4) ((Qb ((Qa t411 x6_2).f5) x7_3).f5)))=some r:=H;have A39:=zzm A390;clear A390;by_cases c40:t428=true
                      ·
                       subst c40;have H1:(if ((Qb ((Qa t411 x6_2).f5) x7_3).f0) > ((Qb t414 x9_5).f0) then (some false) else (laws_FnStateLast.l2 k5 t411 t414 x6_2 x7_3 (wrap64 (x9_5+1)) ((Qb ((Qa t411 x6_2).f5) x7_3).f0) ((Qb ((Qa t411 x6_2).f5) x7_3).f1) ((Qb ((Qa t411 x6_2).f5) x7_3).f2) ((Qb ((Qa t411 x6_2).f5) x7_3).f3) ((Qb ((Qa t411 x6_2).f5) x7_3).f4) ((Qb ((Qa t411 x6_2).f5) x7_3).f5)))=some r:=by rw [if_pos rfl] at H;exact H
                       clear H;have H:=H1;clear H1;by_cases c41:((Qb ((Qa t411 x6_2).f5) x7_3).f0) > ((Qb t414 x9_5).f0)
                       ·
                        rw [if_pos c41] at H;have c41b0:decide (((Qb t414 x9_5).f0) < ((Qb ((Qa t411 x6_2).f5) x7_3).f0))=true:=decide_eq_true c41;clear c41;obtain rfl:=Option.some.inj H;obtain ⟨Ao42,co42,eo42⟩:=Kd.N_slice HO_4.out;subst eo42;obtain ⟨hcz43_0,hcz43_1,hcz43_2,hcz43_3,hcz43_4,hcz43_5,hfz43_0,hfz43_1,hfz43_2,hfz43_3,hfz43_4,hfz43_5⟩:=zzc6 BK426.out
                        (try rw [c37b0] at hcz43_2)
                        (try clear c37b0);have p427 : 0≤(x9_5:Int):=zzt;have q427:x9_5 < (t414.length:Int):=zzt;obtain ⟨ad427,A427_3,c427_3,A427_5,c427_5,e427,hx427_0,hx427_1,hx427_2,hx427_3,hx427_4,hx427_5,hl427_3,hi427_3,hl427_5,hi427_5⟩:=Qy (Kd.N_reads' HO_4.out).2.2 x9_5 p427 q427;cases e427;obtain ⟨ce427,hce427,hMe427,hcc427⟩:=Kd.N_get HO_4.out z30 x9_5 p427 (by first|exact q427|exact zzt|(have e_:=(Kd.N_reads' HO_4.out).1;omega));obtain ⟨ua427_3,uc427_3,ua427_5,uc427_5,rfl,ul427_3,ge427_3,ul427_5,ge427_5⟩:=k30_openF hMe427;have hv427_3:=hcc427 3 _ rfl;rw [add_field _ _ 3 (by omega)] at hv427_3;replace hv427_3:=Option.some.inj (hv427_3.symm.trans hx427_3);injection hv427_3 with hva_ hvn_ hvc_;rw [hva_] at ge427_3;rw [hvc_] at ul427_3;have HL427_3:=zzm (show Kd.V (Kd.int .i64) 3 _ w.heap.size _ _ ((Qb t414 x9_5).f3) from Kd.V_mk ul427_3 ge427_3);clear hva_ hvn_ hvc_ ge427_3 ul427_3;have hv427_5:=hcc427 5 _ rfl;rw [add_field _ _ 5 (by omega)] at hv427_5;replace hv427_5:=Option.some.inj (hv427_5.symm.trans hx427_5);injection hv427_5 with hva_ hvn_ hvc_;rw [hva_] at ge427_5;rw [hvc_] at ul427_5;have HL427_5:=zzm (show Kd.V (Kd.int .i64) 3 _ w.heap.size _ _ ((Qb t414 x9_5).f5) from Kd.V_mk ul427_5 ge427_5);clear hva_ hvn_ hvc_ ge427_5 ul427_5;clear hcc427 hce427;have HR427_3:=zzm hi427_3;have HC427_3:=zzm hl427_3;clear hi427_3 hl427_3;have HR427_5:=zzm hi427_5;have HC427_5:=zzm hl427_5;clear hi427_5 hl427_5;replace p427:=eq_true p427;replace q427:=eq_true q427;go_wp2_with (first|(go_at_call 19;(with_reducible refine (Qq.calls k5 _ _ ((Qb ((Qa t411 x6_2).f5) x7_3).f3) _ _ ((Qb t414 x9_5).f3) true _ ?side1 ?side2 ?side3 ?side4 A39.out).mono ?_);(case side1=>repeat (first|(first|exact (Kd.C_below HR425_3.out HB.out)|exact HR425_3.out)|(with_reducible refine Kd.C_alloc ?_ _)|(with_reducible refine Kd.C_drewN ?_ _)|(with_reducible refine Kd.C_drew ?_)));(case side2=>exact HC425_3.out);(case side3=>repeat (first|exact (zzC HR427_3.out)|(with_reducible refine Kd.C_alloc ?_ _)|(with_reducible refine Kd.C_drewN ?_ _)|(with_reducible refine Kd.C_drew ?_)));(case side4=>exact HC427_3.out);rintro e w' ⟨rfl,⟨nd,rfl⟩⟩;(try first|exact ⟨rfl,_,World.drewN_drewN _ _ _⟩|exact ⟨rfl,_,Eq.trans (World.drewN_drewN _ _ _) (congrArg (World.drewN _) (Nat.add_assoc _ _ _))⟩);have p429 : 0≤(x9_5:Int):=zzt;have q429:x9_5 < (t414.length:Int):=zzt;obtain ⟨ad429,A429_3,c429_3,A429_5,c429_5,e429,hx429_0,hx429_1,hx429_2,hx429_3,hx429_4,hx429_5,hl429_3,hi429_3,hl429_5,hi429_5⟩:=Qy (Kd.N_reads' HO_4.out).2.2 x9_5 p429 q429;obtain rfl:ad427=ad429:=(by injection e429);obtain ⟨ce429,hce429,hMe429,hcc429⟩:=Kd.N_get HO_4.out z30 x9_5 p429 (by first|exact q429|exact zzt|(have e_:=(Kd.N_reads' HO_4.out).1;omega));obtain ⟨ua429_3,uc429_3,ua429_5,uc429_5,rfl,ul429_3,ge429_3,ul429_5,ge429_5⟩:=k30_openF hMe429;have hv429_3:=hcc429 3 _ rfl;rw [add_field _ _ 3 (by omega)] at hv429_3;replace hv429_3:=Option.some.inj (hv429_3.symm.trans hx429_3);injection hv429_3 with hva_ hvn_ hvc_;rw [hva_] at ge429_3;rw [hvc_] at ul429_3;have HL429_3:=zzm (show Kd.V (Kd.int .i64) 3 _ w.heap.size _ _ ((Qb t414 x9_5).f3) from Kd.V_mk ul429_3 ge429_3);clear hva_ hvn_ hvc_ ge429_3 ul429_3;have hv429_5:=hcc429 5 _ rfl;rw [add_field _ _ 5 (by omega)] at hv429_5;replace hv429_5:=Option.some.inj (hv429_5.symm.trans hx429_5);injection hv429_5 with hva_ hvn_ hvc_;rw [hva_] at ge429_5;rw [hvc_] at ul429_5;have HL429_5:=zzm (show Kd.V (Kd.int .i64) 3 _ w.heap.size _ _ ((Qb t414 x9_5).f5) from Kd.V_mk ul429_5 ge429_5);clear hva_ hvn_ hvc_ ge429_5 ul429_5 hcc429 hce429;have HR429_3:=zzm hi429_3;have HC429_3:=zzm hl429_3;clear hi429_3 hl429_3;have HR429_5:=zzm hi429_5;have HC429_5:=zzm hl429_5;clear hi429_5 hl429_5;replace p429:=eq_true p429;replace q429:=eq_true q429;have ea_:=Option.some.inj (hx427_3.symm.trans hx429_3);injection ea_ with ea_ en_ ec_;subst ea_;subst ec_;clear en_;have ea_:=Option.some.inj (hx427_5.symm.trans hx429_5);injection ea_ with ea_ en_ ec_;subst ea_;subst ec_;clear en_));repeat (go_quiet (first|(go_at_call 19;(with_reducible refine (Qq.calls k5 _ _ ((Qb ((Qa t411 x6_2).f5) x7_3).f3) _ _ ((Qb t414 x9_5).f3) true _ ?side1 ?side2 ?side3 ?side4 A39.out).mono ?_);(case side1=>repeat (first|(first|exact (Kd.C_below HR425_3.out HB.out)|exact HR425_3.out)|(with_reducible refine Kd.C_alloc ?_ _)|(with_reducible refine Kd.C_drewN ?_ _)|(with_reducible refine Kd.C_drew ?_)));(case side2=>exact HC425_3.out);(case side3=>repeat (first|exact (zzC HR427_3.out)|(with_reducible refine Kd.C_alloc ?_ _)|(with_reducible refine Kd.C_drewN ?_ _)|(with_reducible refine Kd.C_drew ?_)));(case side4=>exact HC427_3.out);rintro e w' ⟨rfl,⟨nd,rfl⟩⟩;(try first|exact ⟨rfl,_,World.drewN_drewN _ _ _⟩|exact ⟨rfl,_,Eq.trans (World.drewN_drewN _ _ _) (congrArg (World.drewN _) (Nat.add_assoc _ _ _))⟩);have p429 : 0≤(x9_5:Int):=zzt;have q429:x9_5 < (t414.length:Int):=zzt;obtain ⟨ad429,A429_3,c429_3,A429_5,c429_5,e429,hx429_0,hx429_1,hx429_2,hx429_3,hx429_4,hx429_5,hl429_3,hi429_3,hl429_5,hi429_5⟩:=Qy (Kd.N_reads' HO_4.out).2.2 x9_5 p429 q429;obtain rfl:ad427=ad429:=(by injection e429);obtain ⟨ce429,hce429,hMe429,hcc429⟩:=Kd.N_get HO_4.out z30 x9_5 p429 (by first|exact q429|exact zzt|(have e_:=(Kd.N_reads' HO_4.out).1;omega));obtain ⟨ua429_3,uc429_3,ua429_5,uc429_5,rfl,ul429_3,ge429_3,ul429_5,ge429_5⟩:=k30_openF hMe429;have hv429_3:=hcc429 3 _ rfl;rw [add_field _ _ 3 (by omega)] at hv429_3;replace hv429_3:=Option.some.inj (hv429_3.symm.trans hx429_3);injection hv429_3 with hva_ hvn_ hvc_;rw [hva_] at ge429_3;rw [hvc_] at ul429_3;have HL429_3:=zzm (show Kd.V (Kd.int .i64) 3 _ w.heap.size _ _ ((Qb t414 x9_5).f3) from Kd.V_mk ul429_3 ge429_3);clear hva_ hvn_ hvc_ ge429_3 ul429_3;have hv429_5:=hcc429 5 _ rfl;rw [add_field _ _ 5 (by omega)] at hv429_5;replace hv429_5:=Option.some.inj (hv429_5.symm.trans hx429_5);injection hv429_5 with hva_ hvn_ hvc_;rw [hva_] at ge429_5;rw [hvc_] at ul429_5;have HL429_5:=zzm (show Kd.V (Kd.int .i64) 3 _ w.heap.size _ _ ((Qb t414 x9_5).f5) from Kd.V_mk ul429_5 ge429_5);clear hva_ hvn_ hvc_ ge429_5 ul429_5 hcc429 hce429;have HR429_3:=zzm hi429_3;have HC429_3:=zzm hl429_3;clear hi429_3 hl429_3;have HR429_5:=zzm hi429_5;have HC429_5:=zzm hl429_5;clear hi429_5 hl429_5;replace p429:=eq_true p429;replace q429:=eq_true q429;have ea_:=Option.some.inj (hx427_3.symm.trans hx429_3);injection ea_ with ea_ en_ ec_;subst ea_;subst ec_;clear en_;have ea_:=Option.some.inj (hx427_5.symm.trans hx429_5);injection ea_ with ea_ en_ ec_;subst ea_;subst ec_;clear en_));try go_wp2_with (first|(go_at_call 19;(with_reducible refine (Qq.calls k5 _ _ ((Qb ((Qa t411 x6_2).f5) x7_3).f3) _ _ ((Qb t414 x9_5).f3) true _ ?side1 ?side2 ?side3 ?side4 A39.out).mono ?_);(case side1=>repeat (first|(first|exact (Kd.C_below HR425_3.out HB.out)|exact HR425_3.out)|(with_reducible refine Kd.C_alloc ?_ _)|(with_reducible refine Kd.C_drewN ?_ _)|(with_reducible refine Kd.C_drew ?_)));(case side2=>exact HC425_3.out);(case side3=>repeat (first|exact (zzC HR427_3.out)|(with_reducible refine Kd.C_alloc ?_ _)|(with_reducible refine Kd.C_drewN ?_ _)|(with_reducible refine Kd.C_drew ?_)));(case side4=>exact HC427_3.out);rintro e w' ⟨rfl,⟨nd,rfl⟩⟩;(try first|exact ⟨rfl,_,World.drewN_drewN _ _ _⟩|exact ⟨rfl,_,Eq.trans (World.drewN_drewN _ _ _) (congrArg (World.drewN _) (Nat.add_assoc _ _ _))⟩);have p429 : 0≤(x9_5:Int):=zzt;have q429:x9_5 < (t414.length:Int):=zzt;obtain ⟨ad429,A429_3,c429_3,A429_5,c429_5,e429,hx429_0,hx429_1,hx429_2,hx429_3,hx429_4,hx429_5,hl429_3,hi429_3,hl429_5,hi429_5⟩:=Qy (Kd.N_reads' HO_4.out).2.2 x9_5 p429 q429;obtain rfl:ad427=ad429:=(by injection e429);obtain ⟨ce429,hce429,hMe429,hcc429⟩:=Kd.N_get HO_4.out z30 x9_5 p429 (by first|exact q429|exact zzt|(have e_:=(Kd.N_reads' HO_4.out).1;omega));obtain ⟨ua429_3,uc429_3,ua429_5,uc429_5,rfl,ul429_3,ge429_3,ul429_5,ge429_5⟩:=k30_openF hMe429;have hv429_3:=hcc429 3 _ rfl;rw [add_field _ _ 3 (by omega)] at hv429_3;replace hv429_3:=Option.some.inj (hv429_3.symm.trans hx429_3);injection hv429_3 with hva_ hvn_ hvc_;rw [hva_] at ge429_3;rw [hvc_] at ul429_3;have HL429_3:=zzm (show Kd.V (Kd.int .i64) 3 _ w.heap.size _ _ ((Qb t414 x9_5).f3) from Kd.V_mk ul429_3 ge429_3);clear hva_ hvn_ hvc_ ge429_3 ul429_3;have hv429_5:=hcc429 5 _ rfl;rw [add_field _ _ 5 (by omega)] at hv429_5;replace hv429_5:=Option.some.inj (hv429_5.symm.trans hx429_5);injection hv429_5 with hva_ hvn_ hvc_;rw [hva_] at ge429_5;rw [hvc_] at ul429_5;have HL429_5:=zzm (show Kd.V (Kd.int .i64) 3 _ w.heap.size _ _ ((Qb t414 x9_5).f5) from Kd.V_mk ul429_5 ge429_5);clear hva_ hvn_ hvc_ ge429_5 ul429_5 hcc429 hce429;have HR429_3:=zzm hi429_3;have HC429_3:=zzm hl429_3;clear hi429_3 hl429_3;have HR429_5:=zzm hi429_5;have HC429_5:=zzm hl429_5;clear hi429_5 hl429_5;replace p429:=eq_true p429;replace q429:=eq_true q429;have ea_:=Option.some.inj (hx427_3.symm.trans hx429_3);injection ea_ with ea_ en_ ec_;subst ea_;subst ec_;clear en_;have ea_:=Option.some.inj (hx427_5.symm.trans hx429_5);injection ea_ with ea_ en_ ec_;subst ea_;subst ec_;clear en_)))
                        go_ret;exact ⟨by first|rfl|(simp [errW_none,errW_some] <;> rfl)|(simp [*,errW_none,errW_some] <;> rfl),by repeat (first|(with_reducible first|exact HB.out|apply zza|apply zzb|apply zzc|refine zzd ?_ GE426.out)|exact HB.out)⟩
                       ·
                        rw [if_neg c41] at H;have c41b0:decide (((Qb t414 x9_5).f0) < ((Qb ((Qa t411 x6_2).f5) x7_3).f0))=false:=decide_eq_false c41;clear c41;have H':=zzm H;clear H;obtain ⟨Ao44,co44,eo44⟩:=Kd.N_slice HO_4.out;subst eo44;obtain ⟨hcz45_0,hcz45_1,hcz45_2,hcz45_3,hcz45_4,hcz45_5,hfz45_0,hfz45_1,hfz45_2,hfz45_3,hfz45_4,hfz45_5⟩:=zzc6 BK426.out
                        (try rw [c37b0] at hcz45_2)
                        (try clear c37b0);have p427 : 0≤(x9_5:Int):=zzt;have q427:x9_5 < (t414.length:Int):=zzt;obtain ⟨ad427,A427_3,c427_3,A427_5,c427_5,e427,hx427_0,hx427_1,hx427_2,hx427_3,hx427_4,hx427_5,hl427_3,hi427_3,hl427_5,hi427_5⟩:=Qy (Kd.N_reads' HO_4.out).2.2 x9_5 p427 q427;cases e427;obtain ⟨ce427,hce427,hMe427,hcc427⟩:=Kd.N_get HO_4.out z30 x9_5 p427 (by first|exact q427|exact zzt|(have e_:=(Kd.N_reads' HO_4.out).1;omega));obtain ⟨ua427_3,uc427_3,ua427_5,uc427_5,rfl,ul427_3,ge427_3,ul427_5,ge427_5⟩:=k30_openF hMe427;have hv427_3:=hcc427 3 _ rfl;rw [add_field _ _ 3 (by omega)] at hv427_3;replace hv427_3:=Option.some.inj (hv427_3.symm.trans hx427_3);injection hv427_3 with hva_ hvn_ hvc_;rw [hva_] at ge427_3;rw [hvc_] at ul427_3;have HL427_3:=zzm (show Kd.V (Kd.int .i64) 3 _ w.heap.size _ _ ((Qb t414 x9_5).f3) from Kd.V_mk ul427_3 ge427_3);clear hva_ hvn_ hvc_ ge427_3 ul427_3;have hv427_5:=hcc427 5 _ rfl;rw [add_field _ _ 5 (by omega)] at hv427_5;replace hv427_5:=Option.some.inj (hv427_5.symm.trans hx427_5);injection hv427_5 with hva_ hvn_ hvc_;rw [hva_] at ge427_5;rw [hvc_] at ul427_5;have HL427_5:=zzm (show Kd.V (Kd.int .i64) 3 _ w.heap.size _ _ ((Qb t414 x9_5).f5) from Kd.V_mk ul427_5 ge427_5);clear hva_ hvn_ hvc_ ge427_5 ul427_5;clear hcc427 hce427;have HR427_3:=zzm hi427_3;have HC427_3:=zzm hl427_3;clear hi427_3 hl427_3;have HR427_5:=zzm hi427_5;have HC427_5:=zzm hl427_5;clear hi427_5 hl427_5;replace p427:=eq_true p427;replace q427:=eq_true q427;go_wp2_with (first|(go_at_call 19;(with_reducible refine (Qq.calls k5 _ _ ((Qb ((Qa t411 x6_2).f5) x7_3).f3) _ _ ((Qb t414 x9_5).f3) true _ ?side1 ?side2 ?side3 ?side4 A39.out).mono ?_);(case side1=>repeat (first|(first|exact (Kd.C_below HR425_3.out HB.out)|exact HR425_3.out)|(with_reducible refine Kd.C_alloc ?_ _)|(with_reducible refine Kd.C_drewN ?_ _)|(with_reducible refine Kd.C_drew ?_)));(case side2=>exact HC425_3.out);(case side3=>repeat (first|exact (zzC HR427_3.out)|(with_reducible refine Kd.C_alloc ?_ _)|(with_reducible refine Kd.C_drewN ?_ _)|(with_reducible refine Kd.C_drew ?_)));(case side4=>exact HC427_3.out);rintro e w' ⟨rfl,⟨nd,rfl⟩⟩;(try first|exact ⟨rfl,_,World.drewN_drewN _ _ _⟩|exact ⟨rfl,_,Eq.trans (World.drewN_drewN _ _ _) (congrArg (World.drewN _) (Nat.add_assoc _ _ _))⟩);have p429 : 0≤(x9_5:Int):=zzt;have q429:x9_5 < (t414.length:Int):=zzt;obtain ⟨ad429,A429_3,c429_3,A429_5,c429_5,e429,hx429_0,hx429_1,hx429_2,hx429_3,hx429_4,hx429_5,hl429_3,hi429_3,hl429_5,hi429_5⟩:=Qy (Kd.N_reads' HO_4.out).2.2 x9_5 p429 q429;obtain rfl:ad427=ad429:=(by injection e429);obtain ⟨ce429,hce429,hMe429,hcc429⟩:=Kd.N_get HO_4.out z30 x9_5 p429 (by first|exact q429|exact zzt|(have e_:=(Kd.N_reads' HO_4.out).1;omega));obtain ⟨ua429_3,uc429_3,ua429_5,uc429_5,rfl,ul429_3,ge429_3,ul429_5,ge429_5⟩:=k30_openF hMe429;have hv429_3:=hcc429 3 _ rfl;rw [add_field _ _ 3 (by omega)] at hv429_3;replace hv429_3:=Option.some.inj (hv429_3.symm.trans hx429_3);injection hv429_3 with hva_ hvn_ hvc_;rw [hva_] at ge429_3;rw [hvc_] at ul429_3;have HL429_3:=zzm (show Kd.V (Kd.int .i64) 3 _ w.heap.size _ _ ((Qb t414 x9_5).f3) from Kd.V_mk ul429_3 ge429_3);clear hva_ hvn_ hvc_ ge429_3 ul429_3;have hv429_5:=hcc429 5 _ rfl;rw [add_field _ _ 5 (by omega)] at hv429_5;replace hv429_5:=Option.some.inj (hv429_5.symm.trans hx429_5);injection hv429_5 with hva_ hvn_ hvc_;rw [hva_] at ge429_5;rw [hvc_] at ul429_5;have HL429_5:=zzm (show Kd.V (Kd.int .i64) 3 _ w.heap.size _ _ ((Qb t414 x9_5).f5) from Kd.V_mk ul429_5 ge429_5);clear hva_ hvn_ hvc_ ge429_5 ul429_5 hcc429 hce429;have HR429_3:=zzm hi429_3;have HC429_3:=zzm hl429_3;clear hi429_3 hl429_3;have HR429_5:=zzm hi429_5;have HC429_5:=zzm hl429_5;clear hi429_5 hl429_5;replace p429:=eq_true p429;replace q429:=eq_true q429;have ea_:=Option.some.inj (hx427_3.symm.trans hx429_3);injection ea_ with ea_ en_ ec_;subst ea_;subst ec_;clear en_;have ea_:=Option.some.inj (hx427_5.symm.trans hx429_5);injection ea_ with ea_ en_ ec_;subst ea_;subst ec_;clear en_));repeat (go_quiet (first|(go_at_call 19;(with_reducible refine (Qq.calls k5 _ _ ((Qb ((Qa t411 x6_2).f5) x7_3).f3) _ _ ((Qb t414 x9_5).f3) true _ ?side1 ?side2 ?side3 ?side4 A39.out).mono ?_);(case side1=>repeat (first|(first|exact (Kd.C_below HR425_3.out HB.out)|exact HR425_3.out)|(with_reducible refine Kd.C_alloc ?_ _)|(with_reducible refine Kd.C_drewN ?_ _)|(with_reducible refine Kd.C_drew ?_)));(case side2=>exact HC425_3.out);(case side3=>repeat (first|exact (zzC HR427_3.out)|(with_reducible refine Kd.C_alloc ?_ _)|(with_reducible refine Kd.C_drewN ?_ _)|(with_reducible refine Kd.C_drew ?_)));(case side4=>exact HC427_3.out);rintro e w' ⟨rfl,⟨nd,rfl⟩⟩;(try first|exact ⟨rfl,_,World.drewN_drewN _ _ _⟩|exact ⟨rfl,_,Eq.trans (World.drewN_drewN _ _ _) (congrArg (World.drewN _) (Nat.add_assoc _ _ _))⟩);have p429 : 0≤(x9_5:Int):=zzt;have q429:x9_5 < (t414.length:Int):=zzt;obtain ⟨ad429,A429_3,c429_3,A429_5,c429_5,e429,hx429_0,hx429_1,hx429_2,hx429_3,hx429_4,hx429_5,hl429_3,hi429_3,hl429_5,hi429_5⟩:=Qy (Kd.N_reads' HO_4.out).2.2 x9_5 p429 q429;obtain rfl:ad427=ad429:=(by injection e429);obtain ⟨ce429,hce429,hMe429,hcc429⟩:=Kd.N_get HO_4.out z30 x9_5 p429 (by first|exact q429|exact zzt|(have e_:=(Kd.N_reads' HO_4.out).1;omega));obtain ⟨ua429_3,uc429_3,ua429_5,uc429_5,rfl,ul429_3,ge429_3,ul429_5,ge429_5⟩:=k30_openF hMe429;have hv429_3:=hcc429 3 _ rfl;rw [add_field _ _ 3 (by omega)] at hv429_3;replace hv429_3:=Option.some.inj (hv429_3.symm.trans hx429_3);injection hv429_3 with hva_ hvn_ hvc_;rw [hva_] at ge429_3;rw [hvc_] at ul429_3;have HL429_3:=zzm (show Kd.V (Kd.int .i64) 3 _ w.heap.size _ _ ((Qb t414 x9_5).f3) from Kd.V_mk ul429_3 ge429_3);clear hva_ hvn_ hvc_ ge429_3 ul429_3;have hv429_5:=hcc429 5 _ rfl;rw [add_field _ _ 5 (by omega)] at hv429_5;replace hv429_5:=Option.some.inj (hv429_5.symm.trans hx429_5);injection hv429_5 with hva_ hvn_ hvc_;rw [hva_] at ge429_5;rw [hvc_] at ul429_5;have HL429_5:=zzm (show Kd.V (Kd.int .i64) 3 _ w.heap.size _ _ ((Qb t414 x9_5).f5) from Kd.V_mk ul429_5 ge429_5);clear hva_ hvn_ hvc_ ge429_5 ul429_5 hcc429 hce429;have HR429_3:=zzm hi429_3;have HC429_3:=zzm hl429_3;clear hi429_3 hl429_3;have HR429_5:=zzm hi429_5;have HC429_5:=zzm hl429_5;clear hi429_5 hl429_5;replace p429:=eq_true p429;replace q429:=eq_true q429;have ea_:=Option.some.inj (hx427_3.symm.trans hx429_3);injection ea_ with ea_ en_ ec_;subst ea_;subst ec_;clear en_;have ea_:=Option.some.inj (hx427_5.symm.trans hx429_5);injection ea_ with ea_ en_ ec_;subst ea_;subst ec_;clear en_));try go_wp2_with (first|(go_at_call 19;(with_reducible refine (Qq.calls k5 _ _ ((Qb ((Qa t411 x6_2).f5) x7_3).f3) _ _ ((Qb t414 x9_5).f3) true _ ?side1 ?side2 ?side3 ?side4 A39.out).mono ?_);(case side1=>repeat (first|(first|exact (Kd.C_below HR425_3.out HB.out)|exact HR425_3.out)|(with_reducible refine Kd.C_alloc ?_ _)|(with_reducible refine Kd.C_drewN ?_ _)|(with_reducible refine Kd.C_drew ?_)));(case side2=>exact HC425_3.out);(case side3=>repeat (first|exact (zzC HR427_3.out)|(with_reducible refine Kd.C_alloc ?_ _)|(with_reducible refine Kd.C_drewN ?_ _)|(with_reducible refine Kd.C_drew ?_)));(case side4=>exact HC427_3.out);rintro e w' ⟨rfl,⟨nd,rfl⟩⟩;(try first|exact ⟨rfl,_,World.drewN_drewN _ _ _⟩|exact ⟨rfl,_,Eq.trans (World.drewN_drewN _ _ _) (congrArg (World.drewN _) (Nat.add_assoc _ _ _))⟩);have p429 : 0≤(x9_5:Int):=zzt;have q429:x9_5 < (t414.length:Int):=zzt;obtain ⟨ad429,A429_3,c429_3,A429_5,c429_5,e429,hx429_0,hx429_1,hx429_2,hx429_3,hx429_4,hx429_5,hl429_3,hi429_3,hl429_5,hi429_5⟩:=Qy (Kd.N_reads' HO_4.out).2.2 x9_5 p429 q429;obtain rfl:ad427=ad429:=(by injection e429);obtain ⟨ce429,hce429,hMe429,hcc429⟩:=Kd.N_get HO_4.out z30 x9_5 p429 (by first|exact q429|exact zzt|(have e_:=(Kd.N_reads' HO_4.out).1;omega));obtain ⟨ua429_3,uc429_3,ua429_5,uc429_5,rfl,ul429_3,ge429_3,ul429_5,ge429_5⟩:=k30_openF hMe429;have hv429_3:=hcc429 3 _ rfl;rw [add_field _ _ 3 (by omega)] at hv429_3;replace hv429_3:=Option.some.inj (hv429_3.symm.trans hx429_3);injection hv429_3 with hva_ hvn_ hvc_;rw [hva_] at ge429_3;rw [hvc_] at ul429_3;have HL429_3:=zzm (show Kd.V (Kd.int .i64) 3 _ w.heap.size _ _ ((Qb t414 x9_5).f3) from Kd.V_mk ul429_3 ge429_3);clear hva_ hvn_ hvc_ ge429_3 ul429_3;have hv429_5:=hcc429 5 _ rfl;rw [add_field _ _ 5 (by omega)] at hv429_5;replace hv429_5:=Option.some.inj (hv429_5.symm.trans hx429_5);injection hv429_5 with hva_ hvn_ hvc_;rw [hva_] at ge429_5;rw [hvc_] at ul429_5;have HL429_5:=zzm (show Kd.V (Kd.int .i64) 3 _ w.heap.size _ _ ((Qb t414 x9_5).f5) from Kd.V_mk ul429_5 ge429_5);clear hva_ hvn_ hvc_ ge429_5 ul429_5 hcc429 hce429;have HR429_3:=zzm hi429_3;have HC429_3:=zzm hl429_3;clear hi429_3 hl429_3;have HR429_5:=zzm hi429_5;have HC429_5:=zzm hl429_5;clear hi429_5 hl429_5;replace p429:=eq_true p429;replace q429:=eq_true q429;have ea_:=Option.some.inj (hx427_3.symm.trans hx429_3);injection ea_ with ea_ en_ ec_;subst ea_;subst ec_;clear en_;have ea_:=Option.some.inj (hx427_5.symm.trans hx429_5);injection ea_ with ea_ en_ ec_;subst ea_;subst ec_;clear en_)))
                        go_roundg k5
                        case measure=>have:=HJ5.out;have:=HK2.out;have:=HK3.out;have:=HJ24.out;have:=HK5.out;omega
                        case rel=>exact ⟨(wrap64 (x9_5+1)),(by first|rfl|(simp;done)|(simp [*];done)),H',⟨by have:=HJ5.out;have:=HK2.out;have:=HK3.out;have:=HJ24.out;have:=HK5.out;omega⟩,⟨by (with_reducible repeat (first|apply Kd.N_alloc|apply Kd.N_drewN|apply Kd.N_drew));exact HO_3.out⟩,⟨by (with_reducible repeat (first|apply Kd.N_alloc|apply Kd.N_drewN|apply Kd.N_drew));exact HO_4.out⟩,⟨by (with_reducible repeat (first|apply zzf|apply zzg|apply zze));exact BK426.out⟩,⟨by repeat (first|(with_reducible exact HR424_5.out)|(with_reducible refine Kd.C_alloc ?_ _)|(with_reducible refine Kd.C_drewN ?_ _)|(with_reducible refine Kd.C_drew ?_)|exact HR424_5.out)⟩,⟨by repeat (first|(with_reducible exact HR425_3.out)|(with_reducible refine Kd.C_alloc ?_ _)|(with_reducible refine Kd.C_drewN ?_ _)|(with_reducible refine Kd.C_drew ?_)|exact HR425_3.out)⟩,⟨by repeat (first|(with_reducible exact HR425_5.out)|(with_reducible refine Kd.C_alloc ?_ _)|(with_reducible refine Kd.C_drewN ?_ _)|(with_reducible refine Kd.C_drew ?_)|exact HR425_5.out)⟩,⟨by repeat (first|(with_reducible first|exact HB.out|apply zza|apply zzb|apply zzc|refine zzd ?_ GE426.out)|exact HB.out)⟩⟩
                      ·
                       replace c40:=Bool.eq_false_iff.mpr c40;subst c40;have H1:(laws_FnStateLast.l2 k5 t411 t414 x6_2 x7_3 (wrap64 (x9_5+1)) ((Qb ((Qa t411 x6_2).f5) x7_3).f0) ((Qb ((Qa t411 x6_2).f5) x7_3).f1) ((Qb ((Qa t411 x6_2).f5) x7_3).f2) ((Qb ((Qa t411 x6_2).f5) x7_3).f3) ((Qb ((Qa t411 x6_2).f5) x7_3).f4) ((Qb ((Qa t411 x6_2).f5) x7_3).f5))=some r:=by rw [if_neg (show ¬ (false=true) by decide)] at H;exact H
                       clear H;have H:=H1;clear H1;have H':=zzm H;clear H;obtain ⟨Ao46,co46,eo46⟩:=Kd.N_slice HO_4.out;subst eo46;obtain ⟨hcz47_0,hcz47_1,hcz47_2,hcz47_3,hcz47_4,hcz47_5,hfz47_0,hfz47_1,hfz47_2,hfz47_3,hfz47_4,hfz47_5⟩:=zzc6 BK426.out
                       (try rw [c37b0] at hcz47_2)
                       (try clear c37b0);have p427 : 0≤(x9_5:Int):=zzt;have q427:x9_5 < (t414.length:Int):=zzt;obtain ⟨ad427,A427_3,c427_3,A427_5,c427_5,e427,hx427_0,hx427_1,hx427_2,hx427_3,hx427_4,hx427_5,hl427_3,hi427_3,hl427_5,hi427_5⟩:=Qy (Kd.N_reads' HO_4.out).2.2 x9_5 p427 q427;cases e427;obtain ⟨ce427,hce427,hMe427,hcc427⟩:=Kd.N_get HO_4.out z30 x9_5 p427 (by first|exact q427|exact zzt|(have e_:=(Kd.N_reads' HO_4.out).1;omega));obtain ⟨ua427_3,uc427_3,ua427_5,uc427_5,rfl,ul427_3,ge427_3,ul427_5,ge427_5⟩:=k30_openF hMe427;have hv427_3:=hcc427 3 _ rfl;rw [add_field _ _ 3 (by omega)] at hv427_3;replace hv427_3:=Option.some.inj (hv427_3.symm.trans hx427_3);injection hv427_3 with hva_ hvn_ hvc_;rw [hva_] at ge427_3;rw [hvc_] at ul427_3;have HL427_3:=zzm (show Kd.V (Kd.int .i64) 3 _ w.heap.size _ _ ((Qb t414 x9_5).f3) from Kd.V_mk ul427_3 ge427_3);clear hva_ hvn_ hvc_ ge427_3 ul427_3;have hv427_5:=hcc427 5 _ rfl;rw [add_field _ _ 5 (by omega)] at hv427_5;replace hv427_5:=Option.some.inj (hv427_5.symm.trans hx427_5);injection hv427_5 with hva_ hvn_ hvc_;rw [hva_] at ge427_5;rw [hvc_] at ul427_5;have HL427_5:=zzm (show Kd.V (Kd.int .i64) 3 _ w.heap.size _ _ ((Qb t414 x9_5).f5) from Kd.V_mk ul427_5 ge427_5);clear hva_ hvn_ hvc_ ge427_5 ul427_5;clear hcc427 hce427;have HR427_3:=zzm hi427_3;have HC427_3:=zzm hl427_3;clear hi427_3 hl427_3;have HR427_5:=zzm hi427_5;have HC427_5:=zzm hl427_5;clear hi427_5 hl427_5;replace p427:=eq_true p427;replace q427:=eq_true q427;go_wp2_with (first|(go_at_call 19;(with_reducible refine (Qq.calls k5 _ _ ((Qb ((Qa t411 x6_2).f5) x7_3).f3) _ _ ((Qb t414 x9_5).f3) false _ ?side1 ?side2 ?side3 ?side4 A39.out).mono ?_);(case side1=>repeat (first|(first|exact (Kd.C_below HR425_3.out HB.out)|exact HR425_3.out)|(with_reducible refine Kd.C_alloc ?_ _)|(with_reducible refine Kd.C_drewN ?_ _)|(with_reducible refine Kd.C_drew ?_)));(case side2=>exact HC425_3.out);(case side3=>repeat (first|exact (zzC HR427_3.out)|(with_reducible refine Kd.C_alloc ?_ _)|(with_reducible refine Kd.C_drewN ?_ _)|(with_reducible refine Kd.C_drew ?_)));(case side4=>exact HC427_3.out);rintro e w' ⟨rfl,⟨nd,rfl⟩⟩;(try first|exact ⟨rfl,_,World.drewN_drewN _ _ _⟩|exact ⟨rfl,_,Eq.trans (World.drewN_drewN _ _ _) (congrArg (World.drewN _) (Nat.add_assoc _ _ _))⟩)));repeat (go_quiet (first|(go_at_call 19;(with_reducible refine (Qq.calls k5 _ _ ((Qb ((Qa t411 x6_2).f5) x7_3).f3) _ _ ((Qb t414 x9_5).f3) false _ ?side1 ?side2 ?side3 ?side4 A39.out).mono ?_);(case side1=>repeat (first|(first|exact (Kd.C_below HR425_3.out HB.out)|exact HR425_3.out)|(with_reducible refine Kd.C_alloc ?_ _)|(with_reducible refine Kd.C_drewN ?_ _)|(with_reducible refine Kd.C_drew ?_)));(case side2=>exact HC425_3.out);(case side3=>repeat (first|exact (zzC HR427_3.out)|(with_reducible refine Kd.C_alloc ?_ _)|(with_reducible refine Kd.C_drewN ?_ _)|(with_reducible refine Kd.C_drew ?_)));(case side4=>exact HC427_3.out);rintro e w' ⟨rfl,⟨nd,rfl⟩⟩;(try first|exact ⟨rfl,_,World.drewN_drewN _ _ _⟩|exact ⟨rfl,_,Eq.trans (World.drewN_drewN _ _ _) (congrArg (World.drewN _) (Nat.add_assoc _ _ _))⟩)));try go_wp2_with (first|(go_at_call 19;(with_reducible refine (Qq.calls k5 _ _ ((Qb ((Qa t411 x6_2).f5) x7_3).f3) _ _ ((Qb t414 x9_5).f3) false _ ?side1 ?side2 ?side3 ?side4 A39.out).mono ?_);(case side1=>repeat (first|(first|exact (Kd.C_below HR425_3.out HB.out)|exact HR425_3.out)|(with_reducible refine Kd.C_alloc ?_ _)|(with_reducible refine Kd.C_drewN ?_ _)|(with_reducible refine Kd.C_drew ?_)));(case side2=>exact HC425_3.out);(case side3=>repeat (first|exact (zzC HR427_3.out)|(with_reducible refine Kd.C_alloc ?_ _)|(with_reducible refine Kd.C_drewN ?_ _)|(with_reducible refine Kd.C_drew ?_)));(case side4=>exact HC427_3.out);rintro e w' ⟨rfl,⟨nd,rfl⟩⟩;(try first|exact ⟨rfl,_,World.drewN_drewN _ _ _⟩|exact ⟨rfl,_,Eq.trans (World.drewN_drewN _ _ _) (congrArg (World.drewN _) (Nat.add_assoc _ _ _))⟩))))
                       go_roundg k5
                       case measure=>have:=HJ5.out;have:=HK2.out;have:=HK3.out;have:=HJ24.out;have:=HK5.out;omega
                       case rel=>exact ⟨(wrap64 (x9_5+1)),(by first|rfl|(simp;done)|(simp [*];done)),H',⟨by have:=HJ5.out;have:=HK2.out;have:=HK3.out;have:=HJ24.out;have:=HK5.out;omega⟩,⟨by (with_reducible repeat (first|apply Kd.N_alloc|apply Kd.N_drewN|apply Kd.N_drew));exact HO_3.out⟩,⟨by (with_reducible repeat (first|apply Kd.N_alloc|apply Kd.N_drewN|apply Kd.N_drew));exact HO_4.out⟩,⟨by (with_reducible repeat (first|apply zzf|apply zzg|apply zze));exact BK426.out⟩,⟨by repeat (first|(with_reducible exact HR424_5.out)|(with_reducible refine Kd.C_alloc ?_ _)|(with_reducible refine Kd.C_drewN ?_ _)|(with_reducible refine Kd.C_drew ?_)|exact HR424_5.out)⟩,⟨by repeat (first|(with_reducible exact HR425_3.out)|(with_reducible refine Kd.C_alloc ?_ _)|(with_reducible refine Kd.C_drewN ?_ _)|(with_reducible refine Kd.C_drew ?_)|exact HR425_3.out)⟩,⟨by repeat (first|(with_reducible exact HR425_5.out)|(with_reducible refine Kd.C_alloc ?_ _)|(with_reducible refine Kd.C_drewN ?_ _)|(with_reducible refine Kd.C_drew ?_)|exact HR425_5.out)⟩,⟨by repeat (first|(with_reducible first|exact HB.out|apply zza|apply zzb|apply zzc|refine zzd ?_ GE426.out)|exact HB.out)⟩⟩
                     ·
                      rw [if_neg c38] at H;exact absurd H (by simp)
                    ·
                     rw [if_neg c37] at H;have c37b0:((Qb ((Qa t411 x6_2).f5) x7_3).f2)=false:=by simpa using c37
                     clear c37;have H':=zzm H;clear H;obtain ⟨Ao48,co48,eo48⟩:=Kd.N_slice HO_4.out;subst eo48;obtain ⟨hcz49_0,hcz49_1,hcz49_2,hcz49_3,hcz49_4,hcz49_5,hfz49_0,hfz49_1,hfz49_2,hfz49_3,hfz49_4,hfz49_5⟩:=zzc6 BK426.out
                     (try rw [c37b0] at hcz49_2)
                     (try clear c37b0);go_wp2;repeat (go_quiet (fail);try go_wp2)
                     go_roundg k5
                     case measure=>have:=HJ5.out;have:=HK2.out;have:=HK3.out;have:=HJ24.out;have:=HK5.out;omega
                     case rel=>exact ⟨(wrap64 (x9_5+1)),(by first|rfl|(simp;done)|(simp [*];done)),H',⟨by have:=HJ5.out;have:=HK2.out;have:=HK3.out;have:=HJ24.out;have:=HK5.out;omega⟩,⟨by (with_reducible repeat (first|apply Kd.N_alloc|apply Kd.N_drewN|apply Kd.N_drew));exact HO_3.out⟩,⟨by (with_reducible repeat (first|apply Kd.N_alloc|apply Kd.N_drewN|apply Kd.N_drew));exact HO_4.out⟩,⟨by (with_reducible repeat (first|apply zzf|apply zzg|apply zze));exact BK426.out⟩,⟨by repeat (first|(with_reducible exact HR424_5.out)|(with_reducible refine Kd.C_alloc ?_ _)|(with_reducible refine Kd.C_drewN ?_ _)|(with_reducible refine Kd.C_drew ?_)|exact HR424_5.out)⟩,⟨by repeat (first|(with_reducible exact HR425_3.out)|(with_reducible refine Kd.C_alloc ?_ _)|(with_reducible refine Kd.C_drewN ?_ _)|(with_reducible refine Kd.C_drew ?_)|exact HR425_3.out)⟩,⟨by repeat (first|(with_reducible exact HR425_5.out)|(with_reducible refine Kd.C_alloc ?_ _)|(with_reducible refine Kd.C_drewN ?_ _)|(with_reducible refine Kd.C_drew ?_)|exact HR425_5.out)⟩,⟨by repeat (first|(with_reducible first|exact HB.out|apply zza|apply zzb|apply zzc|refine zzd ?_ GE426.out)|exact HB.out)⟩⟩
                   ·
                    rw [if_neg c36] at H;have c36b0:decide (x9_5 < (t414.length:Int))=false:=decide_eq_false c36;clear c36;have H':=zzm H;clear H;obtain ⟨Ao50,co50,eo50⟩:=Kd.N_slice HO_4.out;subst eo50;go_wp2;repeat (go_quiet (fail);try go_wp2)
                    go_roundg k5
                    case measure=>have:=HJ5.out;have:=HK2.out;have:=HK3.out;have:=HJ24.out;have:=HK5.out;omega
                    case rel=>exact ⟨(wrap64 (x7_3+1)),(by first|rfl|(simp;done)|(simp [*];done)),H',⟨by have:=HJ5.out;have:=HK2.out;have:=HK3.out;have:=HJ24.out;have:=HK5.out;omega⟩,⟨by (with_reducible repeat (first|apply Kd.N_alloc|apply Kd.N_drewN|apply Kd.N_drew));exact Kd.N_mono HO_3.out (fun _ hk=>hk.1)⟩,⟨by (with_reducible repeat (first|apply Kd.N_alloc|apply Kd.N_drewN|apply Kd.N_drew));exact Kd.N_mono HO_4.out (fun _ hk=>hk.1)⟩,⟨by repeat (first|(with_reducible first|exact HB.out|apply zza|apply zzb|apply zzc|refine zzd ?_ GE426.out)|exact HB.out)⟩⟩
                ·
                 rw [if_neg c33] at H;exact absurd H (by simp)
               ·
                rw [if_neg c32] at H;exact absurd H (by simp)
              ·
               rw [if_neg c31] at H;exact absurd H (by simp)
             ·
              rw [if_neg c30] at H;exact absurd H (by simp)
            ·
             replace c29:=Bool.eq_false_iff.mpr c29;subst c29;have H1:(laws_FnStateLast.l0 kj24 t411 t414 (wrap64 (x6_2+1)))=some r:=by rw [if_neg (show ¬ (false=true) by decide)] at H;exact H
             clear H;have H:=H1;clear H1;have H':=zzm H;clear H;go_wp2;repeat (go_quiet (fail);try go_wp2)
             go_roundg kj24
             case measure=>have:=HJ5.out;have:=HK2.out;have:=HK3.out;have:=HJ24.out;omega
             case rel=>exact ⟨(wrap64 (x6_2+1)),(by first|rfl|(simp;done)|(simp [*];done)),H',⟨by have:=HJ5.out;have:=HK2.out;have:=HK3.out;have:=HJ24.out;omega⟩,⟨by (with_reducible repeat (first|apply Kd.N_alloc|apply Kd.N_drewN|apply Kd.N_drew));exact HO_3.out⟩,⟨by (with_reducible repeat (first|apply Kd.N_alloc|apply Kd.N_drewN|apply Kd.N_drew));exact HO_4.out⟩,⟨zzh1⟩⟩
       ·
        rw [if_neg c24] at H;have c24b0:decide (x6_2 < (t411.length:Int))=false:=decide_eq_false c24;clear c24;obtain rfl:=Option.some.inj H;go_wp2;repeat (go_quiet (fail);try go_wp2)
        go_ret;exact ⟨by first|rfl|(simp [errW_none,errW_some] <;> rfl)|(simp [*,errW_none,errW_some] <;> rfl),zzh1⟩
def laws_FnStateLast.Pure:Prop:=∀ (l0:List Int),l0.length≤maxLen→l0.length * 1≤140737488351232→(∀ x∈l0,(Lit.int .u8 x).wf=true)→∃ k,laws_FnStateLast.f k l0=some true
theorem laws_FnStateLast.walk (P:laws_FnStateLast.Pure) (a0:Option Addr) (len0 cap0:Nat) (z0:List Int) (w:World) (w0:(a0=none∧len0=0∧cap0=0∧z0 = [])∨∃ x,a0=some x∧len0≤cap0∧cap0≤maxLen∧z0.length=cap0∧(∀ i,i < z0.length→w.cell? (x.add i)=some (.int .u8 (z0.getD i 0)))∧∀ n∈z0,(Lit.int .u8 n).wf=true) (y0:len0 * 1≤140737488351232) :
  Calls Try.prog 4 #[.slice a0 len0 cap0] w fun e w'=>e = .returned (.bool true)∧Below w.heap.size w w':=by
 obtain ⟨l0,rfl,hr0,hm0,hw0,hc0⟩:=ReadsInt.ofRowC w0;obtain ⟨k,h⟩:=P l0 hm0 y0 hw0;refine (laws_FnStateLast.calls k _ _ l0 true w (Kd.C_of_reads (d:=(0:Int)) (h1:=fun _=>rfl) hr0) hc0 h).mono ?_;rintro e w' ⟨rfl,hd⟩;exact ⟨rfl,hd⟩
end Go.Proofs.Ytkhjmhdgcmffaaa.U
namespace Go.Proofs.Ytkhjmhdgcmffaaa.UQ
open Go.RowKit Go.Proofs.Ytkhjmhdgcmffaaa.U Go.Proofs.YtkhjmhdgcmffaaaW.PrintWords Go.Proofs.YtkhjmhdgcmffaaaW.PrintLast
set_option linter.unusedVariables false
set_option linter.unusedSimpArgs false
theorem vl_true {l:List Bt} (h:VL l):vl l=true:=(vl_iff l).2 h
theorem vl_false {l:List Bt} (h:¬ VL l):vl l=false:=by rw [← Bool.not_eq_true,vl_iff];exact h
theorem wstep (j:Nat) (h:j < 4000000000000000):wrap64 ((j:Int)+1)=((j+1:Nat):Int):=by rw [wrap_id (by omega) (by omega)];omega
def okc (r:Rc):Prop:=r.f3.length≤1048576∧r.f5.length≤1048576
theorem pv_len {has:Bool} {l:List Int} (h:pv has l=true):l.length≤12:=by
 unfold pv at h
 split at h
 ·rw [Bool.and_eq_true,decide_eq_true_eq] at h
  exact h.1
 ·rw [decide_eq_true_eq] at h
  omega
theorem rv_okc {r:Rc} (h:rv r=true):r.f3.length≤12∧r.f5.length≤12:=by
 unfold rv at h
 rw [Bool.and_eq_true,Bool.and_eq_true] at h
 exact ⟨pv_len h.2.1,pv_len h.2.2⟩
theorem rv_range {r:Rc} (h:rv r=true) : 0≤r.f0∧r.f0≤99999:=by
 unfold rv at h
 rw [Bool.and_eq_true,decide_eq_true_eq] at h
 exact h.1.1
theorem rv_key {r:Rc} (h:rv r=true) (h2:r.f2=true):ab r.f3=true:=by
 unfold rv pv at h
 rw [Bool.and_eq_true,Bool.and_eq_true,if_pos h2,Bool.and_eq_true] at h
 exact h.2.1.2
theorem mem_pts {l:List Bt} {x:Nat×Nat} : x∈pts l↔x.1 < l.length∧x.2 < (rb l (x.1:Int)).f5.length:=by
 unfold pts ptsTo ptsRow
 rw [List.mem_flatMap]
 constructor
 ·rintro ⟨i,hi,hx⟩
  obtain ⟨j,hj,rfl⟩:=List.mem_map.1 hx
  exact ⟨List.mem_range.1 hi,List.mem_range.1 hj⟩
 ·rintro ⟨h1,h2⟩
  exact ⟨x.1,List.mem_range.2 h1,List.mem_map.2 ⟨x.2,List.mem_range.2 h2,rfl⟩⟩
def offP (l:List Bt) (x:Nat×Nat):Int:=(rcOf l x).f0
theorem rv_at {l:List Bt} (h:VL l) {x:Nat×Nat} (hx:x∈pts l):rv (rcOf l x)=true:=by
 obtain ⟨h1,h2⟩:=mem_pts.1 hx
 exact ((VL_at h x.1 h1).2.2.2 x.2 (Nat.zero_le _) h2).1
theorem RF_le {r:List Rc} (h:RF r 0) {i j:Nat} (hij:i≤j) (hj:j < r.length):(rr r (i:Int)).f0≤(rr r (j:Int)).f0:=by
 rcases Nat.lt_or_ge i j with h1|h1
 ·have:=RF_lt h (j - i - 1) i (by omega)
  rw [show i+(j - i - 1)+1=j by omega] at this
  omega
 ·rw [show i=j by omega];exact Int.le_refl _
theorem fOff_le_at {l:List Bt} (h:VL l) {x:Nat×Nat} (hx:x∈pts l):fOff (rb l (x.1:Int))≤offP l x:=by
 obtain ⟨h1,h2⟩:=mem_pts.1 hx
 exact RF_le (VL_at h x.1 h1).2.2.2 (Nat.zero_le x.2) h2
theorem lOff_ge_at {l:List Bt} (h:VL l) {x:Nat×Nat} (hx:x∈pts l):offP l x≤lOff (rb l (x.1:Int)):=by
 obtain ⟨h1,h2⟩:=mem_pts.1 hx
 have:=RF_le (VL_at h x.1 h1).2.2.2 (show x.2≤(rb l (x.1:Int)).f5.length - 1 by omega) (by omega)
 unfold lOff
 rw [show ((rb l (x.1:Int)).f5.length:Int) - 1=(((rb l (x.1:Int)).f5.length - 1:Nat):Int) by omega]
 exact this
theorem VL_cross {l:List Bt} (h:VL l) {i j:Nat} (hij:i < j) (hj:j < l.length):lOff (rb l (i:Int)) < fOff (rb l (j:Int)):=by
 have h1:=(h.2 (i+1) (Nat.zero_le _) (by omega)).2 (by omega)
 rw [show ((i+1:Nat):Int) - 1=(i:Int) by omega] at h1
 rcases Nat.lt_or_ge (i+1) j with h2|h2
 ·have:=VL_lt' h h2 hj
  omega
 ·rw [show j=i+1 by omega];exact h1
theorem off_lt {l:List Bt} (h:VL l) {x y:Nat×Nat} (hx:x∈pts l) (hy:y∈pts l) (hlt:x.1 < y.1∨(x.1=y.1∧x.2 < y.2)):offP l x < offP l y:=by
 rcases hlt with h1|⟨h1,h2⟩
 ·have a:=lOff_ge_at h hx
  have b:=fOff_le_at h hy
  have c:=VL_cross h h1 (mem_pts.1 hy).1
  omega
 ·obtain ⟨y1,y2⟩:=mem_pts.1 hy
  have:=RF_lt (VL_at h y.1 y1).2.2.2 (y.2 - x.2 - 1) x.2 (by omega)
  rw [show x.2+(y.2 - x.2 - 1)+1=y.2 by omega] at this
  show (rr (rb l (x.1:Int)).f5 (x.2:Int)).f0 < (rr (rb l (y.1:Int)).f5 (y.2:Int)).f0
  rw [h1]
  exact this
theorem pts_lex (l:List Bt):(pts l).Pairwise (fun x y=>x.1 < y.1∨(x.1=y.1∧x.2 < y.2)):=by
 unfold pts ptsTo
 rw [List.pairwise_flatMap]
 refine ⟨fun i hi=>?_,?_⟩
 ·unfold ptsRow
  rw [List.pairwise_map]
  exact List.pairwise_lt_range.imp (fun hab=>.inr ⟨rfl,hab⟩)
 ·refine List.pairwise_lt_range.imp (fun {i j} hij x hx y hy=>?_)
  unfold ptsRow at hx hy
  obtain ⟨a,_,rfl⟩:=List.mem_map.1 hx
  obtain ⟨b,_,rfl⟩:=List.mem_map.1 hy
  exact .inl hij
theorem pts_sorted {l:List Bt} (h:VL l):(pts l).Pairwise (fun x y=>offP l x < offP l y):=
 (pts_lex l).imp_of_mem (fun hx hy hlt=>off_lt h hx hy hlt)
theorem ptsTo_len {l:List Bt} (h:VL l):∀ i,i≤l.length→(ptsTo l i).length≤6 * i
 | 0,_=>by simp [ptsTo]
 | i+1,hi=>by
  have ih:=ptsTo_len h i (by omega)
  have h1:=(vB_pos (VL_at h i (by omega))).2
  rw [ptsTo_succ,List.length_append]
  have h2:(ptsRow l i).length=(rb l (i:Int)).f5.length:=by unfold ptsRow;rw [List.length_map,List.length_range]
  omega
theorem pts_len {l:List Bt} (h:VL l):(pts l).length≤48:=by
 have:=ptsTo_len h l.length (Nat.le_refl _)
 have:=h.1
 show (ptsTo l l.length).length≤48
 omega
theorem rv_mem {l:List Bt} (h:VL l) {b:Bt} (hb:b∈l) {r:Rc} (hr:r∈b.f5):rv r=true:=by
 obtain ⟨j,hj,rfl⟩:=List.getElem_of_mem hb
 obtain ⟨q,hq,rfl⟩:=List.getElem_of_mem hr
 have:=((VL_at h j hj).2.2.2 q (Nat.zero_le _) (by rw [rb_nat l j hj];exact hq)).1
 rw [rb_nat l j hj,rr_nat _ q hq] at this
 exact this
theorem okLog_of {l:List Bt} (h:VL l):okLog l=true:=by
 unfold okLog
 have h1:=pts_len h
 rw [Bool.and_eq_true,decide_eq_true_eq,List.all_eq_true]
 refine ⟨by omega,fun b hb=>?_⟩
 rw [List.all_eq_true]
 intro r hr
 have hv:=rv_mem h hb hr
 have h2:=rv_range hv
 have h3:=rv_okc hv
 rw [Bool.and_eq_true,Bool.and_eq_true,Bool.and_eq_true,decide_eq_true_eq,decide_eq_true_eq,decide_eq_true_eq]
 refine ⟨⟨h2,by omega⟩,by omega,?_⟩
 rw [Bool.or_eq_true]
 cases hk:r.f2 with
 | false=>exact .inl rfl
 | true=>
  right
  have h4:=rv_key hv hk
  unfold ab at h4
  rw [decide_eq_true_eq] at h4
  unfold keyOk
  rw [Bool.and_eq_true,decide_eq_true_eq,List.all_eq_true]
  exact ⟨by omega,fun x hx=>by rw [decide_eq_true_eq];exact h4 x hx⟩
theorem hexDig_inj:∀ a b:Fin 16,hexDig ((a.1:Nat):Int)=hexDig ((b.1:Nat):Int)→a=b:=by decide +kernel
theorem hexDig_eq {x y:Int} (h0 : 0≤x) (h1:x < 16) (h2 : 0≤y) (h3:y < 16) (h:hexDig x=hexDig y):x=y:=by
 have:=hexDig_inj ⟨x.toNat,by omega⟩ ⟨y.toNat,by omega⟩ (by
  show hexDig ((x.toNat:Nat):Int)=hexDig ((y.toNat:Nat):Int)
  rw [Int.toNat_of_nonneg h0,Int.toNat_of_nonneg h2]
  exact h)
 have:=congrArg Fin.val this
 dsimp only at this
 omega
theorem hexOf_inj:∀ {a b:List Int},ab a=true→ab b=true→hexOf a=hexOf b→a=b
 | [],[],_,_,_=>rfl
 | [],y::b,_,_,h=>by simp [hexOf] at h
 | x::a,[],_,_,h=>by simp [hexOf] at h
 | x::a,y::b,ha,hb,h=>by
  rw [ab_cons,Bool.and_eq_true,decide_eq_true_eq] at ha hb
  have h1:hexDig (x / 16)=hexDig (y / 16)∧hexDig (x % 16)=hexDig (y % 16)∧hexOf a=hexOf b:=by
   have h2 : [hexDig (x / 16),hexDig (x % 16)]++hexOf a = [hexDig (y / 16),hexDig (y % 16)]++hexOf b:=h
   simp only [List.cons_append,List.nil_append,List.cons.injEq] at h2
   exact h2
  have e1:=hexDig_eq (by omega) (by omega) (by omega) (by omega) h1.1
  have e2:=hexDig_eq (by omega) (by omega) (by omega) (by omega) h1.2.1
  rw [hexOf_inj ha.2 hb.2 h1.2.2,show x=y by omega]
def cnd (l:List Bt) (kk:List UInt8) (x:Nat×Nat):Bool:=!mkOf l x&&((rcOf l x).f2&&decide (hexOf (rcOf l x).f3=kk))
theorem offStep_eq (l:List Bt) (kk:List UInt8) (a:Int) (x:Nat×Nat):offStep l kk a x=if cnd l kk x=true then offP l x else a:=rfl
theorem fold_none (l:List Bt) (kk:List UInt8):∀ (xs:List (Nat×Nat)) (a:Int),(∀ x∈xs,cnd l kk x=false)→xs.foldl (offStep l kk) a=a
 | [],a,_=>rfl
 | x::xs,a,h=>by
  rw [List.foldl_cons,offStep_eq,h x (List.mem_cons_self ..),if_neg (by simp)]
  exact fold_none l kk xs a (fun y hy=>h y (List.mem_cons_of_mem _ hy))
theorem fold_last (l:List Bt) (kk:List UInt8):∀ (xs:List (Nat×Nat)) (a:Int),xs.Pairwise (fun x y=>offP l x < offP l y)→(∃ x∈xs,cnd l kk x=true) →
  ∃ y∈xs,cnd l kk y=true∧xs.foldl (offStep l kk) a=offP l y∧∀ z∈xs,cnd l kk z=true→offP l z≤offP l y
 | [],a,_,h=>by obtain ⟨x,hx,_⟩:=h;cases hx
 | x::xs,a,hp,h=>by
  rw [List.pairwise_cons] at hp
  by_cases h1:∃ y∈xs,cnd l kk y=true
  ·obtain ⟨y,hy,hc,he,hm⟩:=fold_last l kk xs (offStep l kk a x) hp.2 h1
   refine ⟨y,List.mem_cons_of_mem _ hy,hc,he,fun z hz hzc=>?_⟩
   rcases List.mem_cons.1 hz with rfl|hz
   ·have:=hp.1 y hy;omega
   ·exact hm z hz hzc
  ·have h2:∀ y∈xs,cnd l kk y=false:=fun y hy=>by
    cases hc:cnd l kk y with
    | false=>rfl
    | true=>exact absurd ⟨y,hy,hc⟩ h1
   obtain ⟨y,hy,hc⟩:=h
   have hxc:cnd l kk x=true:=by
    rcases List.mem_cons.1 hy with rfl|hy
    ·exact hc
    ·rw [h2 y hy] at hc;cases hc
   refine ⟨x,List.mem_cons_self ..,hxc,?_,fun z hz hzc=>?_⟩
   ·rw [List.foldl_cons,fold_none l kk xs _ h2,offStep_eq,if_pos hxc]
   ·rcases List.mem_cons.1 hz with rfl|hz
    ·exact Int.le_refl _
    ·rw [h2 z hz] at hzc;cases hzc
def LatAt (l:List Bt) (r:Rc) (x:Nat×Nat):Prop:=mkOf l x=false∧(rcOf l x).f2=true∧r.f0 < (rcOf l x).f0∧(rcOf l x).f3=r.f3
def LaterP (l:List Bt) (r:Rc):Prop:=∃ x∈pts l,LatAt l r x
theorem cnd_key {l:List Bt} (h:VL l) {x y:Nat×Nat} (hx:x∈pts l) (hy:y∈pts l) (h2:(rcOf l x).f2=true):cnd l (hexOf (rcOf l x).f3) y=true↔mkOf l y=false∧(rcOf l y).f2=true∧(rcOf l y).f3=(rcOf l x).f3:=by
 unfold cnd
 rw [Bool.and_eq_true,Bool.and_eq_true,decide_eq_true_eq]
 constructor
 ·rintro ⟨a,b,c⟩
  exact ⟨by simpa using a,b,hexOf_inj (rv_key (rv_at h hy) b) (rv_key (rv_at h hx) h2) c⟩
 ·rintro ⟨a,b,c⟩
  exact ⟨by simpa using a,b,by rw [c]⟩
theorem last_iff {l:List Bt} (h:VL l) {x:Nat×Nat} (hx:x∈pts l) (hm:mkOf l x=false) (h2:(rcOf l x).f2=true):lastOff l (pts l) (hexOf (rcOf l x).f3)=(rcOf l x).f0↔¬ LaterP l (rcOf l x):=by
 obtain ⟨y,hy,hc,he,hmax⟩:=fold_last l (hexOf (rcOf l x).f3) (pts l) 0 (pts_sorted h) ⟨x,hx,(cnd_key h hx hx h2).2 ⟨hm,h2,rfl⟩⟩
 obtain ⟨y1,y2,y3⟩:=(cnd_key h hx hy h2).1 hc
 have hxy:=hmax x hx ((cnd_key h hx hx h2).2 ⟨hm,h2,rfl⟩)
 unfold lastOff
 rw [he]
 constructor
 ·rintro e ⟨z,hz,z1,z2,z3,z4⟩
  have:=hmax z hz ((cnd_key h hx hz h2).2 ⟨z1,z2,z4⟩)
  have e1:offP l z=(rcOf l z).f0:=rfl
  omega
 ·intro hn
  have:¬ (rcOf l x).f0 < (rcOf l y).f0:=fun hlt=>hn ⟨y,hy,y1,y2,hlt,y3⟩
  have e1:offP l y=(rcOf l y).f0:=rfl
  have e2:offP l x=(rcOf l x).f0:=rfl
  omega
theorem keep_iff {l:List Bt} (h:VL l) {x:Nat×Nat} (hx:x∈pts l) (gone:Bool):stayB l gone x=true↔mkOf l x=true∨((rcOf l x).f2=true∧((rcOf l x).f4=true∨gone=true)∧¬ LaterP l (rcOf l x)):=by
 unfold stayB
 rw [Bool.or_eq_true,Bool.and_eq_true,Bool.and_eq_true,Bool.or_eq_true,beq_iff_eq]
 cases hm:mkOf l x with
 | true=>simp
 | false=>
  constructor
  ·rintro (h1|⟨h1,h2,h3⟩)
   ·cases h1
   ·exact .inr ⟨h1,h3,(last_iff h hx hm h1).1 h2⟩
  ·rintro (h1|⟨h1,h2,h3⟩)
   ·cases h1
   ·exact .inr ⟨h1,(last_iff h hx hm h1).2 h3,h2⟩
theorem l3Same_loop (a b:List Int) (hl:a.length=b.length) (hs:a.length≤1000000000000000):∀ (d i:Nat),a.length - i=d→i≤a.length→Ev (fun k=>Qz.l0 k a 0 b (i:Int)) (decide (a.drop i=b.drop i)):=by
 intro d
 induction d with
 | zero=>
  intro i hd hi
  rw [show a.drop i = [] from List.drop_eq_nil_of_le (by omega),show b.drop i = [] from List.drop_eq_nil_of_le (by omega)]
  refine ev_succ ?_
  simp only [Qz.l0,if_neg (show ¬ (i:Int) < (b.length:Int) by omega),decide_true]
  exact ev_some _
 | succ d ih=>
  intro i hd hi
  have e1:wrap64 ((i:Int)+1)=((i+1:Nat):Int):=by rw [wrap_id (by omega) (by omega)];omega
  have e0:wrap64 (0+(i:Int))=(i:Int):=by rw [wrap_id (by omega) (by omega)];omega
  rw [drop_int (show i < a.length by omega),drop_int (show i < b.length by omega)]
  refine ev_succ ?_
  simp only [Qz.l0,if_pos (show (i:Int) < (b.length:Int) by omega),e0,if_pos (show (0:Int)≤i by omega),if_pos (show (i:Int) < (a.length:Int) by omega),e1]
  by_cases h0:rd a i=rd b i
  ·simp only [if_pos h0]
   have:=ih (i+1) (by omega) (by omega)
   simpa [h0] using this
  ·simp only [if_neg h0]
   rw [decide_eq_false (by simp [h0])]
   exact ev_some _
theorem l16Same (a b:List Int) (hs:a.length≤1000000000000000):Ev (fun k=>Q6.f k a b) (decide (a=b)):=by
 unfold Q6.f
 by_cases hl:a.length=b.length
 ·simp only [if_pos (show (a.length:Int)=(b.length:Int) by omega)]
  have h:=l3Same_loop a b hl hs a.length 0 (by omega) (by omega)
  have e0:wrap64 (0+(b.length:Int))=(b.length:Int):=by rw [wrap_id (by omega) (by omega)];omega
  refine Ev.bind (g:=fun k=>Qz.f k a 0 b) (a:=decide (a=b)) ?_ (ev_some _)
  unfold Qz.f
  simp only [e0,if_neg (show ¬ (b.length:Int) > (a.length:Int) by omega)]
  simpa using h
 ·simp only [if_neg (show ¬ (a.length:Int)=(b.length:Int) by omega)]
  rw [decide_eq_false (fun e=>hl (by rw [e]))]
  exact ev_some _
def LatFrom (l:List Bt) (r:Rc) (i j:Nat):Prop:=∃ x∈pts l,(i < x.1∨(i=x.1∧j≤x.2))∧LatAt l r x
theorem LatFrom_step {l:List Bt} {r:Rc} {i j:Nat} (hi:i < l.length) (hj:j < (rb l (i:Int)).f5.length) (h:¬ LatAt l r (i,j)):LatFrom l r i j↔LatFrom l r i (j+1):=by
 constructor
 ·rintro ⟨x,hx,h1,h2⟩
  refine ⟨x,hx,?_,h2⟩
  rcases h1 with h1|⟨h1,h3⟩
  ·exact .inl h1
  ·rcases Nat.lt_or_ge j x.2 with h4|h4
   ·exact .inr ⟨h1,h4⟩
   ·have:x=(i,j):=Prod.ext h1.symm (by show x.2=j;omega)
    exact absurd (this ▸ h2) h
 ·rintro ⟨x,hx,h1,h2⟩
  exact ⟨x,hx,by omega,h2⟩
theorem LatFrom_next {l:List Bt} {r:Rc} {i j:Nat} (hj:¬ j < (rb l (i:Int)).f5.length):LatFrom l r i j↔LatFrom l r (i+1) 0:=by
 constructor
 ·rintro ⟨x,hx,h1,h2⟩
  refine ⟨x,hx,?_,h2⟩
  have h3:=(mem_pts.1 hx).2
  rcases h1 with h1|⟨h1,h4⟩
  ·omega
  ·rw [← h1] at h3
   omega
 ·rintro ⟨x,hx,h1,h2⟩
  exact ⟨x,hx,by omega,h2⟩
theorem later_loop (l:List Bt) (hl:smallBs l) (r:Rc):∀ (d i:Nat),l.length - i=d→i≤l.length→Evs (fun k=>Qk.l0 k l (i:Int) r.f0 r.f1 r.f2 r.f3 r.f4 r.f5) (fun b=>b=true↔LatFrom l r i 0):=by
 intro d
 induction d with
 | zero=>
  intro i hd hi
  refine Evs.succ ?_
  simp only [Qk.l0,if_neg (show ¬ (i:Int) < (l.length:Int) by omega)]
  refine Evs.done ⟨(fun h=>by cases h),?_⟩
  rintro ⟨x,hx,h1,_⟩
  have:=(mem_pts.1 hx).1
  omega
 | succ d ih=>
  intro i hd hi
  have hil:i < l.length:=by omega
  have hll:=hl.1
  have hsm:=smallBs_at hl i hil
  have e1:=wstep i (by omega)
  refine Evs.succ ?_
  simp only [Qk.l0,if_pos (show (i:Int) < (l.length:Int) by omega)]
  have inner:∀ (e j:Nat),(rb l (i:Int)).f5.length - j=e→j≤(rb l (i:Int)).f5.length→Evs (fun k=>Qk.l1 k l (i:Int) (j:Int) r.f0 r.f1 r.f2 r.f3 r.f4 r.f5) (fun b=>b=true↔LatFrom l r i j):=by
   intro e
   induction e with
   | zero=>
    intro j he hj
    refine Evs.succ ?_
    simp only [Qk.l1,if_pos (show 0≤(i:Int) by omega),if_pos (show (i:Int) < (l.length:Int) by omega),if_neg (show ¬ (j:Int) < ((rb l (i:Int)).f5.length:Int) by omega),e1]
    refine (ih (i+1) (by omega) (by omega)).mono (fun b hb=>hb.trans (LatFrom_next (by omega)).symm)
   | succ e ihe=>
    intro j he hj
    have hjl:j < (rb l (i:Int)).f5.length:=by omega
    have hls:=hsm.1
    have e2:=wstep j (by omega)
    have hnext:=ihe (j+1) (by omega) (by omega)
    refine Evs.succ ?_
    simp only [Qk.l1,if_pos (show 0≤(i:Int) by omega),if_pos (show (i:Int) < (l.length:Int) by omega),if_pos (show (j:Int) < ((rb l (i:Int)).f5.length:Int) by omega),if_pos (show 0≤(j:Int) by omega),e2]
    have hf1:(Qa l (i:Int)).f1=mkOf l (i,j):=rfl
    have hrc:Qb (Qa l (i:Int)).f5 (j:Int)=rcOf l (i,j):=rfl
    rw [hf1,hrc]
    by_cases c1:mkOf l (i,j)=true
    ·simp only [if_pos c1]
     exact hnext.mono (fun b hb=>hb.trans (LatFrom_step hil hjl (fun h=>by rw [h.1] at c1;cases c1)).symm)
    ·simp only [if_neg c1]
     by_cases c2:(rcOf l (i,j)).f2=true
     ·simp only [if_pos c2]
      by_cases c3:(rcOf l (i,j)).f0 > r.f0
      ·simp only [if_pos c3]
       refine Evs.bind (Evs.of (Q:=fun x=>x=decide ((rcOf l (i,j)).f3=r.f3)) (l16Same _ _ (smallRs_at hsm j hjl).1) rfl) ?_
       rintro _ rfl
       by_cases c4:(rcOf l (i,j)).f3=r.f3
       ·simp only [decide_eq_true c4,if_true]
        exact Evs.done ⟨fun _=>⟨(i,j),mem_pts.2 ⟨hil,hjl⟩,.inr ⟨rfl,Nat.le_refl _⟩,by simpa using c1,c2,c3,c4⟩,fun _=>rfl⟩
       ·simp only [decide_eq_false c4,Bool.false_eq_true,if_false]
        exact hnext.mono (fun b hb=>hb.trans (LatFrom_step hil hjl (fun h=>c4 h.2.2.2)).symm)
      ·simp only [if_neg c3]
       exact hnext.mono (fun b hb=>hb.trans (LatFrom_step hil hjl (fun h=>c3 h.2.2.1)).symm)
     ·simp only [if_neg c2]
      exact hnext.mono (fun b hb=>hb.trans (LatFrom_step hil hjl (fun h=>c2 h.2.1)).symm)
  exact inner (rb l (i:Int)).f5.length 0 (by omega) (by omega)
theorem specLater (l:List Bt) (hl:smallBs l) (r:Rc):Evs (fun k=>Qk.f k l r.f0 r.f1 r.f2 r.f3 r.f4 r.f5) (fun b=>b=true↔LaterP l r):=by
 unfold Qk.f
 refine (later_loop l hl r l.length 0 (by omega) (by omega)).mono (fun b hb=>hb.trans ⟨?_,?_⟩)
 ·rintro ⟨x,hx,_,h⟩;exact ⟨x,hx,h⟩
 ·rintro ⟨x,hx,h⟩;exact ⟨x,hx,by omega,h⟩
theorem specKeep (l:List Bt) (hl:smallBs l) (h:VL l) (i j:Nat) (hi:i < l.length) (hj:j < (rb l (i:Int)).f5.length) (gone:Bool) :
  Ev (fun k=>Rd.f k l (rb l (i:Int)).f0 (rb l (i:Int)).f1 (rb l (i:Int)).f2 (rb l (i:Int)).f3 (rb l (i:Int)).f4 (rb l (i:Int)).f5 (rcOf l (i,j)).f0 (rcOf l (i,j)).f1 (rcOf l (i,j)).f2 (rcOf l (i,j)).f3 (rcOf l (i,j)).f4 (rcOf l (i,j)).f5 gone) (stayB l gone (i,j)):=by
 have hx:(i,j)∈pts l:=mem_pts.2 ⟨hi,hj⟩
 have hk:=keep_iff h hx gone
 have hb:∀ {b:Bool},(b=true↔(mkOf l (i,j)=true∨((rcOf l (i,j)).f2=true∧((rcOf l (i,j)).f4=true∨gone=true)∧¬ LaterP l (rcOf l (i,j)))))→stayB l gone (i,j)=b:=fun {b} hb=>by
  rw [Bool.eq_iff_iff,hk,hb]
 unfold Rd.f
 have hf1:(rb l (i:Int)).f1=mkOf l (i,j):=rfl
 rw [hf1]
 by_cases c1:mkOf l (i,j)=true
 ·simp only [if_pos c1]
  rw [hb (b:=true) (by simp [c1])]
  exact ev_some _
 ·simp only [if_neg c1]
  obtain ⟨b,he,hbl⟩:=specLater l hl (rcOf l (i,j))
  have hnb:(!b)=true↔¬ LaterP l (rcOf l (i,j)):=by rw [← hbl];simp
  by_cases c2:(rcOf l (i,j)).f2=true
  ·simp only [if_pos c2]
   by_cases c3:(rcOf l (i,j)).f4=true
   ·simp only [if_pos c3]
    rw [hb (b:=!b) (by rw [hnb];simp [c1,c2,c3])]
    exact Ev.bind he (ev_some _)
   ·simp only [if_neg c3]
    by_cases c4:gone=true
    ·simp only [if_pos c4]
     rw [hb (b:=!b) (by rw [hnb];simp [c1,c2,c4])]
     exact Ev.bind he (ev_some _)
    ·simp only [if_neg c4]
     rw [hb (b:=false) (by simp [c1,c3,c4])]
     exact ev_some _
  ·simp only [if_neg c2]
   rw [hb (b:=false) (by simp [c1,c2])]
   exact ev_some _
theorem l12Copy_eq (r:Rc) (h:okc r):Q9.f r.f0 r.f1 r.f2 r.f3 r.f4 r.f5=some (r.f0,r.f1,r.f2,r.f3,r.f4,r.f5):=by
 have h1:=h.1
 have h2:=h.2
 unfold Q9.f
 simp only [bsome,List.length_nil,Nat.zero_add,List.nil_append]
 rw [if_pos (by omega),if_pos (by omega)]
theorem ptsAt_len {l:List Bt} (h:VL l) {i j:Nat} (hi:i < l.length) (hj:j≤(rb l (i:Int)).f5.length):(ptsAt l i j).length≤48:=Nat.le_trans (ptsAt_prefix hi hj).length_le (pts_len h)
theorem stOut_snoc (l:List Bt) (pre:List (Nat×Nat)) (x:Nat×Nat):stOut l (pre ++ [x])=if stKeep l x=true then stOut l pre ++ [rcOf l x] else stOut l pre:=by
 unfold stOut
 rw [List.filter_append,List.map_append]
 split <;> rename_i h
 ·simp [h]
 ·simp [h]
theorem specState_loop (l:List Bt) (hl:smallBs l) (h:VL l):∀ (d i:Nat),l.length - i=d→i≤l.length→Ev (fun k=>Qf.l0 k l (stOut l (ptsTo l i)) (i:Int)) (stOut l (pts l)):=by
 intro d
 induction d with
 | zero=>
  intro i hd hi
  obtain rfl:i=l.length:=by omega
  refine ev_succ ?_
  simp only [Qf.l0,if_neg (show ¬ (l.length:Int) < (l.length:Int) by omega)]
  refine ev_succ ?_
  simp only [Qf.j1,Bool.false_eq_true,if_false]
  exact ev_some _
 | succ d ih=>
  intro i hd hi
  have hil:i < l.length:=by omega
  have hll:=h.1
  have e1:=wstep i (by omega)
  refine ev_succ ?_
  simp only [Qf.l0,if_pos (show (i:Int) < (l.length:Int) by omega)]
  refine Ev.bind (specLog l hl) ?_
  rw [vl_true h]
  refine ev_succ ?_
  simp only [Qf.j1,if_true]
  have inner:∀ (e j:Nat),(rb l (i:Int)).f5.length - j=e→j≤(rb l (i:Int)).f5.length→Ev (fun k=>Qf.l1 k l (stOut l (ptsAt l i j)) (i:Int) (j:Int)) (stOut l (pts l)):=by
   intro e
   induction e with
   | zero=>
    intro j he hj
    obtain rfl:j=(rb l (i:Int)).f5.length:=by omega
    refine ev_succ ?_
    simp only [Qf.l1,if_pos (show 0≤(i:Int) by omega),if_pos (show (i:Int) < (l.length:Int) by omega),if_neg (show ¬ ((rb l (i:Int)).f5.length:Int) < ((rb l (i:Int)).f5.length:Int) by omega),e1]
    rw [show ptsAt l i (rb l (i:Int)).f5.length=ptsTo l (i+1) from ptsAt_full l i]
    exact ih (i+1) (by omega) (by omega)
   | succ e ihe=>
    intro j he hj
    have hjl:j < (rb l (i:Int)).f5.length:=by omega
    have h6:=(vB_pos (VL_at h i hil)).2
    have e2:=wstep j (by omega)
    have hnext:=ihe (j+1) (by omega) (by omega)
    rw [ptsAt_succ,stOut_snoc] at hnext
    have hlen:(stOut l (ptsAt l i j)).length≤48:=Nat.le_trans (stOut_len l _) (ptsAt_len h hil hj)
    have hx:(i,j)∈pts l:=mem_pts.2 ⟨hil,hjl⟩
    have hrc:Qb (Qa l (i:Int)).f5 (j:Int)=rcOf l (i,j):=rfl
    have hf1:(Qa l (i:Int)).f1=mkOf l (i,j):=rfl
    refine ev_succ ?_
    simp only [Qf.l1,if_pos (show 0≤(i:Int) by omega),if_pos (show (i:Int) < (l.length:Int) by omega),if_pos (show (j:Int) < ((rb l (i:Int)).f5.length:Int) by omega),if_pos (show 0≤(j:Int) by omega),e2]
    by_cases c1:mkOf l (i,j)=true
    ·have hk:stKeep l (i,j)=false:=by unfold stKeep;rw [c1];rfl
     rw [hk] at hnext
     simp only [Bool.false_eq_true,if_false] at hnext
     simp only [hf1,if_pos c1]
     exact hnext
    ·simp only [hf1,if_neg c1]
     have hsk:=specKeep l hl h i j hil hjl false
     have hk:stKeep l (i,j)=stayB l false (i,j):=by unfold stKeep;rw [Bool.not_eq_true] at c1;rw [c1];rfl
     rw [hk] at hnext
     rw [hrc]
     rw [hf1] at hsk
     refine Ev.bind hsk ?_
     have hok:okc (rcOf l (i,j)):=by have:=rv_okc (rv_at h hx);exact ⟨by omega,by omega⟩
     cases hb:stayB l false (i,j) with
     | true=>
      rw [hb] at hnext
      simp only [if_true] at hnext
      simp only [if_true,l12Copy_eq _ hok,bsome,if_pos (show (stOut l (ptsAt l i j)).length < 1759218604441 by omega)]
      exact hnext
     | false=>
      rw [hb] at hnext
      simp only [Bool.false_eq_true,if_false] at hnext
      simp only [Bool.false_eq_true,if_false]
      exact hnext
  have h0:=inner (rb l (i:Int)).f5.length 0 (by omega) (by omega)
  rw [ptsAt_zero] at h0
  exact h0
theorem specState (l:List Bt) (hl:smallBs l) (h:VL l):Ev (fun k=>Qf.f k l) (stOut l (pts l)):=by
 unfold Qf.f
 exact specState_loop l hl h l.length 0 (by omega) (by omega)
theorem specState_not (l:List Bt) (hl:smallBs l) (h:¬ VL l):Ev (fun k=>Qf.f k l) []:=by
 unfold Qf.f
 refine ev_succ ?_
 by_cases h0:(0:Int) < (l.length:Int)
 ·simp only [Qf.l0,if_pos h0]
  refine Ev.bind (specLog l hl) ?_
  rw [vl_false h]
  refine ev_succ ?_
  simp only [Qf.j1,Bool.false_eq_true,if_false]
  exact ev_some _
 ·simp only [Qf.l0,if_neg h0]
  refine ev_succ ?_
  simp only [Qf.j1,Bool.false_eq_true,if_false]
  exact ev_some _
theorem implState (l:List Bt) (hl:smallBs l) (h:VL l):Ev (fun k=>Q1.f k l) (stOut l (pts l)):=by
 unfold Q1.f
 refine Ev.bind (implLog l hl) ?_
 rw [vl_true h]
 simp only [if_true,okLog_of h]
 exact ev_some _
theorem implState_not (l:List Bt) (hl:smallBs l) (h:¬ VL l):Ev (fun k=>Q1.f k l) []:=by
 unfold Q1.f
 refine Ev.bind (implLog l hl) ?_
 rw [vl_false h]
 simp only [Bool.false_eq_true,if_false]
 exact ev_some _
theorem mem_stOut {l:List Bt} (h:VL l) {r:Rc} (hr:r∈stOut l (pts l)):∃ x∈pts l,mkOf l x=false∧r=rcOf l x∧r.f2=true∧r.f4=true∧¬ LaterP l r:=by
 unfold stOut at hr
 obtain ⟨x,hx,rfl⟩:=List.mem_map.1 hr
 obtain ⟨hx,hk⟩:=List.mem_filter.1 hx
 unfold stKeep at hk
 rw [Bool.and_eq_true,keep_iff h hx false] at hk
 have hm:mkOf l x=false:=by simpa using hk.1
 rcases hk.2 with h1|⟨h2,h3,h4⟩
 ·rw [hm] at h1;cases h1
 ·exact ⟨x,hx,hm,rfl,h2,by simpa using h3,h4⟩
theorem stOut_small {l:List Bt} (h:VL l):smallRs (stOut l (pts l)):=by
 have h1:=stOut_len l (pts l)
 have h2:=pts_len h
 refine ⟨by omega,fun r hr=>?_⟩
 obtain ⟨x,hx,_,rfl,_⟩:=mem_stOut h hr
 have:=rv_okc (rv_at h hx)
 exact ⟨by omega,by omega⟩
end Go.Proofs.Ytkhjmhdgcmffaaa.UQ
namespace Go.Proofs.Ytkhjmhdgcmffaaa.Pure
open Go.RowKit Go.Proofs.Ytkhjmhdgcmffaaa.U Go.Proofs.YtkhjmhdgcmffaaaW.PrintWords Go.Proofs.YtkhjmhdgcmffaaaW.PrintLast Go.Proofs.Ytkhjmhdgcmffaaa.UQ
set_option linter.unusedVariables false
set_option linter.unusedSimpArgs false
theorem drawStateL {l0:List Int} (hb:Bytes l0):Evs (fun k=>Q5.f k l0) (fun r=>drawnBs 10 r):=by
 obtain ⟨b,ho,hb2,hbl⟩:=open_ev l0 hb
 unfold Q5.f
 simp only [ho,bsome]
 refine Evs.bind (log_evs b hb2 hbl) ?_
 rintro ⟨r,p⟩ h
 exact Evs.done h
theorem rc_eq (l:List Bt) (i j:Nat):Qb (Qa l (i:Int)).f5 (j:Int)=rcOf l (i,j):=rfl
theorem f1_eq (l:List Bt) (i j:Nat):(Qa l (i:Int)).f1=mkOf l (i,j):=rfl
theorem sl_third (l:List Bt) (x:List Rc) (hx:x.length≤1000) (i j:Int) (r:Rc) (hs:r.f3.length≤1000000000000000) (hno:r.f2=true→∀ y∈x,r.f3=y.f3→¬ r.f0 > y.f0) (hnext:Ev (fun k=>laws_FnStateLast.l1 k l x i (wrap64 (j+1))) true) :
  ∀ (f q:Nat),x.length - q=f→q≤x.length→Ev (fun k=>laws_FnStateLast.l2 k l x i j (q:Int) r.f0 r.f1 r.f2 r.f3 r.f4 r.f5) true:=by
 intro f
 induction f with
 | zero=>
  intro q hf hq
  refine ev_succ ?_
  simp only [laws_FnStateLast.l2,if_neg (show ¬ (q:Int) < (x.length:Int) by omega)]
  exact hnext
 | succ f ihf=>
  intro q hf hq
  have hqx:q < x.length:=by omega
  have e3:=wstep q (by omega)
  have hq1:=ihf (q+1) (by omega) (by omega)
  have q0 : 0≤(q:Int):=by omega
  have q1:(q:Int) < (x.length:Int):=by omega
  refine ev_succ ?_
  simp only [laws_FnStateLast.l2,if_pos q1,if_pos q0,e3,show Qb x (q:Int)=x[q] from rr_nat x q hqx]
  by_cases c2:r.f2=true
  ·simp only [if_pos c2]
   refine Ev.bind (sameInts r.f3 x[q].f3 hs) ?_
   by_cases c3:r.f3=x[q].f3
   ·simp only [decide_eq_true c3,if_true,if_neg (hno c2 _ (List.getElem_mem hqx) c3)]
    exact hq1
   ·simp only [decide_eq_false c3,Bool.false_eq_true,if_false]
    exact hq1
  ·simp only [if_neg c2]
   exact hq1
theorem sl_second (l:List Bt) (x:List Rc) (hx:x.length≤1000) (i n:Nat) (i1:(i:Int) < (l.length:Int)) (hn:n≤1000000000000000) (hnn:(Qa l (i:Int)).f5.length=n) (hsm:∀ j,j < n→(rcOf l (i,j)).f3.length≤1000000000000000)
  (hno:∀ j,j < n→mkOf l (i,j)=false→(rcOf l (i,j)).f2=true→∀ y∈x,(rcOf l (i,j)).f3=y.f3→¬ (rcOf l (i,j)).f0 > y.f0) (stop:Ev (fun k=>laws_FnStateLast.l0 k l x (wrap64 ((i:Int)+1))) true) :
  ∀ (e j:Nat),n - j=e→j≤n→Ev (fun k=>laws_FnStateLast.l1 k l x (i:Int) (j:Int)) true:=by
 have HN:=Aside0.mk hnn
 have i0 : 0≤(i:Int):=Int.natCast_nonneg i
 clear hnn
 intro e
 induction e with
 | zero=>
  intro j he hj
  have j1:¬ (j:Int) < (n:Int):=by omega
  refine ev_succ ?_
  simp only [laws_FnStateLast.l1,HN.out,if_pos i0,if_pos i1,if_neg j1]
  refine ev_succ ?_
  simp only [laws_FnStateLast.j3,Bool.false_eq_true,if_false]
  exact stop
 | succ e ihe=>
  intro j he hj
  have hjl:j < n:=by omega
  have e2:=wstep j (by omega)
  have hnext:=ihe (j+1) (by omega) (by omega)
  have j0 : 0≤(j:Int):=by omega
  have j1:(j:Int) < (n:Int):=by omega
  refine ev_succ ?_
  simp only [laws_FnStateLast.l1,HN.out,if_pos i0,if_pos i1,if_pos j1,f1_eq l i j]
  refine ev_succ ?_
  cases hm:mkOf l (i,j) with
  | true=>
   simp only [laws_FnStateLast.j3,Bool.not_true,Bool.false_eq_true,if_false]
   exact stop
  | false=>
   simp only [laws_FnStateLast.j3,HN.out,Bool.not_false,if_true,if_pos i0,if_pos i1,if_pos j1,if_pos j0,rc_eq l i j]
   exact sl_third l x hx (i:Int) (j:Int) (rcOf l (i,j)) (hsm j hjl) (hno j hjl hm) (by rw [e2];exact hnext) x.length 0 (by omega) (by omega)
theorem sl_loop (l:List Bt) (hl:smallBs l) (x:List Rc) (hx:x.length≤1000) (hno:∀ p∈pts l,mkOf l p=false→(rcOf l p).f2=true→∀ r∈x,(rcOf l p).f3=r.f3→¬ (rcOf l p).f0 > r.f0) :
  ∀ (d i:Nat),l.length - i=d→i≤l.length→Ev (fun k=>laws_FnStateLast.l0 k l x (i:Int)) true:=by
 intro d
 induction d with
 | zero=>
  intro i hd hi
  refine ev_succ ?_
  simp only [laws_FnStateLast.l0,if_neg (show ¬ (i:Int) < (l.length:Int) by omega)]
  exact ev_some _
 | succ d ih=>
  intro i hd hi
  have hil:i < l.length:=by omega
  have hll:=hl.1
  have e1:=wstep i (by omega)
  have hn:=ih (i+1) (by omega) (by omega)
  have i1:(i:Int) < (l.length:Int):=by omega
  have hsm:=smallBs_at hl i hil
  refine ev_succ ?_
  simp only [laws_FnStateLast.l0,if_pos i1]
  exact sl_second l x hx i _ i1 hsm.1 rfl (fun j hj=>(smallRs_at hsm j hj).1) (fun j hj hm h2=>hno (i,j) (mem_pts.2 ⟨hil,hj⟩) hm h2) (by rw [e1];exact hn) _ 0 rfl (Nat.zero_le _)
theorem FnStateLast:laws_FnStateLast.Pure:=by
 intro l0 _ _ hb0
 refine Ev.rounds ?_
 have hb:=bytes_of hb0
 unfold laws_FnStateLast.f
 by_cases h:(l0.length:Int) > 1048576
 ·simp only [if_pos h]
  exact ev_some _
 ·simp only [if_neg h]
  obtain ⟨l,hd,hdr⟩:=drawStateL hb
  have hs:=drawnBs_small hdr
  refine Ev.bind hd ?_
  have main:∀ x:List Rc,smallRs x→x.length≤1000→(∀ p∈pts l,mkOf l p=false→(rcOf l p).f2=true→∀ r∈x,(rcOf l p).f3=r.f3→¬ (rcOf l p).f0 > r.f0)→Ev (fun k=>Q1.f k l) x→Ev (fun k=>Qf.f k l) x →
    Ev (fun k=>(Q1.f k l).bind fun t=>(Qf.f k l).bind fun u=>(Qj.f k t u).bind fun v=>if v=true then laws_FnStateLast.j0 k l t u ((u.length:Int)==0) else laws_FnStateLast.j0 k l t u true) true:=by
   intro x hx hl hno hi hsp
   refine Ev.bind hi ?_
   refine Ev.bind hsp ?_
   have hsame:=sameRecs x x hx
   rw [decide_eq_true rfl] at hsame
   refine Ev.bind hsame ?_
   simp only [if_true]
   refine ev_succ ?_
   cases hz:((x.length:Int)==0) with
   | true=>
    simp only [laws_FnStateLast.j0,if_true]
    refine Ev.bind hsame ?_
    exact ev_some _
   | false=>
    simp only [laws_FnStateLast.j0,Bool.false_eq_true,if_false]
    exact sl_loop l hs x hl hno l.length 0 (by omega) (by omega)
  by_cases hv:VL l
  ·refine main _ (stOut_small hv) ?_ ?_ (implState l hs hv) (specState l hs hv)
   ·have h1:=stOut_len l (pts l)
    have h2:=pts_len hv
    omega
   ·intro p hp hm h2 r hr he hgt
    obtain ⟨x,_,_,_,_,_,hnl⟩:=mem_stOut hv hr
    exact hnl ⟨p,hp,hm,h2,hgt,he⟩
  ·exact main [] ⟨by simp,fun r hr=>by simp at hr⟩ (by simp) (fun p _ _ _ r hr=>by simp at hr) (implState_not l hs hv) (specState_not l hs hv)
end Go.Proofs.Ytkhjmhdgcmffaaa.Pure
namespace Go.Proofs.Ytkhjmhdgcmffaaa.fnStateLast
open Go.ChangeShapes Go.WideShapes Go.ChangeAt Go.RowKit
open Go.ChangeMaps (open_string shut_string)
set_option linter.unusedVariables false
theorem own:ownKnob Try.prog.godebug=none:=by kernel_rfl
theorem laidOut:laidOutB Try.prog=true:=by kernel_rfl
def IsRow (k:IntKind) (w:World) (a:Option Addr) (len cap:Nat) (zs:List Int):Prop:=
 (a=none∧len=0∧cap=0∧zs = []) ∨
 ∃ x,a=some x∧len≤cap∧cap≤maxLen∧zs.length=cap∧(∀ i,i < zs.length→w.cell? (x.add i)=some (.int k (zs.getD i 0)))∧∀ n∈zs,(Lit.int k n).wf=true
set_option maxRecDepth 100000 in
theorem lifted (os:Os) (started:os.Started) (H:Type) (enc:TypeId×Value→H) :
  ReturnsInHanded {} Try.checked os 4 .any (Rows.fnStateLastSpec.pre6 enc Try.prog Try.f4 Rows.fnStateLastRow.domain false) (Rows.fnStateLastSpec.post enc Try.prog Try.f4 false true false false):=by
 refine returnsInHanded_of_change_sized (C:=Try.checked) own started (by kernel_rfl) Try.func4
  (ChangeSpec.witness6 (enc:=enc) (C:=Try.checked) false ⟨#[],#[.slice none 0 0],[]⟩ 8 (by kernel_rfl) (by kernel_rfl) (by kernel_rfl) (by kernel_rfl)) ?_
 intro W base args ds gs before hval0 hW hcnd hsz0 _
 have hsz:(DataW.weightsEach Try.prog (Try.f4.params.toList++Rows.fnStateLastSpec.plain.varTypes Try.prog) (ds++gs)).all (· ≤ reachBytes)=true:=hsz0
 have hval:∀ (j:Nat) t v,Try.f4.params[j]? = some t→args[j]? = some v→Value.okWide Try.prog W .any base t v:=hval0
 have hW':=hW
 obtain ⟨p,q,hA0,hV,rfl,hfz,hnd⟩:=hW
 have hA:DataW.TrodAll enc Try.prog W 0 (fun _=>true) true Try.f4.params.toList args.toList ds p:=hA0
 rw [Try.params4] at hA hval hsz
 obtain ⟨v0,vs0,d0,ds0,p0,q0,hargs,rfl,rfl,h0,r0⟩:=trodAll_cons hA
 obtain ⟨rfl,rfl,rfl⟩:=trodAll_nil r0
 obtain rfl:args = #[v0]:=by cases args;simp_all
 obtain ⟨rfl,rfl⟩:=trodVars_none hV
 obtain ⟨a0,len0,cap0,rfl⟩:=okWide_slice Try.underlying22 (hval 0 22 v0 rfl rfl)
 have k0:=h0
 have lt0:∀ x∈p0,x.block < W.heap.size:=by obtain ⟨m,hm⟩:=k0;exact DataW.trod_lt m _ _ _ hm
 obtain ⟨z0,w0⟩:∃ zs,IsRow .u8 W a0 len0 cap0 zs:=by
  obtain ⟨fuel,hf⟩:=h0
  rcases open_ints Try.underlying22 Try.underlying5 (by kernel_rfl) hf with ⟨hcs,_⟩|⟨x,l,c,zs,hcs,_,hl,hm,hz,_,hcell,hwz⟩
  ·simp [Value.cells] at hcs
   obtain ⟨rfl,rfl,rfl⟩:=hcs
   exact ⟨[],.inl ⟨rfl,rfl,rfl,rfl⟩⟩
  ·simp [Value.cells] at hcs
   obtain ⟨rfl,rfl,rfl⟩:=hcs
   exact ⟨zs,.inr ⟨_,rfl,hl,hm,by simpa using hz,hcell,hwz⟩⟩
 have y0:len0 * 1≤140737488351232:=Go.Proofs.YtkhjmhdgcmffaaaW.PrintWords.sized_ints hsz (j:=0) (t:=22) rfl rfl Try.underlying22 Try.underlying5 (by kernel_rfl) (by kernel_rfl) h0
 clear hA0 hval0 hsz0 hsz
 refine (U.laws_FnStateLast.walk Pure.FnStateLast a0 len0 cap0 z0 W w0 y0).mono fun e W' ⟨he,bel⟩=>?_
 subst he
 exact ⟨_,rfl,_,_,_,[],_,[],hW',trodAll_mk1 (shut_bool Try.underlying4 _),(trodAll_cons_mk (Below.trod laidOut (by kernel_rfl) (of_decide_eq_true (by kernel_rfl)) k0 bel lt0) trodAll_mk0),rfl,bel.frame _,fun h=>by cases h⟩
theorem closed:joinedFacts Try.prog 4 Try.f4 Rows.fnStateLastSpec Rows.fnStateLastRow=true:=
 Head.closed_of _ _ _ _ _ (by kernel_rfl) (by kernel_rfl) (by kernel_rfl) (by kernel_rfl) (by kernel_rfl) (by kernel_rfl) (by kernel_rfl) (by kernel_rfl) (by kernel_rfl) (by kernel_rfl) (by kernel_rfl) (by kernel_rfl) (by kernel_rfl) (by kernel_rfl) (by kernel_rfl) (by kernel_rfl) (by kernel_rfl) (by kernel_rfl) (by kernel_rfl) (by kernel_rfl) (by kernel_rfl) (by kernel_rfl) (by kernel_rfl) (by kernel_rfl) (by kernel_rfl) Head.may_enter (by rw [Head.lifts_final];kernel_rfl) (by rw [Head.make_is];kernel_rfl) (by kernel_rfl) (by kernel_rfl) (by kernel_rfl) (by kernel_rfl)
theorem over:Rows.fnStateLastRow.holds Try.pinned (OpenSpec.ofChange Rows.fnStateLastSpec):=
 OpenClaim.holds_of_wide 4 Try.f4 rfl rfl rfl rfl rfl rfl rfl ⟨rfl,rfl,rfl,rfl,rfl⟩ rfl rfl rfl rfl rfl (by kernel_rfl) Try.func4 closed
  (of_decide_eq_true (by kernel_rfl)) (by unfold Func.isWrapper;first|(rw [if_pos (by decide +kernel)];kernel_rfl)|(rw [if_neg (by decide +kernel)];exact ⟨rfl,rfl⟩))
  (fun os started H enc _=>lifted os started H enc)
theorem proved:Rows.FnStateLastSaid:=over
end Go.Proofs.Ytkhjmhdgcmffaaa.fnStateLast
namespace Go.Proofs.Ytkhjmhdgcmffaaa
theorem fnStateLast_holds:Rows.FnStateLastSaid:=fnStateLast.proved
end Go.Proofs.Ytkhjmhdgcmffaaa
