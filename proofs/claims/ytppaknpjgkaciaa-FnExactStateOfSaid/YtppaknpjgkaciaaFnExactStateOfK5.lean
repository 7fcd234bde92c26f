/- The law FnExactStateOf holds (part 6 of 6; merged by pack2.py). -/
import Derived.RangeFuncNested
import Derived.RangeFuncBound
import Derived.RangeFuncCalls
import Derived.RangeFuncLeaves
import Derived.Shelf.Abstract
import Derived.Shelf.RegionOpen
import Derived.OwnWalkIn
import Derived.TacticsInMore
import Derived.LoopNIn
import Derived.LoopIn
import Derived.Maps.OwnIn
import Derived.Maps.Views
import Derived.StringKeys
import Derived.OpenShut
import Derived.ShutString
import Derived.ChangeOld
import Derived.SizedLaws
import Derived.Test.YtppaknpjgkaciaaFnExactStateOfK4
set_option maxRecDepth 1000000
open List (setIfInBounds_toArray set_cons_zero set_cons_succ map_toArray map_cons map_nil length_drop length_take)
namespace Go.Proofs.Ytppaknpjgkaciaa.T
open Go.RowKit Go.Proofs.YtppaknpjgkaciaaW.PrintWords Go.Proofs.YtppaknpjgkaciaaW.PrintLast Go.Proofs.YtppaknpjgkaciaaW.PrintMore

set_option linter.unusedVariables false
set_option linter.unusedSimpArgs false
section
open Go.Shelf
attribute [local go_sem] Oper.semAt_some
def KeepT (t:TypeId) (W W' : World):Prop:=∀ (k:Nat) (cs:Array Value) (f:Nat×Nat),W.heap[k]? = some (.cells cs t f)→W'.heap[k]? = some (.cells cs t f)
theorem KeepT.refl (t:TypeId) (W:World):KeepT t W W:=fun _ _ _ h=>h
theorem KeepT.trans {t:TypeId} {X Y Z:World} (h:KeepT t X Y) (k:KeepT t Y Z):KeepT t X Z:=fun i cs f hi=>k i cs f (h i cs f hi)
theorem KeepT.of_below {t:TypeId} {W W' : World} (h:Below W.heap.size W W'):KeepT t W W':=fun k cs f hk=>(h.block k (Array.getElem?_eq_some_iff.1 hk).1).trans hk
theorem KeepT.of_grownBy {t:TypeId} {W W' : World} {row:Option Nat} (h:W.grownBy W' row) (hr:∀ k,row=some k→∀ cs f,W.heap[k]? ≠ some (.cells cs t f)):KeepT t W W':=fun k cs f hk=>(h.block k (Array.getElem?_eq_some_iff.1 hk).1 (fun e=>hr k e.symm cs f hk)).trans hk
theorem KeepT.putObj {t:TypeId} (W:World) (l:Nat) (o o' : Obj) (h:W.heap[l]? = some o) (ho:o.isCells=false):KeepT t W (W.putObj l o'):=
 KeepT.of_grownBy (grownBy_putObj' W l o') (fun k e cs f hk=>by cases e;rw [h] at hk;cases hk;cases ho)
theorem KeepT.alloc {t:TypeId} (W:World) (o:Obj):KeepT t W (W.alloc o):=KeepT.of_grownBy (World.grownBy_alloc W o none) (fun k e=>by cases e)
theorem KeepT.setCell {t u:TypeId} {W:World} {p:Addr} {cs:Array Value} {f:Nat×Nat} (h:W.heap[p.block]? = some (.cells cs u f)) (hu:u≠t) (v:Value):KeepT t W (W.setCell p v):=fun k cs' f' hk=>by
 by_cases e:k=p.block
 ·
  subst e
  rw [h] at hk
  cases hk
  exact absurd rfl hu
 ·
  exact (Below.heap_setCell W p v k e).trans hk
structure Places (w:World) (A:Option Addr) (l:List S39) (AB:Nat→Option Addr) (CB:Nat→Nat) (AK:Nat→Nat→Option Addr) (CK:Nat→Nat→Nat) (AV:Nat→Nat→Option Addr) (CV:Nat→Nat→Nat):Prop where
 out:∀ i:Nat,i < l.length→∃ ad,A=some ad∧w.cell? (ad.add (i * 6))=some (.bool (Qa l i).f0)∧w.cell? ⟨(ad.add (i * 6)).block,(ad.add (i * 6)).off+1,none⟩=some (.bool (Qa l i).f1)∧w.cell? ⟨(ad.add (i * 6)).block,(ad.add (i * 6)).off+2,none⟩=some (.int .i64 (Qa l i).f2)∧w.cell? ⟨(ad.add (i * 6)).block,(ad.add (i * 6)).off+3,none⟩=some (.int .i64 (Qa l i).f3)∧w.cell? ⟨(ad.add (i * 6)).block,(ad.add (i * 6)).off+4,none⟩=some (.int .i64 (Qa l i).f4)∧w.cell? ⟨(ad.add (i * 6)).block,(ad.add (i * 6)).off+5,none⟩=some (.slice (AB i) (Qa l i).f5.length (CB i))
 row:∀ i:Nat,(Qa l i).f5.length≤CB i∧Kd.C k43 w (AB i) (Qa l i).f5.length (Qa l i).f5
 item:∀ i j:Nat,j < (Qa l i).f5.length→∃ ad,AB i=some ad∧w.cell? (ad.add (j * 6))=some (.int .i64 (Qb (Qa l i).f5 j).f0)∧w.cell? ⟨(ad.add (j * 6)).block,(ad.add (j * 6)).off+1,none⟩=some (.int .i64 (Qb (Qa l i).f5 j).f1)∧w.cell? ⟨(ad.add (j * 6)).block,(ad.add (j * 6)).off+2,none⟩=some (.bool (Qb (Qa l i).f5 j).f2)∧w.cell? ⟨(ad.add (j * 6)).block,(ad.add (j * 6)).off+3,none⟩=some (.slice (AK i j) (Qb (Qa l i).f5 j).f3.length (CK i j))∧w.cell? ⟨(ad.add (j * 6)).block,(ad.add (j * 6)).off+4,none⟩=some (.bool (Qb (Qa l i).f5 j).f4)∧w.cell? ⟨(ad.add (j * 6)).block,(ad.add (j * 6)).off+5,none⟩=some (.slice (AV i j) (Qb (Qa l i).f5 j).f5.length (CV i j))
 key:∀ i j:Nat,(Qb (Qa l i).f5 j).f3.length≤CK i j∧(Kd.int .i64).C w (AK i j) (Qb (Qa l i).f5 j).f3.length (Qb (Qa l i).f5 j).f3
 val:∀ i j:Nat,(Qb (Qa l i).f5 j).f5.length≤CV i j∧(Kd.int .i64).C w (AV i j) (Qb (Qa l i).f5 j).f5.length (Qb (Qa l i).f5 j).f5
theorem rd_none_B {l:List S39} {i:Nat} (h:¬ i < l.length):Qa l i=z39:=by
 unfold Qa;rw [Int.toNat_natCast,List.getD_eq_getElem?_getD,List.getElem?_eq_none (by omega)];rfl
theorem rd_none_R {l:List S43} {i:Nat} (h:¬ i < l.length):Qb l i=z43:=by
 unfold Qb;rw [Int.toNat_natCast,List.getD_eq_getElem?_getD,List.getElem?_eq_none (by omega)];rfl
theorem places_of {w:World} {A:Option Addr} {l:List S39} (h:Kd.C k39 w A l.length l):∃ AB CB AK CK AV CV,Places w A l AB CB AK CK AV CV:=by
 have h1:∀ i:Nat,∃ (p:Option Addr×Nat),(i < l.length→∃ ad,A=some ad∧w.cell? (ad.add (i * 6))=some (.bool (Qa l i).f0)∧w.cell? ⟨(ad.add (i * 6)).block,(ad.add (i * 6)).off+1,none⟩=some (.bool (Qa l i).f1)∧w.cell? ⟨(ad.add (i * 6)).block,(ad.add (i * 6)).off+2,none⟩=some (.int .i64 (Qa l i).f2)∧w.cell? ⟨(ad.add (i * 6)).block,(ad.add (i * 6)).off+3,none⟩=some (.int .i64 (Qa l i).f3)∧w.cell? ⟨(ad.add (i * 6)).block,(ad.add (i * 6)).off+4,none⟩=some (.int .i64 (Qa l i).f4)∧w.cell? ⟨(ad.add (i * 6)).block,(ad.add (i * 6)).off+5,none⟩=some (.slice p.1 (Qa l i).f5.length p.2)) ∧
   (Qa l i).f5.length≤p.2∧Kd.C k43 w p.1 (Qa l i).f5.length (Qa l i).f5:=by
  intro i;by_cases hi:i < l.length
  ·
   obtain ⟨ad,A5,c5,e,e0,e1,e2,e3,e4,e5,hl,hc⟩:=Q0 h (i:Int) (by omega) (by omega);simp only [Int.toNat_natCast] at e0 e1 e2 e3 e4 e5;exact ⟨(A5,c5),fun _=>⟨ad,e,e0,e1,e2,e3,e4,e5⟩,hl,hc⟩
  ·
   refine ⟨(none,0),fun hi'=>absurd hi' hi,?_,?_⟩
   ·
    rw [rd_none_B hi];exact Nat.le_refl _
   ·
    rw [rd_none_B hi];exact Kd.C_nil k43 w
 obtain ⟨p,hp⟩:=Classical.axiomOfChoice h1;have h2:∀ x:Nat×Nat,∃ (q:(Option Addr×Nat)×(Option Addr×Nat)),(x.2 < (Qa l x.1).f5.length→∃ ad,(p x.1).1=some ad∧w.cell? (ad.add (x.2 * 6))=some (.int .i64 (Qb (Qa l x.1).f5 x.2).f0)∧w.cell? ⟨(ad.add (x.2 * 6)).block,(ad.add (x.2 * 6)).off+1,none⟩=some (.int .i64 (Qb (Qa l x.1).f5 x.2).f1)∧w.cell? ⟨(ad.add (x.2 * 6)).block,(ad.add (x.2 * 6)).off+2,none⟩=some (.bool (Qb (Qa l x.1).f5 x.2).f2)∧w.cell? ⟨(ad.add (x.2 * 6)).block,(ad.add (x.2 * 6)).off+3,none⟩=some (.slice q.1.1 (Qb (Qa l x.1).f5 x.2).f3.length q.1.2)∧w.cell? ⟨(ad.add (x.2 * 6)).block,(ad.add (x.2 * 6)).off+4,none⟩=some (.bool (Qb (Qa l x.1).f5 x.2).f4)∧w.cell? ⟨(ad.add (x.2 * 6)).block,(ad.add (x.2 * 6)).off+5,none⟩=some (.slice q.2.1 (Qb (Qa l x.1).f5 x.2).f5.length q.2.2)) ∧
   ((Qb (Qa l x.1).f5 x.2).f3.length≤q.1.2∧(Kd.int .i64).C w q.1.1 (Qb (Qa l x.1).f5 x.2).f3.length (Qb (Qa l x.1).f5 x.2).f3) ∧
   ((Qb (Qa l x.1).f5 x.2).f5.length≤q.2.2∧(Kd.int .i64).C w q.2.1 (Qb (Qa l x.1).f5 x.2).f5.length (Qb (Qa l x.1).f5 x.2).f5):=by
  rintro ⟨i,j⟩;dsimp only;by_cases hj:j < (Qa l i).f5.length
  ·
   obtain ⟨ad,A3,c3,A5,c5,e,e0,e1,e2,e3,e4,e5,hl3,hc3,hl5,hc5⟩:=Qs (hp i).2.2 (j:Int) (by omega) (by omega);simp only [Int.toNat_natCast] at e0 e1 e2 e3 e4 e5;exact ⟨((A3,c3),(A5,c5)),fun _=>⟨ad,e,e0,e1,e2,e3,e4,e5⟩,⟨hl3,hc3⟩,⟨hl5,hc5⟩⟩
  ·
   refine ⟨((none,0),(none,0)),fun hj'=>absurd hj' hj,?_,?_⟩
   ·
    rw [rd_none_R hj];exact ⟨Nat.le_refl _,Kd.C_nil _ w⟩
   ·
    rw [rd_none_R hj];exact ⟨Nat.le_refl _,Kd.C_nil _ w⟩
 obtain ⟨q,hq⟩:=Classical.axiomOfChoice h2;exact ⟨fun i=>(p i).1,fun i=>(p i).2,fun i j=>(q (i,j)).1.1,fun i j=>(q (i,j)).1.2,fun i j=>(q (i,j)).2.1,fun i j=>(q (i,j)).2.2,fun i hi=>(hp i).1 hi,fun i=>(hp i).2,fun i j hj=>(hq (i,j)).1 hj,fun i j=>(hq (i,j)).2.1,fun i j=>(hq (i,j)).2.2⟩
def ptsRow (l:List S39) (i:Nat):List (Nat×Nat):=(List.range (Qa l i).f5.length).map fun j=>(i,j)
def ptsTo (l:List S39) (i:Nat):List (Nat×Nat):=(List.range i).flatMap (ptsRow l)
def pts (l:List S39):List (Nat×Nat):=ptsTo l l.length
theorem ptsTo_succ (l:List S39) (i:Nat):ptsTo l (i+1)=ptsTo l i++ptsRow l i:=by
 unfold ptsTo;rw [List.range_succ,List.flatMap_append];simp
theorem ptsTo_prefix (l:List S39):∀ (d i:Nat),ptsTo l i <+: ptsTo l (i+d)
 | 0,i=>List.prefix_refl _
 | d+1,i=>by
  refine (ptsTo_prefix l d i).trans ?_
  rw [← Nat.add_assoc,ptsTo_succ]
  exact List.prefix_append _ _
def ptsAt (l:List S39) (i j:Nat):List (Nat×Nat):=ptsTo l i++(List.range j).map fun j=>(i,j)
theorem ptsAt_zero (l:List S39) (i:Nat):ptsAt l i 0=ptsTo l i:=by simp [ptsAt]
theorem ptsAt_succ (l:List S39) (i j:Nat):ptsAt l i (j+1)=ptsAt l i j ++ [(i,j)]:=by simp [ptsAt,List.range_succ]
theorem ptsAt_full (l:List S39) (i:Nat):ptsAt l i (Qa l i).f5.length=ptsTo l (i+1):=by rw [ptsTo_succ];rfl
theorem ptsAt_prefix {l:List S39} {i j:Nat} (hi:i < l.length) (hj:j≤(Qa l i).f5.length):ptsAt l i j <+: pts l:=by
 have h1:ptsAt l i j <+: ptsTo l (i+1):=by
  obtain ⟨d,hd⟩:∃ d,(Qa l i).f5.length=j+d:=⟨_,(Nat.add_sub_of_le hj).symm⟩;rw [← ptsAt_full,hd];unfold ptsAt;rw [List.range_add,List.map_append,← List.append_assoc];exact List.prefix_append _ _
 have h2:=ptsTo_prefix l (l.length - (i+1)) (i+1);rw [show i+1+(l.length - (i+1))=l.length by omega] at h2;exact h1.trans h2
theorem ptsAt_lt {l:List S39} {i j:Nat} (hi:i < l.length) (hj:j < (Qa l i).f5.length):(ptsAt l i j).length < (pts l).length:=by
 have:=(ptsAt_prefix hi (show j+1≤_ by omega)).length_le;rw [ptsAt_succ,List.length_append,List.length_singleton] at this;omega
def encB (l:List S39) (AB:Nat→Option Addr) (CB:Nat→Nat) (i:Nat):Value:=.agg #[.bool (Qa l i).f0,.bool (Qa l i).f1,.int .i64 (Qa l i).f2,.int .i64 (Qa l i).f3,.int .i64 (Qa l i).f4,.slice (AB i) (Qa l i).f5.length (CB i)]
def encR (l:List S39) (AK:Nat→Nat→Option Addr) (CK:Nat→Nat→Nat) (AV:Nat→Nat→Option Addr) (CV:Nat→Nat→Nat) (i j:Nat):Value:=.agg #[.int .i64 (Qb (Qa l i).f5 j).f0,.int .i64 (Qb (Qa l i).f5 j).f1,.bool (Qb (Qa l i).f5 j).f2,.slice (AK i j) (Qb (Qa l i).f5 j).f3.length (CK i j),.bool (Qb (Qa l i).f5 j).f4,.slice (AV i j) (Qb (Qa l i).f5 j).f5.length (CV i j)]
def KpR (n₀:Nat) (W W' : World):Prop:=Below n₀ W W'∧KeepT 39 W W'
theorem KpR.t {n₀:Nat} {A B C:World} (h:KpR n₀ A B) (k:KpR n₀ B C):KpR n₀ A C:=⟨h.1.trans k.1,h.2.trans k.2⟩
theorem KpR.b {n₀:Nat} {w:World} (hn:n₀≤w.heap.size) (W:World) (l:Nat) (o o' : Obj) (hl:w.heap.size≤l) (h:W.heap[l]? = some o) (hc:o.isCells=false) (hw:o.isWalk=false):KpR n₀ W (W.putObj l o'):=
 ⟨belowK_b hn W l o o' hl h hc hw,KeepT.putObj W l o o' h hc⟩
set_option maxHeartbeats 4000000 in
theorem recs1_in (F:Fence) (n:Nat) (h1:F.fn 36) (hro:F.round=none) (hn : 1≤n) (l Bs n₀:Nat) (A0:Option Addr) (c0:Nat) (l0:List S39) {AB:Nat→Option Addr} {CB:Nat→Nat} {AK:Nat→Nat→Option Addr} {CK:Nat→Nat→Nat} {AV:Nat→Nat→Option Addr} {CV:Nat→Nat→Nat}
  (w W:World) (hP:Places w A0 l0 AB CB AK CK AV CV) (hmax:l0.length≤9223372036854775807) (hn₀:n₀=w.heap.size) (J Jx:List (Nat×Nat)→World→Prop) (hJ:AbidesFrom W.heap.size J)
  (hY:∀ pre (x:Nat×Nat) W1,J pre W1→pre.length < (pts l0).length→YieldAt F (n - 1) Try.prog l #[encB l0 AB CB x.1,encR l0 AK CK AV CV x.1 x.2] W1 fun e W'=>
   (e = .returned (.bool true)∧J (pre ++ [x]) W'∧KpR n₀ W1 W')∨(e = .returned (.bool false)∧Jx (pre ++ [x]) W'))
  (hBs:W.cell? ⟨Bs,0,none⟩=some (.slice A0 l0.length c0)) (hWB:Below n₀ w W) (h0:J [] W) :
  CallsIn F n Try.prog 36 #[.func (.yield l) #[] #[],.pointer (some ⟨Bs,0,none⟩)] W fun e W'=>(∃ v,e = .returned v) ∧
   ((∃ ys,ys=pts l0∧J ys W')∨(∃ pre,pre <+: pts l0∧Jx pre W')):=by
 have HP:=zzm hP;have HJ:=zzm hJ;have HY:=zzm hY;clear hP hJ hY;refine callsIn_of_wp Try.func36 rfl h1 ?_ hro;simp only [Try.ntmps36,List.size_toArray,List.length_cons,List.length_nil,Nat.reduceAdd,Nat.reduceSub,Array.replicate_succ,Array.replicate_zero,List.push_toArray,List.append_toArray,List.nil_append,List.cons_append];gi_wp2;gi_loopw [9] (fun i wr=>∃ m:Nat,m≤l0.length∧i = .int .i64 (m:Int)∧J (ptsTo l0 m) wr∧Below n₀ W wr)
  (fun i _=>l0.length - (intOf i).toNat)
 case atStart=>exact ⟨0,Nat.zero_le _,by go_num,by simpa [ptsTo] using h0,Below.refl _ _⟩
 case round=>
  obtain ⟨m,hm,rfl,hJs,hnx⟩:=hrel;by_cases hlt:m < l0.length
  ·
   have hmi:((m:Nat):Int) < (l0.length:Int):=by omega
   obtain ⟨ad,he,a0,a1,a2,a3,a4,a5⟩:=HP.out.out m hlt;subst he;have hwb:=hWB.trans hnx;have a7:=(hwb.cell (by rw [hn₀];exact zzn w _ a0)).trans a0;have a8:=(hwb.cell (by rw [hn₀];exact zzn w _ a1)).trans a1;have a9:=(hwb.cell (by rw [hn₀];exact zzn w _ a2)).trans a2;have b0:=(hwb.cell (by rw [hn₀];exact zzn w _ a3)).trans a3;have b1:=(hwb.cell (by rw [hn₀];exact zzn w _ a4)).trans a4;have b2:=(hwb.cell (by rw [hn₀];exact zzn w _ a5)).trans a5;clear a0 a1 a2 a3 a4 a5;have HWB:=zzm hwb;clear hwb;gi_wp2;obtain ⟨B0,hB0⟩:∃ B0,wr.heap.size=B0:=⟨_,rfl⟩;rw [hB0];gi_loopw [16] (fun i w2=>∃ j:Nat,j≤(Qa l0 (m:Int)).f5.length∧i = .int .i64 (j:Int)∧J (ptsAt l0 m j) w2∧Below n₀ W w2∧w2.heap[B0]? = some (.cells #[.bool (Qa l0 (m:Int)).f0,.bool (Qa l0 (m:Int)).f1,.int .i64 (Qa l0 (m:Int)).f2,.int .i64 (Qa l0 (m:Int)).f3,.int .i64 (Qa l0 (m:Int)).f4,.slice (AB m) (Qa l0 (m:Int)).f5.length (CB m)] 39 (0,0)))
    (fun i _=>(Qa l0 (m:Int)).f5.length - (intOf i).toNat)
   case atStart=>exact ⟨0,Nat.zero_le _,by go_num,by rw [ptsAt_zero];exact HJ.out _ _ _ none hJs (World.grownBy_alloc wr _ none) (fun r e=>by cases e),hnx.trans ((Below.refl _ wr).alloc (by have:=hnx.size;have:=hWB.size;omega) _),hB0 ▸ World.alloc_heap_new wr _⟩
   case round=>
    obtain ⟨j,hj,rfl,hJ2,a6,hbx⟩:=hrel;have hmx:(Qa l0 (m:Int)).f5.length≤9223372036854775807:=(HP.out.row m).2.2.1;by_cases hltj:j < (Qa l0 (m:Int)).f5.length
    ·
     have hji:((j:Nat):Int) < ((Qa l0 (m:Int)).f5.length:Int):=by omega
     obtain ⟨b3,he2,a0,a1,a2,a3,a4,a5⟩:=HP.out.item m j hltj;rw [he2];rw [he2] at hbx;have hwb:=hWB.trans a6;have hd0:=(hwb.cell (by rw [hn₀];exact zzn w _ a0)).trans a0;have hd1:=(hwb.cell (by rw [hn₀];exact zzn w _ a1)).trans a1;have hd2:=(hwb.cell (by rw [hn₀];exact zzn w _ a2)).trans a2;have hd3:=(hwb.cell (by rw [hn₀];exact zzn w _ a3)).trans a3;have hd4:=(hwb.cell (by rw [hn₀];exact zzn w _ a4)).trans a4;have hd5:=(hwb.cell (by rw [hn₀];exact zzn w _ a5)).trans a5;clear a0 a1 a2 a3 a4 a5 a7 a8 a9 b0 b1 b2;have hbx2:=(Below.heap_alloc wr (.cells #[.int .i64 (Qb (Qa l0 (m:Int)).f5 (j:Int)).f0,.int .i64 (Qb (Qa l0 (m:Int)).f5 (j:Int)).f1,.bool (Qb (Qa l0 (m:Int)).f5 (j:Int)).f2,.slice (AK m j) (Qb (Qa l0 (m:Int)).f5 (j:Int)).f3.length (CK m j),.bool (Qb (Qa l0 (m:Int)).f5 (j:Int)).f4,.slice (AV m j) (Qb (Qa l0 (m:Int)).f5 (j:Int)).f5.length (CV m j)] 43) B0 (Array.getElem?_eq_some_iff.1 hbx).1).trans hbx;have hb0:(wr.alloc (.cells #[.int .i64 (Qb (Qa l0 (m:Int)).f5 (j:Int)).f0,.int .i64 (Qb (Qa l0 (m:Int)).f5 (j:Int)).f1,.bool (Qb (Qa l0 (m:Int)).f5 (j:Int)).f2,.slice (AK m j) (Qb (Qa l0 (m:Int)).f5 (j:Int)).f3.length (CK m j),.bool (Qb (Qa l0 (m:Int)).f5 (j:Int)).f4,.slice (AV m j) (Qb (Qa l0 (m:Int)).f5 (j:Int)).f5.length (CV m j)] 43)).cell? ⟨B0,0,none⟩=some (.bool (Qa l0 (m:Int)).f0):=by simp [World.cell?,hbx2]
     have hb1:(wr.alloc (.cells #[.int .i64 (Qb (Qa l0 (m:Int)).f5 (j:Int)).f0,.int .i64 (Qb (Qa l0 (m:Int)).f5 (j:Int)).f1,.bool (Qb (Qa l0 (m:Int)).f5 (j:Int)).f2,.slice (AK m j) (Qb (Qa l0 (m:Int)).f5 (j:Int)).f3.length (CK m j),.bool (Qb (Qa l0 (m:Int)).f5 (j:Int)).f4,.slice (AV m j) (Qb (Qa l0 (m:Int)).f5 (j:Int)).f5.length (CV m j)] 43)).cell? ⟨B0,1,none⟩=some (.bool (Qa l0 (m:Int)).f1):=by simp [World.cell?,hbx2]
     have hb2:(wr.alloc (.cells #[.int .i64 (Qb (Qa l0 (m:Int)).f5 (j:Int)).f0,.int .i64 (Qb (Qa l0 (m:Int)).f5 (j:Int)).f1,.bool (Qb (Qa l0 (m:Int)).f5 (j:Int)).f2,.slice (AK m j) (Qb (Qa l0 (m:Int)).f5 (j:Int)).f3.length (CK m j),.bool (Qb (Qa l0 (m:Int)).f5 (j:Int)).f4,.slice (AV m j) (Qb (Qa l0 (m:Int)).f5 (j:Int)).f5.length (CV m j)] 43)).cell? ⟨B0,2,none⟩=some (.int .i64 (Qa l0 (m:Int)).f2):=by simp [World.cell?,hbx2]
     have hb3:(wr.alloc (.cells #[.int .i64 (Qb (Qa l0 (m:Int)).f5 (j:Int)).f0,.int .i64 (Qb (Qa l0 (m:Int)).f5 (j:Int)).f1,.bool (Qb (Qa l0 (m:Int)).f5 (j:Int)).f2,.slice (AK m j) (Qb (Qa l0 (m:Int)).f5 (j:Int)).f3.length (CK m j),.bool (Qb (Qa l0 (m:Int)).f5 (j:Int)).f4,.slice (AV m j) (Qb (Qa l0 (m:Int)).f5 (j:Int)).f5.length (CV m j)] 43)).cell? ⟨B0,3,none⟩=some (.int .i64 (Qa l0 (m:Int)).f3):=by simp [World.cell?,hbx2]
     have hb4:(wr.alloc (.cells #[.int .i64 (Qb (Qa l0 (m:Int)).f5 (j:Int)).f0,.int .i64 (Qb (Qa l0 (m:Int)).f5 (j:Int)).f1,.bool (Qb (Qa l0 (m:Int)).f5 (j:Int)).f2,.slice (AK m j) (Qb (Qa l0 (m:Int)).f5 (j:Int)).f3.length (CK m j),.bool (Qb (Qa l0 (m:Int)).f5 (j:Int)).f4,.slice (AV m j) (Qb (Qa l0 (m:Int)).f5 (j:Int)).f5.length (CV m j)] 43)).cell? ⟨B0,4,none⟩=some (.int .i64 (Qa l0 (m:Int)).f4):=by simp [World.cell?,hbx2]
     have hb5:(wr.alloc (.cells #[.int .i64 (Qb (Qa l0 (m:Int)).f5 (j:Int)).f0,.int .i64 (Qb (Qa l0 (m:Int)).f5 (j:Int)).f1,.bool (Qb (Qa l0 (m:Int)).f5 (j:Int)).f2,.slice (AK m j) (Qb (Qa l0 (m:Int)).f5 (j:Int)).f3.length (CK m j),.bool (Qb (Qa l0 (m:Int)).f5 (j:Int)).f4,.slice (AV m j) (Qb (Qa l0 (m:Int)).f5 (j:Int)).f5.length (CV m j)] 43)).cell? ⟨B0,5,none⟩=some (.slice (some b3) (Qa l0 (m:Int)).f5.length (CB m)):=by simp [World.cell?,hbx2]
     obtain ⟨fn,tmps,assign,body,hy,hR⟩:=HY.out _ (m,j) (wr.alloc (.cells #[.int .i64 (Qb (Qa l0 (m:Int)).f5 (j:Int)).f0,.int .i64 (Qb (Qa l0 (m:Int)).f5 (j:Int)).f1,.bool (Qb (Qa l0 (m:Int)).f5 (j:Int)).f2,.slice (AK m j) (Qb (Qa l0 (m:Int)).f5 (j:Int)).f3.length (CK m j),.bool (Qb (Qa l0 (m:Int)).f5 (j:Int)).f4,.slice (AV m j) (Qb (Qa l0 (m:Int)).f5 (j:Int)).f5.length (CV m j)] 43)) (HJ.out _ _ _ none hJ2 (World.grownBy_alloc wr _ none) (fun r e=>by cases e)) (ptsAt_lt hlt hltj);dsimp only [encB,encR] at hy;rw [he2] at hy;gi_wp2;have b4:=a6.trans ((Below.refl n₀ wr).alloc (by have:=a6.size;have:=hWB.size;omega) (.cells #[.int .i64 (Qb (Qa l0 (m:Int)).f5 (j:Int)).f0,.int .i64 (Qb (Qa l0 (m:Int)).f5 (j:Int)).f1,.bool (Qb (Qa l0 (m:Int)).f5 (j:Int)).f2,.slice (AK m j) (Qb (Qa l0 (m:Int)).f5 (j:Int)).f3.length (CK m j),.bool (Qb (Qa l0 (m:Int)).f5 (j:Int)).f4,.slice (AV m j) (Qb (Qa l0 (m:Int)).f5 (j:Int)).f5.length (CV m j)] 43));refine hR.mono ?_;rintro e W3 (⟨rfl,hJ3,hk3⟩|⟨rfl,hJx3⟩)
     ·
      gi_wp2;go_roundw
      case rel=>exact ⟨j+1,by omega,by go_num,by rw [ptsAt_succ];exact hJ3,b4.trans hk3.1,hk3.2 _ _ _ hbx2⟩
      case measure=>simp [intOf] <;> omega
     ·
      gi_wp2;refine bodyPost_ret (results_none rfl _ _ _) rfl ?_;exact ⟨⟨_,rfl⟩,.inr ⟨ptsAt l0 m j ++ [(m,j)],by rw [← ptsAt_succ];exact ptsAt_prefix hlt (by omega),hJx3⟩⟩
    ·
     have hje:j=(Qa l0 (m:Int)).f5.length:=by omega
     have hji:¬ ((j:Nat):Int) < ((Qa l0 (m:Int)).f5.length:Int):=by omega
     gi_wp2;go_roundw
     case rel=>exact ⟨m+1,by omega,by go_num,by rw [← ptsAt_full,← hje];exact hJ2,a6⟩
     case measure=>simp [intOf] <;> omega
  ·
   have hme:m=l0.length:=by omega
   have hmi:¬ ((m:Nat):Int) < (l0.length:Int):=by omega
   gi_wp2;go_end0;exact ⟨⟨_,rfl⟩,.inl (by have h:=hJs;rw [hme] at h;exact h)⟩
theorem recs_stops (F:Fence) (n:Nat) (h1:F.fn 36) (hro:F.round=none) (hn : 1≤n) (Bs:Nat) (A0:Option Addr) (c0:Nat) (l0:List S39) {AB:Nat→Option Addr} {CB:Nat→Nat} {AK:Nat→Nat→Option Addr} {CK:Nat→Nat→Nat} {AV:Nat→Nat→Option Addr} {CV:Nat→Nat→Nat}
  (w W0:World) (hP:Places w A0 l0 AB CB AK CK AV CV) (hmax:l0.length≤9223372036854775807) (hWB:Below w.heap.size w W0) (hc:W0.cell? ⟨Bs,0,none⟩=some (.slice A0 l0.length c0)) :
  SeqStopsK F n Try.prog 36 #[.pointer (some ⟨Bs,0,none⟩)] (fun x:Nat×Nat=>#[encB l0 AB CB x.1,encR l0 AK CK AV CV x.1 x.2]) (KpR w.heap.size) (fun ys=>ys=pts l0) (fun pre=>pre <+: pts l0) (pts l0).length W0:=
 fun l J Jx W hW hJ _ hY h0=>recs1_in F n h1 hro hn l Bs w.heap.size A0 c0 l0 w W hP hmax rfl J Jx hJ hY ((hW.cell (zzn W0 _ hc)).trans hc) (hWB.trans (hW.mono hWB.size)) h0
set_option maxHeartbeats 1000000 in
theorem recs_in (F:Fence) (n:Nat) (h6:F.fn 20) (hro:F.round=none) (A0:Option Addr) (len cap:Nat) (w:World) :
  CallsIn F n Try.prog 20 #[.slice A0 len cap] w fun e w'=>e = .returned (.func (.func 36) #[] #[.pointer (some ⟨w.heap.size,0,none⟩)])∧w' = w.alloc (.cells #[.slice A0 len cap] 26):=by
 refine callsIn_of_wp Try.func20 rfl h6 ?_ hro;simp only [Try.ntmps20,List.size_toArray,List.length_cons,List.length_nil,Nat.reduceAdd,Nat.reduceSub,Array.replicate_succ,Array.replicate_zero,List.push_toArray,List.append_toArray,List.nil_append,List.cons_append];gi_wp2;go_ret;exact ⟨rfl,rfl⟩
end
section
open Go.Shelf
variable {F:Fence} {n:Nat} {P:Program} {ops:Array Oper} {Q:Exit→Act→World→Prop}
theorem wpAnyIn_inv' {md:Region.Mode} (Inv:Array Bool→Act→World→Prop) (todo:Array Bool→Nat)
  (h:∀ listed a w,Inv listed a w→(Region.ready md ops listed = []→Q .normal a w)∧∀ i∈Region.ready md ops listed,wpOpIn F n P ops Q i (fun a' w'=>Inv (listed.setIfInBounds i true) a' w') a w)
  (h0:∀ listed a w,Inv listed a w→todo listed=0→Region.ready md ops listed = [])
  (hdec:∀ listed i a w,Inv listed a w→i∈Region.ready md ops listed→todo (listed.setIfInBounds i true) < todo listed) :
  ∀ (fuel:Nat) (listed:Array Bool) (a:Act) (w:World),Inv listed a w→todo listed≤fuel→wpAnyIn F n P md ops Q fuel listed a w
 | 0,listed,a,w,hi,ht=>by
  have hr:=h0 listed a w hi (by omega)
  exact ⟨hr,(h listed a w hi).1 hr⟩
 | fuel+1,listed,a,w,hi,ht=>by
  refine ⟨(h listed a w hi).1,fun i hm=>?_⟩
  have hd:=hdec listed i a w hi hm
  refine wpOpIn_mono ?_ ((h listed a w hi).2 i hm)
  intro a' w' hi'
  exact wpAnyIn_inv' Inv todo h h0 hdec fuel _ a' w' hi' (by omega)
def appSt (b:Bool) (s:Nat):Array Bool:=#[b,decide (1≤s),decide (2≤s),decide (3≤s),decide (4≤s),decide (5≤s)]
def appRd (b:Bool) (s:Nat):List Nat:=(if b=true then [] else [0])++(match s with
 | 0=>[1]
 | 1=>[2]
 | 2=>[3]
 | 3=>if b=true then [4] else []
 | 4=>[5]
 | _=>[])
def appAll:List (Bool×Nat):=[(false,0),(false,1),(false,2),(false,3),(true,0),(true,1),(true,2),(true,3),(true,4),(true,5)]
def appTab (ops:Array Oper):Bool:=appAll.all fun p=>Region.ready .any ops (appSt p.1 p.2)==appRd p.1 p.2
theorem wpAnyIn_app6 (htab:appTab ops=true) (I:Bool→Nat→Act→World→Prop)
  (hdone:∀ a w,I true 5 a w→Q .normal a w)
  (s0:∀ s a w,s≤3→I false s a w→wpOpIn F n P ops Q 0 (fun a' w'=>I true s a' w') a w)
  (s1:∀ b a w,I b 0 a w→wpOpIn F n P ops Q 1 (fun a' w'=>I b 1 a' w') a w)
  (s2:∀ b a w,I b 1 a w→wpOpIn F n P ops Q 2 (fun a' w'=>I b 2 a' w') a w)
  (s3:∀ b a w,I b 2 a w→wpOpIn F n P ops Q 3 (fun a' w'=>I b 3 a' w') a w)
  (s4:∀ a w,I true 3 a w→wpOpIn F n P ops Q 4 (fun a' w'=>I true 4 a' w') a w)
  (s5:∀ a w,I true 4 a w→wpOpIn F n P ops Q 5 (fun a' w'=>I true 5 a' w') a w)
  {a:Act} {w:World} (hi:I false 0 a w):wpAnyIn F n P .any ops Q 6 (zzB 6 0) a w:=by
 have htab' : ∀ p∈appAll,Region.ready .any ops (appSt p.1 p.2)=appRd p.1 p.2:=fun p hp=>eq_of_beq (List.all_eq_true.mp htab p hp);refine wpAnyIn_inv' (fun l a w=>∃ p∈appAll,l=appSt p.1 p.2∧I p.1 p.2 a w) (fun l=>l.toList.count false) ?_ ?_ ?_ _ _ _ _ ⟨(false,0),by decide,rfl,hi⟩ (by decide)
 ·
  rintro listed a w ⟨p,hp,rfl,hI⟩;rw [htab' p hp];simp only [appAll,List.mem_cons,List.not_mem_nil,or_false] at hp;have put:∀ {i:Nat} {b:Bool} {s:Nat} {b' : Bool} {s' : Nat},(b',s')∈appAll→(appSt b s).setIfInBounds i true=appSt b' s'→wpOpIn F n P ops Q i (fun a' w'=>I b' s' a' w') a w→wpOpIn F n P ops Q i (fun a' w'=>∃ p∈appAll,(appSt b s).setIfInBounds i true=appSt p.1 p.2∧I p.1 p.2 a' w') a w:=
   fun h1 h2 h3=>wpOpIn_mono (fun a' w' h=>⟨_,h1,h2,h⟩) h3
  rcases hp with rfl|rfl|rfl|rfl|rfl|rfl|rfl|rfl|rfl|rfl
  ·
   refine ⟨fun e=>by simp [appRd] at e,fun i hi=>?_⟩;simp [appRd] at hi;rcases hi with rfl|rfl
   ·
    exact put (by decide) rfl (s0 _ _ _ (by decide) hI)
   ·
    exact put (by decide) rfl (s1 _ _ _ hI)
  ·
   refine ⟨fun e=>by simp [appRd] at e,fun i hi=>?_⟩;simp [appRd] at hi;rcases hi with rfl|rfl
   ·
    exact put (by decide) rfl (s0 _ _ _ (by decide) hI)
   ·
    exact put (by decide) rfl (s2 _ _ _ hI)
  ·
   refine ⟨fun e=>by simp [appRd] at e,fun i hi=>?_⟩;simp [appRd] at hi;rcases hi with rfl|rfl
   ·
    exact put (by decide) rfl (s0 _ _ _ (by decide) hI)
   ·
    exact put (by decide) rfl (s3 _ _ _ hI)
  ·
   refine ⟨fun e=>by simp [appRd] at e,fun i hi=>?_⟩;simp [appRd] at hi;rcases hi with rfl;exact put (by decide) rfl (s0 _ _ _ (by decide) hI)
  ·
   refine ⟨fun e=>by simp [appRd] at e,fun i hi=>?_⟩;simp [appRd] at hi;rcases hi with rfl;exact put (by decide) rfl (s1 _ _ _ hI)
  ·
   refine ⟨fun e=>by simp [appRd] at e,fun i hi=>?_⟩;simp [appRd] at hi;rcases hi with rfl;exact put (by decide) rfl (s2 _ _ _ hI)
  ·
   refine ⟨fun e=>by simp [appRd] at e,fun i hi=>?_⟩;simp [appRd] at hi;rcases hi with rfl;exact put (by decide) rfl (s3 _ _ _ hI)
  ·
   refine ⟨fun e=>by simp [appRd] at e,fun i hi=>?_⟩;simp [appRd] at hi;rcases hi with rfl;exact put (by decide) rfl (s4 _ _ hI)
  ·
   refine ⟨fun e=>by simp [appRd] at e,fun i hi=>?_⟩;simp [appRd] at hi;rcases hi with rfl;exact put (by decide) rfl (s5 _ _ hI)
  ·
   exact ⟨fun _=>hdone _ _ hI,fun i hi=>by simp [appRd] at hi⟩
 ·
  rintro listed a w ⟨p,hp,rfl,hI⟩ h0;rw [htab' p hp];simp only [appAll,List.mem_cons,List.not_mem_nil,or_false] at hp;rcases hp with rfl|rfl|rfl|rfl|rfl|rfl|rfl|rfl|rfl|rfl <;> first|rfl|exact absurd h0 (by decide)
 ·
  rintro listed i a w ⟨p,hp,rfl,hI⟩ hi;rw [htab' p hp] at hi;simp only [appAll,List.mem_cons,List.not_mem_nil,or_false] at hp;rcases hp with rfl|rfl|rfl|rfl|rfl|rfl|rfl|rfl|rfl|rfl <;> (simp [appRd] at hi) <;> first|(rcases hi with rfl|rfl <;> decide)|(subst hi;decide)
section
variable {o:Oper} {a:Act} {W:World} {K:Act→World→Prop} {α:Type}
theorem S_append_in (d:Kd α) (base:Nat) (s x:Operand) (t e:TypeId) (z:Value) (bytes:Nat)
  (ho:o.op = .call { callee:=.builtin .append,args:=#[s,x],argTypes:=#[t,t] })
  (ht:P.underlying t=some (.slice e)) (hinfo:(P.info? e).map (fun i=>(i.zero,i.size,i.bytes))=some (some z,d.sz,bytes)) (hz:z.cells.size=d.sz) (a0 : 0 < d.sz) (hb0 : 0 < bytes)
  (v:Value) (xs:List α) (p : α) (cs:List Value) (ok okp:Nat→Prop) (hs:a.eval s=v) (ad:Addr) (c:Nat) (hx:a.eval x = .slice (some ad) 1 c) (hcs:∀ j u,cs[j]? = some u→W.cell? (ad.add j)=some u) (hp:d.M W base okp p cs) (hokp:∀ k,okp k→ok k∧some k≠v.ownBlock) (hfresh:∀ k,W.heap.size≤k→ok k)
  (HO:Kd.S d e W base (fun k=>ok k∧¬ okp k) v xs) (hbase:base≤W.heap.size) (hl:(xs.length+1) * bytes≤140737488355328)
  (h:∀ v1 w1,Kd.S d e w1 base ok v1 (xs ++ [p])→W.grownBy w1 v.ownBlock→(v1.ownBlock=v.ownBlock∨∃ b,v1.ownBlock=some b∧W.heap.size≤b)→K (a.put o.dst v1) w1) :
  Oper.wpIn F n P o a W K Q:=by
 obtain ⟨f,hf,hR⟩:=Kd.S_tag HO xs.length okp (fun _ hk h2=>h2.2 hk);obtain ⟨h0,inner,hown,hr⟩:=Kd.R_mono hR (fun _ hk=>hk.1);obtain ⟨i0,hi,hzz⟩:=Option.map_eq_some_iff.1 hinfo;simp only [Prod.mk.injEq] at hzz;obtain ⟨hz0,hz1,hz2⟩:=hzz;have hlen:xs.length+1≤140737488355328:=Nat.le_trans (Nat.le_mul_of_pos_right _ hb0) hl;have hM:(Kd.tag f d).M W base okp (p,xs.length) cs:=d.M_mono (fun k hk=>⟨hk,hf k hk⟩) hp;obtain ⟨v1,w1,hrun,hown1,hg,_,hat⟩:=run_append_own_at (P:=P) W base t o.type e i0 z d.sz bytes ht hi hz0 hz1 hz2 hz a0 v xs.zipIdx.length inner hown ad 1 c cs (by rw [d.K_len (d.K_of_M hp),Nat.one_mul]) hcs (d.K_one (d.K_of_M hp)) (by rw [List.length_zipIdx];simp only [maxLen];omega) (by rw [List.length_zipIdx];exact hl) hbase;have hat' : v1.ownBlock=v.ownBlock∨∃ b,v1.ownBlock=some b∧W.heap.size≤b:=hat.imp id (fun h=>⟨_,h,Nat.le_refl _⟩);have hS:Kd.S d e w1 base ok v1 (xs ++ [p]):=⟨f,by rw [Kd.zip_snoc];exact Kd.R_appended h0 hr hM hokp hfresh hown1 hg hat'⟩;unfold Oper.wpIn;refine ⟨by simp [Oper.about,ho,resolve,Target.leads,Sem.run_pure],?_⟩;rw [Oper.semAt_plain F _ _ (by rw [ho];intro c hc';cases hc')];simp only [ho,execOp,resolve,invoke,builtin,Sem.run_bind,Sem.run_pure,Result.andThen_ok,map_toArray,map_cons,map_nil,hs,hx,hrun];exact h v1 w1 hS hg hat'
end
end
section
open Go.Shelf
variable {F:Fence} {n:Nat} {P:Program} {ops:Array Oper} {Q:Exit→Act→World→Prop}
theorem wpAnyIn_inv3 {md:Region.Mode} (Inv:Array Bool→Act→World→Prop) (todo:Array Bool→Nat)
  (h:∀ listed a w,Inv listed a w→(Region.ready md ops listed = []→Q .normal a w)∧∀ i∈Region.ready md ops listed,wpOpIn F n P ops Q i (fun a' w'=>Inv (listed.setIfInBounds i true) a' w') a w)
  (h0:∀ listed a w,Inv listed a w→todo listed=0→Region.ready md ops listed = [])
  (hdec:∀ listed i a w,Inv listed a w→i∈Region.ready md ops listed→todo (listed.setIfInBounds i true) < todo listed) :
  ∀ (fuel:Nat) (listed:Array Bool) (a:Act) (w:World),Inv listed a w→todo listed≤fuel→wpAnyIn F n P md ops Q fuel listed a w
 | 0,listed,a,w,hi,ht=>by
  have hr:=h0 listed a w hi (by omega)
  exact ⟨hr,(h listed a w hi).1 hr⟩
 | fuel+1,listed,a,w,hi,ht=>by
  refine ⟨(h listed a w hi).1,fun i hm=>?_⟩
  have hd:=hdec listed i a w hi hm
  refine wpOpIn_mono ?_ ((h listed a w hi).2 i hm)
  intro a' w' hi'
  exact wpAnyIn_inv3 Inv todo h h0 hdec fuel _ a' w' hi' (by omega)
def stTab {σ:Type} [DecidableEq σ] (ops:Array Oper) (all:List σ) (st : σ→Array Bool) (go : σ→List (Nat×σ)):Bool:=
 all.all fun s=>(Region.ready .any ops (st s)==(go s).map (·.1))&&((go s).all fun p=>decide (p.2∈all)&&(((st s).setIfInBounds p.1 true==st p.2)&&decide ((st p.2).toList.count false < (st s).toList.count false)))&&(decide ((st s).toList.count false≠0)||(go s).isEmpty)
theorem wpAnyIn_states {σ:Type} [DecidableEq σ] (all:List σ) (st : σ→Array Bool) (go : σ→List (Nat×σ)) (htab:stTab ops all st go=true) (I : σ→Act→World→Prop)
  (hdone:∀ s∈all,go s = []→∀ a w,I s a w→Q .normal a w)
  (hstep:∀ s∈all,∀ p∈go s,∀ a w,I s a w→wpOpIn F n P ops Q p.1 (fun a' w'=>I p.2 a' w') a w)
  (s0 : σ) (hs0:s0∈all) (fuel:Nat) (hf:(st s0).toList.count false≤fuel) {a:Act} {w:World} (hi:I s0 a w):wpAnyIn F n P .any ops Q fuel (st s0) a w:=by
 have tab:∀ s∈all,Region.ready .any ops (st s)=(go s).map (·.1)∧(∀ p∈go s,p.2∈all∧(st s).setIfInBounds p.1 true=st p.2∧(st p.2).toList.count false < (st s).toList.count false)∧((st s).toList.count false=0→go s = []):=by
  intro s hs;have h:=List.all_eq_true.mp htab s hs;simp only [Bool.and_eq_true,Bool.or_eq_true,decide_eq_true_eq] at h;obtain ⟨⟨h1,h2⟩,h3⟩:=h;refine ⟨eq_of_beq h1,fun p hp=>?_,fun h0=>?_⟩
  ·
   have:=List.all_eq_true.mp h2 p hp;simp only [Bool.and_eq_true,decide_eq_true_eq] at this;exact ⟨this.1,eq_of_beq this.2.1,this.2.2⟩
  ·
   rcases h3 with h3|h3
   ·
    exact absurd h0 h3
   ·
    simpa using h3
 refine wpAnyIn_inv3 (fun l a w=>∃ s∈all,l=st s∧I s a w) (fun l=>l.toList.count false) ?_ ?_ ?_ _ _ _ _ ⟨s0,hs0,rfl,hi⟩ hf
 ·
  rintro listed a w ⟨s,hs,rfl,hI⟩;obtain ⟨t1,t2,t3⟩:=tab s hs;rw [t1];refine ⟨fun e=>hdone s hs (by simpa using e) a w hI,fun i hm=>?_⟩;obtain ⟨p,hp,rfl⟩:=List.mem_map.1 hm;obtain ⟨p1,p2,p3⟩:=t2 p hp;exact wpOpIn_mono (fun a' w' h=>⟨p.2,p1,p2,h⟩) (hstep s hs p hp a w hI)
 ·
  rintro listed a w ⟨s,hs,rfl,hI⟩ h0;obtain ⟨t1,t2,t3⟩:=tab s hs;rw [t1,t3 h0];rfl
 ·
  rintro listed i a w ⟨s,hs,rfl,hI⟩ hm;obtain ⟨t1,t2,t3⟩:=tab s hs;rw [t1] at hm;obtain ⟨p,hp,rfl⟩:=List.mem_map.1 hm;obtain ⟨p1,p2,p3⟩:=t2 p hp;rw [p2];exact p3
abbrev St3:=Option (Nat×Nat×Nat)
def st132:St3→Array Bool
 | none=>(zzB 7 127)
 | some (a,b,c)=>#[decide (1≤a),decide (1≤b),decide (2≤b),decide (3≤b),decide (1≤c),decide (2≤c),false]
def go132:St3→List (Nat×St3)
 | none=>[]
 | some (a,b,c)=>(if a=0 then [(0,some (1,b,c))] else [])++((if b=0 then [(1,some (a,1,c))] else if b=1 then [(2,some (a,2,c))] else if b=2 then [(3,some (a,3,c))] else [])++((if c=0 then [(4,some (a,b,1))] else if c=1 then [(5,some (a,b,2))] else [])++(if a=1∧b=3∧c=2 then [(6,none)] else [])))
def all132:List St3:=none::(List.range 2).flatMap fun a=>(List.range 4).flatMap fun b=>(List.range 3).map fun c=>some (a,b,c)
theorem wpAnyIn_132 (htab:stTab ops all132 st132 go132=true) (I:Nat→Nat→Nat→Act→World→Prop) (J:Act→World→Prop)
  (hdone:∀ a w,J a w→Q .normal a w)
  (s0:∀ y z a w,I 0 y z a w→wpOpIn F n P ops Q 0 (fun a' w'=>I 1 y z a' w') a w)
  (s1:∀ x z a w,I x 0 z a w→wpOpIn F n P ops Q 1 (fun a' w'=>I x 1 z a' w') a w)
  (s2:∀ x z a w,I x 1 z a w→wpOpIn F n P ops Q 2 (fun a' w'=>I x 2 z a' w') a w)
  (s3:∀ x z a w,I x 2 z a w→wpOpIn F n P ops Q 3 (fun a' w'=>I x 3 z a' w') a w)
  (s4:∀ x y a w,I x y 0 a w→wpOpIn F n P ops Q 4 (fun a' w'=>I x y 1 a' w') a w)
  (s5:∀ x y a w,I x y 1 a w→wpOpIn F n P ops Q 5 (fun a' w'=>I x y 2 a' w') a w)
  (s6:∀ a w,I 1 3 2 a w→wpOpIn F n P ops Q 6 (fun a' w'=>J a' w') a w)
  {a:Act} {w:World} (hi:I 0 0 0 a w):wpAnyIn F n P .any ops Q 7 (zzB 7 0) a w:=by
 refine wpAnyIn_states all132 st132 go132 htab (fun s a w=>match s with
  | none=>J a w
  | some (x,y,z)=>I x y z a w) ?_ ?_ (some (0,0,0)) (by decide) 7 (by decide) hi
 ·
  rintro s hs hg a w hI;cases s with
  | none=>exact hdone a w hI
  | some p=>
   obtain ⟨x,y,z⟩:=p;exfalso;simp only [go132,List.append_eq_nil_iff] at hg;obtain ⟨g1,g2,g3,g4⟩:=hg;simp only [all132,List.mem_cons,List.mem_flatMap,List.mem_map,List.mem_range,reduceCtorEq,false_or] at hs;obtain ⟨a',ha,b',hb,c',hc,e⟩:=hs;cases e;have h1:x=1:=by
    by_cases h:x=0
    ·
     rw [if_pos h] at g1;cases g1
    ·
     omega
   have h2:y=3:=by
    by_cases h:y=0
    ·
     rw [if_pos h] at g2;cases g2
    ·
     by_cases h' : y=1
     ·
      rw [if_neg h,if_pos h'] at g2;cases g2
     ·
      by_cases h'' : y=2
      ·
       rw [if_neg h,if_neg h',if_pos h''] at g2;cases g2
      ·
       omega
   have h3:z=2:=by
    by_cases h:z=0
    ·
     rw [if_pos h] at g3;cases g3
    ·
     by_cases h' : z=1
     ·
      rw [if_neg h,if_pos h'] at g3;cases g3
     ·
      omega
   rw [if_pos ⟨h1,h2,h3⟩] at g4;cases g4
 ·
  rintro s hs p hp a w hI;cases s with
  | none=>simp [go132] at hp
  | some q=>
   obtain ⟨x,y,z⟩:=q;simp only [go132,List.mem_append] at hp;rcases hp with hp|hp|hp|hp
   ·
    split at hp
    ·
     obtain rfl:=List.mem_singleton.1 hp;subst x;exact s0 y z a w hI
    ·
     cases hp
   ·
    split at hp
    ·
     obtain rfl:=List.mem_singleton.1 hp;subst y;exact s1 x z a w hI
    ·
     split at hp
     ·
      obtain rfl:=List.mem_singleton.1 hp;subst y;exact s2 x z a w hI
     ·
      split at hp
      ·
       obtain rfl:=List.mem_singleton.1 hp;subst y;exact s3 x z a w hI
      ·
       cases hp
   ·
    split at hp
    ·
     obtain rfl:=List.mem_singleton.1 hp;subst z;exact s4 x y a w hI
    ·
     split at hp
     ·
      obtain rfl:=List.mem_singleton.1 hp;subst z;exact s5 x y a w hI
     ·
      cases hp
   ·
    split at hp
    ·
     rename_i h;obtain ⟨rfl,rfl,rfl⟩:=h;obtain rfl:=List.mem_singleton.1 hp;exact s6 a w hI
    ·
     cases hp
abbrev St20:=Nat×Nat×Nat×Nat×Nat
def st20:St20→Array Bool
 | (0,x,_,_,_)=>#[decide (1≤x),decide (2≤x),false,false,false,false,false,false,false,false,false,false,false,false,false,false,false,false,false,false]
 | (1,x,y,z,d)=>#[true,true,true,decide (1≤x),decide (1≤y),decide (2≤y),decide (3≤y),decide (1≤d),decide (1≤z),decide (2≤z),false,false,false,false,false,false,false,false,false,false]
 | (_,x,_,_,_)=>#[true,true,true,true,true,true,true,true,true,true,decide (1≤x),decide (2≤x),decide (3≤x),decide (4≤x),decide (5≤x),decide (6≤x),decide (7≤x),decide (8≤x),decide (9≤x),decide (10≤x)]
def go20:St20→List (Nat×St20)
 | (0,x,_,_,_)=>if x=0 then [(0,(0,1,0,0,0))] else if x=1 then [(1,(0,2,0,0,0))] else [(2,(1,0,0,0,0))]
 | (1,x,y,z,d)=>(if x=0 then [(3,(1,1,y,z,d))] else [])++((if y=0 then [(4,(1,x,1,z,d))] else if y=1 then [(5,(1,x,2,z,d))] else if y=2 then [(6,(1,x,3,z,d))] else [])++((if x=1∧y=3∧d=0 then [(7,(1,x,y,z,1))] else [])++((if z=0 then [(8,(1,x,y,1,d))] else if z=1 then [(9,(1,x,y,2,d))] else [])++(if d=1∧z=2 then [(10,(2,1,0,0,0))] else []))))
 | (_,x,_,_,_)=>if x < 10 then [(10+x,(2,x+1,0,0,0))] else []
def all20:List St20:=(List.range 3).map (fun x=>(0,x,0,0,0))++(((List.range 2).flatMap fun x=>(List.range 4).flatMap fun y=>(List.range 3).map fun z=>(1,x,y,z,0))++((List.range 3).map (fun z=>(1,1,3,z,1))++(List.range 10).map (fun x=>(2,x+1,0,0,0))))
theorem wpAnyIn_20 (htab:stTab ops all20 st20 go20=true) (I0:Nat→Act→World→Prop) (I1:Nat→Nat→Nat→Nat→Act→World→Prop) (I2:Nat→Act→World→Prop)
  (hdone:∀ a w,I2 10 a w→Q .normal a w)
  (s0:∀ a w,I0 0 a w→wpOpIn F n P ops Q 0 (fun a' w'=>I0 1 a' w') a w)
  (s1:∀ a w,I0 1 a w→wpOpIn F n P ops Q 1 (fun a' w'=>I0 2 a' w') a w)
  (s2:∀ a w,I0 2 a w→wpOpIn F n P ops Q 2 (fun a' w'=>I1 0 0 0 0 a' w') a w)
  (s3:∀ y z d a w,I1 0 y z d a w→wpOpIn F n P ops Q 3 (fun a' w'=>I1 1 y z d a' w') a w)
  (s4:∀ x z d a w,I1 x 0 z d a w→wpOpIn F n P ops Q 4 (fun a' w'=>I1 x 1 z d a' w') a w)
  (s5:∀ x z d a w,I1 x 1 z d a w→wpOpIn F n P ops Q 5 (fun a' w'=>I1 x 2 z d a' w') a w)
  (s6:∀ x z d a w,I1 x 2 z d a w→wpOpIn F n P ops Q 6 (fun a' w'=>I1 x 3 z d a' w') a w)
  (s7:∀ z a w,I1 1 3 z 0 a w→wpOpIn F n P ops Q 7 (fun a' w'=>I1 1 3 z 1 a' w') a w)
  (s8:∀ x y d a w,I1 x y 0 d a w→wpOpIn F n P ops Q 8 (fun a' w'=>I1 x y 1 d a' w') a w)
  (s9:∀ x y d a w,I1 x y 1 d a w→wpOpIn F n P ops Q 9 (fun a' w'=>I1 x y 2 d a' w') a w)
  (s10:∀ a w,I1 1 3 2 1 a w→wpOpIn F n P ops Q 10 (fun a' w'=>I2 1 a' w') a w)
  (s11:∀ a w,I2 1 a w→wpOpIn F n P ops Q 11 (fun a' w'=>I2 2 a' w') a w)
  (s12:∀ a w,I2 2 a w→wpOpIn F n P ops Q 12 (fun a' w'=>I2 3 a' w') a w)
  (s13:∀ a w,I2 3 a w→wpOpIn F n P ops Q 13 (fun a' w'=>I2 4 a' w') a w)
  (s14:∀ a w,I2 4 a w→wpOpIn F n P ops Q 14 (fun a' w'=>I2 5 a' w') a w)
  (s15:∀ a w,I2 5 a w→wpOpIn F n P ops Q 15 (fun a' w'=>I2 6 a' w') a w)
  (s16:∀ a w,I2 6 a w→wpOpIn F n P ops Q 16 (fun a' w'=>I2 7 a' w') a w)
  (s17:∀ a w,I2 7 a w→wpOpIn F n P ops Q 17 (fun a' w'=>I2 8 a' w') a w)
  (s18:∀ a w,I2 8 a w→wpOpIn F n P ops Q 18 (fun a' w'=>I2 9 a' w') a w)
  (s19:∀ a w,I2 9 a w→wpOpIn F n P ops Q 19 (fun a' w'=>I2 10 a' w') a w)
  {a:Act} {w:World} (hi:I0 0 a w):wpAnyIn F n P .any ops Q 20 (zzB 20 0) a w:=by
 refine wpAnyIn_states all20 st20 go20 htab (fun s a w=>match s with
  | (0,x,_,_,_)=>I0 x a w
  | (1,x,y,z,d)=>I1 x y z d a w
  | (_,x,_,_,_)=>I2 x a w) ?_ ?_ (0,0,0,0,0) (by decide) 20 (by decide) hi
 ·
  have h20:∀ s∈all20,go20 s = []→s=(2,10,0,0,0):=by decide +kernel
  intro s hs hg a w hI;rw [h20 s hs hg] at hI;exact hdone a w hI
 ·
  rintro ⟨p0,x,y,z,d⟩ hs p hp a w hI;simp only [all20,List.mem_append,List.mem_map,List.mem_range,List.mem_flatMap,Prod.mk.injEq] at hs;rcases hs with ⟨x',hx',rfl,rfl,rfl,rfl,rfl⟩|⟨x',hx',y',hy',z',hz',rfl,rfl,rfl,rfl,rfl⟩|⟨z',hz',rfl,rfl,rfl,rfl,rfl⟩|⟨x',hx',rfl,rfl,rfl,rfl,rfl⟩
  ·
   simp only [go20] at hp;split at hp
   ·
    obtain rfl:=List.mem_singleton.1 hp;subst x';exact s0 a w hI
   ·
    split at hp
    ·
     obtain rfl:=List.mem_singleton.1 hp;subst x';exact s1 a w hI
    ·
     obtain rfl:=List.mem_singleton.1 hp;obtain rfl:x' = 2:=by omega
     exact s2 a w hI
  ·
   simp only [go20,List.mem_append] at hp;rcases hp with hp|hp|hp|hp|hp
   ·
    split at hp
    ·
     obtain rfl:=List.mem_singleton.1 hp;subst x';exact s3 y' z' 0 a w hI
    ·
     cases hp
   ·
    split at hp
    ·
     obtain rfl:=List.mem_singleton.1 hp;subst y';exact s4 x' z' 0 a w hI
    ·
     split at hp
     ·
      obtain rfl:=List.mem_singleton.1 hp;subst y';exact s5 x' z' 0 a w hI
     ·
      split at hp
      ·
       obtain rfl:=List.mem_singleton.1 hp;subst y';exact s6 x' z' 0 a w hI
      ·
       cases hp
   ·
    split at hp
    ·
     rename_i h;obtain ⟨rfl,rfl,-⟩:=h;obtain rfl:=List.mem_singleton.1 hp;exact s7 z' a w hI
    ·
     cases hp
   ·
    split at hp
    ·
     obtain rfl:=List.mem_singleton.1 hp;subst z';exact s8 x' y' 0 a w hI
    ·
     split at hp
     ·
      obtain rfl:=List.mem_singleton.1 hp;subst z';exact s9 x' y' 0 a w hI
     ·
      cases hp
   ·
    rw [if_neg (by omega)] at hp;cases hp
  ·
   simp only [go20,List.mem_append] at hp;rcases hp with hp|hp|hp|hp|hp
   ·
    rw [if_neg (by omega)] at hp;cases hp
   ·
    rw [if_neg (by omega),if_neg (by omega),if_neg (by omega)] at hp;cases hp
   ·
    rw [if_neg (by omega)] at hp;cases hp
   ·
    split at hp
    ·
     obtain rfl:=List.mem_singleton.1 hp;subst z';exact s8 1 3 1 a w hI
    ·
     split at hp
     ·
      obtain rfl:=List.mem_singleton.1 hp;subst z';exact s9 1 3 1 a w hI
     ·
      cases hp
   ·
    split at hp
    ·
     rename_i h;obtain ⟨-,rfl⟩:=h;obtain rfl:=List.mem_singleton.1 hp;exact s10 a w hI
    ·
     cases hp
  ·
   simp only [go20] at hp;split at hp
   ·
    rename_i h;obtain rfl:=List.mem_singleton.1 hp;match x',h,hI with
    | 0,h,hI=>exact s11 a w hI
    | 1,h,hI=>exact s12 a w hI
    | 2,h,hI=>exact s13 a w hI
    | 3,h,hI=>exact s14 a w hI
    | 4,h,hI=>exact s15 a w hI
    | 5,h,hI=>exact s16 a w hI
    | 6,h,hI=>exact s17 a w hI
    | 7,h,hI=>exact s18 a w hI
    | 8,h,hI=>exact s19 a w hI
    | x' + 9,h,hI=>exact absurd h (by omega)
   ·
    cases hp
end
section
open Go.Shelf
attribute [local go_sem] Oper.semAt_some
def okLog (l:List S39):Bool:=decide ((pts l).length≤1000000)&&l.all fun b=>b.f5.all fun r=>(decide (0≤r.f0∧r.f0≤99999)&&decide (r.f3.length≤1000))&&(decide (r.f5.length≤1000)&&(!r.f2||keyOk r.f3))
def rcOf (l:List S39) (x:Nat×Nat):S43:=Qb (Qa l (x.1:Int)).f5 (x.2:Int)
def mkOf (l:List S39) (x:Nat×Nat):Bool:=(Qa l (x.1:Int)).f1
theorem okLog_len {l:List S39} (h:okLog l=true):(pts l).length≤1000000:=by
 unfold okLog at h;rw [Bool.and_eq_true,decide_eq_true_eq] at h;exact h.1
theorem okLog_at {l:List S39} (h:okLog l=true) (x:Nat×Nat):(0≤(rcOf l x).f0∧(rcOf l x).f0≤99999)∧(rcOf l x).f3.length≤1000∧(rcOf l x).f5.length≤1000∧((rcOf l x).f2=true→keyOk (rcOf l x).f3=true):=by
 obtain ⟨i,j⟩:=x;unfold rcOf;dsimp only;by_cases hi:i < l.length
 ·
  by_cases hj:j < (Qa l i).f5.length
  ·
   have h1:Qa l i=l[i]:=by unfold Qa;rw [Int.toNat_natCast,List.getD_eq_getElem?_getD,List.getElem?_eq_getElem hi];rfl
   have h2:Qb (Qa l i).f5 j=(Qa l i).f5[j]:=by unfold Qb;rw [Int.toNat_natCast,List.getD_eq_getElem?_getD,List.getElem?_eq_getElem hj];rfl
   unfold okLog at h;rw [Bool.and_eq_true] at h;have h3:=List.all_eq_true.1 (List.all_eq_true.1 h.2 (Qa l i) (by rw [h1];exact List.getElem_mem hi)) _ (List.getElem_mem hj);rw [h2];simp only [Bool.and_eq_true,decide_eq_true_eq,Bool.or_eq_true,Bool.not_eq_true'] at h3;refine ⟨h3.1.1,h3.1.2,h3.2.1,fun h4=>?_⟩;rcases h3.2.2 with h5|h5
   ·
    rw [h4] at h5;cases h5
   ·
    exact h5
  ·
   rw [rd_none_R hj];exact ⟨by decide,by decide,by decide,by decide⟩
 ·
  rw [rd_none_B hi,rd_none_R (by simp [z39])];exact ⟨by decide,by decide,by decide,by decide⟩
def lastStep (l:List S39) (D:DataW Unit) (x:Nat×Nat):DataW Unit:=if (!mkOf l x&&(rcOf l x).f2)=true then D.put (.string (hexOf (rcOf l x).f3)) (.lit (.int .i64 (rcOf l x).f0)) else D
def lastD (l:List S39) (pre:List (Nat×Nat)):DataW Unit:=pre.foldl (lastStep l) (.map [])
def offStep (l:List S39) (kk:List UInt8) (a:Int) (x:Nat×Nat):Int:=if (!mkOf l x&&((rcOf l x).f2&&decide (hexOf (rcOf l x).f3=kk)))=true then (rcOf l x).f0 else a
def lastOff (l:List S39) (pre:List (Nat×Nat)) (kk:List UInt8):Int:=pre.foldl (offStep l kk) 0
theorem last_fold (l:List S39):∀ (xs:List (Nat×Nat)) (D:DataW Unit) (a:List UInt8→Int),Maps.IsMap D→(∀ kk,D.atKey (.string kk) (.lit (.int .i64 0)) = .lit (.int .i64 (a kk))) →
  ∀ kk,(xs.foldl (lastStep l) D).atKey (.string kk) (.lit (.int .i64 0)) = .lit (.int .i64 (xs.foldl (offStep l kk) (a kk)))
 | [],D,a,hm,h,kk=>h kk
 | x::xs,D,a,hm,h,kk=>by
  rw [List.foldl_cons,List.foldl_cons]
  refine last_fold l xs (lastStep l D x) (fun kk=>offStep l kk (a kk) x) ?_ ?_ kk
  ·
   unfold lastStep
   split
   ·
    exact Maps.IsMap.put hm _ _
   ·
    exact hm
  ·
   intro kk
   unfold lastStep offStep
   by_cases h1:(!mkOf l x&&(rcOf l x).f2)=true
   ·
    rw [if_pos h1]
    rw [Bool.and_eq_true] at h1
    by_cases h2:hexOf (rcOf l x).f3=kk
    ·
     rw [if_pos (by simp [h1.2,h2];simpa using h1.1),← h2]
     exact Maps.atKey_put_same hm (by exact True.intro) _ _
    ·
     rw [if_neg (by simp [h2]),Maps.atKey_put_other (fun e=>h2 (by cases e;rfl))]
     exact h kk
   ·
    rw [if_neg h1,if_neg (fun h3=>h1 (by simp only [Bool.and_eq_true] at h3 ⊢;exact ⟨h3.1,h3.2.1⟩))]
    exact h kk
theorem lastD_at (l:List S39) (pre:List (Nat×Nat)) (kk:List UInt8):(lastD l pre).atKey (.string kk) (.lit (.int .i64 0)) = .lit (.int .i64 (lastOff l pre kk)):=
 last_fold l pre (.map []) (fun _=>0) Maps.isMap_empty (fun kk=>rfl) kk
theorem lastD_snoc (l:List S39) (pre:List (Nat×Nat)) (x:Nat×Nat):lastD l (pre ++ [x])=lastStep l (lastD l pre) x:=by simp [lastD]
theorem allBytes_from (l:List Int) (h:∀ m:Nat,m < l.length→0≤rd l (m:Int)∧rd l (m:Int)≤255) (hl:l.length≤1000):∀ (d i:Nat),l.length - i=d→i≤l.length→Qn.l0 (d+1) l (l.length:Int) (i:Int)=some true
 | 0,i,hd,hi=>by
  simp only [Qn.l0]
  rw [if_neg (by omega)]
 | d+1,i,hd,hi=>by
  have:=h i (by omega)
  have e1:wrap64 ((i:Int)+1)=((i+1:Nat):Int):=by unfold wrap64;omega
  have e2:Rl.f (rd l (i:Int))=some true:=by unfold Rl.f;rw [if_pos (by omega)];simp [this.2]
  have ih:=allBytes_from l h hl d (i+1) (by omega) (by omega)
  unfold Qn.l0
  rw [if_pos (by omega),if_pos (by omega),e2,Option.bind_some,if_pos rfl,e1,if_pos (by omega)]
  exact ih
theorem allBytes_true {l:List Int} (h:keyOk l=true):Qn.f (l.length+1) l=some true:=by
 unfold Qn.f;exact allBytes_from l (keyOk_at h) (keyOk_len h) l.length 0 (by omega) (by omega)
theorem bytesText_f {l:List Int} (h:keyOk l=true):Rj.f (l.length+1) l=some ⟨(hexOf l).toArray⟩:=by
 unfold Rj.f;rw [allBytes_true h];simp only [Option.bind_some,if_true,h]
theorem ownsMap_below {W W' : World} {b n:Nat} {D:DataW Unit} {P:Program} {k:TypeId} {R:Value→Option (DataW Unit×List MemPlace)} (h:W.ownsMap P k R b n D) (hb:Below W.heap.size W W'):W'.ownsMap P k R b n D:=by
 obtain ⟨es,clock,h1,F,hs,hD⟩:=h;exact ⟨es,clock,(hb.block _ (Array.getElem?_eq_some_iff.1 h1).1).trans h1,F,hs,hD⟩
theorem Boxed.of_below {W W' : World} {B:Nat} {t:TypeId} {v:Value} (h:Boxed W B t v) (hb:Below W.heap.size W W'):Boxed W' B t v:=(hb.block _ (Array.getElem?_eq_some_iff.1 h).1).trans h
theorem KeepsFrom.of_below {B:Nat} {W W' : World} (h:Below W.heap.size W W'):KeepsFrom B W W':=⟨h.size,fun i o hB hi ho=>(h.block i (Array.getElem?_eq_some_iff.1 hi).1).trans hi⟩
theorem S_mapUpdate_in {F:Fence} {n:Nat} {P:Program} {W:World} {o:Oper} {a:Act} {K:Act→World→Prop} {Q:Exit→Act→World→Prop} (m x v:Operand) (t:TypeId) (hop:o.op=Op.mapUpdate t m x v)
  (k e:TypeId) (KD:Maps.Keyed P k) (ht:P.underlying t=some (.map k e)) (R:Value→Option (DataW Unit×List MemPlace)) (b nn:Nat) (D:DataW Unit)
  (hm:a.eval m = .map (some b)) (hown:W.ownsMap P k R b nn D) (hn:nn < maxLen) (key val:Value) (kl:Lit) (hx:a.eval x=key) (hv:a.eval v=val) (hkey:keyOf P k key=some kl)
  (d:DataW Unit) (ps:List MemPlace) (hval:R val=some (d,ps))
  (h:∀ w',w'.ownsMap P k R b (nn+1) (D.put kl d)→W.grownBy w' (some b)→K (a.put o.dst undef) w'):Oper.wpIn F n P o a W K Q:=by
 obtain ⟨w',hrun,r1,r2⟩:=hown.update KD ht hn hkey hval;unfold Oper.wpIn;refine ⟨by simp [Oper.about,hop],?_⟩;rw [Oper.semAt_plain F _ _ (by rw [hop];intro c hc';cases hc')];simp [execOp,hop,hm,hx,hv,hrun,Result.andThen];exact h w' r1 r2
set_option maxHeartbeats 4000000 in
theorem stayer_calls (A0:Option Addr) (c0:Nat) (l0:List (S39)) (gone:Bool) (w:World) (a0:Kd.C k39 w A0 l0.length l0) (a1:l0.length≤c0) (hok:okLog l0=true) :
  Calls Try.prog 19 #[.slice A0 l0.length c0,.bool gone] w fun e w'=>∃ Bm Bg bm,e = .returned (.func (.func 35) #[] #[.pointer (some ⟨Bm,0,none⟩),.pointer (some ⟨Bg,0,none⟩)])∧w.heap.size≤Bm∧w.heap.size≤Bg∧w.heap.size≤bm∧Boxed w' Bm 61 (.map (some bm))∧Boxed w' Bg 4 (.bool gone)∧w'.ownsMap Try.prog 9 (plainElem Try.prog 3) bm (pts l0).length (lastD l0 (pts l0))∧Below w.heap.size w w':=by
 have hm0:l0.length≤9223372036854775807:=a0.2.1;obtain ⟨AB,CB,AK,CK,AV,CV,hP⟩:=places_of a0;have HP:=zzm hP;have a4:=zzm a0;have a5:=zzm a1;have HOK:=zzm hok;clear a0 a1 hP hok;refine callsIn_wide (n:=8).1 ?_;have hro:(Fence.wide).round=none:=rfl;refine callsIn_of_wp_marks Try.func19 rfl trivial ?_ hro;simp only [Try.ntmps19,List.size_toArray,List.length_cons,List.length_nil,Nat.reduceAdd,Nat.reduceSub,Array.replicate_succ,Array.replicate_zero,List.push_toArray,List.append_toArray,List.nil_append,List.cons_append];have hmm:=@run_makeMap Try.prog;gi_wp2_with (refine ⟨trivial,?_⟩;gi_at_call 20;refine (recs_in Fence.wide 7 trivial hro A0 _ _ _).mono ?_;rintro e w3 ⟨rfl,rfl⟩;dsimp only);obtain ⟨W0,hW0⟩:∃ W0,W0=((((w.alloc (.cells #[.bool gone] 4)).alloc (.map #[] 0)).alloc (.cells #[.map (some (w.heap.size+1))] 61)).alloc (.cells #[.slice A0 l0.length c0] 26)):=⟨_,rfl⟩;obtain ⟨Bs,hBs⟩:∃ Bs,Bs=(((w.alloc (.cells #[.bool gone] 4)).alloc (.map #[] 0)).alloc (.cells #[.map (some (w.heap.size+1))] 61)).heap.size:=⟨_,rfl⟩;have hB0:Below w.heap.size w W0:=by rw [hW0];exact ((((Below.refl _ w).alloc (Nat.le_refl _) _).alloc (by simp) _).alloc (by simp;omega) _).alloc (by simp;omega) _
 have hsz0:W0.heap.size=w.heap.size+4:=by rw [hW0];simp
 have hb1:Boxed W0 w.heap.size 4 (.bool gone):=by rw [hW0];exact (((Boxed.new w 4 _).alloc _).alloc _).alloc _
 have hb2:Boxed W0 (w.heap.size+1+1) 61 (.map (some (w.heap.size+1))):=by
  have:=(Boxed.new ((w.alloc (.cells #[.bool gone] 4)).alloc (.map #[] 0)) 61 (.map (some (w.heap.size+1)))).alloc (.cells #[.slice A0 l0.length c0] 26);simp only [World.size_alloc] at this;rw [hW0];exact this
 have hsb:Boxed W0 Bs 26 (.slice A0 l0.length c0):=by rw [hW0,hBs];exact Boxed.new _ _ _
 have hown0:W0.ownsMap Try.prog 9 (plainElem (H:=Unit) Try.prog 3) (w.heap.size+1) 0 (.map []):=by
  have:=((World.ownsMap_made (w.alloc (.cells #[.bool gone] 4)) Try.prog 9 (plainElem (H:=Unit) Try.prog 3)).alloc (.cells #[.map (some (w.heap.size+1))] 61)).alloc (.cells #[.slice A0 l0.length c0] 26);simp only [World.size_alloc] at this;rw [hW0];exact this
 rw [← hW0,← hBs];clear hW0 hBs;refine wpIn_rangeFunc_ownH rfl (by omega) (gf:=36) (lb:=#[.pointer (some ⟨Bs,0,none⟩)]) rfl trivial (enters_of Try.func36 (by kernel_rfl) rfl)
  (recs_stops Fence.wide _ trivial rfl (by omega) Bs A0 c0 l0 w W0 HP.out hm0 hB0 hsb.cell) KpR.t (KpR.b hB0.size) (Below.refl _ _) (fun _=>rfl)
  (fun pre W=>W.ownsMap Try.prog 9 (plainElem Try.prog 3) (w.heap.size+1) pre.length (lastD l0 pre)∧Boxed W (w.heap.size+1+1) 61 (.map (some (w.heap.size+1)))∧Boxed W w.heap.size 4 (.bool gone)∧Below w.heap.size w W)
  (fun _ _ _=>False)
  (fun s X Y row hs hg hr=>by
   obtain ⟨e1,e2,e3,e4⟩:=hs;have hc:∀ r,row=some r→∃ o:Obj,X.heap[r]? = some o∧o.isCells=false:=fun r e=>(hr r e).2;exact ⟨e1.kept hg (fun e=>by have:=(hr _ e.symm).1;omega),boxed_own _ _ (fun _:Unit=>_) () X Y row e2 hg hc,boxed_own _ _ (fun _:Unit=>_) () X Y row e3 hg hc,ownFrom_below (Nat.le_refl _) hB0.size () X Y row e4 hg hr⟩)
  (fun _ _ _ _ _ hs _ _=>hs)
  ⟨hown0,hb2,hb1,hB0⟩
  (fun x a' W=>∃ Bx,W.heap[Bx]? = some (.cells #[.bool (Qa l0 (x.1:Int)).f0,.bool (Qa l0 (x.1:Int)).f1,.int .i64 (Qa l0 (x.1:Int)).f2,.int .i64 (Qa l0 (x.1:Int)).f3,.int .i64 (Qa l0 (x.1:Int)).f4,.slice (AB x.1) (Qa l0 (x.1:Int)).f5.length (CB x.1)] 39 (0,0))∧W.heap[Bx+1]? = some (.cells #[.int .i64 (rcOf l0 x).f0,.int .i64 (rcOf l0 x).f1,.bool (rcOf l0 x).f2,.slice (AK x.1 x.2) (rcOf l0 x).f3.length (CK x.1 x.2),.bool (rcOf l0 x).f4,.slice (AV x.1 x.2) (rcOf l0 x).f5.length (CV x.1 x.2)] 43 (0,0))∧a' = { tmps:=#[.slice A0 l0.length c0,.bool gone,undef,.pointer (some ⟨w.heap.size,0,none⟩),.nilFunc,.pointer (some ⟨w.heap.size+1+1,0,none⟩),.pointer (some ⟨Bx,0,none⟩),.pointer (some ⟨Bx+1,0,none⟩),.map (some (w.heap.size+1)),.slice A0 l0.length c0,.func (.func 36) #[] #[.pointer (some ⟨Bs,0,none⟩)],encB l0 AB CB x.1,encR l0 AK CK AV CV x.1 x.2,undef,undef,undef,undef,undef,undef,undef,undef,undef,undef,undef,undef,undef,undef],defers:=[] })
  (fun x a' _ X Y row hs hg hr=>by
   obtain ⟨Bx,e1,e2,e3⟩:=hs;have hne:∀ k cs t f,X.heap[k]? = some (.cells cs t f)→some k≠row:=fun k cs t f h e=>by obtain ⟨o,ho,hoc⟩:=(hr k e.symm).2;rw [h] at ho;cases ho;cases hoc
   exact ⟨Bx,(hg.block _ (Array.getElem?_eq_some_iff.1 e1).1 (hne _ _ _ _ e1)).trans e1,(hg.block _ (Array.getElem?_eq_some_iff.1 e2).1 (hne _ _ _ _ e2)).trans e2,e3⟩)
  ?assign ?body ?done ?stop
 case assign=>
  rintro l pre x W K ⟨e1,e2,e3,e4⟩ hK;unfold encB encR;gi_wp2;have a2:=World.alloc_heap_new W (.cells #[.bool (Qa l0 (x.1:Int)).f0,.bool (Qa l0 (x.1:Int)).f1,.int .i64 (Qa l0 (x.1:Int)).f2,.int .i64 (Qa l0 (x.1:Int)).f3,.int .i64 (Qa l0 (x.1:Int)).f4,.slice (AB x.1) (Qa l0 (x.1:Int)).f5.length (CB x.1)] 39);have a3:=World.alloc_heap_new (W.alloc (.cells #[.bool (Qa l0 (x.1:Int)).f0,.bool (Qa l0 (x.1:Int)).f1,.int .i64 (Qa l0 (x.1:Int)).f2,.int .i64 (Qa l0 (x.1:Int)).f3,.int .i64 (Qa l0 (x.1:Int)).f4,.slice (AB x.1) (Qa l0 (x.1:Int)).f5.length (CB x.1)] 39)) (.cells #[.int .i64 (rcOf l0 x).f0,.int .i64 (rcOf l0 x).f1,.bool (rcOf l0 x).f2,.slice (AK x.1 x.2) (rcOf l0 x).f3.length (CK x.1 x.2),.bool (rcOf l0 x).f4,.slice (AV x.1 x.2) (rcOf l0 x).f5.length (CV x.1 x.2)] 43);refine hK _ _ (((KeepsOthers.alloc _ _).trans (KeepsOthers.alloc _ _)).from _) ⟨((Below.refl _ W).alloc e4.size _).alloc (by simp;have:=e4.size;omega) _,(KeepT.alloc _ _).trans (KeepT.alloc _ _)⟩ ?_ ?_
  ·
   exact ⟨(e1.alloc _).alloc _,(e2.alloc _).alloc _,(e3.alloc _).alloc _,(e4.alloc e4.size _).alloc (by simp;have:=e4.size;omega) _⟩
  ·
   exact ⟨W.heap.size,(Below.heap_alloc _ _ _ (by simp)).trans a2,by have h:=a3;simp only [World.size_alloc] at h;exact h,rfl⟩
 case body=>
  rintro l pre x a' W hl ⟨lr,hlr⟩ ⟨e1,e2,e3,e4⟩ ⟨Bx,cB,cR,rfl⟩ hlt;have m1:W.cell? ⟨Bx,1,none⟩=some (.bool (mkOf l0 x)):=by simp [World.cell?,cB];rfl
  have r2:W.cell? ⟨Bx+1,2,none⟩=some (.bool (rcOf l0 x).f2):=by simp [World.cell?,cR]
  have hpl:(pre ++ [x]).length=pre.length+1:=by simp
  have same:(!mkOf l0 x&&(rcOf l0 x).f2)=false→lastD l0 (pre ++ [x])=lastD l0 pre:=fun h=>by rw [lastD_snoc];unfold lastStep;rw [h];rfl
  have stay:(!mkOf l0 x&&(rcOf l0 x).f2)=false→W.ownsMap Try.prog 9 (plainElem (H:=Unit) Try.prog 3) (w.heap.size+1) (pre ++ [x]).length (lastD l0 (pre ++ [x])):=fun h=>by rw [same h,hpl];exact e1.mono (Nat.le_succ _)
  cases hm:mkOf l0 x with
  | true=>
   rw [hm] at m1;have hst:=stay (by simp [hm]);clear same stay;gi_wp2;exact ⟨KeepsFrom.refl _ _,⟨Below.refl _ _,KeepT.refl _ _⟩,hst,e2,e3,e4⟩
  | false=>
   rw [hm] at m1;cases hf:(rcOf l0 x).f2 with
   | false=>
    rw [hf] at r2;have hst:=stay (by simp [hf]);clear same stay;gi_wp2;exact ⟨KeepsFrom.refl _ _,⟨Below.refl _ _,KeepT.refl _ _⟩,hst,e2,e3,e4⟩
   | true=>
    rw [hf] at r2;clear same stay;gi_wp2;have hkey:=(okLog_at HOK.out x).2.2.2 hf;have hoff:=(okLog_at HOK.out x).1;have hBT:=zzm (bytesText_f hkey);have hnx:lastD l0 (pre ++ [x])=(lastD l0 pre).put (.string (hexOf (rcOf l0 x).f3)) (.lit (.int .i64 (rcOf l0 x).f0)):=by rw [lastD_snoc];unfold lastStep;rw [hm,hf];rfl
    have hwf:(Lit.int .i64 (rcOf l0 x).f0).wf=true:=by simp [Lit.wf,IntKind.min,IntKind.max,IntKind.signed,IntKind.bits];omega
    have hplt:pre.length < 1000000:=by have:=okLog_len HOK.out;omega
    have cM:=e2.cell;have hmx:Try.prog.follows .mixedOrders=true:=by kernel_rfl
    obtain ⟨mk,hmk⟩:∃ mk:Value→Value→Value→Value→Value→Value→Act,mk=fun u0 u1 u2 u3 u4 u5=>{ tmps:=#[.slice A0 l0.length c0,.bool gone,undef,.pointer (some ⟨w.heap.size,0,none⟩),.nilFunc,.pointer (some ⟨w.heap.size+1+1,0,none⟩),.pointer (some ⟨Bx,0,none⟩),.pointer (some ⟨Bx+1,0,none⟩),.map (some (w.heap.size+1)),.slice A0 l0.length c0,.func (.func 36) #[] #[.pointer (some ⟨Bs,0,none⟩)],encB l0 AB CB x.1,encR l0 AK CK AV CV x.1 x.2,.pointer (some ⟨Bx,1,none⟩),.bool false,.bool true,.bool true,.pointer (some ⟨Bx+1,2,none⟩),.bool true,.bool true,u0,u1,u2,u3,u4,u5,undef],defers:=[] }:=⟨_,rfl⟩;refine wpIn_region_any hmx (wpAnyIn_132 (by kernel_rfl) (fun p q s a' W'=>∃ u0 u1 u2 u3 u4 u5,a' = mk u0 u1 u2 u3 u4 u5∧Below W.heap.size W W'∧(p=1→u0 = .map (some (w.heap.size+1)))∧(1≤q→u1 = .pointer (some ⟨Bx+1,3,none⟩))∧(2≤q→u2 = .slice (AK x.1 x.2) (rcOf l0 x).f3.length (CK x.1 x.2))∧(3≤q→u3 = .string ⟨(hexOf (rcOf l0 x).f3).toArray⟩)∧(1≤s→u4 = .pointer (some ⟨Bx+1,0,none⟩))∧(2≤s→u5 = .int .i64 (rcOf l0 x).f0))
     (fun a' W'=>(∃ u0 u1 u2 u3 u4 u5,a' = mk u0 u1 u2 u3 u4 u5)∧KeepsFrom W0.heap.size W W'∧KpR w.heap.size W W'∧W'.ownsMap Try.prog 9 (plainElem (H:=Unit) Try.prog 3) (w.heap.size+1) (pre ++ [x]).length (lastD l0 (pre ++ [x]))∧Boxed W' (w.heap.size+1+1) 61 (.map (some (w.heap.size+1)))∧Boxed W' w.heap.size 4 (.bool gone)∧Below w.heap.size w W')
     ?hdone ?s0 ?s1 ?s2 ?s3 ?s4 ?s5 ?s6 ⟨_,_,_,_,_,_,by rw [hmk],?hini,by simp,by simp,by simp,by simp,by simp,by simp⟩)
    case hini=>exact zzb (Below.refl _ W) 1
    case hdone=>
     rintro a' W' ⟨⟨u0,u1,u2,u3,u4,u5,rfl⟩,k1,k2,k3,k4,k5,k6⟩;rw [hmk];gi_wp2;exact ⟨k1,k2,k3,k4,k5,k6⟩
    case s0=>
     rintro q s a' W' ⟨u0,u1,u2,u3,u4,u5,rfl,hb,h0,h1,h2,h3,h4,h5⟩;rw [hmk];refine wpOpIn_step rfl (fun K hK=>?_);have HK:=zzm hK;have cMn:=(hb.cell (zzn W _ cM)).trans cM;clear hK;go_simp;exact HK.out _ _ ⟨_,u1,u2,u3,u4,u5,rfl,hb,fun _=>rfl,h1,h2,h3,h4,h5⟩
    case s1=>
     rintro p s a' W' ⟨u0,u1,u2,u3,u4,u5,rfl,hb,h0,h1,h2,h3,h4,h5⟩;rw [hmk];refine wpOpIn_step rfl (fun K hK=>?_);have HK:=zzm hK;clear hK;go_simp;exact HK.out _ _ ⟨u0,_,u2,u3,u4,u5,rfl,hb,h0,fun _=>rfl,by simp,by simp,h4,h5⟩
    case s2=>
     rintro p s a' W' ⟨u0,u1,u2,u3,u4,u5,rfl,hb,h0,h1,h2,h3,h4,h5⟩;obtain rfl:=h1 (by decide);rw [hmk];refine wpOpIn_step rfl (fun K hK=>?_);have HK:=zzm hK;have hcR:=(hb.block _ (Array.getElem?_eq_some_iff.1 cR).1).trans cR;have q3:W'.cell? ⟨Bx+1,3,none⟩=some (.slice (AK x.1 x.2) (rcOf l0 x).f3.length (CK x.1 x.2)):=by simp [World.cell?,hcR]
     clear hK hcR;go_simp;exact HK.out _ _ ⟨u0,_,_,u3,u4,u5,rfl,hb,h0,fun _=>rfl,fun _=>rfl,by simp,h4,h5⟩
    case s3=>
     rintro p s a' W' ⟨u0,u1,u2,u3,u4,u5,rfl,hb,h0,h1,h2,h3,h4,h5⟩;obtain rfl:=h1 (by decide);obtain rfl:=h2 (by decide);rw [hmk];refine wpOpIn_step rfl (fun K hK=>?_);have HK:=zzm hK;have hKy:=zzm (Kd.C_below (HP.out.key x.1 x.2).2 (e4.trans (hb.mono e4.size)));clear hK;go_simp;gi_wp2_with (refine ⟨trivial,?_⟩;gi_at_call 34;refine (CallsIn.inRound l (callsIn_wide.2 (Rj.calls _ _ _ _ _ _ hKy.out (HP.out.key x.1 x.2).1 hBT.out))).mono ?_;rintro e w7 ⟨rfl,hb7⟩;dsimp only);exact HK.out _ _ ⟨u0,_,_,_,u4,u5,rfl,zzp hb hb7,h0,fun _=>rfl,fun _=>rfl,fun _=>rfl,h4,h5⟩
    case s4=>
     rintro p q a' W' ⟨u0,u1,u2,u3,u4,u5,rfl,hb,h0,h1,h2,h3,h4,h5⟩;rw [hmk];refine wpOpIn_step rfl (fun K hK=>?_);have HK:=zzm hK;clear hK;go_simp;exact HK.out _ _ ⟨u0,u1,u2,u3,_,u5,rfl,hb,h0,h1,h2,h3,fun _=>rfl,by simp⟩
    case s5=>
     rintro p q a' W' ⟨u0,u1,u2,u3,u4,u5,rfl,hb,h0,h1,h2,h3,h4,h5⟩;obtain rfl:=h4 (by decide);rw [hmk];refine wpOpIn_step rfl (fun K hK=>?_);have HK:=zzm hK;have hcR:=(hb.block _ (Array.getElem?_eq_some_iff.1 cR).1).trans cR;have q0:W'.cell? ⟨Bx+1,0,none⟩=some (.int .i64 (rcOf l0 x).f0):=by simp [World.cell?,hcR]
     clear hK hcR;go_simp;exact HK.out _ _ ⟨u0,u1,u2,u3,_,_,rfl,hb,h0,h1,h2,h3,fun _=>rfl,fun _=>rfl⟩
    case s6=>
     rintro a' W' ⟨u0,u1,u2,u3,u4,u5,rfl,hb,h0,h1,h2,h3,h4,h5⟩;obtain rfl:=h0 rfl;obtain rfl:=h3 (by decide);obtain rfl:=h5 (by decide);rw [hmk];have howW:=ownsMap_below e1 hb;refine wpOpIn_step rfl (fun K hK=>?_);rw [if_pos (by rfl)];have hmax:maxLen=9223372036854775807:=rfl;have hkeyo:keyOf Try.prog 9 (.string ⟨(hexOf (rcOf l0 x).f3).toArray⟩)=some (.string (hexOf (rcOf l0 x).f3)):=by
      rw [Go.WideMaps.keyOf_string_mk Try.underlying9 (by have h7:=hexOf_len (rcOf l0 x).f3;have h8:=keyOk_len hkey;show (hexOf (rcOf l0 x).f3).toArray.size≤maxLen;rw [List.size_toArray];omega)]
     refine S_mapUpdate_in (.tmp 20) (.tmp 23) (.tmp 25) 61 rfl 9 3 (Maps.string_keyed Try.underlying9) Try.underlying61 (plainElem Try.prog 3) (w.heap.size+1) pre.length (lastD l0 pre) rfl howW (by omega) _ _ _ rfl rfl hkeyo (.lit (.int .i64 (rcOf l0 x).f0)) [] (plainElem_int Try.underlying3 hwf) ?_;intro w7 ho7 hg7;rw [← hnx] at ho7;have hszW:=zzn W _ cM;have hsz7:=hb.size;obtain ⟨es7,ck7,hmp7,_⟩:=howW;refine hK _ _ ⟨⟨_,_,_,_,_,_,rfl⟩,?_,⟨?_,?_⟩,?_,?_,?_,?_⟩
     ·
      exact (KeepsFrom.of_below hb).trans (KeepsFrom.of_grownBy hg7 (fun j e=>by cases e;omega))
     ·
      exact ((Below.refl _ W).trans (hb.mono e4.size)).grown hg7 (by have:=e4.size;omega) (fun j e=>by cases e;omega)
     ·
      exact (KeepT.of_below hb).trans (KeepT.of_grownBy hg7 (fun j e cs f h=>by cases e;rw [hmp7] at h;cases h))
     ·
      rw [hpl];exact ho7
     ·
      exact (Boxed.of_below e2 hb).kept hg7 (fun e=>by have:=Option.some.inj e;omega)
     ·
      exact (Boxed.of_below e3 hb).kept hg7 (fun e=>by have:=Option.some.inj e;omega)
     ·
      exact (e4.trans (hb.mono e4.size)).grown hg7 (by have:=e4.size;omega) (fun j e=>by cases e;omega)
 case done=>
  rintro D ys W hD rfl ⟨e1,e2,e3,e4⟩ hK;gi_wp2;refine ⟨by simp,.inl ⟨_,_,rfl,run_takeDeferred hK,?_⟩⟩;have hg:=grownBy_putObj' W D (.deferred none);have hne:∀ k cs t f,W.heap[k]? = some (.cells cs t f)→some k≠some D:=fun k cs t f h e=>by cases e;rw [hK] at h;cases h
  refine ⟨_,results_tmp rfl _ _ _,w.heap.size+1+1,w.heap.size,w.heap.size+1,rfl,by omega,by omega,by omega,e2.kept hg (hne _ _ _ _ e2),e3.kept hg (hne _ _ _ _ e3),e1.kept hg (fun e=>by cases e;obtain ⟨_,_,h,_⟩:=e1;rw [hK] at h;cases h),?_⟩;exact e4.trans (belowK_b (w:=w) (Nat.le_refl _) W D _ _ (by omega) hK rfl rfl)
 case stop=>
  rintro D c pre W hD hp h hK;exact h.elim
end
section
open Go.Shelf
attribute [local go_sem] Oper.semAt_some
theorem S_lookup_in {F:Fence} {n:Nat} {P:Program} {W:World} {o:Oper} {a:Act} {K:Act→World→Prop} {Q:Exit→Act→World→Prop} (m x:Operand) (t:TypeId) (hop:o.op=Op.lookup t m x false)
  (k e:TypeId) (q:IntKind) (KD:Maps.Keyed P k) (ht:P.underlying t=some (.map k e)) (he:P.underlying e=some (.int q)) (hz:(zeroValue e).run P W = .ok (.int q 0) W) (b nn:Nat) (D:DataW Unit)
  (hm:a.eval m = .map (some b)) (hown:W.ownsMap P k (plainElem P e) b nn D) (key:Value) (kl:Lit) (hx:a.eval x=key) (hkey:keyOf P k key=some kl)
  (h:∀ c,D.atKey kl (.lit (.int q 0)) = .lit (.int q c)→K (a.put o.dst (.int q c)) W):Oper.wpIn F n P o a W K Q:=by
 obtain ⟨c,hrun,hat,_⟩:=hown.lookup_int KD ht he hz hkey;unfold Oper.wpIn;refine ⟨by simp [Oper.about,hop],?_⟩;rw [Oper.semAt_plain F _ _ (by rw [hop];intro c hc';cases hc')];simp [execOp,hop,hm,hx,hrun,Result.andThen];exact h c hat
set_option maxHeartbeats 4000000 in
theorem stays_calls (b0 b1 r2 r4 gone:Bool) (b2 b3 b4 r0 r1 c:Int) (P3 P5 P6:Option Addr) (n5 q5 q3 n6 q6:Nat) (Bm Bg bm nn:Nat) (key:List Int) (D:DataW Unit) (w:World)
  (hBm:Boxed w Bm 61 (.map (some bm))) (hBg:Boxed w Bg 4 (.bool gone)) (hown:w.ownsMap Try.prog 9 (plainElem Try.prog 3) bm nn D) (hk:(Kd.int .i64).C w P3 key.length key) (hq:key.length≤q3)
  (hok:r2=true→keyOk key=true) (hc:r2=true→D.atKey (.string (hexOf key)) (.lit (.int .i64 0)) = .lit (.int .i64 c)) :
  Calls Try.prog 35 #[.agg #[.bool b0,.bool b1,.int .i64 b2,.int .i64 b3,.int .i64 b4,.slice P5 n5 q5],.agg #[.int .i64 r0,.int .i64 r1,.bool r2,.slice P3 key.length q3,.bool r4,.slice P6 n6 q6],.pointer (some ⟨Bm,0,none⟩),.pointer (some ⟨Bg,0,none⟩)] w fun e w'=>e = .returned (.bool (b1||(r2&&((c==r0)&&(r4||gone)))))∧Below w.heap.size w w':=by
 have cM:=hBm.cell;have cG:=hBg.cell;have HOWN:=zzm hown;have HK3:=zzm hk;have HOK:=zzm hok;have HC:=zzm hc;have hltM:=hBm.lt;have hltG:=hBg.lt;clear hBm hBg hown hk hok hc;refine callsIn_wide (n:=4).1 ?_;have hro:(Fence.wide).round=none:=rfl;refine callsIn_of_wp Try.func35 rfl trivial ?_ hro;simp only [Try.ntmps35,List.size_toArray,List.length_cons,List.length_nil,Nat.reduceAdd,Nat.reduceSub,Array.replicate_succ,Array.replicate_zero,List.push_toArray,List.append_toArray,List.nil_append,List.cons_append];cases b1 with
 | true=>
  gi_wp2;exact bodyPost_ret (results_tmp rfl _ _ _) rfl ⟨rfl,((Below.refl _ w).alloc (Nat.le_refl _) _).alloc (by simp) _⟩
 | false=>
  have hmx:Try.prog.follows .mixedOrders=true:=by kernel_rfl
  gi_wp2;obtain ⟨W,hW⟩:∃ W,W=(w.alloc (.cells #[.bool b0,.bool false,.int .i64 b2,.int .i64 b3,.int .i64 b4,.slice P5 n5 q5] 39)).alloc (.cells #[.int .i64 r0,.int .i64 r1,.bool r2,.slice P3 key.length q3,.bool r4,.slice P6 n6 q6] 43):=⟨_,rfl⟩;have hBW:Below w.heap.size w W:=by rw [hW];exact ((Below.refl _ w).alloc (Nat.le_refl _) _).alloc (by simp) _
  have cR:W.heap[w.heap.size+1]? = some (.cells #[.int .i64 r0,.int .i64 r1,.bool r2,.slice P3 key.length q3,.bool r4,.slice P6 n6 q6] 43 (0,0)):=by
   have h:=World.alloc_heap_new (w.alloc (.cells #[.bool b0,.bool false,.int .i64 b2,.int .i64 b3,.int .i64 b4,.slice P5 n5 q5] 39)) (.cells #[.int .i64 r0,.int .i64 r1,.bool r2,.slice P3 key.length q3,.bool r4,.slice P6 n6 q6] 43);simp only [World.size_alloc] at h;rw [hW];exact h
  rw [← hW];clear hW;obtain ⟨mk,hmk⟩:∃ mk:Value→Value→Value→Value→Value→Value→Value→Value→Value→Value→Value→Value→Value→Value→Value→Value→Value→Value→Value→Value→Act,mk=fun u6 u9 u10 u11 u12 u13 u14 u15 u16 u17 u18 u19 u20 u21 u22 u23 u24 u25 u26 u27=>{ tmps:=#[.agg #[.bool b0,.bool false,.int .i64 b2,.int .i64 b3,.int .i64 b4,.slice P5 n5 q5],.agg #[.int .i64 r0,.int .i64 r1,.bool r2,.slice P3 key.length q3,.bool r4,.slice P6 n6 q6],.pointer (some ⟨Bm,0,none⟩),.pointer (some ⟨Bg,0,none⟩),.pointer (some ⟨w.heap.size,0,none⟩),.pointer (some ⟨w.heap.size+1,0,none⟩),u6,.pointer (some ⟨w.heap.size,1,none⟩),.bool false,u9,u10,u11,u12,u13,u14,u15,u16,u17,u18,u19,u20,u21,u22,u23,u24,u25,u26,u27],defers:=[] }:=⟨_,rfl⟩;cases r2 with
  | false=>
   refine wpIn_region_any hmx (wpAnyIn_20 (by kernel_rfl) (fun k a' W'=>Below w.heap.size w W'∧W'.heap[w.heap.size+1]? = W.heap[w.heap.size+1]?∧a' = (if k=0 then mk (.bool false) undef undef undef undef undef undef undef undef undef undef undef undef undef undef undef undef undef undef undef else if k=1 then mk (.bool false) (.pointer (some ⟨w.heap.size+1,2,none⟩)) undef undef undef undef undef undef undef undef undef undef undef undef undef undef undef undef undef undef else mk (.bool false) (.pointer (some ⟨w.heap.size+1,2,none⟩)) (.bool false) undef undef undef undef undef undef undef undef undef undef undef undef undef undef undef undef undef)) (fun _ _ _ _ a' W'=>Below w.heap.size w W'∧a' = mk (.bool false) (.pointer (some ⟨w.heap.size+1,2,none⟩)) (.bool false) (.bool false) undef undef undef undef undef undef undef undef undef undef undef undef undef undef undef undef) (fun k a' W'=>Below w.heap.size w W'∧a' = (if k=1 then mk (.bool false) (.pointer (some ⟨w.heap.size+1,2,none⟩)) (.bool false) (.bool false) undef undef undef undef undef undef undef undef undef undef undef undef undef undef undef undef else if k=2 then mk (.bool false) (.pointer (some ⟨w.heap.size+1,2,none⟩)) (.bool false) (.bool false) undef undef undef undef undef undef undef undef (.bool false) undef undef undef undef undef undef undef else if k=3 then mk (.bool false) (.pointer (some ⟨w.heap.size+1,2,none⟩)) (.bool false) (.bool false) undef undef undef undef undef undef undef undef (.bool false) (.bool false) undef undef undef undef undef undef else if k=4 then mk (.bool false) (.pointer (some ⟨w.heap.size+1,2,none⟩)) (.bool false) (.bool false) undef undef undef undef undef undef undef undef (.bool false) (.bool false) undef undef undef undef undef undef else if k=5 then mk (.bool false) (.pointer (some ⟨w.heap.size+1,2,none⟩)) (.bool false) (.bool false) undef undef undef undef undef undef undef undef (.bool false) (.bool false) undef undef undef undef undef undef else if k=6 then mk (.bool false) (.pointer (some ⟨w.heap.size+1,2,none⟩)) (.bool false) (.bool false) undef undef undef undef undef undef undef undef (.bool false) (.bool false) undef undef undef undef undef undef else if k=7 then mk (.bool false) (.pointer (some ⟨w.heap.size+1,2,none⟩)) (.bool false) (.bool false) undef undef undef undef undef undef undef undef (.bool false) (.bool false) undef undef undef undef undef undef else if k=8 then mk (.bool false) (.pointer (some ⟨w.heap.size+1,2,none⟩)) (.bool false) (.bool false) undef undef undef undef undef undef undef undef (.bool false) (.bool false) undef undef undef undef undef undef else if k=9 then mk (.bool false) (.pointer (some ⟨w.heap.size+1,2,none⟩)) (.bool false) (.bool false) undef undef undef undef undef undef undef undef (.bool false) (.bool false) undef undef undef undef undef (.bool false) else mk (.bool false) (.pointer (some ⟨w.heap.size+1,2,none⟩)) (.bool false) (.bool false) undef undef undef undef undef undef undef undef (.bool false) (.bool false) undef undef undef undef undef (.bool false))) ?hdone ?s0 ?s1 ?s2 ?s3 ?s4 ?s5 ?s6 ?s7 ?s8 ?s9 ?s10 ?s11 ?s12 ?s13 ?s14 ?s15 ?s16 ?s17 ?s18 ?s19 ?hini)
   case hini=>exact ⟨zzb hBW 1,rfl,by rw [hmk];rfl⟩
   case hdone=>
    rintro a' W' ⟨hb,rfl⟩;simp only [Nat.reduceEqDiff,if_false];rw [hmk];gi_wp2;exact bodyPost_ret (results_tmp rfl _ _ _) rfl ⟨rfl,hb⟩
   case s0=>
    rintro a' W' ⟨hb,hw,rfl⟩;simp only [Nat.reduceEqDiff,if_true,if_false];rw [hmk];rw [cR] at hw;skip;refine wpOpIn_step rfl (fun K hK=>?_);have HK:=zzm hK;clear hK;go_simp;exact HK.out _ _ ⟨hb,hw.trans cR.symm,rfl⟩
   case s1=>
    rintro a' W' ⟨hb,hw,rfl⟩;simp only [Nat.reduceEqDiff,if_true,if_false];rw [hmk];rw [cR] at hw;have q2:W'.cell? ⟨w.heap.size+1,2,none⟩=some (.bool false):=by simp [World.cell?,hw]
    refine wpOpIn_step rfl (fun K hK=>?_);have HK:=zzm hK;clear hK;go_simp;exact HK.out _ _ ⟨hb,hw.trans cR.symm,rfl⟩
   case s2=>
    rintro a' W' ⟨hb,hw,rfl⟩;simp only [Nat.reduceEqDiff,if_true,if_false];rw [hmk];rw [cR] at hw;skip;refine wpOpIn_step rfl (fun K hK=>?_);have HK:=zzm hK;clear hK;go_simp;exact HK.out _ _ ⟨hb,rfl⟩
   case s3=>
    rintro y z d a' W' ⟨hb,rfl⟩;skip;rw [hmk];refine wpOpIn_step rfl (fun K hK=>?_);have HK:=zzm hK;clear hK;go_simp;exact HK.out _ _ ⟨hb,rfl⟩
   case s4=>
    rintro x z d a' W' ⟨hb,rfl⟩;skip;rw [hmk];refine wpOpIn_step rfl (fun K hK=>?_);have HK:=zzm hK;clear hK;go_simp;exact HK.out _ _ ⟨hb,rfl⟩
   case s5=>
    rintro x z d a' W' ⟨hb,rfl⟩;skip;rw [hmk];refine wpOpIn_step rfl (fun K hK=>?_);have HK:=zzm hK;clear hK;go_simp;exact HK.out _ _ ⟨hb,rfl⟩
   case s6=>
    rintro x z d a' W' ⟨hb,rfl⟩;skip;rw [hmk];refine wpOpIn_step rfl (fun K hK=>?_);have HK:=zzm hK;clear hK;go_simp;exact ⟨trivial,HK.out _ _ ⟨hb,rfl⟩⟩
   case s7=>
    rintro z a' W' ⟨hb,rfl⟩;skip;rw [hmk];refine wpOpIn_step rfl (fun K hK=>?_);have HK:=zzm hK;clear hK;go_simp;exact HK.out _ _ ⟨hb,rfl⟩
   case s8=>
    rintro x y d a' W' ⟨hb,rfl⟩;skip;rw [hmk];refine wpOpIn_step rfl (fun K hK=>?_);have HK:=zzm hK;clear hK;go_simp;exact HK.out _ _ ⟨hb,rfl⟩
   case s9=>
    rintro x y d a' W' ⟨hb,rfl⟩;skip;rw [hmk];refine wpOpIn_step rfl (fun K hK=>?_);have HK:=zzm hK;clear hK;go_simp;exact HK.out _ _ ⟨hb,rfl⟩
   case s10=>
    rintro  a' W' ⟨hb,rfl⟩;skip;rw [hmk];refine wpOpIn_step rfl (fun K hK=>?_);have HK:=zzm hK;clear hK;go_simp;exact HK.out _ _ ⟨hb,rfl⟩
   case s11=>
    rintro  a' W' ⟨hb,rfl⟩;simp only [Nat.reduceEqDiff,if_true,if_false];rw [hmk];refine wpOpIn_step rfl (fun K hK=>?_);have HK:=zzm hK;clear hK;go_simp;exact HK.out _ _ ⟨hb,rfl⟩
   case s12=>
    rintro  a' W' ⟨hb,rfl⟩;simp only [Nat.reduceEqDiff,if_true,if_false];rw [hmk];refine wpOpIn_step rfl (fun K hK=>?_);have HK:=zzm hK;clear hK;go_simp;exact HK.out _ _ ⟨hb,rfl⟩
   case s13=>
    rintro  a' W' ⟨hb,rfl⟩;simp only [Nat.reduceEqDiff,if_true,if_false];rw [hmk];refine wpOpIn_step rfl (fun K hK=>?_);have HK:=zzm hK;clear hK;go_simp;exact HK.out _ _ ⟨hb,rfl⟩
   case s14=>
    rintro  a' W' ⟨hb,rfl⟩;simp only [Nat.reduceEqDiff,if_true,if_false];rw [hmk];refine wpOpIn_step rfl (fun K hK=>?_);have HK:=zzm hK;clear hK;go_simp;exact HK.out _ _ ⟨hb,rfl⟩
   case s15=>
    rintro  a' W' ⟨hb,rfl⟩;simp only [Nat.reduceEqDiff,if_true,if_false];rw [hmk];refine wpOpIn_step rfl (fun K hK=>?_);have HK:=zzm hK;clear hK;go_simp;exact HK.out _ _ ⟨hb,rfl⟩
   case s16=>
    rintro  a' W' ⟨hb,rfl⟩;simp only [Nat.reduceEqDiff,if_true,if_false];rw [hmk];refine wpOpIn_step rfl (fun K hK=>?_);have HK:=zzm hK;clear hK;go_simp;exact HK.out _ _ ⟨hb,rfl⟩
   case s17=>
    rintro  a' W' ⟨hb,rfl⟩;simp only [Nat.reduceEqDiff,if_true,if_false];rw [hmk];refine wpOpIn_step rfl (fun K hK=>?_);have HK:=zzm hK;clear hK;go_simp;exact HK.out _ _ ⟨hb,rfl⟩
   case s18=>
    rintro  a' W' ⟨hb,rfl⟩;simp only [Nat.reduceEqDiff,if_true,if_false];rw [hmk];refine wpOpIn_step rfl (fun K hK=>?_);have HK:=zzm hK;clear hK;go_simp;exact HK.out _ _ ⟨hb,rfl⟩
   case s19=>
    rintro  a' W' ⟨hb,rfl⟩;simp only [Nat.reduceEqDiff,if_true,if_false];rw [hmk];refine wpOpIn_step rfl (fun K hK=>?_);have HK:=zzm hK;clear hK;go_simp;exact HK.out _ _ ⟨hb,rfl⟩
  | true=>
   have hkey:=HOK.out rfl;have hcc:=zzm (HC.out rfl);have hBT:=zzm (bytesText_f hkey);have hkeyo:keyOf Try.prog 9 (.string ⟨(hexOf key).toArray⟩)=some (.string (hexOf key)):=by
    have hmax:maxLen=9223372036854775807:=rfl;rw [Go.WideMaps.keyOf_string_mk Try.underlying9 (by have h7:=hexOf_len key;have h8:=keyOk_len hkey;show (hexOf key).toArray.size≤maxLen;rw [List.size_toArray];omega)]
   obtain ⟨q,hq0⟩:∃ q,q=(c==r0):=⟨_,rfl⟩;refine wpIn_region_any hmx (wpAnyIn_20 (by kernel_rfl) (fun k a' W'=>Below w.heap.size w W'∧W'.heap[w.heap.size+1]? = W.heap[w.heap.size+1]?∧a' = (if k=0 then mk (.bool false) undef undef undef undef undef undef undef undef undef undef undef undef undef undef undef undef undef undef undef else if k=1 then mk (.bool false) (.pointer (some ⟨w.heap.size+1,2,none⟩)) undef undef undef undef undef undef undef undef undef undef undef undef undef undef undef undef undef undef else mk (.bool false) (.pointer (some ⟨w.heap.size+1,2,none⟩)) (.bool true) undef undef undef undef undef undef undef undef undef undef undef undef undef undef undef undef undef)) (fun x y z d a' W'=>Below w.heap.size w W'∧W'.heap[w.heap.size+1]? = W.heap[w.heap.size+1]?∧∃ u12 u13 u14 u15 u16 u17 u18,a' = mk (.bool false) (.pointer (some ⟨w.heap.size+1,2,none⟩)) (.bool true) (.bool true) (u12) (u13) (u14) (u15) (u16) (u17) (u18) undef undef undef undef undef undef undef undef undef∧(1≤x→u12 = .map (some bm))∧(1≤y→u13 = .pointer (some ⟨w.heap.size+1,3,none⟩))∧(2≤y→u14 = .slice P3 key.length q3)∧(3≤y→u15 = .string ⟨(hexOf key).toArray⟩)∧(1≤d→u16 = .int .i64 c)∧(1≤z→u17 = .pointer (some ⟨w.heap.size+1,0,none⟩))∧(2≤z→u18 = .int .i64 r0)) (fun k a' W'=>Below w.heap.size w W'∧W'.heap[w.heap.size+1]? = W.heap[w.heap.size+1]?∧a' = (if k=1 then mk (.bool false) (.pointer (some ⟨w.heap.size+1,2,none⟩)) (.bool true) (.bool true) (.map (some bm)) (.pointer (some ⟨w.heap.size+1,3,none⟩)) (.slice P3 key.length q3) (.string ⟨(hexOf key).toArray⟩) (.int .i64 c) (.pointer (some ⟨w.heap.size+1,0,none⟩)) (.int .i64 r0) (.bool q) undef undef undef undef undef undef undef undef else if k=2 then mk (.bool false) (.pointer (some ⟨w.heap.size+1,2,none⟩)) (.bool true) (.bool true) (.map (some bm)) (.pointer (some ⟨w.heap.size+1,3,none⟩)) (.slice P3 key.length q3) (.string ⟨(hexOf key).toArray⟩) (.int .i64 c) (.pointer (some ⟨w.heap.size+1,0,none⟩)) (.int .i64 r0) (.bool q) (.bool q) undef undef undef undef undef undef undef else if k=3 then mk (.bool false) (.pointer (some ⟨w.heap.size+1,2,none⟩)) (.bool true) (.bool true) (.map (some bm)) (.pointer (some ⟨w.heap.size+1,3,none⟩)) (.slice P3 key.length q3) (.string ⟨(hexOf key).toArray⟩) (.int .i64 c) (.pointer (some ⟨w.heap.size+1,0,none⟩)) (.int .i64 r0) (.bool q) (.bool q) (.bool q) undef undef undef undef undef undef else if k=4 then mk (.bool false) (.pointer (some ⟨w.heap.size+1,2,none⟩)) (.bool true) (.bool true) (.map (some bm)) (.pointer (some ⟨w.heap.size+1,3,none⟩)) (.slice P3 key.length q3) (.string ⟨(hexOf key).toArray⟩) (.int .i64 c) (.pointer (some ⟨w.heap.size+1,0,none⟩)) (.int .i64 r0) (.bool q) (.bool q) (.bool q) (if q=true then .pointer (some ⟨w.heap.size+1,4,none⟩) else undef) undef undef undef undef undef else if k=5 then mk (.bool false) (.pointer (some ⟨w.heap.size+1,2,none⟩)) (.bool true) (.bool true) (.map (some bm)) (.pointer (some ⟨w.heap.size+1,3,none⟩)) (.slice P3 key.length q3) (.string ⟨(hexOf key).toArray⟩) (.int .i64 c) (.pointer (some ⟨w.heap.size+1,0,none⟩)) (.int .i64 r0) (.bool q) (.bool q) (.bool q) (if q=true then .pointer (some ⟨w.heap.size+1,4,none⟩) else undef) (if q=true then .bool r4 else undef) undef undef undef undef else if k=6 then mk (.bool false) (.pointer (some ⟨w.heap.size+1,2,none⟩)) (.bool true) (.bool true) (.map (some bm)) (.pointer (some ⟨w.heap.size+1,3,none⟩)) (.slice P3 key.length q3) (.string ⟨(hexOf key).toArray⟩) (.int .i64 c) (.pointer (some ⟨w.heap.size+1,0,none⟩)) (.int .i64 r0) (.bool q) (.bool q) (.bool q) (if q=true then .pointer (some ⟨w.heap.size+1,4,none⟩) else undef) (if q=true then .bool r4 else undef) (if q=true then .bool r4 else undef) undef undef undef else if k=7 then mk (.bool false) (.pointer (some ⟨w.heap.size+1,2,none⟩)) (.bool true) (.bool true) (.map (some bm)) (.pointer (some ⟨w.heap.size+1,3,none⟩)) (.slice P3 key.length q3) (.string ⟨(hexOf key).toArray⟩) (.int .i64 c) (.pointer (some ⟨w.heap.size+1,0,none⟩)) (.int .i64 r0) (.bool q) (.bool q) (.bool q) (if q=true then .pointer (some ⟨w.heap.size+1,4,none⟩) else undef) (if q=true then .bool r4 else undef) (if q=true then .bool r4 else undef) (if (q && !r4)=true then .bool gone else undef) undef undef else if k=8 then mk (.bool false) (.pointer (some ⟨w.heap.size+1,2,none⟩)) (.bool true) (.bool true) (.map (some bm)) (.pointer (some ⟨w.heap.size+1,3,none⟩)) (.slice P3 key.length q3) (.string ⟨(hexOf key).toArray⟩) (.int .i64 c) (.pointer (some ⟨w.heap.size+1,0,none⟩)) (.int .i64 r0) (.bool q) (.bool q) (.bool q) (if q=true then .pointer (some ⟨w.heap.size+1,4,none⟩) else undef) (if q=true then .bool r4 else undef) (if q=true then .bool r4 else undef) (if (q && !r4)=true then .bool gone else undef) (if q=true then .bool (r4||gone) else undef) undef else if k=9 then mk (.bool false) (.pointer (some ⟨w.heap.size+1,2,none⟩)) (.bool true) (.bool true) (.map (some bm)) (.pointer (some ⟨w.heap.size+1,3,none⟩)) (.slice P3 key.length q3) (.string ⟨(hexOf key).toArray⟩) (.int .i64 c) (.pointer (some ⟨w.heap.size+1,0,none⟩)) (.int .i64 r0) (.bool q) (.bool q) (.bool q) (if q=true then .pointer (some ⟨w.heap.size+1,4,none⟩) else undef) (if q=true then .bool r4 else undef) (if q=true then .bool r4 else undef) (if (q && !r4)=true then .bool gone else undef) (if q=true then .bool (r4||gone) else undef) (.bool (q&&(r4||gone))) else mk (.bool (q&&(r4||gone))) (.pointer (some ⟨w.heap.size+1,2,none⟩)) (.bool true) (.bool true) (.map (some bm)) (.pointer (some ⟨w.heap.size+1,3,none⟩)) (.slice P3 key.length q3) (.string ⟨(hexOf key).toArray⟩) (.int .i64 c) (.pointer (some ⟨w.heap.size+1,0,none⟩)) (.int .i64 r0) (.bool q) (.bool q) (.bool q) (if q=true then .pointer (some ⟨w.heap.size+1,4,none⟩) else undef) (if q=true then .bool r4 else undef) (if q=true then .bool r4 else undef) (if (q && !r4)=true then .bool gone else undef) (if q=true then .bool (r4||gone) else undef) (.bool (q&&(r4||gone))))) ?hdone ?s0 ?s1 ?s2 ?s3 ?s4 ?s5 ?s6 ?s7 ?s8 ?s9 ?s10 ?s11 ?s12 ?s13 ?s14 ?s15 ?s16 ?s17 ?s18 ?s19 ?hini)
   case hini=>exact ⟨zzb hBW 1,rfl,by rw [hmk];rfl⟩
   case hdone=>
    rintro a' W' ⟨hb,-,rfl⟩;simp only [Nat.reduceEqDiff,if_false];generalize (if q=true then Value.pointer (some ⟨w.heap.size+1,4,none⟩) else undef)=y22;generalize (if q=true then Value.bool r4 else undef)=y23;generalize (if (q && !r4)=true then Value.bool gone else undef)=y25;generalize (if q=true then Value.bool (r4||gone) else undef)=y26;rw [hq0];clear hq0;generalize hz:((c==r0)&&(r4||gone))=z;rw [hmk];gi_wp2;exact bodyPost_ret (results_tmp rfl _ _ _) rfl ⟨by rw [← hz];rfl,hb⟩
   case s0=>
    rintro a' W' ⟨hb,hw,rfl⟩;simp only [Nat.reduceEqDiff,if_true,if_false];rw [hmk];skip;refine wpOpIn_step rfl (fun K hK=>?_);have HK:=zzm hK;clear hK;go_simp;exact HK.out _ _ ⟨hb,hw,rfl⟩
   case s1=>
    rintro a' W' ⟨hb,hw,rfl⟩;simp only [Nat.reduceEqDiff,if_true,if_false];rw [hmk];have q2:W'.cell? ⟨w.heap.size+1,2,none⟩=some (.bool true):=by simp [World.cell?,hw,cR]
    refine wpOpIn_step rfl (fun K hK=>?_);have HK:=zzm hK;clear hK;go_simp;exact HK.out _ _ ⟨hb,hw,rfl⟩
   case s2=>
    rintro a' W' ⟨hb,hw,rfl⟩;simp only [Nat.reduceEqDiff,if_true,if_false];rw [hmk];skip;refine wpOpIn_step rfl (fun K hK=>?_);have HK:=zzm hK;clear hK;go_simp;exact HK.out _ _ ⟨hb,hw,_,_,_,_,_,_,_,rfl,by simp,by simp,by simp,by simp,by simp,by simp,by simp⟩
   case s3=>
    rintro y z d a' W' ⟨hb,hw,u12,u13,u14,u15,u16,u17,u18,rfl,h1,h2,h3,h4,h5,h6,h7⟩;have cMn:=(hb.cell hltM).trans cM;rw [hmk];refine wpOpIn_step rfl (fun K hK=>?_);have HK:=zzm hK;clear hK;go_simp;exact HK.out _ _ ⟨hb,hw,_,u13,u14,u15,u16,u17,u18,rfl,fun _=>rfl,h2,h3,h4,h5,h6,h7⟩
   case s4=>
    rintro x z d a' W' ⟨hb,hw,u12,u13,u14,u15,u16,u17,u18,rfl,h1,h2,h3,h4,h5,h6,h7⟩;rw [hmk];refine wpOpIn_step rfl (fun K hK=>?_);have HK:=zzm hK;clear hK;go_simp;exact HK.out _ _ ⟨hb,hw,u12,_,u14,u15,u16,u17,u18,rfl,h1,fun _=>rfl,by simp,by simp,h5,h6,h7⟩
   case s5=>
    rintro x z d a' W' ⟨hb,hw,u12,u13,u14,u15,u16,u17,u18,rfl,h1,h2,h3,h4,h5,h6,h7⟩;obtain rfl:=h2 (by decide);have q2:W'.cell? ⟨w.heap.size+1,3,none⟩=some (.slice P3 key.length q3):=by simp [World.cell?,hw,cR]
    rw [hmk];refine wpOpIn_step rfl (fun K hK=>?_);have HK:=zzm hK;clear hK;go_simp;exact HK.out _ _ ⟨hb,hw,u12,_,_,u15,u16,u17,u18,rfl,h1,fun _=>rfl,fun _=>rfl,by simp,h5,h6,h7⟩
   case s6=>
    rintro x z d a' W' ⟨hb,hw,u12,u13,u14,u15,u16,u17,u18,rfl,h1,h2,h3,h4,h5,h6,h7⟩;obtain rfl:=h2 (by decide);obtain rfl:=h3 (by decide);have hKy:=zzm (Kd.C_below HK3.out hb);have hsz:=hBW.size;have hlt:w.heap.size+1 < W'.heap.size:=by rw [cR] at hw;exact (Array.getElem?_eq_some_iff.1 hw).1
    rw [hmk];refine wpOpIn_step rfl (fun K hK=>?_);have HK:=zzm hK;clear hK;go_simp;gi_wp2_with (refine ⟨trivial,?_⟩;gi_at_call 34;refine (callsIn_wide.2 (Rj.calls _ _ _ _ _ _ hKy.out hq hBT.out)).mono ?_;rintro e w7 ⟨rfl,hb7⟩;dsimp only);exact HK.out _ _ ⟨hb.trans (hb7.mono (by omega)),(hb7.block _ hlt).trans hw,u12,_,_,_,u16,u17,u18,rfl,h1,fun _=>rfl,fun _=>rfl,fun _=>rfl,h5,h6,h7⟩
   case s7=>
    rintro z a' W' ⟨hb,hw,u12,u13,u14,u15,u16,u17,u18,rfl,h1,h2,h3,h4,h5,h6,h7⟩;obtain rfl:=h1 (by decide);obtain rfl:=h4 (by decide);rw [hmk];have howW:=ownsMap_below HOWN.out hb;refine wpOpIn_step rfl (fun K hK=>?_);rw [if_pos (by rfl)];refine S_lookup_in (.tmp 12) (.tmp 15) 61 rfl 9 3 .i64 (Maps.string_keyed Try.underlying9) Try.underlying61 Try.underlying3 (Try.zeroValue3 _) bm nn D rfl howW _ _ rfl hkeyo ?_;intro c' hc';have a0:=hcc.out;rw [hc'] at a0;obtain rfl:c' = c:=by injection a0 with h;injection h
    exact hK _ _ ⟨hb,hw,_,u13,u14,_,_,u17,u18,rfl,fun _=>rfl,h2,h3,fun _=>rfl,fun _=>rfl,h6,h7⟩
   case s8=>
    rintro x y d a' W' ⟨hb,hw,u12,u13,u14,u15,u16,u17,u18,rfl,h1,h2,h3,h4,h5,h6,h7⟩;rw [hmk];refine wpOpIn_step rfl (fun K hK=>?_);have HK:=zzm hK;clear hK;go_simp;exact HK.out _ _ ⟨hb,hw,u12,u13,u14,u15,u16,_,u18,rfl,h1,h2,h3,h4,h5,fun _=>rfl,by simp⟩
   case s9=>
    rintro x y d a' W' ⟨hb,hw,u12,u13,u14,u15,u16,u17,u18,rfl,h1,h2,h3,h4,h5,h6,h7⟩;obtain rfl:=h6 (by decide);have q2:W'.cell? ⟨w.heap.size+1,0,none⟩=some (.int .i64 r0):=by simp [World.cell?,hw,cR]
    rw [hmk];refine wpOpIn_step rfl (fun K hK=>?_);have HK:=zzm hK;clear hK;go_simp;exact HK.out _ _ ⟨hb,hw,u12,u13,u14,u15,u16,_,_,rfl,h1,h2,h3,h4,h5,fun _=>rfl,fun _=>rfl⟩
   case s10=>
    rintro a' W' ⟨hb,hw,u12,u13,u14,u15,u16,u17,u18,rfl,h1,h2,h3,h4,h5,h6,h7⟩;obtain rfl:=h1 (by decide);obtain rfl:=h2 (by decide);obtain rfl:=h3 (by decide);obtain rfl:=h4 (by decide);obtain rfl:=h5 (by decide);obtain rfl:=h6 (by decide);obtain rfl:=h7 (by decide);rw [hmk];refine wpOpIn_step rfl (fun K hK=>?_);have HK:=zzm hK;clear hK;go_simp;exact HK.out _ _ ⟨hb,hw,by rw [hq0];rfl⟩
   case s11=>
    rintro a' W' ⟨hb,hw,rfl⟩;simp only [Nat.reduceEqDiff,if_true,if_false];rw [hmk];clear hq0;cases q <;> (refine wpOpIn_step rfl (fun K hK=>?_);have HK:=zzm hK;clear hK;go_simp;exact HK.out _ _ ⟨hb,hw,rfl⟩)
   case s12=>
    rintro a' W' ⟨hb,hw,rfl⟩;simp only [Nat.reduceEqDiff,if_true,if_false];rw [hmk];clear hq0;cases q <;> (refine wpOpIn_step rfl (fun K hK=>?_);have HK:=zzm hK;clear hK;go_simp;exact HK.out _ _ ⟨hb,hw,rfl⟩)
   case s13=>
    rintro a' W' ⟨hb,hw,rfl⟩;simp only [Nat.reduceEqDiff,if_true,if_false];rw [hmk];clear hq0;cases q <;> cases r4 <;> (refine wpOpIn_step rfl (fun K hK=>?_);have HK:=zzm hK;clear hK;go_simp;exact HK.out _ _ ⟨hb,hw,rfl⟩)
   case s14=>
    rintro a' W' ⟨hb,hw,rfl⟩;simp only [Nat.reduceEqDiff,if_true,if_false];rw [hmk];have q2:W'.cell? ⟨w.heap.size+1,4,none⟩=some (.bool r4):=by simp [World.cell?,hw,cR]
    clear hq0;cases q <;> cases r4 <;> (refine wpOpIn_step rfl (fun K hK=>?_);have HK:=zzm hK;clear hK;go_simp;exact HK.out _ _ ⟨hb,hw,rfl⟩)
   case s15=>
    rintro a' W' ⟨hb,hw,rfl⟩;simp only [Nat.reduceEqDiff,if_true,if_false];rw [hmk];clear hq0;cases q <;> cases r4 <;> (refine wpOpIn_step rfl (fun K hK=>?_);have HK:=zzm hK;clear hK;go_simp;exact HK.out _ _ ⟨hb,hw,rfl⟩)
   case s16=>
    rintro a' W' ⟨hb,hw,rfl⟩;simp only [Nat.reduceEqDiff,if_true,if_false];rw [hmk];have cGn:=(hb.cell hltG).trans cG;clear hq0;cases q <;> cases r4 <;> (refine wpOpIn_step rfl (fun K hK=>?_);have HK:=zzm hK;clear hK;go_simp;exact HK.out _ _ ⟨hb,hw,rfl⟩)
   case s17=>
    rintro a' W' ⟨hb,hw,rfl⟩;simp only [Nat.reduceEqDiff,if_true,if_false];rw [hmk];clear hq0;cases q <;> cases r4 <;> (refine wpOpIn_step rfl (fun K hK=>?_);have HK:=zzm hK;clear hK;go_simp;exact HK.out _ _ ⟨hb,hw,rfl⟩)
   case s18=>
    rintro a' W' ⟨hb,hw,rfl⟩;simp only [Nat.reduceEqDiff,if_true,if_false];rw [hmk];clear hq0;cases q <;> cases r4 <;> (refine wpOpIn_step rfl (fun K hK=>?_);have HK:=zzm hK;clear hK;go_simp;exact HK.out _ _ ⟨hb,hw,rfl⟩)
   case s19=>
    rintro a' W' ⟨hb,hw,rfl⟩;simp only [Nat.reduceEqDiff,if_true,if_false];rw [hmk];clear hq0;cases q <;> cases r4 <;> (refine wpOpIn_step rfl (fun K hK=>?_);have HK:=zzm hK;clear hK;go_simp;exact HK.out _ _ ⟨hb,hw,rfl⟩)
end
section
def kA:Kd S43 where
 sz:=k43.sz
 E:=k43.E
 K:=k43.K
 M:=fun w base ok x cs=>∃ v3 v5:Value,cs = [.int .i64 x.f0,.int .i64 x.f1,.bool x.f2,v3,.bool x.f4,v5]∧Kd.R (Kd.int .i64) 3 w base (fun k=>ok k∧some k≠v5.ownBlock) v3 x.f3∧Kd.R (Kd.int .i64) 3 w base (fun k=>ok k∧some k≠v3.ownBlock) v5 x.f5
 K_len:=k43.K_len
 K_one:=k43.K_one
 K_below:=k43.K_below
 K_of_M:=by
  rintro w base ok x cs ⟨v3,v5,rfl,h3,h5⟩;exact k43.K_of_M (k43_mkM w base ok x (Kd.R_mono h3 fun _ h=>h.1) (Kd.R_mono h5 fun _ h=>h.1))
 M_mono:=by
  rintro w base ok ok' x cs hok ⟨v3,v5,rfl,h3,h5⟩;exact ⟨v3,v5,rfl,Kd.R_mono h3 fun k h=>⟨hok k h.1,h.2⟩,Kd.R_mono h5 fun k h=>⟨hok k h.1,h.2⟩⟩
 M_bound:=by
  rintro w base ok x cs ⟨v3,v5,rfl,h3,h5⟩;have hE:∀ q,q∈3::(Kd.int .i64).E→q∈k43.E:=by decide
  exact ⟨v3,v5,rfl,Kd.R_mono (Kd.R_bound h3) fun k h=>⟨⟨h.1.1,h.2.1,h.2.2.1,h.2.2.2.imp fun q hq=>⟨hE q hq.1,hq.2⟩⟩,h.1.2⟩,Kd.R_mono (Kd.R_bound h5) fun k h=>⟨⟨h.1.1,h.2.1,h.2.2.1,h.2.2.2.imp fun q hq=>⟨hE q hq.1,hq.2⟩⟩,h.1.2⟩⟩
 M_move:=by
  rintro w w1 base ok x cs hm ⟨v3,v5,rfl,h3,h5⟩;exact ⟨v3,v5,rfl,Kd.R_move h3 fun k h=>hm k h.1,Kd.R_move h5 fun k h=>hm k h.1⟩
 M_lower:=by
  rintro w base base' ok x cs hb ⟨v3,v5,rfl,h3,h5⟩;exact ⟨v3,v5,rfl,Kd.R_lower h3 hb,Kd.R_lower h5 hb⟩
theorem S_weakA {e base:Nat} {w:World} {ok:Nat→Prop} {v:Value} {xs:List S43} (h:Kd.S kA e w base ok v xs):Kd.S k43 e w base ok v xs:=by
 obtain ⟨f,h0,inner,ho,hr⟩:=h;refine ⟨f,h0,inner,ho,hr.imp_ (fun p cs hp=>?_)⟩;obtain ⟨v3,v5,e,h3,h5⟩:=hp;subst e;exact k43_mkM _ _ _ _ (Kd.R_mono h3 fun _ h=>h.1) (Kd.R_mono h5 fun _ h=>h.1)
theorem A_reads' {e base n c:Nat} {w:World} {ok:Nat→Prop} {A:Option Addr} {xs:List S43} (h:Kd.S kA e w base ok (.slice A n c) xs):n=xs.length∧n≤c∧Kd.C k43 w A xs.length xs:=Kd.S_reads' (S_weakA h)
theorem two_old {α β:Type} {d:Kd α} {d' : Kd β} {e e' base:Nat} {W w1:World} {ok ok2:Nat→Prop} {v v2:Value} {xs:List α} {ys:List β} (h:Kd.S d e W base ok v xs) (hb:Below W.heap.size W w1) (ho:Kd.R d' e' w1 W.heap.size ok2 v2 ys) (hl:base≤W.heap.size) :
  ∃ B1,Kd.S d e w1 base (fun k=>k < B1) v xs∧Kd.R d' e' w1 base (fun k=>B1≤k) v2 ys:=
 ⟨W.heap.size,Kd.S_mono (Kd.S_old h hb) (fun k hk=>hk.2),Kd.R_lower (Kd.R_mono (Kd.R_bound ho) (fun k hk=>hk.2.1)) hl⟩
theorem three_old {α β γ:Type} {d:Kd α} {d' : Kd β} {d2:Kd γ} {e e' e2 base:Nat} {W w1:World} {ok ok1 ok2:Nat→Prop} {v v1 v2:Value} {xs:List α} {ys:List β} {zs:List γ} (h:Kd.S d e W base ok v xs) (hx:Kd.R d' e' W base ok1 v1 ys) (hb:Below W.heap.size W w1) (ho:Kd.S d2 e2 w1 W.heap.size ok2 v2 zs) (hl:base≤W.heap.size) :
  ∃ B2,Kd.S d e w1 base (fun k=>ok k∧k < B2) v xs∧Kd.R d' e' w1 base (fun k=>ok1 k∧k < B2) v1 ys∧Kd.S d2 e2 w1 base (fun k=>B2≤k) v2 zs:=
 ⟨W.heap.size,Kd.S_old h hb,Kd.R_mono (Kd.R_below (Kd.R_bound hx) hb) (fun k hk=>⟨hk.1,hk.2.2.1⟩),Kd.S_lower (Kd.S_mono (Kd.S_bound ho) (fun k hk=>hk.2.1)) hl⟩
end
section
open Go.Shelf
attribute [local go_sem] Oper.semAt_some
@[local go_sem] theorem run_store_func {P:Program} {w:World} {a:Addr} {m:Mode} (f:Fn) (b c:Array Value):(store a (.func f b c) m).run P w=stored P w a (.func f b c) m:=run_store P w a _ m rfl
theorem S_lit0 {α:Type} (d:Kd α) (e:Nat) (W:World) (base:Nat) (ok:Nat→Prop) (hok:ok W.heap.size) (hbase:base≤W.heap.size):Kd.S d e (W.alloc (.cells #[] e)) base ok (.slice (some ⟨W.heap.size,0,none⟩) 0 0) []:=by
 refine ⟨fun _=>0,fun k hk=>?_,[],?_,by simp [Reps]⟩
 ·
  have:W.heap.size=k:=by simpa [Value.ownBlock] using hk
  rw [← this];exact hok
 ·
  exact World.ownsRow_lit (base:=base) (e:=e) (size:=d.sz) W #[] 0 hbase (by simp [maxLen]) (by simp)
theorem S_own {α:Type} {d:Kd α} {e base:Nat} {ok:Nat→Prop} {v:Value} {xs:List α} {X Y:World} {row:Option Nat} (h:Kd.S d e X base ok v xs) (hg:X.grownBy Y row) (hr:∀ r,row=some r→∃ o:Obj,X.heap[r]? = some o∧o.isCells=false):Kd.S d e Y base ok v xs:=by
 refine Kd.S_mono (Kd.S_move (Kd.S_bound h) (fun k hk=>hg.block k hk.2.2.1 (fun e=>?_))) (fun k hk=>hk.1);obtain ⟨_,_,_,q,_,cs,hc⟩:=hk;obtain ⟨o,ho,hoc⟩:=hr k e.symm;rw [hc] at ho;cases ho;cases hoc
theorem keeps_row {B:Nat} {W W' : World} {row:Option Nat} {t:TypeId} (hg:W.grownBy W' row) (hr:∀ k,row=some k→∃ cs,W.heap[k]? = some (.cells cs t (0,0))):KeepsFrom B W W':=
 ⟨hg.size,fun k o _ hk ho=>(hg.block k (Array.getElem?_eq_some_iff.1 hk).1 (fun e=>by obtain ⟨cs,hc⟩:=hr k e.symm;rw [hc] at hk;cases hk;cases ho)).trans hk⟩
theorem keeps_below {B:Nat} {W W' : World} (h:Below W.heap.size W W'):KeepsFrom B W W':=KeepsFrom.of_below h
theorem copyOf_st {l:List S39} (h:okLog l=true) (x:Nat×Nat):Rk.f (rcOf l x).f0 (rcOf l x).f1 (rcOf l x).f2 (rcOf l x).f3 (rcOf l x).f4 (rcOf l x).f5=some ((rcOf l x).f0,(rcOf l x).f1,(rcOf l x).f2,(rcOf l x).f3,(rcOf l x).f4,(rcOf l x).f5):=by
 have:=okLog_at h x;unfold Rk.f slices_Clone_int_int.f;rw [if_pos (by omega),if_pos (by omega)];rfl
def stayB (l:List S39) (gone:Bool) (x:Nat×Nat):Bool:=mkOf l x||((rcOf l x).f2&&((lastOff l (pts l) (hexOf (rcOf l x).f3)==(rcOf l x).f0)&&((rcOf l x).f4||gone)))
def stKeep (l:List S39) (x:Nat×Nat):Bool:=!mkOf l x&&stayB l false x
def stOut (l:List S39) (pre:List (Nat×Nat)):List S43:=(pre.filter (stKeep l)).map (rcOf l)
theorem stOut_len (l:List S39) (pre:List (Nat×Nat)):(stOut l pre).length≤pre.length:=by unfold stOut;rw [List.length_map];exact List.length_filter_le _ _
def okSt (Bo Bs Bm Bg bm:Nat) (k:Nat):Prop:=k≠Bo∧k≠Bs∧k≠Bm∧k≠Bg∧k≠bm
def Qz.f (k:Nat) (l0:List S39):Option (List S43):=(Qj.f k l0).bind fun t=>if t=true then (if okLog l0=true then some (stOut l0 (pts l0)) else none) else some []
set_option maxHeartbeats 4000000 in
theorem Qz.calls (k:Nat) (A0:Option Addr) (c0:Nat) (l0:List (S39)) (r:List (S43)) (w:World) (a2:Kd.C k39 w A0 l0.length l0) (a3:l0.length≤c0) (h:Qz.f k l0=some r) :
  Calls Try.prog 7 #[.slice A0 l0.length c0] w fun e w'=>∃ a4:Value,e = .returned (a4)∧Kd.S kA 43 w' w.heap.size (fun _=>True) a4 r∧Below w.heap.size w w':=by
 have hm0:l0.length≤9223372036854775807:=a2.2.1;obtain ⟨AB,CB,AK,CK,AV,CV,hP⟩:=places_of a2;unfold Qz.f at h;replace h:=Option.bind_eq_some_iff.mp h;obtain ⟨t0,a5,h⟩:=h;have HV0:=zzm a5;have HP:=zzm hP;have a6:=zzm a2;have a7:=zzm a3;have H:=zzm h;clear a2 a3 h a5 hP;refine callsIn_wide (n:=8).1 ?_;have hro:(Fence.wide).round=none:=rfl;refine callsIn_of_wp_marks Try.func7 rfl trivial ?_ hro;simp only [Try.ntmps7,List.size_toArray,List.length_cons,List.length_nil,Nat.reduceAdd,Nat.reduceSub,Array.replicate_succ,Array.replicate_zero,List.push_toArray,List.append_toArray,List.nil_append,List.cons_append];gi_wp2;refine ⟨trivial,?_⟩;obtain ⟨W4,hW4⟩:∃ W4,W4=((w.alloc (.cells #[] 43)).alloc (.cells #[.slice (some ⟨w.heap.size,0,none⟩) 0 0] 24)):=⟨_,rfl⟩;have hB4:Below w.heap.size w W4:=by rw [hW4];exact ((Below.refl _ w).alloc (Nat.le_refl _) _).alloc (by simp) _
 have hsz4:W4.heap.size=w.heap.size+2:=by rw [hW4];simp
 have hb3:Boxed W4 (w.heap.size+1) 24 (.slice (some ⟨w.heap.size,0,none⟩) 0 0):=by
  have:=Boxed.new (w.alloc (.cells #[] 43)) 24 (.slice (some ⟨w.heap.size,0,none⟩) 0 0);simp only [World.size_alloc] at this;rw [hW4];exact this
 have hS:Kd.S kA 43 W4 w.heap.size (fun k=>k=w.heap.size) (.slice (some ⟨w.heap.size,0,none⟩) 0 0) []:=by
  have h0:=S_lit0 kA 43 w w.heap.size (fun k=>k=w.heap.size) rfl (Nat.le_refl _);rw [hW4];exact Kd.S_alloc h0 _
 rw [← hW4];clear hW4;have a8:=zzm (Kd.C_below a6.out hB4);refine (callsIn_wide.2 (Qj.calls k _ _ l0 _ _ a8.out a7.out HV0.out)).mono ?_;rintro e w1 ⟨rfl,hbl⟩;dsimp only;have hB1:Below w.heap.size w w1:=hB4.trans (hbl.mono (by omega));replace hb3:Boxed w1 (w.heap.size+1) 24 (.slice (some ⟨w.heap.size,0,none⟩) 0 0):=(hbl.block _ hb3.lt).trans hb3;replace hS:=Kd.S_below hS hbl;have hsz1:w.heap.size+2≤w1.heap.size:=by have:=hbl.size;omega
 clear hbl hB4 hsz4 a8;have c3:=hb3.cell;cases t0 with
 | false=>
  have hr:r = []:=by have:=H.out;simpa using this.symm
  gi_wp2;subst hr;exact ⟨_,results_tmp rfl _ _ _,_,rfl,Kd.S_mono hS (fun _ _=>trivial),hB1⟩
 | true=>
  have H2:=zzm ((if_pos rfl).symm.trans H.out:(if okLog l0=true then some (stOut l0 (pts l0)) else none)=some r);clear H;have hok:okLog l0=true∧r=stOut l0 (pts l0):=by
   have h:=H2.out;by_cases h5:okLog l0=true
   ·
    rw [if_pos h5] at h;exact ⟨h5,(Option.some.inj h).symm⟩
   ·
    rw [if_neg h5] at h;cases h
  have HOK:=zzm hok.1;have HRR:=zzm hok.2;clear hok H2;have b0:=zzm (Kd.C_below a6.out hB1);gi_wp2_with (refine ⟨trivial,?_⟩;gi_at_call 19;refine (callsIn_wide.2 (stayer_calls A0 c0 l0 false _ b0.out a7.out HOK.out)).mono ?_;rintro e w2 ⟨Bm,Bg,bm,rfl,hm1,hm2,hm3,hbm,hbg,hown,hb12⟩;dsimp only);gi_wp2_with (refine ⟨trivial,?_⟩;gi_at_call 20;refine (recs_in Fence.wide 7 trivial hro A0 _ _ _).mono ?_;rintro e w3 ⟨rfl,rfl⟩;dsimp only);obtain ⟨W0,hW0⟩:∃ W0,W0=((w2.alloc (.cells #[.func (.func 35) #[] #[.pointer (some ⟨Bm,0,none⟩),.pointer (some ⟨Bg,0,none⟩)]] 46)).alloc (.cells #[.slice A0 l0.length c0] 26)):=⟨_,rfl⟩;obtain ⟨Bst,hBst⟩:∃ Bst,Bst=w2.heap.size:=⟨_,rfl⟩;obtain ⟨Bs,hBs⟩:∃ Bs,Bs=(w2.alloc (.cells #[.func (.func 35) #[] #[.pointer (some ⟨Bm,0,none⟩),.pointer (some ⟨Bg,0,none⟩)]] 46)).heap.size:=⟨_,rfl⟩;have a9:=hb12.size;have hB2:Below w.heap.size w w2:=hB1.trans (hb12.mono (by omega));have hB0:Below w.heap.size w W0:=by rw [hW0];exact (hB2.alloc hB2.size _).alloc (by simp;omega) _
  have hB10:Below w2.heap.size w2 W0:=by rw [hW0];exact ((Below.refl _ w2).alloc (Nat.le_refl _) _).alloc (by simp) _
  have hsz0:W0.heap.size=w2.heap.size+2:=by rw [hW0];simp
  have ltm:Bm < w2.heap.size:=hbm.lt;have ltg:Bg < w2.heap.size:=hbg.lt;have ltb:bm < w2.heap.size:=hown.lt;have hst0:Boxed W0 Bst 46 (.func (.func 35) #[] #[.pointer (some ⟨Bm,0,none⟩),.pointer (some ⟨Bg,0,none⟩)]):=by rw [hW0,hBst];exact (Boxed.new _ _ _).alloc _
  have hsb:Boxed W0 Bs 26 (.slice A0 l0.length c0):=by rw [hW0,hBs];exact Boxed.new _ _ _
  have hd3:Boxed W0 (w.heap.size+1) 24 (.slice (some ⟨w.heap.size,0,none⟩) 0 0):=Boxed.of_below (Boxed.of_below hb3 hb12) hB10;have hdm:Boxed W0 Bm 61 (.map (some bm)):=Boxed.of_below hbm hB10;have hdg:Boxed W0 Bg 4 (.bool false):=Boxed.of_below hbg hB10;have hdo:=ownsMap_below hown hB10;have hSd:Kd.S kA 43 W0 w.heap.size (okSt (w.heap.size+1) Bst Bm Bg bm) (.slice (some ⟨w.heap.size,0,none⟩) 0 0) []:=Kd.S_mono (Kd.S_below (Kd.S_below hS hb12) hB10) (fun k hk=>by simp only [okSt];omega);rw [← hBst,← hW0,← hBs];have lto:w.heap.size+1 < Bst:=by omega
  have lt1:w.heap.size+1 < w1.heap.size:=by omega
  have hsz0' : W0.heap.size=Bst+2:=by omega
  rw [← hBst] at ltm ltg ltb;clear hW0 hBs hB10 hb3 hS c3 hB1 hsz1 hbm hbg hown hB2 hBst hsz0 a9;refine wpIn_rangeFunc_ownH rfl (by omega) (gf:=36) (lb:=#[.pointer (some ⟨Bs,0,none⟩)]) rfl trivial (enters_of Try.func36 (by kernel_rfl) rfl)
   (recs_stops Fence.wide _ trivial rfl (by omega) Bs A0 c0 l0 w W0 HP.out hm0 hB0 hsb.cell) KpR.t (KpR.b hB0.size) (Below.refl _ _) (fun _=>rfl)
   (fun pre W=>(∃ v,Boxed W (w.heap.size+1) 24 v∧Kd.S kA 43 W w.heap.size (okSt (w.heap.size+1) Bst Bm Bg bm) v (stOut l0 pre))∧Boxed W Bst 46 (.func (.func 35) #[] #[.pointer (some ⟨Bm,0,none⟩),.pointer (some ⟨Bg,0,none⟩)])∧Boxed W Bm 61 (.map (some bm))∧Boxed W Bg 4 (.bool false)∧W.ownsMap Try.prog 9 (plainElem Try.prog 3) bm (pts l0).length (lastD l0 (pts l0))∧Below w.heap.size w W)
   (fun _ _ _=>False)
   (fun s X Y row hs hg hr=>by
    obtain ⟨⟨v,e1,e2⟩,e3,e4,e5,e6,e7⟩:=hs;have hc:∀ r,row=some r→∃ o:Obj,X.heap[r]? = some o∧o.isCells=false:=fun r e=>(hr r e).2;exact ⟨⟨v,boxed_own _ _ (fun _:Unit=>v) () X Y row e1 hg hc,S_own e2 hg hc⟩,boxed_own _ _ (fun _:Unit=>_) () X Y row e3 hg hc,boxed_own _ _ (fun _:Unit=>_) () X Y row e4 hg hc,boxed_own _ _ (fun _:Unit=>_) () X Y row e5 hg hc,e6.kept hg (fun e=>by have:=(hr _ e.symm).1;omega),ownFrom_below (Nat.le_refl _) hB0.size () X Y row e7 hg hr⟩)
   (fun _ _ _ _ _ hs _ _=>hs)
   ⟨⟨_,hd3,hSd⟩,hst0,hdm,hdg,hdo,hB0⟩
   (fun x a' W=>∃ Bx,W.heap[Bx]? = some (.cells #[.bool (Qa l0 (x.1:Int)).f0,.bool (Qa l0 (x.1:Int)).f1,.int .i64 (Qa l0 (x.1:Int)).f2,.int .i64 (Qa l0 (x.1:Int)).f3,.int .i64 (Qa l0 (x.1:Int)).f4,.slice (AB x.1) (Qa l0 (x.1:Int)).f5.length (CB x.1)] 39 (0,0))∧W.heap[Bx+1]? = some (.cells #[.int .i64 (rcOf l0 x).f0,.int .i64 (rcOf l0 x).f1,.bool (rcOf l0 x).f2,.slice (AK x.1 x.2) (rcOf l0 x).f3.length (CK x.1 x.2),.bool (rcOf l0 x).f4,.slice (AV x.1 x.2) (rcOf l0 x).f5.length (CV x.1 x.2)] 43 (0,0))∧a' = { tmps:=#[.slice A0 l0.length c0,undef,.slice none 0 0,.pointer (some ⟨w.heap.size+1,0,none⟩),.pointer (some ⟨Bst,0,none⟩),.pointer (some ⟨Bx,0,none⟩),.pointer (some ⟨Bx+1,0,none⟩),.slice (some ⟨w.heap.size,0,none⟩) 0 0,.slice A0 l0.length c0,.bool true,.bool false,undef,.slice A0 l0.length c0,.func (.func 35) #[] #[.pointer (some ⟨Bm,0,none⟩),.pointer (some ⟨Bg,0,none⟩)],.slice A0 l0.length c0,.func (.func 36) #[] #[.pointer (some ⟨Bs,0,none⟩)],encB l0 AB CB x.1,encR l0 AK CK AV CV x.1 x.2,undef,undef,undef,undef,undef,undef,undef,undef,undef,undef,undef,undef,undef,undef,undef],defers:=[] })
   (fun x a' _ X Y row hs hg hr=>by
    obtain ⟨Bx,e1,e2,e3⟩:=hs;have hne:∀ k cs t f,X.heap[k]? = some (.cells cs t f)→some k≠row:=fun k cs t f h e=>by obtain ⟨o,ho,hoc⟩:=(hr k e.symm).2;rw [h] at ho;cases ho;cases hoc
    exact ⟨Bx,(hg.block _ (Array.getElem?_eq_some_iff.1 e1).1 (hne _ _ _ _ e1)).trans e1,(hg.block _ (Array.getElem?_eq_some_iff.1 e2).1 (hne _ _ _ _ e2)).trans e2,e3⟩)
   ?assign ?body ?done ?stop
  case assign=>
   rintro l pre x W K ⟨⟨v,e1,e2⟩,e3,e4,e5,e6,e7⟩ hK;unfold encB encR;gi_wp2;have b1:=World.alloc_heap_new W (.cells #[.bool (Qa l0 (x.1:Int)).f0,.bool (Qa l0 (x.1:Int)).f1,.int .i64 (Qa l0 (x.1:Int)).f2,.int .i64 (Qa l0 (x.1:Int)).f3,.int .i64 (Qa l0 (x.1:Int)).f4,.slice (AB x.1) (Qa l0 (x.1:Int)).f5.length (CB x.1)] 39);have b2:=World.alloc_heap_new (W.alloc (.cells #[.bool (Qa l0 (x.1:Int)).f0,.bool (Qa l0 (x.1:Int)).f1,.int .i64 (Qa l0 (x.1:Int)).f2,.int .i64 (Qa l0 (x.1:Int)).f3,.int .i64 (Qa l0 (x.1:Int)).f4,.slice (AB x.1) (Qa l0 (x.1:Int)).f5.length (CB x.1)] 39)) (.cells #[.int .i64 (rcOf l0 x).f0,.int .i64 (rcOf l0 x).f1,.bool (rcOf l0 x).f2,.slice (AK x.1 x.2) (rcOf l0 x).f3.length (CK x.1 x.2),.bool (rcOf l0 x).f4,.slice (AV x.1 x.2) (rcOf l0 x).f5.length (CV x.1 x.2)] 43);refine hK _ _ (((KeepsOthers.alloc _ _).trans (KeepsOthers.alloc _ _)).from _) ⟨((Below.refl _ W).alloc e7.size _).alloc (by simp;have:=e7.size;omega) _,(KeepT.alloc _ _).trans (KeepT.alloc _ _)⟩ ?_ ?_
   ·
    exact ⟨⟨v,(e1.alloc _).alloc _,Kd.S_alloc (Kd.S_alloc e2 _) _⟩,(e3.alloc _).alloc _,(e4.alloc _).alloc _,(e5.alloc _).alloc _,(e6.alloc _).alloc _,(e7.alloc e7.size _).alloc (by simp;have:=e7.size;omega) _⟩
   ·
    exact ⟨W.heap.size,(Below.heap_alloc _ _ _ (by simp)).trans b1,by have h:=b2;simp only [World.size_alloc] at h;exact h,rfl⟩
  case body=>
   rintro l pre x a' W hl ⟨lr,hlr⟩ ⟨⟨v,e1,e2⟩,e3,e4,e5,e6,e7⟩ ⟨Bx,cB,cR,rfl⟩ hlt;obtain ⟨Av,cv,rfl⟩:=Kd.S_slice e2;have cst:=e3.cell;have m0:W.cell? ⟨Bx,0,none⟩=some (.bool (Qa l0 (x.1:Int)).f0):=by simp [World.cell?,cB]
   have m1:W.cell? ⟨Bx,1,none⟩=some (.bool (mkOf l0 x)):=by simp [World.cell?,cB];rfl
   cases hm:mkOf l0 x with
   | true=>
    rw [hm] at m1;have hk:stOut l0 (pre ++ [x])=stOut l0 pre:=by simp [stOut,stKeep,hm]
    clear m0 cst;gi_wp2;refine ⟨by simp,?_⟩;gi_wp2;exact ⟨KeepsFrom.refl _ _,⟨Below.refl _ _,KeepT.refl _ _⟩,⟨_,e1,by rw [hk];exact e2⟩,e3,e4,e5,e6,e7⟩
   | false=>
    rw [hm] at m1;have m2:W.cell? ⟨Bx,2,none⟩=some (.int .i64 (Qa l0 (x.1:Int)).f2):=by simp [World.cell?,cB]
    have m3:W.cell? ⟨Bx,3,none⟩=some (.int .i64 (Qa l0 (x.1:Int)).f3):=by simp [World.cell?,cB]
    have m4:W.cell? ⟨Bx,4,none⟩=some (.int .i64 (Qa l0 (x.1:Int)).f4):=by simp [World.cell?,cB]
    have m5:W.cell? ⟨Bx,5,none⟩=some (.slice (AB x.1) (Qa l0 (x.1:Int)).f5.length (CB x.1)):=by simp [World.cell?,cB]
    have r0:W.cell? ⟨Bx+1,0,none⟩=some (.int .i64 (rcOf l0 x).f0):=by simp [World.cell?,cR]
    have r1:W.cell? ⟨Bx+1,1,none⟩=some (.int .i64 (rcOf l0 x).f1):=by simp [World.cell?,cR]
    have r2:W.cell? ⟨Bx+1,2,none⟩=some (.bool (rcOf l0 x).f2):=by simp [World.cell?,cR]
    have r3:W.cell? ⟨Bx+1,3,none⟩=some (.slice (AK x.1 x.2) (rcOf l0 x).f3.length (CK x.1 x.2)):=by simp [World.cell?,cR]
    have r4:W.cell? ⟨Bx+1,4,none⟩=some (.bool (rcOf l0 x).f4):=by simp [World.cell?,cR]
    have r5:W.cell? ⟨Bx+1,5,none⟩=some (.slice (AV x.1 x.2) (rcOf l0 x).f5.length (CV x.1 x.2)):=by simp [World.cell?,cR]
    have HST:=stays_calls (Qa l0 (x.1:Int)).f0 false (rcOf l0 x).f2 (rcOf l0 x).f4 false (Qa l0 (x.1:Int)).f2 (Qa l0 (x.1:Int)).f3 (Qa l0 (x.1:Int)).f4 (rcOf l0 x).f0 (rcOf l0 x).f1 (lastOff l0 (pts l0) (hexOf (rcOf l0 x).f3)) (AK x.1 x.2) (AB x.1) (AV x.1 x.2) (Qa l0 (x.1:Int)).f5.length (CB x.1) (CK x.1 x.2) (rcOf l0 x).f5.length (CV x.1 x.2) Bm Bg bm _ (rcOf l0 x).f3 (lastD l0 (pts l0)) W
     e4 e5 e6 (Kd.C_below (HP.out.key x.1 x.2).2 e7) (HP.out.key x.1 x.2).1 (fun h=>(okLog_at HOK.out x).2.2.2 h) (fun _=>lastD_at l0 (pts l0) _)
    rw [show (false||((rcOf l0 x).f2&&((lastOff l0 (pts l0) (hexOf (rcOf l0 x).f3)==(rcOf l0 x).f0)&&((rcOf l0 x).f4||false))))=stKeep l0 x by simp [stKeep,stayB,hm]] at HST;replace HST:=zzm HST;cases hk0:stKeep l0 x with
    | false=>
     rw [hk0] at HST;have hk:stOut l0 (pre ++ [x])=stOut l0 pre:=by simp [stOut,hk0]
     gi_wp2_with (refine ⟨trivial,?_⟩;gi_at_call 35;refine (CallsIn.inRound l (callsIn_wide.2 HST.out)).mono ?_;rintro e w7 ⟨rfl,hb7⟩;dsimp only);exact ⟨keeps_below hb7,⟨hb7.mono e7.size,KeepT.of_below hb7⟩,⟨_,Boxed.of_below e1 hb7,by rw [hk];exact Kd.S_below e2 hb7⟩,Boxed.of_below e3 hb7,Boxed.of_below e4 hb7,Boxed.of_below e5 hb7,ownsMap_below e6 hb7,e7.trans (hb7.mono e7.size)⟩
    | true=>
     rw [hk0] at HST;have hk:stOut l0 (pre ++ [x])=stOut l0 pre ++ [rcOf l0 x]:=by simp [stOut,hk0]
     gi_wp2_with (refine ⟨trivial,?_⟩;gi_at_call 35;refine (CallsIn.inRound l (callsIn_wide.2 HST.out)).mono ?_;rintro e w7 ⟨rfl,hb7⟩;dsimp only);have f1:=Boxed.of_below e1 hb7;have f2:=Kd.S_below e2 hb7;have f3:=Boxed.of_below e3 hb7;have f4:=Boxed.of_below e4 hb7;have f5:=Boxed.of_below e5 hb7;have f6:=ownsMap_below e6 hb7;have f7:Below w.heap.size w w7:=e7.trans (hb7.mono e7.size);have fR:=(hb7.block _ (Array.getElem?_eq_some_iff.1 cR).1).trans cR;have hKp:KpR w.heap.size W w7:=⟨hb7.mono e7.size,KeepT.of_below hb7⟩;have hKf:KeepsFrom W0.heap.size W w7:=keeps_below hb7;have ev:=f1.cell;clear e1 e2 e3 e4 e5 e6 cB cR m0 m1 m2 m3 m4 m5 r0 r1 r2 r3 r4 r5 cst;have HCO:=zzm (copyOf_st HOK.out x);have hmx:Try.prog.follows .mixedOrders=true:=by kernel_rfl
     obtain ⟨mk,hmk⟩:∃ mk:Value→Value→Value→Value→Value→Act,mk=fun u0 u1 u2 u3 u4=>{ tmps:=#[.slice A0 l0.length c0,undef,.slice none 0 0,.pointer (some ⟨w.heap.size+1,0,none⟩),.pointer (some ⟨Bst,0,none⟩),.pointer (some ⟨Bx,0,none⟩),.pointer (some ⟨Bx+1,0,none⟩),.slice (some ⟨w.heap.size,0,none⟩) 0 0,.slice A0 l0.length c0,.bool true,.bool false,undef,.slice A0 l0.length c0,.func (.func 35) #[] #[.pointer (some ⟨Bm,0,none⟩),.pointer (some ⟨Bg,0,none⟩)],.slice A0 l0.length c0,.func (.func 36) #[] #[.pointer (some ⟨Bs,0,none⟩)],encB l0 AB CB x.1,encR l0 AK CK AV CV x.1 x.2,.pointer (some ⟨Bx,1,none⟩),.bool false,.bool true,.bool true,.func (.func 35) #[] #[.pointer (some ⟨Bm,0,none⟩),.pointer (some ⟨Bg,0,none⟩)],.agg #[.bool (Qa l0 (x.1:Int)).f0,.bool false,.int .i64 (Qa l0 (x.1:Int)).f2,.int .i64 (Qa l0 (x.1:Int)).f3,.int .i64 (Qa l0 (x.1:Int)).f4,.slice (AB x.1) (Qa l0 (x.1:Int)).f5.length (CB x.1)],.agg #[.int .i64 (rcOf l0 x).f0,.int .i64 (rcOf l0 x).f1,.bool (rcOf l0 x).f2,.slice (AK x.1 x.2) (rcOf l0 x).f3.length (CK x.1 x.2),.bool (rcOf l0 x).f4,.slice (AV x.1 x.2) (rcOf l0 x).f5.length (CV x.1 x.2)],.bool true,.bool true,u0,u1,u2,u3,u4,undef],defers:=[] }:=⟨_,rfl⟩;refine wpIn_region_any hmx (wpAnyIn_app6 (by kernel_rfl) (fun b s a' W'=>∃ u0 u1 u2 u3 u4,a' = mk u0 u1 u2 u3 u4∧(b=true→u0 = .slice Av (stOut l0 pre).length cv)∧(1≤s→u1 = .agg #[.int .i64 (rcOf l0 x).f0,.int .i64 (rcOf l0 x).f1,.bool (rcOf l0 x).f2,.slice (AK x.1 x.2) (rcOf l0 x).f3.length (CK x.1 x.2),.bool (rcOf l0 x).f4,.slice (AV x.1 x.2) (rcOf l0 x).f5.length (CV x.1 x.2)]) ∧
      (s≤3→Below w7.heap.size w7 W') ∧
      (s=2∨s=3→∃ v3 v5,u2 = .agg #[.int .i64 (rcOf l0 x).f0,.int .i64 (rcOf l0 x).f1,.bool (rcOf l0 x).f2,v3,.bool (rcOf l0 x).f4,v5]∧Kd.R (Kd.int .i64) 3 W' w7.heap.size (fun k_=>some k_≠(v5:Value).ownBlock) v3 (rcOf l0 x).f3∧Kd.R (Kd.int .i64) 3 W' w7.heap.size (fun k_=>some k_≠(v3:Value).ownBlock) v5 (rcOf l0 x).f5 ∧
       (s=3→∃ g,w7.heap.size≤g∧u3 = .slice (some ⟨g,0,none⟩) 1 1∧W'.heap[g]? = some (.cells #[.int .i64 (rcOf l0 x).f0,.int .i64 (rcOf l0 x).f1,.bool (rcOf l0 x).f2,v3,.bool (rcOf l0 x).f4,v5] 43 (0,0)))) ∧
      (4≤s→KeepsFrom W0.heap.size w7 W'∧KpR w.heap.size w7 W'∧Boxed W' Bst 46 (.func (.func 35) #[] #[.pointer (some ⟨Bm,0,none⟩),.pointer (some ⟨Bg,0,none⟩)])∧Boxed W' Bm 61 (.map (some bm))∧Boxed W' Bg 4 (.bool false)∧W'.ownsMap Try.prog 9 (plainElem Try.prog 3) bm (pts l0).length (lastD l0 (pts l0))∧Below w.heap.size w W'∧Kd.S kA 43 W' w.heap.size (okSt (w.heap.size+1) Bst Bm Bg bm) u4 (stOut l0 (pre ++ [x])) ∧
       (s=4→Boxed W' (w.heap.size+1) 24 (.slice Av (stOut l0 pre).length cv))∧(s=5→Boxed W' (w.heap.size+1) 24 u4)))
      ?hdone ?s0 ?s1 ?s2 ?s3 ?s4 ?s5 ⟨_,_,_,_,_,by rw [hmk],by simp,by simp,fun _=>?hini,by simp,by simp⟩)
     case hini=>exact zzb (Below.refl _ w7) 1
     case hdone=>
      rintro a' W' ⟨u0,u1,u2,u3,u4,rfl,h0,h1,h2,h3,h4⟩;rw [hmk];obtain ⟨k1,k2,k3,k4,k5,k6,k7,k8,-,k9⟩:=h4 (by decide);exact ⟨hKf.trans k1,hKp.t k2,⟨u4,k9 rfl,k8⟩,k3,k4,k5,k6,k7⟩
     case s0=>
      rintro s a' W' hs ⟨u0,u1,u2,u3,u4,rfl,h0,h1,h2,h3,h4⟩;rw [hmk];refine wpOpIn_step rfl (fun K hK=>?_);have HK:=zzm hK;have evn:=((h2 hs).cell (zzn _ _ ev)).trans ev;clear hK;go_simp;exact HK.out _ _ ⟨_,u1,u2,u3,u4,rfl,fun _=>rfl,h1,h2,h3,h4⟩
     case s1=>
      rintro b a' W' ⟨u0,u1,u2,u3,u4,rfl,h0,h1,h2,h3,h4⟩;rw [hmk];refine wpOpIn_step rfl (fun K hK=>?_);have HK:=zzm hK;have hcR:=((h2 (by decide)).block _ (Array.getElem?_eq_some_iff.1 fR).1).trans fR;have q0:W'.cell? ⟨Bx+1,0,none⟩=some (.int .i64 (rcOf l0 x).f0):=by simp [World.cell?,hcR]
      have q1:W'.cell? ⟨Bx+1,1,none⟩=some (.int .i64 (rcOf l0 x).f1):=by simp [World.cell?,hcR]
      have q2:W'.cell? ⟨Bx+1,2,none⟩=some (.bool (rcOf l0 x).f2):=by simp [World.cell?,hcR]
      have q3:W'.cell? ⟨Bx+1,3,none⟩=some (.slice (AK x.1 x.2) (rcOf l0 x).f3.length (CK x.1 x.2)):=by simp [World.cell?,hcR]
      have q4:W'.cell? ⟨Bx+1,4,none⟩=some (.bool (rcOf l0 x).f4):=by simp [World.cell?,hcR]
      have q5:W'.cell? ⟨Bx+1,5,none⟩=some (.slice (AV x.1 x.2) (rcOf l0 x).f5.length (CV x.1 x.2)):=by simp [World.cell?,hcR]
      clear hK fR hcR;go_simp;exact HK.out _ _ ⟨u0,_,u2,u3,u4,rfl,h0,fun _=>rfl,fun _=>h2 (by decide),by simp,by simp⟩
     case s2=>
      rintro b a' W' ⟨u0,u1,u2,u3,u4,rfl,h0,h1,h2,h3,h4⟩;obtain rfl:=h1 (by decide);rw [hmk];refine wpOpIn_step rfl (fun K hK=>?_);have HK:=zzm hK;have hbw:=f7.trans ((h2 (by decide)).mono f7.size);have HKy:=zzm (Kd.C_below (HP.out.key x.1 x.2).2 hbw);have HVy:=zzm (Kd.C_below (HP.out.val x.1 x.2).2 hbw);clear hK fR;go_simp;gi_wp2_with (refine ⟨trivial,?_⟩;gi_at_call 21;refine (CallsIn.inRound l (callsIn_wide.2 (Rk.calls _ _ _ _ _ _ _ _ _ _ _ _ _ _ _ _ _ HKy.out (HP.out.key x.1 x.2).1 HVy.out (HP.out.val x.1 x.2).1 HCO.out))).mono ?_;rintro e w8 ⟨v3,v5,rfl,a0,a1,hb8⟩;dsimp only);exact HK.out _ _ ⟨u0,_,_,u3,u4,rfl,h0,fun _=>rfl,fun _=>zzp (h2 (by decide)) hb8,fun _=>⟨v3,v5,rfl,Kd.R_lower a0 (h2 (by decide)).size,Kd.R_lower a1 (h2 (by decide)).size,by simp⟩,by simp⟩
     case s3=>
      rintro b a' W' ⟨u0,u1,u2,u3,u4,rfl,h0,h1,h2,h3,h4⟩;rw [hmk];obtain ⟨v3,v5,rfl,a0,a1,-⟩:=h3 (.inl rfl);obtain rfl:=h1 (by decide);refine wpOpIn_step rfl (fun K hK=>?_);have HK:=zzm hK;clear hK fR;obtain ⟨A3,c3,rfl⟩:=Kd.R_slice a0;obtain ⟨A5,c5,rfl⟩:=Kd.R_slice a1;go_simp;refine HK.out _ _ ⟨u0,.agg #[.int .i64 (rcOf l0 x).f0,.int .i64 (rcOf l0 x).f1,.bool (rcOf l0 x).f2,.slice (AK x.1 x.2) (rcOf l0 x).f3.length (CK x.1 x.2),.bool (rcOf l0 x).f4,.slice (AV x.1 x.2) (rcOf l0 x).f5.length (CV x.1 x.2)],.agg #[.int .i64 (rcOf l0 x).f0,.int .i64 (rcOf l0 x).f1,.bool (rcOf l0 x).f2,.slice A3 (rcOf l0 x).f3.length c3,.bool (rcOf l0 x).f4,.slice A5 (rcOf l0 x).f5.length c5],.slice (some ⟨W'.heap.size,0,none⟩) 1 1,u4,rfl,h0,fun _=>rfl,fun _=>(h2 (by decide)).alloc (h2 (by decide)).size _,fun _=>⟨_,_,rfl,Kd.R_alloc a0 _,Kd.R_alloc a1 _,fun _=>⟨W'.heap.size,(h2 (by decide)).size,rfl,World.alloc_heap_new W' _⟩⟩,by simp⟩
     case s4=>
      rintro a' W' ⟨u0,u1,u2,u3,u4,rfl,h0,h1,h2,h3,h4⟩;rw [hmk];obtain rfl:=h0 rfl;obtain ⟨v3,v5,rfl,a0,a1,h5⟩:=h3 (.inr rfl);obtain ⟨g,hg,rfl,hgc⟩:=h5 rfl;have hbW:=h2 (by decide);have hlt:=Kd.R_lt (Kd.S_R f2);have hty:=Kd.R_typed (Kd.S_R f2);have hown:=(Kd.S_R f2).1;have b3:=f1.lt;have b4:=f3.lt;have b5:=f4.lt;have b6:=f5.lt;have b7:=f6.lt;have hlen:=stOut_len l0 pre;have hplt:=okLog_len HOK.out;refine wpOpIn_step rfl (fun K hK=>?_);rw [if_pos (by rfl)];refine S_append_in kA w.heap.size (.tmp 27) (.tmp 30) 24 43 (.agg #[(.int .i64 0),(.int .i64 0),(.bool false),(.slice none 0 0),(.bool false),(.slice none 0 0)]) 80 rfl Try.underlying24 info43 rfl (by decide) (by omega) _ _ (rcOf l0 x) _ (okSt (w.heap.size+1) Bst Bm Bg bm) (fun k_=>w7.heap.size≤k_) rfl ⟨g,0,none⟩ 1 rfl (by simpa using World.news_of_block hgc)
       (show kA.M W' w.heap.size _ (rcOf l0 x) _ from ⟨_,_,rfl,(Kd.R_mono (Kd.R_lower (Kd.R_bound a0) f7.size) (fun _ hk=>⟨hk.2.1,hk.1⟩)),(Kd.R_mono (Kd.R_lower (Kd.R_bound a1) f7.size) (fun _ hk=>⟨hk.2.1,hk.1⟩))⟩)
       (fun k hk=>⟨by simp only [okSt];omega,fun e=>by have:=hlt k e.symm;omega⟩) (fun k hk=>by have:=hbW.size;simp only [okSt];omega)
       (Kd.S_mono (Kd.S_below (Kd.S_bound f2) hbW) (fun k hk=>⟨hk.1,by omega⟩)) (Nat.le_trans f7.size hbW.size) (by omega) ?_
      intro v1 w1 hS1 hg1 hat;have hrow:∀ k,(Value.slice Av (stOut l0 pre).length cv).ownBlock=some k→∃ cs,W'.heap[k]? = some (.cells cs 43 (0,0)):=fun k hk=>by
       obtain ⟨cs,hc⟩:=hty k hk;exact ⟨cs,(hbW.block k (hlt k hk)).trans hc⟩
      have hbe:∀ {b:Nat} {t:TypeId} {u:Value},Boxed w7 b t u→(∀ k,(okSt (w.heap.size+1) Bst Bm Bg bm) k→k≠b)→Boxed w1 b t u:=fun h hne=>(show Boxed W' _ _ _ from (hbW.block _ h.lt).trans h).kept hg1 (fun e=>hne _ (hown _ e.symm) rfl);have hB1:Below w.heap.size w7 w1:=(hbW.mono f7.size).grown hg1 (Nat.le_trans f7.size hbW.size) (fun k e=>Kd.R_base (Kd.S_R f2) k e);refine hK _ _ ⟨_,_,_,_,_,rfl,fun _=>rfl,fun _=>h1 (by decide),by simp,by simp,fun _=>⟨(keeps_below hbW).trans (keeps_row hg1 hrow),⟨hB1,(KeepT.of_below hbW).trans (KeepT.of_grownBy hg1 (fun k e cs f hc=>?_))⟩,hbe f3 (fun k hk=>hk.2.1),hbe f4 (fun k hk=>hk.2.2.1),hbe f5 (fun k hk=>hk.2.2.2.1),(ownsMap_below f6 hbW).kept hg1 (fun e=>(hown _ e.symm).2.2.2.2 rfl),f7.trans hB1,by rw [hk];exact hS1,fun _=>hbe f1 (fun k hk=>hk.1),by simp⟩⟩;obtain ⟨cs',hc'⟩:=hrow k e;rw [hc'] at hc;cases hc
     case s5=>
      rintro a' W' ⟨u0,u1,u2,u3,u4,rfl,h0,h1,h2,h3,h4⟩;rw [hmk];obtain ⟨k1,k2,k3,k4,k5,k6,k7,k8,k9,-⟩:=h4 (by decide);obtain rfl:=h0 rfl;obtain rfl:=h1 (by decide);have hbo:=k9 rfl;have cbo:=hbo.cell;have fbo:=hbo.frozen;rw [hk] at k8;obtain ⟨A1,c1,he1⟩:=Kd.S_slice k8;rw [List.length_append,List.length_singleton] at he1;subst he1;refine wpOpIn_step rfl (fun K hK=>?_);have HK:=zzm hK;clear hK fR;go_simp;refine HK.out _ _ ⟨_,_,u2,u3,_,rfl,fun _=>rfl,fun _=>rfl,by simp,by simp,fun _=>⟨k1.trans ((KeepsOthers.setCell _ _ _).from _),⟨k2.1.setCell (p:=⟨w.heap.size+1,0,none⟩) (by simp) _,k2.2.trans (KeepT.setCell (p:=⟨w.heap.size+1,0,none⟩) hbo (by decide) _)⟩,k3.other (by omega) _,k4.other (by omega) _,k5.other (by omega) _,k6.setCell (a:=⟨w.heap.size+1,0,none⟩) (by show bm≠w.heap.size+1;omega) _,k7.setCell (p:=⟨w.heap.size+1,0,none⟩) (by simp) _,(by rw [hk];exact Kd.S_far (p:=⟨w.heap.size+1,0,none⟩) k8 (fun k hk=>hk.1) _),by simp,fun _=>hbo.set _⟩⟩
  case done=>
   rintro D ys W hD rfl ⟨⟨v,e1,e2⟩,e3,e4,e5,e6,e7⟩ hK;have ev:=e1.cell;gi_wp2;refine ⟨by simp,.inl ⟨_,_,rfl,run_takeDeferred hK,?_⟩⟩;have hB2:Below w.heap.size w (W.putObj D (.deferred none)):=e7.trans (belowK_b (w:=w) (Nat.le_refl _) W D _ _ (by omega) hK rfl rfl);have hS2:=S_own e2 (grownBy_putObj' W D (.deferred none)) (fun r e=>by cases e;exact ⟨_,hK,rfl⟩);refine ⟨_,results_tmp rfl _ _ _,v,rfl,?_,hB2⟩;rw [HRR.out];exact Kd.S_mono hS2 (fun _ _=>trivial)
  case stop=>
   rintro D c pre W hD hp h hK;exact h.elim
end

set_option linter.unusedVariables false
set_option linter.unusedSimpArgs false
section
inductive Sim:Value→Value→Prop
 | refl (u:Value):Sim u u
 | int (k:IntKind) (x y:Int):Sim (.int k x) (.int k y)
 | bool (x y:Bool):Sim (.bool x) (.bool y)
theorem Sim.trans {a b c:Value} (h:Sim a b) (k:Sim b c):Sim a c:=by
 cases h with
 | refl=>exact k
 | int kk x y=>
  cases k with
  | refl=>exact .int _ _ _
  | int _ _ z=>exact .int _ _ _
 | bool x y=>
  cases k with
  | refl=>exact .bool _ _
  | bool _ z=>exact .bool _ _
theorem Sim.of_int {k:IntKind} {x:Int} {u:Value} (h:Sim (.int k x) u):∃ y,u = .int k y:=by
 cases h with
 | refl=>exact ⟨x,rfl⟩
 | int _ _ y=>exact ⟨y,rfl⟩
theorem Sim.of_bool {x:Bool} {u:Value} (h:Sim (.bool x) u):∃ y,u = .bool y:=by
 cases h with
 | refl=>exact ⟨x,rfl⟩
 | bool _ y=>exact ⟨y,rfl⟩
theorem Sim.of_slice {A:Option Addr} {n c:Nat} {u:Value} (h:Sim (.slice A n c) u):u = .slice A n c:=by
 cases h with
 | refl=>rfl
structure Lk (P:Nat→Prop) (w w' : World):Prop where
 kept:Kept w w' P
 low:∀ B,(∀ k,P k→B≤k)→Below B w w'
 cell:∀ (g:Nat) (cs:Array Value) (t:Nat),w.heap[g]? = some (.cells cs t (0,0))→∃ cs' : Array Value,w'.heap[g]? = some (.cells cs' t (0,0))∧∀ (i:Nat) (u:Value),cs[i]? = some u→∃ u',cs'[i]? = some u'∧Sim u u'
theorem Lk.refl (P:Nat→Prop) (w:World):Lk P w w:=⟨Kept.refl _ _,fun _ _=>Below.refl _ _,fun g cs t h=>⟨cs,h,fun i u hu=>⟨u,hu,.refl u⟩⟩⟩
theorem Lk.trans {P:Nat→Prop} {x y z:World} (h:Lk P x y) (k:Lk P y z):Lk P x z:=by
 refine ⟨h.kept.then_ k.kept (fun _ h2=>.inl h2),fun B hB=>(h.low B hB).trans (k.low B hB),fun g cs t h0=>?_⟩;obtain ⟨c1,h1,q1⟩:=h.cell g cs t h0;obtain ⟨c2,h2,q2⟩:=k.cell g c1 t h1;refine ⟨c2,h2,fun i u hu=>?_⟩;obtain ⟨u1,e1,s1⟩:=q1 i u hu;obtain ⟨u2,e2,s2⟩:=q2 i u1 e1;exact ⟨u2,e2,s1.trans s2⟩
theorem Lk.set {P:Nat→Prop} {w:World} {g t i:Nat} {cs:Array Value} {u v:Value} (h:w.heap[g]? = some (.cells cs t (0,0))) (hu:cs[i]? = some u) (hs:Sim u v) (hp:P g):Lk P w (w.setCell ⟨g,i,none⟩ v):=by
 refine ⟨(Kept.refl w P).setCell (.inl hp) v,fun B hB=>(Below.refl B w).setCell (p:=⟨g,i,none⟩) (hB g hp) v,fun g' cs' t' h'=>?_⟩;by_cases e:g' = g
 ·subst e
  rw [h] at h';cases h';refine ⟨cs.setIfInBounds i v,zzi h i v rfl,fun j u2 hj=>?_⟩;by_cases ej:j=i
  ·subst ej
   rw [hu] at hj;cases hj;exact ⟨v,by rw [Array.getElem?_setIfInBounds_self_of_lt (Array.getElem?_eq_some_iff.1 hu).1],hs⟩
  ·exact ⟨u2,by rw [Array.getElem?_setIfInBounds_ne (Ne.symm ej)];exact hj,.refl _⟩
 ·exact ⟨cs',(Below.heap_setCell w ⟨g,i,none⟩ v g' e).trans h',fun j u2 hj=>⟨u2,hj,.refl _⟩⟩
def IntRow (P:Nat→Prop) (w:World) (A:Option Addr) (n:Nat):Prop:=0 < n→∃ (g:Nat) (cs:Array Value),A=some ⟨g,0,none⟩∧P g∧w.heap[g]? = some (.cells cs 3 (0,0))∧∀ i,i < n→∃ x,cs[i]? = some (.int .i64 x)
def RecRow (P:Nat→Prop) (w:World) (A:Option Addr) (n:Nat) (len:Nat→Nat×Nat):Prop:=0 < n→∃ (g:Nat) (cs:Array Value),A=some ⟨g,0,none⟩∧P g∧w.heap[g]? = some (.cells cs 43 (0,0))∧∀ i,i < n →
 ∃ x0 x1 b2 A3 c3 b4 A5 c5,(cs[i * 6+0]? = some (.int .i64 x0)∧cs[i * 6+1]? = some (.int .i64 x1)∧cs[i * 6+2]? = some (.bool b2)∧cs[i * 6+3]? = some (.slice A3 (len i).1 c3)∧cs[i * 6+4]? = some (.bool b4)∧cs[i * 6+5]? = some (.slice A5 (len i).2 c5))∧IntRow P w A3 (len i).1∧IntRow P w A5 (len i).2
def BatRow (P:Nat→Prop) (w:World) (A:Option Addr) (n:Nat) (num:Nat→Nat) (len:Nat→Nat→Nat×Nat):Prop:=0 < n→∃ (g:Nat) (cs:Array Value),A=some ⟨g,0,none⟩∧P g∧w.heap[g]? = some (.cells cs 39 (0,0))∧∀ i,i < n →
 ∃ b0 b1 x2 x3 x4 A5 c5,(cs[i * 6+0]? = some (.bool b0)∧cs[i * 6+1]? = some (.bool b1)∧cs[i * 6+2]? = some (.int .i64 x2)∧cs[i * 6+3]? = some (.int .i64 x3)∧cs[i * 6+4]? = some (.int .i64 x4)∧cs[i * 6+5]? = some (.slice A5 (num i) c5))∧RecRow P w A5 (num i) (len i)
theorem IntRow.lk {P:Nat→Prop} {w w' : World} {A:Option Addr} {n:Nat} (h:IntRow P w A n) (k:Lk P w w'):IntRow P w' A n:=by
 intro hn;obtain ⟨g,cs,rfl,hp,hh,hc⟩:=h hn;obtain ⟨cs',hh',hc'⟩:=k.cell g cs 3 hh;refine ⟨g,cs',rfl,hp,hh',fun i hi=>?_⟩;obtain ⟨x,hx⟩:=hc i hi;obtain ⟨u,hu,hs⟩:=hc' i _ hx;obtain ⟨y,rfl⟩:=hs.of_int;exact ⟨y,hu⟩
theorem RecRow.lk {P:Nat→Prop} {w w' : World} {A:Option Addr} {n:Nat} {len:Nat→Nat×Nat} (h:RecRow P w A n len) (k:Lk P w w'):RecRow P w' A n len:=by
 intro hn;obtain ⟨g,cs,rfl,hp,hh,hc⟩:=h hn;obtain ⟨cs',hh',hc'⟩:=k.cell g cs _ hh;refine ⟨g,cs',rfl,hp,hh',fun i hi=>?_⟩;obtain ⟨x0,x1,b2,A3,c3,b4,A5,c5,⟨h0,h1,h2,h3,h4,h5⟩,r3,r5⟩:=hc i hi;obtain ⟨_,q0,s0⟩:=hc' _ _ h0;obtain ⟨_,q1,s1⟩:=hc' _ _ h1;obtain ⟨_,q2,s2⟩:=hc' _ _ h2;obtain ⟨_,q3,s3⟩:=hc' _ _ h3;obtain ⟨_,q4,s4⟩:=hc' _ _ h4;obtain ⟨_,q5,s5⟩:=hc' _ _ h5;obtain ⟨y0,rfl⟩:=s0.of_int;obtain ⟨y1,rfl⟩:=s1.of_int;obtain ⟨y2,rfl⟩:=s2.of_bool;obtain rfl:=s3.of_slice;obtain ⟨y4,rfl⟩:=s4.of_bool;obtain rfl:=s5.of_slice;exact ⟨y0,y1,y2,A3,c3,y4,A5,c5,⟨q0,q1,q2,q3,q4,q5⟩,r3.lk k,r5.lk k⟩
theorem BatRow.lk {P:Nat→Prop} {w w' : World} {A:Option Addr} {n:Nat} {num:Nat→Nat} {len:Nat→Nat→Nat×Nat} (h:BatRow P w A n num len) (k:Lk P w w'):BatRow P w' A n num len:=by
 intro hn;obtain ⟨g,cs,rfl,hp,hh,hc⟩:=h hn;obtain ⟨cs',hh',hc'⟩:=k.cell g cs _ hh;refine ⟨g,cs',rfl,hp,hh',fun i hi=>?_⟩;obtain ⟨b0,b1,x2,x3,x4,A5,c5,⟨h0,h1,h2,h3,h4,h5⟩,r5⟩:=hc i hi;obtain ⟨_,q0,s0⟩:=hc' _ _ h0;obtain ⟨_,q1,s1⟩:=hc' _ _ h1;obtain ⟨_,q2,s2⟩:=hc' _ _ h2;obtain ⟨_,q3,s3⟩:=hc' _ _ h3;obtain ⟨_,q4,s4⟩:=hc' _ _ h4;obtain ⟨_,q5,s5⟩:=hc' _ _ h5;obtain ⟨y0,rfl⟩:=s0.of_bool;obtain ⟨y1,rfl⟩:=s1.of_bool;obtain ⟨y2,rfl⟩:=s2.of_int;obtain ⟨y3,rfl⟩:=s3.of_int;obtain ⟨y4,rfl⟩:=s4.of_int;obtain rfl:=s5.of_slice;exact ⟨y0,y1,y2,y3,y4,A5,c5,⟨q0,q1,q2,q3,q4,q5⟩,r5.lk k⟩
theorem IntRow.mono {P Q:Nat→Prop} {w:World} {A:Option Addr} {n:Nat} (h:IntRow P w A n) (hq:∀ k,P k→Q k):IntRow Q w A n:=fun hn=>by
 obtain ⟨g,cs,e,hp,r⟩:=h hn
 exact ⟨g,cs,e,hq g hp,r⟩
theorem RecRow.mono {P Q:Nat→Prop} {w:World} {A:Option Addr} {n:Nat} {len:Nat→Nat×Nat} (h:RecRow P w A n len) (hq:∀ k,P k→Q k):RecRow Q w A n len:=fun hn=>by
 obtain ⟨g,cs,e,hp,hh,r⟩:=h hn
 refine ⟨g,cs,e,hq g hp,hh,fun i hi=>?_⟩
 obtain ⟨x0,x1,b2,A3,c3,b4,A5,c5,hc,r3,r5⟩:=r i hi
 exact ⟨x0,x1,b2,A3,c3,b4,A5,c5,hc,r3.mono hq,r5.mono hq⟩
theorem mk_cell {cur:Array Value} {n sz:Nat} {inner c:List Value} (h4:List.take (n * sz) cur.toList=inner) {i j:Nat} (hi:i < n) (hc:(inner.drop (i * sz)).take sz=c) (hl:c.length=sz) {u:Value} (hu:c[j]? = some u):cur[i * sz+j]? = some u:=by
 have hj:j < sz:=by rw [← hl];exact (List.getElem?_eq_some_iff.1 hu).1
 have hb:i * sz+j < n * sz:=by
  have:(i+1) * sz≤n * sz:=Nat.mul_le_mul_right _ hi;rw [Nat.add_mul] at this;omega
 rw [← hc,List.getElem?_take_of_lt hj,List.getElem?_drop,← h4,List.getElem?_take_of_lt hb,Array.getElem?_toList] at hu;exact hu
theorem intRow_of {w:World} {base:Nat} {ok:Nat→Prop} {v:Value} {xs:List Int} (h:Kd.R (Kd.int .i64) 3 w base ok v xs):∃ A c,v = .slice A xs.length c∧IntRow ok w A xs.length:=by
 obtain ⟨h0,inner,⟨_,ho⟩,hr⟩:=h;rcases ho with ⟨rfl,hn⟩|⟨g,cap,cur,rfl,_,hh,_,_,_,h4⟩
 ·exact ⟨none,0,by rw [hn],fun hp=>by omega⟩
 ·refine ⟨_,cap,rfl,fun _=>⟨g,cur,rfl,h0 g rfl,hh,fun i hi=>?_⟩⟩
  have hM:(inner.drop (i * 1)).take 1 = [.int .i64 xs[i]]:=hr.2 i xs[i] (List.getElem?_eq_getElem hi);have hc:cur[i * 1+0]? = some (.int .i64 xs[i]):=mk_cell (j:=0) h4 hi hM rfl rfl;rw [Nat.mul_one,Nat.add_zero] at hc;exact ⟨xs[i],hc⟩
theorem recRow_of {w:World} {base:Nat} {ok:Nat→Prop} {v:Value} {xs:List S43} (h:Kd.R k43 43 w base ok v xs):∃ A c,v = .slice A xs.length c∧RecRow ok w A xs.length (fun i=>((Qb xs (i:Int)).f3.length,(Qb xs (i:Int)).f5.length)):=by
 obtain ⟨h0,inner,⟨_,ho⟩,hr⟩:=h;rcases ho with ⟨rfl,hn⟩|⟨g,cap,cur,rfl,_,hh,_,_,_,h4⟩
 ·exact ⟨none,0,by rw [hn],fun hp=>by omega⟩
 ·refine ⟨_,cap,rfl,fun _=>⟨g,cur,rfl,h0 g rfl,hh,fun i hi=>?_⟩⟩
  have hrd:Qb xs (i:Int)=xs[i]:=by unfold Qb;rw [Int.toNat_natCast,List.getD_eq_getElem?_getD,List.getElem?_eq_getElem hi];rfl
  obtain ⟨c0,d0,e0,f0,c1,d1,e1,f1,c2,d2,e2,f2,c3,d3,e3,⟨v3,f3,h3⟩,c4,d4,e4,f4,v5,f5,h5⟩:=hr.2 i xs[i] (List.getElem?_eq_getElem hi);subst f0 e1 f1 e2 f2 e3 f3 e4 f4 f5;obtain ⟨A3,k3,e3,r3⟩:=intRow_of h3;obtain ⟨A5,k5,e5,r5⟩:=intRow_of h5;subst e3 e5;dsimp only;rw [hrd];exact ⟨_,_,_,A3,k3,_,A5,k5,⟨mk_cell (j:=0) h4 hi e0 rfl rfl,mk_cell (j:=1) h4 hi e0 rfl rfl,mk_cell (j:=2) h4 hi e0 rfl rfl,mk_cell (j:=3) h4 hi e0 rfl rfl,mk_cell (j:=4) h4 hi e0 rfl rfl,mk_cell (j:=5) h4 hi e0 rfl rfl⟩,r3.mono (fun _ hk=>hk.1),r5.mono (fun _ hk=>hk.1)⟩
theorem batRow_of {w:World} {base:Nat} {ok:Nat→Prop} {v:Value} {xs:List S39} (h:Kd.R k39 39 w base ok v xs):∃ A c,v = .slice A xs.length c∧BatRow ok w A xs.length (fun i=>(Qa xs (i:Int)).f5.length) (fun i j=>((Qb (Qa xs (i:Int)).f5 (j:Int)).f3.length,(Qb (Qa xs (i:Int)).f5 (j:Int)).f5.length)):=by
 obtain ⟨h0,inner,⟨_,ho⟩,hr⟩:=h;rcases ho with ⟨rfl,hn⟩|⟨g,cap,cur,rfl,_,hh,_,_,_,h4⟩
 ·exact ⟨none,0,by rw [hn],fun hp=>by omega⟩
 ·refine ⟨_,cap,rfl,fun _=>⟨g,cur,rfl,h0 g rfl,hh,fun i hi=>?_⟩⟩
  have hrd:Qa xs (i:Int)=xs[i]:=by unfold Qa;rw [Int.toNat_natCast,List.getD_eq_getElem?_getD,List.getElem?_eq_getElem hi];rfl
  obtain ⟨c0,d0,e0,f0,c1,d1,e1,f1,c2,d2,e2,f2,c3,d3,e3,f3,c4,d4,e4,f4,v5,f5,h5⟩:=hr.2 i xs[i] (List.getElem?_eq_getElem hi);subst f0 e1 f1 e2 f2 e3 f3 e4 f4 f5;obtain ⟨A5,k5,e5,r5⟩:=recRow_of h5;subst e5;dsimp only;rw [hrd];exact ⟨_,_,_,_,_,A5,k5,⟨mk_cell (j:=0) h4 hi e0 rfl rfl,mk_cell (j:=1) h4 hi e0 rfl rfl,mk_cell (j:=2) h4 hi e0 rfl rfl,mk_cell (j:=3) h4 hi e0 rfl rfl,mk_cell (j:=4) h4 hi e0 rfl rfl,mk_cell (j:=5) h4 hi e0 rfl rfl⟩,r5.mono (fun _ hk=>hk.1)⟩
set_option maxHeartbeats 4000000 in
theorem markInt_lk (P:Nat→Prop) (A:Option Addr) (n c:Nat) (a1:Int) (w:World) (h:IntRow P w A n) (h0 : 0≤a1) (h1:a1+n≤9000000000000000000) :
  Calls Try.prog 24 #[.slice A n c,.int .i64 a1] w fun e w'=>e = .returned (.int .i64 (a1+n))∧Lk P w w':=by
 have HR:=zzm h;have H0:=zzm h0;have H1:=zzm h1;clear h h0 h1;go_enter Try.func24,Try.ntmps24;go_wp2;go_loopw [1,5] (fun v1 v5 W=>∃ m:Nat,m≤n∧v1 = .int .i64 (a1+m)∧v5 = .int .i64 m∧Lk P w W) (fun _ v5 _=>n - (intOf v5).toNat)
 case atStart=>exact ⟨0,Nat.zero_le _,by simp,by go_num,Lk.refl _ _⟩
 case round=>
  obtain ⟨m,hm,rfl,rfl,hL⟩:=hrel;have HL:=zzm hL;clear hL;have h0:=H0.out;have h1:=H1.out;by_cases hlt:m < n
  ·obtain ⟨g,cs,rfl,hP,hh,hc⟩:=HR.out.lk HL.out (by omega)
   obtain ⟨y,hy⟩:=hc m hlt;have HP:=zzm hP;have HH:=zzm hh;have HY:=zzm hy;have q:=(zzk hh m).trans hy;have f:=zzl hh m;have e1:wrap64 (a1+(m:Int)+1)=a1+((m+1:Nat):Int):=by unfold wrap64;omega
   have e2:wrap64 ((m:Int)+1)=((m+1:Nat):Int):=by unfold wrap64;omega
   have hmi:((m:Nat):Int) < ((n:Nat):Int):=by omega
   clear hP hh hc hy;go_wp2;go_roundw
   case rel=>exact ⟨m+1,by omega,congrArg (Value.int .i64) (by omega),congrArg (Value.int .i64) (by omega),HL.out.trans (Lk.set HH.out HY.out (.int _ _ _) HP.out)⟩
   case measure=>simp [intOf] <;> omega
  ·obtain rfl:m=n:=by omega
   have hmi:¬ ((m:Nat):Int) < ((m:Nat):Int):=by omega
   go_wp2;go_ret;exact ⟨rfl,HL.out⟩
theorem Lk.at_ {P:Nat→Prop} {W W' : World} {g t i:Nat} {cs:Array Value} {u:Value} (h:Lk P W W') (hh:W.heap[g]? = some (.cells cs t (0,0))) (hu:cs[i]? = some u):∃ cs' u',W'.heap[g]? = some (.cells cs' t (0,0))∧cs'[i]? = some u'∧Sim u u'∧W'.cell? ⟨g,i,none⟩=some u'∧W'.frozen? ⟨g,i,none⟩=false:=by
 obtain ⟨cs',hh',hc⟩:=h.cell g cs t hh;obtain ⟨u',hu',hs⟩:=hc i u hu;exact ⟨cs',u',hh',hu',hs,(zzk hh' i).trans hu',zzl hh' i⟩
theorem meas_lt {n m:Nat} {v:Value} (hv:v = .int .i64 ((m+1:Nat):Int)) (h:m < n):n - (intOf v).toNat < n - (intOf (.int .i64 (m:Int))).toNat:=by
 subst hv;simp [intOf];omega
def cntR (len:Nat→Nat×Nat):Nat→Nat
 | 0=>0
 | m+1=>cntR len m+(4+(len m).1+(len m).2)
theorem cntR_le (len:Nat→Nat×Nat):∀ {m n:Nat},m≤n→cntR len m≤cntR len n
 | m,0,h=>by rw [show m=0 by omega];exact Nat.le_refl _
 | m,n+1,h=>by
  by_cases e:m=n+1
  ·rw [e];exact Nat.le_refl _
  ·have h1:=cntR_le len (show m≤n by omega)
   have h2:cntR len (n+1)=cntR len n+(4+(len n).1+(len n).2):=rfl
   omega
theorem le_cntR (len:Nat→Nat×Nat):∀ m,m≤cntR len m
 | 0=>Nat.le_refl _
 | m+1=>by
  have h1:=le_cntR len m
  have h2:cntR len (m+1)=cntR len m+(4+(len m).1+(len m).2):=rfl
  omega
set_option maxHeartbeats 8000000 in
theorem markRec_lk (P:Nat→Prop) (A:Option Addr) (n c:Nat) (len:Nat→Nat×Nat) (a1:Int) (w:World) (h:RecRow P w A n len) (h0 : 0≤a1) (h1:a1+cntR len n≤9000000000000000000) :
    Calls Try.prog 11 #[.slice A n c,.int .i64 a1] w fun e w'=>e = .returned (.int .i64 (a1+cntR len n))∧Lk P w w':=by
  have HR:=zzm h;have H0:=zzm h0;have H1:=zzm h1;clear h h0 h1;have hu:=Try.underlying43;go_enter Try.func11,Try.ntmps11;go_wp2;go_loopw [1,5] (fun v1 v5 W=>∃ m:Nat,m≤n∧v1 = .int .i64 (a1+cntR len m)∧v5 = .int .i64 m∧Lk P w W) (fun _ v5 _=>n - (intOf v5).toNat)
  case atStart=>exact ⟨0,Nat.zero_le _,by simp [cntR],by go_num,Lk.refl _ _⟩
  case round=>
    obtain ⟨m,hm,rfl,rfl,hL⟩:=hrel;have HL:=zzm hL;clear hL;have h0:=H0.out;have h1:=H1.out;by_cases hlt:m < n
    · have hcl:=cntR_le len (show m+1≤n from hlt)
      have hcs:cntR len (m+1)=cntR len m+(4+(len m).1+(len m).2):=rfl;have hmc:=le_cntR len m;have e5:wrap64 ((m:Int)+1)=((m+1:Nat):Int):=by unfold wrap64;omega
      obtain ⟨kk,hkk⟩:∃ kk:Int,kk=a1+(cntR len m:Int):=⟨_,rfl⟩;rw [← hkk];have k0 : 0≤kk:=by omega
      have k1:kk+4+((len m).1:Int)+((len m).2:Int)≤9000000000000000000:=by omega
      have hend:((kk+1+1+1+((len m).1:Int))+1+((len m).2:Int))=a1+(cntR len (m+1):Int):=by omega
      have HE:=zzm hend;have b1 : 0≤kk+1+1+1:=by omega
      have b2:kk+1+1+1+((len m).1:Int)≤9000000000000000000:=by omega
      have b3 : 0≤kk+1+1+1+((len m).1:Int)+1:=by omega
      have b4:kk+1+1+1+((len m).1:Int)+1+((len m).2:Int)≤9000000000000000000:=by omega
      have B1:=zzm b1;have B2:=zzm b2;have B3:=zzm b3;have B4:=zzm b4;have e1:wrap64 (kk+1)=kk+1:=by unfold wrap64;omega
      have e2:wrap64 (kk+1+1)=kk+1+1:=by unfold wrap64;omega
      have e3:wrap64 (kk+1+1+1)=kk+1+1+1:=by unfold wrap64;omega
      have e4:wrap64 (kk+1+1+1+((len m).1:Int)+1)=kk+1+1+1+((len m).1:Int)+1:=by unfold wrap64;omega
      clear hkk hcl hcs h0 h1 hend hmc b1 b2 b3 b4;obtain ⟨g,cs,rfl,hP,hh,hc⟩:=HR.out.lk HL.out (Nat.lt_of_le_of_lt (Nat.zero_le m) hlt);obtain ⟨x0,x1,y2,A3,c3,y4',A5,c5,⟨q0,q1,q2,q3,q4,q5⟩,r3,r5⟩:=hc m hlt;rw [Nat.add_zero] at q0;have HP:=zzm hP;have HH:=zzm hh;have p0:=(zzk hh (m * 6)).trans q0;have z0:=zzl hh (m * 6);have p1:=(zzk hh (m * 6+1)).trans q1;have z1:=zzl hh (m * 6+1);have p2:=(zzk hh (m * 6+2)).trans q2;have z2:=zzl hh (m * 6+2);have p3:=(zzk hh (m * 6+3)).trans q3;have l1:Lk P wr (wr.setCell ⟨g,m * 6,none⟩ (.int .i64 kk)):=Lk.set hh q0 (.int _ _ _) hP;obtain ⟨cs1,u1,hh1,q1',s1,_,_⟩:=l1.at_ hh q1;have l2:=l1.trans (Lk.set hh1 q1' (v:=.int .i64 (kk+1)) (by obtain ⟨y,rfl⟩:=s1.of_int;exact .int _ _ _) hP);obtain ⟨cs2,u2,hh2,q2',s2,_,_⟩:=l2.at_ hh q2;have L3:=zzm (l2.trans (Lk.set hh2 q2' (v:=.bool ((kk+1+1) % 3==0)) (by obtain ⟨y,rfl⟩:=s2.of_bool;exact .bool _ _) hP));have hmi:((m:Nat):Int) < ((n:Nat):Int):=by omega
      have R3:=zzm r3;have R5:=zzm r5;clear hP hh r3 r5 hc l1 l2 hh1 hh2 q1' q2' s1 s2;go_wp2_with (first
        | (go_at_call 24;have hq:=markInt_lk P A3 (len m).1 c3 (kk+1+1+1) _ (R3.out.lk L3.out) B1.out B2.out;with_reducible refine hq.mono ?_;clear hq;rintro e W4 ⟨rfl,hL4⟩
           have l4:=L3.out.trans hL4;obtain ⟨cs4,v4,hh4,q4',s4,p4,z4⟩:=l4.at_ HH.out q4;obtain ⟨y4,rfl⟩:=s4.of_bool;obtain ⟨cs5,v5',hh5,q5',s5,p5,z5⟩:=l4.at_ HH.out q5;obtain rfl:=s5.of_slice;have L5:=zzm (l4.trans (Lk.set hh4 q4' (v:=.bool ((kk+1+1+1+((len m).1:Int)) % 3==0)) (.bool _ _) HP.out));clear hL4 l4 hh4 q4' s4 hh5 q5' s5)
        | (go_at_call 24;have hq:=markInt_lk P A5 (len m).2 c5 (kk+1+1+1+((len m).1:Int)+1) _ (R5.out.lk L5.out) B3.out B4.out;with_reducible refine hq.mono ?_;clear hq;rintro e W6 ⟨rfl,hL6⟩
           have L6:=zzm (L5.out.trans hL6);clear hL6))
      go_roundw
      case rel=>exact ⟨m+1,hlt,congrArg (Value.int .i64) HE.out,by first|exact congrArg (Value.int .i64) e5|exact congrArg (Value.int .i64) (by omega),HL.out.trans L6.out⟩
      case measure=>exact meas_lt (by first|exact congrArg (Value.int .i64) e5|rfl) hlt
    · obtain rfl:m=n:=by omega
      have hmi:¬ ((m:Nat):Int) < ((m:Nat):Int):=by omega
      go_wp2;go_ret;exact ⟨rfl,HL.out⟩
def tyS (ts:List Nat) (w:World) (k:Nat):Prop:=∃ q cells,q∈ts∧w.heap[k]? = some (.cells cells q (0,0))
end
section
theorem six_of {l:List Value} {b n:Nat} {u0 u1 u2 u3 u4 u5:Value} (hb:b+6≤n) (q0:l[b]? = some u0) (q1:l[b+1]? = some u1) (q2:l[b+2]? = some u2) (q3:l[b+3]? = some u3) (q4:l[b+4]? = some u4) (q5:l[b+5]? = some u5) :
  ((l.take n).drop b).take 6 = [u0,u1,u2,u3,u4,u5]:=by
 apply List.ext_getElem?;intro i;by_cases hi:i < 6
 ·rw [List.getElem?_take_of_lt hi,List.getElem?_drop,List.getElem?_take_of_lt (by omega)]
  match i,hi with
  | 0,_=>exact q0
  | 1,_=>exact q1
  | 2,_=>exact q2
  | 3,_=>exact q3
  | 4,_=>exact q4
  | 5,_=>exact q5
 ·rw [List.getElem?_eq_none (by simp;omega),List.getElem?_eq_none (by simp;omega)]
theorem part_eq {l l' : List Value} {b n:Nat} (hb:b+6≤n) (h:∀ i,i < 6→l'[b+i]? = l[b+i]?):((l'.take n).drop b).take 6=((l.take n).drop b).take 6:=by
 apply List.ext_getElem?;intro i;by_cases hi:i < 6
 ·rw [List.getElem?_take_of_lt hi,List.getElem?_drop,List.getElem?_take_of_lt (by omega),List.getElem?_take_of_lt hi,List.getElem?_drop,List.getElem?_take_of_lt (by omega)]
  exact h i hi
 ·rw [List.getElem?_eq_none (by simp;omega),List.getElem?_eq_none (by simp;omega)]
theorem putA {w:World} {base:Nat} {P:Nat→Prop} {g n c:Nat} {xs:List S43} (h:Kd.S kA 43 w base P (.slice (some ⟨g,0,none⟩) n c) xs) {m:Nat} {x:S43} (hx:xs[m]? = some x) :
  ∃ (cs:Array Value) (v3 v5:Value),w.heap[g]? = some (.cells cs 43 (0,0))∧base≤g∧P g∧(cs[m * 6]? = some (.int .i64 x.f0)∧cs[m * 6+1]? = some (.int .i64 x.f1)∧cs[m * 6+2]? = some (.bool x.f2)∧cs[m * 6+3]? = some v3∧cs[m * 6+4]? = some (.bool x.f4)∧cs[m * 6+5]? = some v5) ∧
   Kd.R (Kd.int .i64) 3 w base (fun k=>some k=v3.ownBlock) v3 x.f3∧Kd.R (Kd.int .i64) 3 w base (fun k=>some k=v5.ownBlock) v5 x.f5∧(∀ k,some k=v3.ownBlock→P k∧k≠g∧some k≠v5.ownBlock)∧(∀ k,some k=v5.ownBlock→P k∧k≠g) ∧
   ∀ (w' : World) (cs' : Array Value) (z:S43),w'.heap[g]? = some (.cells cs' 43 (0,0))→cs'.size=cs.size→(∀ i,i≠m * 6→i≠m * 6+1→i≠m * 6+2→i≠m * 6+4→cs'[i]? = cs[i]?) →
    cs'[m * 6]? = some (.int .i64 z.f0)→cs'[m * 6+1]? = some (.int .i64 z.f1)→cs'[m * 6+2]? = some (.bool z.f2)→cs'[m * 6+4]? = some (.bool z.f4) →
    Kd.R (Kd.int .i64) 3 w' base (fun k=>some k=v3.ownBlock) v3 z.f3→Kd.R (Kd.int .i64) 3 w' base (fun k=>some k=v5.ownBlock) v5 z.f5→(∀ k,k < w.heap.size→k≠g→some k≠v3.ownBlock→some k≠v5.ownBlock→w'.heap[k]? = w.heap[k]?) →
    Kd.S kA 43 w' base P (.slice (some ⟨g,0,none⟩) n c) (xs.set m z):=by
 obtain ⟨f,h0,inner,⟨hlen,hrows⟩,hrep⟩:=h;rcases hrows with ⟨e,_⟩|⟨g',cap,cur,e,hbg,hh,hnc,hcm,hcs,ht⟩
 ·cases e
 injection e with ea en ec;injection ea with ea;injection ea with ea;subst ea;subst ec;have hmx:m < xs.length:=(List.getElem?_eq_some_iff.1 hx).1;have hlz:xs.zipIdx.length=xs.length:=List.length_zipIdx;have hM:=hrep.2 m (x,m) (Kd.zip_at hx);obtain ⟨v3,v5,hc,r3,r5⟩:=hM;have hsz:(Kd.tag f kA).sz=6:=rfl;rw [hsz] at hc ht hcs;have hcell:∀ j u,[Value.int .i64 x.f0,.int .i64 x.f1,.bool x.f2,v3,.bool x.f4,v5][j]? = some u→cur[m * 6+j]? = some u:=fun j u hu=>mk_cell ht (by omega) hc rfl hu;refine ⟨cur,v3,v5,hh,hbg,h0 g rfl,⟨hcell 0 _ rfl,hcell 1 _ rfl,hcell 2 _ rfl,hcell 3 _ rfl,hcell 4 _ rfl,hcell 5 _ rfl⟩,Kd.R_tight rfl r3,Kd.R_tight rfl r5,fun k hk=>?_,fun k hk=>?_,?_⟩
 ·obtain ⟨⟨⟨h1,h2⟩,_⟩,h3⟩:=r3.1 k hk.symm
  exact ⟨h1,fun e=>h2 (by rw [e];rfl),h3⟩
 ·obtain ⟨⟨⟨h1,h2⟩,_⟩,h3⟩:=r5.1 k hk.symm
  exact ⟨h1,fun e=>h2 (by rw [e];rfl)⟩
 intro w' cs' z hh' hcs' hsame z0 z1 z2 z4 s3 s5 hkeep;have hlset:(xs.set m z).zipIdx.length=xs.zipIdx.length:=by rw [List.length_zipIdx,List.length_set,hlz]
 have hcap:xs.length * 6≤cs'.size:=by rw [hcs',hcs,← hlz];exact Nat.mul_le_mul_right _ hnc
 have htl:(cs'.toList.take (xs.length * 6)).length=xs.length * 6:=by
  have e:cs'.toList.length=cs'.size:=Array.length_toList;rw [length_take,e,Nat.min_eq_left hcap]
 have hb6:∀ j,j < xs.length→j * 6+6≤xs.length * 6:=fun j hj=>by omega
 refine ⟨f,h0,cs'.toList.take (xs.length * 6),⟨?_,.inr ⟨g,c,cs',?_,hbg,hh',by rw [hlset];exact hnc,hcm,by rw [hcs',hcs];rfl,?_⟩⟩,?_,fun j p hj=>?_⟩
 ·rw [hlset,hlz];exact htl
 ·rw [hlset,← en]
 ·rw [hlset,hlz];rfl
 ·rw [hlset,hlz];exact htl
 ·rw [List.getElem?_zipIdx,Nat.zero_add] at hj
  obtain ⟨y,hy,rfl⟩:=Option.map_eq_some_iff.1 hj;rw [hsz];by_cases hjm:j=m
  ·subst hjm
   rw [List.getElem?_set_self hmx] at hy;obtain rfl:=Option.some.inj hy;refine ⟨v3,v5,?_,Kd.R_mono s3 fun k hk=>r3.1 k hk.symm,Kd.R_mono s5 fun k hk=>r5.1 k hk.symm⟩;have hn3:cs'[j * 6+3]? = some v3:=(hsame _ (by omega) (by omega) (by omega) (by omega)).trans (hcell 3 _ rfl);have hn5:cs'[j * 6+5]? = some v5:=(hsame _ (by omega) (by omega) (by omega) (by omega)).trans (hcell 5 _ rfl);rw [← Array.getElem?_toList] at z0 z1 z2 z4 hn3 hn5;exact six_of (hb6 j hmx) z0 z1 z2 hn3 z4 hn5
  ·rw [List.getElem?_set_ne (Ne.symm hjm)] at hy
   have hjl:j < xs.length:=(List.getElem?_eq_some_iff.1 hy).1;have hM:=hrep.2 j (y,j) (Kd.zip_at hy);rw [hsz,← ht,hlz] at hM;have he:((cs'.toList.take (xs.length * 6)).drop (j * 6)).take 6=((cur.toList.take (xs.length * 6)).drop (j * 6)).take 6:=part_eq (hb6 j hjl) (fun i hi=>by
    rw [Array.getElem?_toList,Array.getElem?_toList];exact hsame _ (by omega) (by omega) (by omega) (by omega))
   rw [he];refine Kd.M_step (d:=kA) hM (fun k hk hlt=>hkeep k hlt (fun e=>hk.1.2 (by rw [e];rfl)) (fun e=>?_) (fun e=>?_))
   ·exact hjm (hk.2.symm.trans (r3.1 k e.symm).1.2)
   ·exact hjm (hk.2.symm.trans (r5.1 k e.symm).1.2)
theorem four_set (cs:Array Value) (b:Nat) {u0 u1 u2 u4:Value} (z0 z1 z2 z4:Value) (q0:cs[b]? = some u0) (q1:cs[b+1]? = some u1) (q2:cs[b+2]? = some u2) (q4:cs[b+4]? = some u4) :
  ∀ cs',cs' = (((cs.setIfInBounds b z0).setIfInBounds (b+1) z1).setIfInBounds (b+2) z2).setIfInBounds (b+4) z4→cs'.size=cs.size∧(∀ i,i≠b→i≠b+1→i≠b+2→i≠b+4→cs'[i]? = cs[i]?)∧cs'[b]? = some z0∧cs'[b+1]? = some z1∧cs'[b+2]? = some z2∧cs'[b+4]? = some z4:=by
 rintro cs' rfl;have l0:=(Array.getElem?_eq_some_iff.1 q0).1;have l1:=(Array.getElem?_eq_some_iff.1 q1).1;have l2:=(Array.getElem?_eq_some_iff.1 q2).1;have l4:=(Array.getElem?_eq_some_iff.1 q4).1;refine ⟨by simp,fun i h0 h1 h2 h4=>?_,?_,?_,?_,?_⟩
 ·rw [Array.getElem?_setIfInBounds_ne (Ne.symm h4),Array.getElem?_setIfInBounds_ne (Ne.symm h2),Array.getElem?_setIfInBounds_ne (Ne.symm h1),Array.getElem?_setIfInBounds_ne (Ne.symm h0)]
 ·rw [Array.getElem?_setIfInBounds_ne (by omega),Array.getElem?_setIfInBounds_ne (by omega),Array.getElem?_setIfInBounds_ne (by omega),Array.getElem?_setIfInBounds_self_of_lt l0]
 ·rw [Array.getElem?_setIfInBounds_ne (by omega),Array.getElem?_setIfInBounds_ne (by omega),Array.getElem?_setIfInBounds_self_of_lt (by simpa using l1)]
 ·rw [Array.getElem?_setIfInBounds_ne (by omega),Array.getElem?_setIfInBounds_self_of_lt (by simpa using l2)]
 ·rw [Array.getElem?_setIfInBounds_self_of_lt (by simpa using l4)]
def uptoI (a:Int):Nat→List Int
 | 0=>[]
 | n+1=>a::uptoI (a+1) n
theorem uptoI_len (a:Int) (n:Nat):(uptoI a n).length=n:=by
 induction n generalizing a with
 | zero=>rfl
 | succ n ih=>rw [uptoI,List.length_cons,ih]
theorem markInt_l0:∀ (d:Nat) (xs:List Int) (i:Nat) (a:Int),xs.length - i=d→i≤xs.length→(xs.length:Int)≤9000000000000000000→0≤a→a+(d:Int)≤9000000000000000000→Q1.l0 (d+1) xs a (i:Int)=some (a+(d:Int),xs.take i++uptoI a d)
 | 0,xs,i,a,hd,hi,_,h0,h1=>by
  obtain rfl:i=xs.length:=by omega
  unfold Q1.l0
  rw [if_neg (by omega),List.take_length]
  simp [uptoI]
 | d+1,xs,i,a,hd,hi,hb,h0,h1=>by
  have hlt:i < xs.length:=by omega
  have e1:wrap64 (a+1)=a+1:=by unfold wrap64;omega
  have e2:wrap64 ((i:Int)+1)=((i+1:Nat):Int):=by unfold wrap64;omega
  have ih:=markInt_l0 d (xs.set i a) (i+1) (a+1) (by rw [List.length_set];omega) (by rw [List.length_set];omega) (by rw [List.length_set];exact hb) (by omega) (by omega)
  have e3:(xs.set i a).take (i+1)=xs.take i ++ [a]:=by
   rw [List.take_succ_eq_append_getElem (by rw [List.length_set];exact hlt),List.take_set_of_le (Nat.le_refl _),List.getElem_set_self]
  unfold Q1.l0;rw [if_pos (by omega),if_pos (by omega),e1,e2,Int.toNat_natCast,ih,e3,List.append_assoc];rw [show a+1+(d:Int)=a+((d+1:Nat):Int) by omega];rfl
theorem markInt_f (xs:List Int) (a:Int) (h0 : 0≤a) (h1:a+(xs.length:Int)≤9000000000000000000):Q1.f (xs.length+1) xs a=some (a+(xs.length:Int),uptoI a xs.length):=
 markInt_l0 xs.length xs 0 a rfl (Nat.zero_le _) (by omega) h0 h1
def cntX (x:S43):Nat:=4+x.f3.length+x.f5.length
def cntL:List S43→Nat
 | []=>0
 | x::t=>cntX x+cntL t
def mkRX (x:S43) (a:Int):S43:=⟨a,a+1,Int.tmod (a+1+1) 3==0,uptoI (a+1+1+1) x.f3.length,Int.tmod (a+1+1+1+(x.f3.length:Int)) 3==0,uptoI (a+1+1+1+(x.f3.length:Int)+1) x.f5.length⟩
def markL:List S43→Int→List S43
 | [],_=>[]
 | x::t,a=>mkRX x a::markL t (a+(cntX x:Int))
theorem cntL_snoc (l:List S43) (x:S43):cntL (l ++ [x])=cntL l+cntX x:=by
 induction l with
 | nil=>simp [cntL]
 | cons y t ih=>simp only [List.cons_append,cntL,ih];omega
theorem markL_snoc (l:List S43) (x:S43) (a:Int):markL (l ++ [x]) a=markL l a ++ [mkRX x (a+(cntL l:Int))]:=by
 induction l generalizing a with
 | nil=>simp [markL,cntL]
 | cons y t ih=>simp only [List.cons_append,markL,ih,cntL];rw [show a+(cntX y:Int)+(cntL t:Int)=a+((cntX y+cntL t:Nat):Int) by omega]
theorem markL_len (l:List S43) (a:Int):(markL l a).length=l.length:=by
 induction l generalizing a with
 | nil=>rfl
 | cons y t ih=>rw [markL,List.length_cons,List.length_cons,ih]
theorem cntL_take (l:List S43):∀ m,cntL (l.take m)≤cntL l:=by
 induction l with
 | nil=>intro m;simp [cntL]
 | cons y t ih=>
  intro m;cases m with
  | zero=>simp [cntL]
  | succ m=>simp only [List.take_succ_cons,cntL];have:=ih m;omega
theorem le_cntL (l:List S43):l.length≤cntL l:=by
 induction l with
 | nil=>simp
 | cons y t ih=>simp only [List.length_cons,cntL,cntX];omega
theorem mark_at (l:List S43) (a:Int) {m:Nat} {x:S43} (hx:l[m]? = some x):(markL (l.take m) a++l.drop m)[m]? = some x∧(markL (l.take m) a++l.drop m).set m (mkRX x (a+(cntL (l.take m):Int)))=markL (l.take (m+1)) a++l.drop (m+1):=by
 have hm:m < l.length:=(List.getElem?_eq_some_iff.1 hx).1;have hl:(markL (l.take m) a).length=m:=by rw [markL_len,length_take];omega
 have hd:l.drop m=x::l.drop (m+1):=by rw [List.drop_eq_getElem_cons hm,(List.getElem?_eq_some_iff.1 hx).2]
 have ht:l.take (m+1)=l.take m ++ [x]:=by rw [List.take_succ_eq_append_getElem hm,(List.getElem?_eq_some_iff.1 hx).2]
 constructor
 ·rw [List.getElem?_append_right (by omega),hl,Nat.sub_self,hd];rfl
 ·rw [List.set_append_right _ _ (by omega),hl,Nat.sub_self,hd,zzr,ht,markL_snoc,List.append_assoc];rfl
theorem cnt_at (l:List S43) {m:Nat} {x:S43} (hx:l[m]? = some x):cntL (l.take (m+1))=cntL (l.take m)+cntX x:=by
 have hm:m < l.length:=(List.getElem?_eq_some_iff.1 hx).1;rw [List.take_succ_eq_append_getElem hm,(List.getElem?_eq_some_iff.1 hx).2,cntL_snoc]
def Q2.f (l0:List S43) (a1:Int):Option (Int×List S43):=if 0≤a1∧a1+(cntL l0:Int)≤9000000000000000000 then some (a1+(cntL l0:Int),markL l0 a1) else none
set_option maxHeartbeats 8000000 in
theorem Q2.calls (P0_:Nat→Prop) (u:Value) (l0:List S43) (a1 r1:Int) (r2:List S43) (w0 w:World) (hB:Below w0.heap.size w0 w) (ho:Kd.S kA 43 w w0.heap.size P0_ u l0) (h:Q2.f l0 a1=some (r1,r2)) :
    Calls Try.prog 11 #[u,.int .i64 a1] w fun e w'=>e = .returned (.int .i64 r1)∧Kd.S kA 43 w' w0.heap.size (fun k_=>P0_ k_) u r2∧Below w0.heap.size w0 w'∧Kept w w' (fun k_=>P0_ k_):=by
  have hk:(0≤a1∧a1+(cntL l0:Int)≤9000000000000000000)∧r1=a1+(cntL l0:Int)∧r2=markL l0 a1:=by
    unfold Q2.f at h;by_cases h5 : 0≤a1∧a1+(cntL l0:Int)≤9000000000000000000
    · rw [if_pos h5] at h
      injection h with h;exact ⟨h5,(congrArg Prod.fst h).symm,(congrArg Prod.snd h).symm⟩
    · rw [if_neg h5] at h;cases h
  obtain ⟨⟨h0,h1⟩,rfl,rfl⟩:=hk;obtain ⟨A,c,rfl⟩:=Kd.S_slice ho;have HB:=zzm hB;have HO:=zzm ho;have H0:=zzm h0;have H1:=zzm h1;obtain ⟨n,hn⟩:∃ n,n=l0.length:=⟨_,rfl⟩;rw [← hn];have HN:=zzm hn;clear hB ho h0 h1 h hn;have hu:=Try.underlying43;go_enter Try.func11,Try.ntmps11;go_wp2;go_loopw [1,5] (fun v1 v5 W=>∃ m:Nat,m≤n∧v1 = .int .i64 (a1+(cntL (l0.take m):Int))∧v5 = .int .i64 m∧Kd.S kA 43 W w0.heap.size P0_ (.slice A n c) (markL (l0.take m) a1++l0.drop m)∧Below w0.heap.size w0 W∧Kept w W (fun k_=>P0_ k_)) (fun _ v5 _=>n - (intOf v5).toNat)
  case atStart=>exact ⟨0,Nat.zero_le _,by simp [cntL],by go_num,by rw [HN.out];simpa [markL] using HO.out,HB.out,Kept.refl _ _⟩
  case round=>
    obtain ⟨m,hm,rfl,rfl,hS,hB,hK⟩:=hrel;have HS:=zzm hS;have HB1:=zzm hB;have HK1:=zzm hK;clear hS hB hK HB HO;have h0:=H0.out;have h1:=H1.out;have hn:=HN.out;by_cases hlt:m < n
    · obtain ⟨x,hx⟩:∃ x,l0[m]? = some x:=⟨_,List.getElem?_eq_getElem (by omega)⟩
      obtain ⟨a2,hset⟩:=mark_at l0 a1 hx;have hcs:=cnt_at l0 hx;have hcl:=cntL_take l0 (m+1);have hln:(markL (l0.take m) a1++l0.drop m).length=n:=by rw [List.length_append,markL_len,length_take,length_drop];omega
      have hmc:=le_cntL l0;have e5:wrap64 ((m:Int)+1)=((m+1:Nat):Int):=by unfold wrap64;omega
      obtain ⟨kk,hkk⟩:∃ kk:Int,kk=a1+(cntL (l0.take m):Int):=⟨_,rfl⟩;rw [← hkk] at hset;rw [← hkk];have hcx:cntX x=4+x.f3.length+x.f5.length:=rfl;have hend:kk+1+1+1+(x.f3.length:Int)+1+(x.f5.length:Int)=a1+(cntL (l0.take (m+1)):Int):=by omega
      have b1 : 0≤kk+1+1+1:=by omega
      have b2:kk+1+1+1+(x.f3.length:Int)≤9000000000000000000:=by omega
      have b3 : 0≤kk+1+1+1+(x.f3.length:Int)+1:=by omega
      have b4:kk+1+1+1+(x.f3.length:Int)+1+(x.f5.length:Int)≤9000000000000000000:=by omega
      have HE:=zzm hend;have F3:=zzm (markInt_f x.f3 _ b1 b2);have F5:=zzm (markInt_f x.f5 _ b3 b4);have e1:wrap64 (kk+1)=kk+1:=by unfold wrap64;omega
      have e2:wrap64 (kk+1+1)=kk+1+1:=by unfold wrap64;omega
      have e3:wrap64 (kk+1+1+1)=kk+1+1+1:=by unfold wrap64;omega
      have e4:wrap64 (kk+1+1+1+(x.f3.length:Int)+1)=kk+1+1+1+(x.f3.length:Int)+1:=by unfold wrap64;omega
      have hmi:((m:Nat):Int) < ((n:Nat):Int):=by omega
      obtain ⟨g,cap,he,_⟩:=Kd.S_form HS.out (by rw [hln];omega);injection he with he he2 he3;clear he2 he3;subst he;obtain ⟨cs,v3,v5,hh,hbg,hPg,⟨q0,q1,q2,q3,q4,q5⟩,r3,r5,t3,t5,hback⟩:=putA HS.out a2;rw [show (mkRX x kk)=(⟨kk,kk+1,Int.tmod (kk+1+1) 3==0,uptoI (kk+1+1+1) x.f3.length,Int.tmod (kk+1+1+1+(x.f3.length:Int)) 3==0,uptoI (kk+1+1+1+(x.f3.length:Int)+1) x.f5.length⟩:S43) from rfl] at hset;obtain ⟨A3,c3,rfl⟩:=Kd.R_slice r3;obtain ⟨A5,c5,rfl⟩:=Kd.R_slice r5;have p0:=(zzk hh (m * 6)).trans q0;have z0:=zzl hh (m * 6);have p1:=(zzk hh (m * 6+1)).trans q1;have z1:=zzl hh (m * 6+1);have p2:=(zzk hh (m * 6+2)).trans q2;have z2:=zzl hh (m * 6+2);have p3:=(zzk hh (m * 6+3)).trans q3;have hh3:=zzi (zzi (zzi hh (m * 6) (.int .i64 kk) rfl) (m * 6+1) (.int .i64 (kk+1)) rfl) (m * 6+2) (.bool (Int.tmod (kk+1+1) 3==0)) rfl;have hB3:=zzd (j:=m * 6+2) (v:=.bool (Int.tmod (kk+1+1) 3==0)) (zzd (j:=m * 6+1) (v:=.int .i64 (kk+1)) (zzd (j:=m * 6) (v:=.int .i64 kk) HB1.out hbg) hbg) hbg;have hK3:=Kept.setCell (p:=⟨g,m * 6+2,none⟩) (Kept.setCell (p:=⟨g,m * 6+1,none⟩) (Kept.setCell (p:=⟨g,m * 6,none⟩) (Kept.refl wr (fun k=>k=g∨some k=(Value.slice A3 x.f3.length c3).ownBlock∨some k=(Value.slice A5 x.f5.length c5).ownBlock)) (.inl (.inl rfl)) (.int .i64 kk)) (.inl (.inl rfl)) (.int .i64 (kk+1))) (.inl (.inl rfl)) (.bool (Int.tmod (kk+1+1) 3==0));have h33:=Kd.R_far (p:=⟨g,m * 6+2,none⟩) (Kd.R_far (p:=⟨g,m * 6+1,none⟩) (Kd.R_far (p:=⟨g,m * 6,none⟩) r3 (fun k hk=>(t3 k hk).2.1) (.int .i64 kk)) (fun k hk=>(t3 k hk).2.1) (.int .i64 (kk+1))) (fun k hk=>(t3 k hk).2.1) (.bool (Int.tmod (kk+1+1) 3==0));have h53:=Kd.R_far (p:=⟨g,m * 6+2,none⟩) (Kd.R_far (p:=⟨g,m * 6+1,none⟩) (Kd.R_far (p:=⟨g,m * 6,none⟩) r5 (fun k hk=>(t5 k hk).2) (.int .i64 kk)) (fun k hk=>(t5 k hk).2) (.int .i64 (kk+1))) (fun k hk=>(t5 k hk).2) (.bool (Int.tmod (kk+1+1) 3==0));have HH3:=zzm hh3;have HB3:=zzm hB3;have HK3:=zzm hK3;have H33:=zzm h33;have H53:=zzm h53;have T3:=zzm t3;have T5:=zzm t5;have HBG:=zzm hbg;have HPG:=zzm hPg;have HBK:=zzm hback;have HH:=zzm hh;have HSET:=zzm hset;have FS:=zzm (four_set cs (m * 6) (.int .i64 kk) (.int .i64 (kk+1)) (.bool (Int.tmod (kk+1+1) 3==0)) (.bool (Int.tmod (kk+1+1+1+(x.f3.length:Int)) 3==0)) q0 q1 q2 q4 _ rfl);have Q4:=zzm q4;have Q5:=zzm q5;clear hh hh3 hB3 hK3 h33 h53 t3 t5 hbg hPg hback hset hkk hcs hcl hln hmc h0 h1 hn hend b1 b2 b3 b4 r3 r5 hx a2 q4 q5 q0 q1 q2 q3;go_wp2_with (first
        | (go_at_call 24;with_reducible refine (Q1.calls (x.f3.length+1) (fun k=>some k=(Value.slice A3 x.f3.length c3).ownBlock) (Value.slice A3 x.f3.length c3) x.f3 (kk+1+1+1) _ _ w0 _ HB3.out H33.out F3.out).mono ?_
           rintro e W4 ⟨rfl,hR4,hB4,hK4⟩;have hh4:=(hK4.2 g (blk_lt HH3.out) (fun e=>(T3.out g e).2.1 rfl)).trans HH3.out;have p4:=(zzk hh4 (m * 6+4)).trans ((Array.getElem?_setIfInBounds_ne (by omega)).trans ((Array.getElem?_setIfInBounds_ne (by omega)).trans ((Array.getElem?_setIfInBounds_ne (by omega)).trans Q4.out)));have z4:=zzl hh4 (m * 6+4);have p5:=(zzk hh4 (m * 6+5)).trans ((Array.getElem?_setIfInBounds_ne (by omega)).trans ((Array.getElem?_setIfInBounds_ne (by omega)).trans ((Array.getElem?_setIfInBounds_ne (by omega)).trans Q5.out)));have HH5:=zzm (zzi hh4 (m * 6+4) (.bool (Int.tmod (kk+1+1+1+(x.f3.length:Int)) 3==0)) rfl);have HB5:=zzm (zzd (j:=m * 6+4) (v:=.bool (Int.tmod (kk+1+1+1+(x.f3.length:Int)) 3==0)) hB4 HBG.out);have HK5:=zzm (Kept.setCell (p:=⟨g,m * 6+4,none⟩) (HK3.out.then_ hK4 (fun k h=>.inl (.inr (.inl h)))) (.inl (.inl rfl)) (.bool (Int.tmod (kk+1+1+1+(x.f3.length:Int)) 3==0)));have H35:=zzm (Kd.R_far (p:=⟨g,m * 6+4,none⟩) (Kd.R_tight rfl hR4) (fun k hk=>(T3.out k hk).2.1) (.bool (Int.tmod (kk+1+1+1+(x.f3.length:Int)) 3==0)));have H55:=zzm (Kd.R_far (p:=⟨g,m * 6+4,none⟩) (Kd.R_kept H53.out hK4 (fun k hk h2=>(T3.out k h2).2.2 hk)) (fun k hk=>(T5.out k hk).2) (.bool (Int.tmod (kk+1+1+1+(x.f3.length:Int)) 3==0)));clear hR4 hB4 hK4 hh4)
        | (go_at_call 24;with_reducible refine (Q1.calls (x.f5.length+1) (fun k=>some k=(Value.slice A5 x.f5.length c5).ownBlock) (Value.slice A5 x.f5.length c5) x.f5 (kk+1+1+1+(x.f3.length:Int)+1) _ _ w0 _ HB5.out H55.out F5.out).mono ?_
           rintro e W6 ⟨rfl,hR6,hB6,hK6⟩;have HH6:=zzm ((hK6.2 g (blk_lt HH5.out) (fun e=>(T5.out g e).2 rfl)).trans HH5.out);have HB6:=zzm hB6;have HK6:=zzm (HK5.out.then_ hK6 (fun k h=>.inl (.inr (.inr h))));have H36:=zzm (Kd.R_kept H35.out hK6 (fun k hk h2=>(T3.out k hk).2.2 h2));have H56:=zzm (Kd.R_tight rfl hR6);clear hR6 hB6 hK6))
      go_roundw
      case rel=>
        obtain ⟨s1,s2,s3,s4,s5,s6⟩:=FS.out;have hS6:=HBK.out _ _ ⟨kk,kk+1,Int.tmod (kk+1+1) 3==0,uptoI (kk+1+1+1) x.f3.length,Int.tmod (kk+1+1+1+(x.f3.length:Int)) 3==0,uptoI (kk+1+1+1+(x.f3.length:Int)+1) x.f5.length⟩ HH6.out s1 s2 s3 s4 s5 s6 H36.out H56.out (fun k hk h1 h2 h3=>HK6.out.2 k hk (fun h=>h.elim h1 (fun h=>h.elim h2 h3)));rw [HSET.out] at hS6;exact ⟨m+1,hlt,congrArg (Value.int .i64) HE.out,by first|exact congrArg (Value.int .i64) e5|exact congrArg (Value.int .i64) (by omega),hS6,HB6.out,HK1.out.then_ (HK6.out.mono (fun k hk=>hk.elim (fun e=>e ▸ HPG.out) (fun h=>h.elim (fun h=>(T3.out k h).1) (fun h=>(T5.out k h).1)))) (fun k h=>.inl h)⟩
      case measure=>exact meas_lt (by first|exact congrArg (Value.int .i64) e5|rfl) hlt
    · obtain rfl:m=n:=by omega
      have hmi:¬ ((m:Nat):Int) < ((m:Nat):Int):=by omega
      have a0:l0.take m=l0:=by rw [hn,List.take_length]
      have a3:l0.drop m = []:=by rw [hn,List.drop_length]
      rw [a0];have a4:=zzm a0;have a5:=zzm a3;clear a0 a3 hn;go_wp2;go_ret;have hS:=HS.out;rw [a4.out,a5.out,List.append_nil] at hS;exact ⟨rfl,hS,HB1.out,HK1.out⟩
end

set_option linter.unusedVariables false
set_option linter.unusedSimpArgs false
section
def cntB (num:Nat→Nat) (len:Nat→Nat→Nat×Nat):Nat→Nat
 | 0=>0
 | m+1=>cntB num len m+(5+cntR (len m) (num m))
theorem cntB_le (num:Nat→Nat) (len:Nat→Nat→Nat×Nat):∀ {m n:Nat},m≤n→cntB num len m≤cntB num len n
 | m,0,h=>by rw [show m=0 by omega];exact Nat.le_refl _
 | m,n+1,h=>by
  by_cases e:m=n+1
  ·rw [e];exact Nat.le_refl _
  ·have h1:=cntB_le num len (show m≤n by omega)
   have h2:cntB num len (n+1)=cntB num len n+(5+cntR (len n) (num n)):=rfl
   omega
theorem le_cntB (num:Nat→Nat) (len:Nat→Nat→Nat×Nat):∀ m,m≤cntB num len m
 | 0=>Nat.le_refl _
 | m+1=>by
  have h1:=le_cntB num len m
  have h2:cntB num len (m+1)=cntB num len m+(5+cntR (len m) (num m)):=rfl
  omega
set_option maxHeartbeats 8000000 in
theorem markBat_lk (P:Nat→Prop) (A:Option Addr) (n c:Nat) (num:Nat→Nat) (len:Nat→Nat→Nat×Nat) (a1:Int) (w:World) (h:BatRow P w A n num len) (h0 : 0≤a1) (h1:a1+cntB num len n≤9000000000000000000) :
    Calls Try.prog 10 #[.slice A n c,.int .i64 a1] w fun e w'=>e = .returned (.int .i64 (a1+cntB num len n))∧Lk P w w':=by
  have HR:=zzm h;have H0:=zzm h0;have H1:=zzm h1;clear h h0 h1;have hu:=Try.underlying39;go_enter Try.func10,Try.ntmps10;go_wp2;go_loopw [1,5] (fun v1 v5 W=>∃ m:Nat,m≤n∧v1 = .int .i64 (a1+cntB num len m)∧v5 = .int .i64 m∧Lk P w W) (fun _ v5 _=>n - (intOf v5).toNat)
  case atStart=>exact ⟨0,Nat.zero_le _,by simp [cntB],by go_num,Lk.refl _ _⟩
  case round=>
    obtain ⟨m,hm,rfl,rfl,hL⟩:=hrel;have HL:=zzm hL;clear hL;have h0:=H0.out;have h1:=H1.out;by_cases hlt:m < n
    · have hcl:=cntB_le num len (show m+1≤n from hlt)
      have hcs:cntB num len (m+1)=cntB num len m+(5+cntR (len m) (num m)):=rfl;have hmc:=le_cntB num len m;have e9:wrap64 ((m:Int)+1)=((m+1:Nat):Int):=by unfold wrap64;omega
      obtain ⟨kk,hkk⟩:∃ kk:Int,kk=a1+(cntB num len m:Int):=⟨_,rfl⟩;rw [← hkk];have k0 : 0≤kk:=by omega
      have k1:kk+5+((cntR (len m) (num m):Nat):Int)≤9000000000000000000:=by omega
      have hend:(kk+1+1+1+1+1+((cntR (len m) (num m):Nat):Int))=a1+(cntB num len (m+1):Int):=by omega
      have HE:=zzm hend;have b1 : 0≤kk+1+1+1+1+1:=by omega
      have b2:kk+1+1+1+1+1+((cntR (len m) (num m):Nat):Int)≤9000000000000000000:=by omega
      have B1:=zzm b1;have B2:=zzm b2;clear hkk hcl hcs h0 h1 hend hmc b1 b2;obtain ⟨g,cs,rfl,hP,hh,hc⟩:=HR.out.lk HL.out (Nat.lt_of_le_of_lt (Nat.zero_le m) hlt);obtain ⟨y0,y1,x2,x3,x4,A5,c5,⟨q0,q1,q2,q3,q4,q5⟩,r5⟩:=hc m hlt;rw [Nat.add_zero] at q0;have HP:=zzm hP;have HH:=zzm hh;have p0:=(zzk hh (m * 6)).trans q0;have z0:=zzl hh (m * 6);have p1:=(zzk hh (m * 6+1)).trans q1;have z1:=zzl hh (m * 6+1);have p2:=(zzk hh (m * 6+2)).trans q2;have z2:=zzl hh (m * 6+2);have p3:=(zzk hh (m * 6+3)).trans q3;have z3:=zzl hh (m * 6+3);have p4:=(zzk hh (m * 6+4)).trans q4;have z4:=zzl hh (m * 6+4);have p5:=(zzk hh (m * 6+5)).trans q5;have l1:Lk P wr (wr.setCell ⟨g,m * 6,none⟩ (.bool (kk % 3==0))):=Lk.set hh q0 (.bool _ _) hP;obtain ⟨cs1,u1,hh1,q1',s1,_,_⟩:=l1.at_ hh q1;have l2:=l1.trans (Lk.set hh1 q1' (v:=.bool ((kk+1) % 3==0)) (by obtain ⟨y,rfl⟩:=s1.of_bool;exact .bool _ _) hP);obtain ⟨cs2,u2,hh2,q2',s2,_,_⟩:=l2.at_ hh q2;have l3:=l2.trans (Lk.set hh2 q2' (v:=.int .i64 (kk+1+1)) (by obtain ⟨y,rfl⟩:=s2.of_int;exact .int _ _ _) hP);obtain ⟨cs3,u3,hh3,q3',s3,_,_⟩:=l3.at_ hh q3;have l4:=l3.trans (Lk.set hh3 q3' (v:=.int .i64 (kk+1+1+1)) (by obtain ⟨y,rfl⟩:=s3.of_int;exact .int _ _ _) hP);obtain ⟨cs4,u4,hh4,q4',s4,_,_⟩:=l4.at_ hh q4;have L5:=zzm (l4.trans (Lk.set hh4 q4' (v:=.int .i64 (kk+1+1+1+1)) (by obtain ⟨y,rfl⟩:=s4.of_int;exact .int _ _ _) hP));have hmi:((m:Nat):Int) < ((n:Nat):Int):=by omega
      have R5:=zzm r5;clear hP hh r5 hc l1 l2 l3 l4 hh1 hh2 hh3 hh4 q1' q2' q3' q4' s1 s2 s3 s4;go_wp2_with (first
        | (go_at_call 11;have hq:=markRec_lk P A5 (num m) c5 (len m) (kk+1+1+1+1+1) _ (R5.out.lk L5.out) B1.out B2.out;with_reducible refine hq.mono ?_;clear hq;rintro e W6 ⟨rfl,hL6⟩
           have L6:=zzm (L5.out.trans hL6);clear hL6))
      go_roundw
      case rel=>exact ⟨m+1,hlt,congrArg (Value.int .i64) HE.out,by first|exact congrArg (Value.int .i64) e9|exact congrArg (Value.int .i64) (by omega),HL.out.trans L6.out⟩
      case measure=>exact meas_lt (by first|exact congrArg (Value.int .i64) e9|rfl) hlt
    · obtain rfl:m=n:=by omega
      have hmi:¬ ((m:Nat):Int) < ((m:Nat):Int):=by omega
      go_wp2;go_ret;exact ⟨rfl,HL.out⟩
end
section
abbrev numB (l:List S39) (i:Nat):Nat:=(Qa l (i:Int)).f5.length
abbrev lenB (l:List S39) (i j:Nat):Nat×Nat:=((Qb (Qa l (i:Int)).f5 (j:Int)).f3.length,(Qb (Qa l (i:Int)).f5 (j:Int)).f5.length)
def okMarkB (l:List S39) (a1:Int):Bool:=decide (0≤a1∧a1+(cntB (numB l) (lenB l) l.length:Int)≤9000000000000000000)
def Re.f (l0:List S39) (a1:Int):Option Int:=if okMarkB l0 a1=true then some (a1+(cntB (numB l0) (lenB l0) l0.length:Int)) else none
set_option maxHeartbeats 4000000 in
theorem Re.calls (P0_:Nat→Prop) (u:Value) (l0:List S39) (a1 r1:Int) (w0 w:World) (hB:Below w0.heap.size w0 w) (ho:Kd.R k39 39 w w0.heap.size P0_ u l0) (h:Re.f l0 a1=some r1) :
  Calls Try.prog 10 #[u,.int .i64 a1] w fun e w'=>e = .returned (.int .i64 r1)∧Below w0.heap.size w0 w'∧Kept w w' (fun k=>P0_ k∧tyS [39,43,3] w k):=by
 have hok:okMarkB l0 a1=true∧r1=a1+(cntB (numB l0) (lenB l0) l0.length:Int):=by
  unfold Re.f at h;by_cases h5:okMarkB l0 a1=true
  ·rw [if_pos h5] at h;exact ⟨h5,(Option.some.inj h).symm⟩
  ·rw [if_neg h5] at h;cases h
 obtain ⟨hok,hr⟩:=hok;unfold okMarkB at hok;rw [decide_eq_true_eq] at hok;obtain ⟨A,c,hv,hrow⟩:=batRow_of (Kd.R_bound ho);subst hv;refine (markBat_lk _ A l0.length c (numB l0) (lenB l0) a1 w hrow hok.1 hok.2).mono ?_;rintro e w' ⟨rfl,hL⟩;refine ⟨by rw [hr],hB.trans (hL.low w0.heap.size (fun k hk=>hk.2.1)),hL.kept.mono (fun k hk=>?_)⟩;obtain ⟨hp0,_,_,q,hq,cells,hc⟩:=hk;exact ⟨hp0,q,cells,(show ∀ q,q∈39::k39.E→q ∈ [39,43,3] by decide) q hq,hc⟩
end

set_option linter.unusedVariables false
set_option linter.unusedSimpArgs false
def laws_FnExactStateOf.j0:Nat→List (S36)→List (S43)→List (S43)→Bool→Option (Bool)
 | 0,_,_,_,_=>none
 | k+1,x0,x4,x6,x42=>if x42=true then (some false) else ((Q2.f x6 1).bind fun bt320=>((Qi.f k bt320.2 1).bind fun t322=>(if t322 < 0 then (some false) else (if t322=bt320.1 then ((Qh.f k x0).bind fun t323=>((Qz.f k t323).bind fun t326=>((Qe.f k t326 x4).bind fun t329=>(if t329=true then ((Qi.f k bt320.2 1).bind fun t330=>(if t330 < 0 then (some false) else (if t330=bt320.1 then (some true) else (some false)))) else (some false))))) else (some false)))))
def laws_FnExactStateOf.f (k:Nat) (l0:List (S36)):Option (Bool):=(Qu.f k l0 1048576).bind fun t300=>(if t300 < 0 then (some true) else ((Qh.f k l0).bind fun t301=>((Qd.f k t301).bind fun t304=>((Qh.f k l0).bind fun t307=>((Qz.f k t307).bind fun t310=>((Qe.f k t310 t304).bind fun t313=>(if t313=true then ((Qh.f k l0).bind fun t314=>((Qm.f k t307 t314).bind fun t317=>(if t317=true then ((Re.f t307 1).bind fun t318=>(if t318 < 0 then (laws_FnExactStateOf.j0 k l0 t304 t310 true) else ((Qe.f k t310 t304).bind fun t319=>(laws_FnExactStateOf.j0 k l0 t304 t310 (!t319))))) else (some false)))) else (some false))))))))
set_option maxHeartbeats 8000000 in
theorem laws_FnExactStateOf.calls (k:Nat) (A0:Option Addr) (c0:Nat) (l0:List (S36)) (r:Bool) (w:World) (k6:Kd.C k36 w A0 l0.length l0) (k7:l0.length≤c0) (h:laws_FnExactStateOf.f k l0=some r) :
  Calls Try.prog 3 #[.slice A0 l0.length c0] w fun e w'=>e = .returned (.bool r)∧Below w.heap.size w w':=by
 have d3:=zzm k6;have d4:=zzm k7;clear k6 k7;have HB:=zzm (Below.refl w.heap.size w);have H:((Qu.f k l0 1048576).bind fun d8=>(if d8 < 0 then (some true) else ((Qh.f k l0).bind fun d5=>((Qd.f k d5).bind fun b5=>((Qh.f k l0).bind fun c2=>((Qz.f k c2).bind fun b0=>((Qe.f k b0 b5).bind fun g8=>(if g8=true then ((Qh.f k l0).bind fun d9=>((Qm.f k c2 d9).bind fun g9=>(if g9=true then ((Re.f c2 1).bind fun e3=>(if e3 < 0 then (laws_FnExactStateOf.j0 k l0 b5 b0 true) else ((Qe.f k b0 b5).bind fun g1=>(laws_FnExactStateOf.j0 k l0 b5 b0 (!g1))))) else (some false)))) else (some false)))))))))=some r:=h;clear h;obtain ⟨d8,A2,H⟩:=zzG H;by_cases c3:d8 < 0
 ·
  rw [if_pos c3] at H;have h9:decide (d8 < 0)=true:=decide_eq_true c3;clear c3;obtain rfl:=Option.some.inj H;go_enter Try.func3,Try.ntmps3;go_wp2_with (first|((with_reducible refine gate_callee (f:=4) rfl ?_);refine goesL_ (some 13) rfl rfl Try.func4 (by kernel_rfl) rfl #[.slice A0 l0.length c0,.int .i64 1048576] rfl zzM2 ?_;(with_reducible refine (Qu.calls k _ _ l0 1048576 d8 _ ?side1 ?side2 A2.out).mono ?_);(case side1=>repeat (first|exact d3.out|(with_reducible refine Kd.C_alloc ?_ _)|(with_reducible refine Kd.C_drewN ?_ _)|(with_reducible refine Kd.C_drew ?_)));(case side2=>exact d4.out);rintro e w4 ⟨rfl,hb⟩;refine ⟨_,rfl,?_⟩;have a1:=zzm (zzp zzh1 hb);clear HB;have HB:=a1;clear a1;(try clear hb);(try clear hb2);(try clear hk);(try clear hi)));go_ret;exact ⟨zzR,zzh1⟩
 ·
  rw [if_neg c3] at H;have h9:decide (d8 < 0)=false:=decide_eq_false c3;clear c3;obtain ⟨d5,A5,H⟩:=zzG H;obtain ⟨b5,A6,H⟩:=zzG H;obtain ⟨c2,A7,H⟩:=zzG H;obtain ⟨b0,A8,H⟩:=zzG H;obtain ⟨g8,A9,H⟩:=zzG H;by_cases g4:g8=true
  ·
   subst g4;replace H:=zzIt H;obtain ⟨d9,k8,H⟩:=zzG H;obtain ⟨g9,k9,H⟩:=zzG H;by_cases g5:g9=true
   ·
    subst g5;replace H:=zzIt H;obtain ⟨e3,p5,H⟩:=zzG H;have h0:=zzm H;clear H;go_enter Try.func3,Try.ntmps3;go_upto_region 14 with (first|((with_reducible refine gate_callee (f:=4) rfl ?_);refine goesL_ (some 13) rfl rfl Try.func4 (by kernel_rfl) rfl #[.slice A0 l0.length c0,.int .i64 1048576] rfl zzM2 ?_;(with_reducible refine (Qu.calls k _ _ l0 1048576 d8 _ ?side1 ?side2 A2.out).mono ?_);(case side1=>repeat (first|exact d3.out|(with_reducible refine Kd.C_alloc ?_ _)|(with_reducible refine Kd.C_drewN ?_ _)|(with_reducible refine Kd.C_drew ?_)));(case side2=>exact d4.out);rintro e p8 ⟨rfl,hb⟩;refine ⟨_,rfl,?_⟩;have a1:=zzm (zzp zzh1 hb);clear HB;have HB:=a1;clear a1;(try clear hb);(try clear hb2);(try clear hk);(try clear hi))|((with_reducible refine gate_callee (f:=6) rfl ?_);refine goesL_ (some 17) rfl rfl Try.func6 (by kernel_rfl) rfl #[.slice A0 l0.length c0] rfl zzM2 ?_;(with_reducible refine (Qh.calls k _ _ l0 d5 _ ?side1 ?side2 A5.out).mono ?_);(case side1=>exact zzcb d3 HB);(case side2=>exact d4.out);rintro e p9 ⟨j2,rfl,ho0,hb⟩;refine ⟨_,rfl,?_⟩;have a1:=zzm (Kd.R_lower ho0 (zzo zzh1));have a2:=zzm (zzp zzh1 hb);clear HB;have a3:=a1;have HB:=a2;clear a1 a2;(try clear hb);(try clear hb2);(try clear hk);(try clear hi);(try clear ho0);obtain ⟨l7,l8,eo18⟩:=Kd.R_slice a3.out;subst eo18)|((with_reducible refine gate_callee (f:=5) rfl ?_);refine goesL_ (some 18) rfl rfl Try.func5 (by kernel_rfl) rfl #[.slice l7 d5.length l8] rfl zzM2 ?_;(with_reducible refine (Qd.calls k _ _ d5 b5 _ ?side1 ?side2 A6.out).mono ?_);(case side1=>repeat (first|exact (Kd.R_reads' a3.out).2.2|(with_reducible refine Kd.C_alloc ?_ _)|(with_reducible refine Kd.C_drewN ?_ _)|(with_reducible refine Kd.C_drew ?_)));(case side2=>exact (Kd.R_reads' a3.out).2.1);rintro e q0 ⟨j3,rfl,ho0,hb⟩;refine ⟨_,rfl,?_⟩;have a1:=zzm (Kd.R_elder' (by (with_reducible repeat (first|apply Kd.R_alloc|apply Kd.R_drewN|apply Kd.R_drew));exact a3.out) (Kd.S_base ho0) hb);have a2:=zzm (Kd.S_lower ho0 (zzo zzh1));have a5:=zzm (zzp zzh1 hb);clear a3 HB;have a3:=a1;have a4:=a2;have HB:=a5;clear a1 a2 a5;(try clear hb);(try clear hb2);(try clear hk);(try clear hi);(try clear ho0))|((with_reducible refine gate_callee (f:=6) rfl ?_);refine goesL_ (some 20) rfl rfl Try.func6 (by kernel_rfl) rfl #[.slice A0 l0.length c0] rfl zzM2 ?_;(with_reducible refine (Qh.calls k _ _ l0 c2 _ ?side1 ?side2 A7.out).mono ?_);(case side1=>exact zzcb d3 HB);(case side2=>exact d4.out);rintro e q1 ⟨j4,rfl,ho0,hb⟩;refine ⟨_,rfl,?_⟩;obtain ⟨B1,l2,l3⟩:=two_old (zzS a4.out) hb ho0 (zzo zzh1);have a1:=zzm (Kd.R_elder' (by (with_reducible repeat (first|apply Kd.R_alloc|apply Kd.R_drewN|apply Kd.R_drew));exact a3.out) (Kd.R_base ho0) hb);have a2:=zzm l2;have a5:=zzm l3;have a8:=zzm (zzp zzh1 hb);clear a3 a4 HB;have a3:=a1;have a4:=a2;have a7:=a5;have HB:=a8;clear a1 a2 a5 a8;(try clear hb);(try clear hb2);(try clear hk);(try clear hi);(try clear ho0 l2 l3);obtain ⟨g2,g3,eo21⟩:=Kd.R_slice a7.out;subst eo21)|((with_reducible refine gate_callee (f:=7) rfl ?_);refine goesL_ (some 22) rfl rfl Try.func7 (by kernel_rfl) rfl #[.slice g2 c2.length g3] rfl zzM2 ?_;(with_reducible refine (Qz.calls k _ _ c2 b0 _ ?side1 ?side2 A8.out).mono ?_);(case side1=>repeat (first|exact (Kd.R_reads' a7.out).2.2|(with_reducible refine Kd.C_alloc ?_ _)|(with_reducible refine Kd.C_drewN ?_ _)|(with_reducible refine Kd.C_drew ?_)));(case side2=>exact (Kd.R_reads' a7.out).2.1);rintro e q2 ⟨j5,rfl,ho0,hb⟩;refine ⟨_,rfl,?_⟩;obtain ⟨B2,l4,l5,hg2⟩:=three_old (zzS a4.out) (by (with_reducible repeat (first|apply Kd.R_alloc|apply Kd.R_drewN|apply Kd.R_drew));exact a7.out) hb ho0 (zzo zzh1);have a1:=zzm (Kd.R_elder' (by (with_reducible repeat (first|apply Kd.R_alloc|apply Kd.R_drewN|apply Kd.R_drew));exact a3.out) (Kd.S_base ho0) hb);have a2:=zzm l4;have a5:=zzm l5;have a8:=zzm hg2;have b2:=zzm (zzp zzh1 hb);clear a3 a4 a7 HB;have a3:=a1;have a4:=a2;have a7:=a5;have a9:=a8;have HB:=b2;clear a1 a2 a5 a8 b2;(try clear hb);(try clear hb2);(try clear hk);(try clear hi);(try clear ho0 l4 l5 hg2);obtain ⟨b7,b8,eo23⟩:=Kd.S_slice a9.out;subst eo23;obtain ⟨e4,e5,eo24⟩:=Kd.S_slice a4.out;subst eo24)|((with_reducible refine gate_callee (f:=8) rfl ?_);refine goesL_ (some 25) rfl rfl Try.func8 (by kernel_rfl) rfl #[.slice b7 b0.length b8,.slice e4 b5.length e5] rfl zzM2 ?_;(with_reducible refine (Qe.calls k _ _ b0 _ _ b5 true _ ?side1 ?side2 ?side3 ?side4 A9.out).mono ?_);(case side1=>repeat (first|exact (A_reads' a9.out).2.2|(with_reducible refine Kd.C_alloc ?_ _)|(with_reducible refine Kd.C_drewN ?_ _)|(with_reducible refine Kd.C_drew ?_)));(case side2=>exact (A_reads' a9.out).2.1);(case side3=>repeat (first|exact (Kd.S_reads' a4.out).2.2|(with_reducible refine Kd.C_alloc ?_ _)|(with_reducible refine Kd.C_drewN ?_ _)|(with_reducible refine Kd.C_drew ?_)));(case side4=>exact (Kd.S_reads' a4.out).2.1);rintro e q3 ⟨rfl,hb⟩;refine ⟨_,rfl,?_⟩;have a1:=zzm (Kd.R_below (by (with_reducible repeat (first|apply Kd.R_alloc|apply Kd.R_drewN|apply Kd.R_drew));exact a3.out) hb);have a2:=zzm (Kd.S_below (zzS a4.out) hb);have a5:=zzm (Kd.R_below (by (with_reducible repeat (first|apply Kd.R_alloc|apply Kd.R_drewN|apply Kd.R_drew));exact a7.out) hb);have a8:=zzm (Kd.S_below (zzS a9.out) hb);have b2:=zzm (zzp zzh1 hb);clear a3 a4 a7 a9 HB;have a3:=a1;have a4:=a2;have a7:=a5;have a9:=a8;have HB:=b2;clear a1 a2 a5 a8 b2;(try clear hb);(try clear hb2);(try clear hk);(try clear hi))|((with_reducible refine gate_callee (f:=6) rfl ?_);refine goesL_ (some 29) rfl rfl Try.func6 (by kernel_rfl) rfl #[.slice A0 l0.length c0] rfl zzM2 ?_;(with_reducible refine (Qh.calls k _ _ l0 d9 _ ?side1 ?side2 k8.out).mono ?_);(case side1=>exact zzcb d3 HB);(case side2=>exact d4.out);rintro e q4 ⟨l9,rfl,ho0,hb⟩;refine ⟨_,rfl,?_⟩;have a1:=zzm (Kd.R_elder' (by (with_reducible repeat (first|apply Kd.R_alloc|apply Kd.R_drewN|apply Kd.R_drew));exact a3.out) (Kd.R_base ho0) hb);have a2:=zzm (Kd.S_below (zzS a4.out) hb);have a5:=zzm (Kd.R_elder' (by (with_reducible repeat (first|apply Kd.R_alloc|apply Kd.R_drewN|apply Kd.R_drew));exact a7.out) (Kd.R_base ho0) hb);have a8:=zzm (Kd.S_below (zzS a9.out) hb);have b2:=zzm (Kd.R_lower (Kd.R_new' (Kd.R_new' (Kd.R_new' (Kd.R_new' ho0 (Kd.R_lt (by (with_reducible repeat (first|apply Kd.R_alloc|apply Kd.R_drewN|apply Kd.R_drew));exact a3.out))) (Kd.S_lt (zzS a4.out))) (Kd.R_lt (by (with_reducible repeat (first|apply Kd.R_alloc|apply Kd.R_drewN|apply Kd.R_drew));exact a7.out))) (Kd.S_lt (zzS a9.out))) (zzo zzh1));have e0:=zzm (zzp zzh1 hb);clear a3 a4 a7 a9 HB;have a3:=a1;have a4:=a2;have a7:=a5;have a9:=a8;have b9:=b2;have HB:=e0;clear a1 a2 a5 a8 b2 e0;(try clear hb);(try clear hb2);(try clear hk);(try clear hi);(try clear ho0);obtain ⟨m0,m1,eo27⟩:=Kd.R_slice b9.out;subst eo27)|((with_reducible refine gate_callee (f:=9) rfl ?_);refine goesL_ (some 30) rfl rfl Try.func9 (by kernel_rfl) rfl #[.slice g2 c2.length g3,.slice m0 d9.length m1] rfl zzM2 ?_;(with_reducible refine (Qm.calls k _ _ c2 _ _ d9 true _ ?side1 ?side2 ?side3 ?side4 k9.out).mono ?_);(case side1=>repeat (first|exact (Kd.R_reads' a7.out).2.2|(with_reducible refine Kd.C_alloc ?_ _)|(with_reducible refine Kd.C_drewN ?_ _)|(with_reducible refine Kd.C_drew ?_)));(case side2=>exact (Kd.R_reads' a7.out).2.1);(case side3=>repeat (first|exact (Kd.R_reads' b9.out).2.2|(with_reducible refine Kd.C_alloc ?_ _)|(with_reducible refine Kd.C_drewN ?_ _)|(with_reducible refine Kd.C_drew ?_)));(case side4=>exact (Kd.R_reads' b9.out).2.1);rintro e q5 ⟨rfl,hb⟩;refine ⟨_,rfl,?_⟩;have a1:=zzm (Kd.R_below (by (with_reducible repeat (first|apply Kd.R_alloc|apply Kd.R_drewN|apply Kd.R_drew));exact a3.out) hb);have a2:=zzm (Kd.S_below (zzS a4.out) hb);have a5:=zzm (Kd.R_below (by (with_reducible repeat (first|apply Kd.R_alloc|apply Kd.R_drewN|apply Kd.R_drew));exact a7.out) hb);have a8:=zzm (Kd.S_below (zzS a9.out) hb);have b2:=zzm (Kd.R_below (by (with_reducible repeat (first|apply Kd.R_alloc|apply Kd.R_drewN|apply Kd.R_drew));exact b9.out) hb);have e0:=zzm (zzp zzh1 hb);clear a3 a4 a7 a9 b9 HB;have a3:=a1;have a4:=a2;have a7:=a5;have a9:=a8;have b9:=b2;have HB:=e0;clear a1 a2 a5 a8 b2 e0;(try clear hb);(try clear hb2);(try clear hk);(try clear hi))|((with_reducible refine gate_callee (f:=10) rfl ?_);refine goesL_ (some 34) rfl rfl Try.func10 (by kernel_rfl) rfl #[.slice g2 c2.length g3,.int .i64 1] rfl zzM2 ?_;(with_reducible refine (Re.calls (fun k_=>B1≤k_∧k_ < B2) (.slice g2 c2.length g3) c2 1 e3 w _ ?side1 ?side2 p5.out).mono ?_);(case side1=>repeat (first|(with_reducible first|exact HB.out|apply zza|apply zzb|apply zzc)|exact HB.out));(case side2=>first|exact a7.out|exact Kd.R_mono a7.out (fun _ hk=>hk.1)|exact Kd.R_mono a7.out (fun _ hk=>hk.1.1));rintro e l6 ⟨rfl,hb,hkp⟩;refine ⟨_,rfl,?_⟩;have a1:=zzm (Kd.R_nil k39 39 l6 w.heap.size (fun _=>True));have a2:=zzm (Kd.S_mono (Kd.S_keptB a4.out hkp (fun k_ hk_ hs_=>absurd hs_.1.1 (Nat.not_le.mpr hk_.1))) (fun k_ hk_=>hk_.1));have a5:=zzm (Kd.S_mono (Kd.S_keptB a9.out hkp (fun k_ hk_ hs_=>absurd hs_.1.2 (Nat.not_lt.mpr hk_))) (fun k_ hk_=>hk_.1));have a8:=zzm (Kd.R_nil k39 39 l6 w.heap.size (fun _=>True));have b2:=zzm (hb);clear a3 a4 a9 b9 HB a7;have a3:=a1;have a4:=a2;have a9:=a5;have b9:=a8;have HB:=b2;clear a1 a2 a5 a8 b2;(try clear hb);(try clear hkp)))
    (try simp only [Act.put,zzq,zzr,zzs]);go_cut [42] (fun p6 wc=>∃ (kq:Nat) (e2:Bool),p6 = .bool e2∧Aside0 (laws_FnExactStateOf.j0 kq l0 b5 b0 e2=some r)∧Aside0 (kq≤k)∧Aside0 (Kd.S k43 43 wc w.heap.size (fun k_=>k_ < B1∧k_ < B2) (.slice e4 b5.length e5) b5)∧Aside0 (Kd.S kA 43 wc w.heap.size (fun k_=>B2≤k_) (.slice b7 b0.length b8) b0)∧Aside0 (Below w.heap.size w wc))
    case first=>
     have H:=h0.out;clear h0;by_cases e6:e3 < 0
     ·
      rw [if_pos e6] at H;have e1:decide (e3 < 0)=true:=decide_eq_true e6;clear e6
      (first|rw [e1]|(simp only [i64_w,i32_w];rw [e1])|skip);have H':=zzm H;clear H;go_wp2;go_meet
      case rel=>exact ⟨_,(true),(by first|rfl|(simp;done)|(simp [*];done)),H',⟨by first|omega|exact Nat.le_refl _⟩,⟨by (with_reducible repeat (first|apply Kd.S_alloc|apply Kd.S_drewN|apply Kd.S_drew));exact a4.out⟩,⟨by (with_reducible repeat (first|apply Kd.S_alloc|apply Kd.S_drewN|apply Kd.S_drew));exact a9.out⟩,⟨zzh1⟩⟩
     ·
      rw [if_neg e6] at H;have e1:decide (e3 < 0)=false:=decide_eq_false e6;clear e6
      (first|rw [e1]|(simp only [i64_w,i32_w];rw [e1])|skip);obtain ⟨g1,p7,H⟩:=zzG H;have H':=zzm H;clear H;go_wp2_with (first|(go_at_call 8;(with_reducible refine (Qe.calls k _ _ b0 _ _ b5 g1 _ ?side1 ?side2 ?side3 ?side4 p7.out).mono ?_);(case side1=>repeat (first|exact (A_reads' a9.out).2.2|(with_reducible refine Kd.C_alloc ?_ _)|(with_reducible refine Kd.C_drewN ?_ _)|(with_reducible refine Kd.C_drew ?_)));(case side2=>exact (A_reads' a9.out).2.1);(case side3=>repeat (first|exact (Kd.S_reads' a4.out).2.2|(with_reducible refine Kd.C_alloc ?_ _)|(with_reducible refine Kd.C_drewN ?_ _)|(with_reducible refine Kd.C_drew ?_)));(case side4=>exact (Kd.S_reads' a4.out).2.1);rintro e q6 ⟨rfl,hb⟩;have a1:=zzm (Kd.R_below (by (with_reducible repeat (first|apply Kd.R_alloc|apply Kd.R_drewN|apply Kd.R_drew));exact a3.out) hb);have a2:=zzm (Kd.S_below (zzS a4.out) hb);have a5:=zzm (Kd.S_below (zzS a9.out) hb);have a8:=zzm (Kd.R_below (by (with_reducible repeat (first|apply Kd.R_alloc|apply Kd.R_drewN|apply Kd.R_drew));exact b9.out) hb);have b2:=zzm (zzp zzh1 hb);clear a3 a4 a9 b9 HB;have a3:=a1;have a4:=a2;have a9:=a5;have b9:=a8;have HB:=b2;clear a1 a2 a5 a8 b2;(try clear hb);(try clear hb2);(try clear hk);(try clear hi)));go_meet
      case rel=>exact ⟨_,(!g1),(by first|rfl|(simp;done)|(simp [*];done)),H',⟨by first|omega|exact Nat.le_refl _⟩,⟨by (with_reducible repeat (first|apply Kd.S_alloc|apply Kd.S_drewN|apply Kd.S_drew));exact a4.out⟩,⟨by (with_reducible repeat (first|apply Kd.S_alloc|apply Kd.S_drewN|apply Kd.S_drew));exact a9.out⟩,⟨zzh1⟩⟩
    case rest=>
     clear h0;try clear c1
     try clear p2
     try clear c3
     try clear h9
     try clear c4
     try clear c5
     try clear c6
     try clear c7
     try clear c8
     try clear c9
     try clear g4
     try clear g5
     try clear e6
     try clear e1
     obtain ⟨kq,e2,rfl,HA,HJ14,a6,a0,HB⟩:=hcut;cases kq with
     | zero=>exact absurd HA.out (by simp [laws_FnExactStateOf.j0])
     | succ b6=>
      have H:=HA.out;clear HA;simp only [laws_FnExactStateOf.j0] at H;by_cases h4:e2=true
      ·
       subst h4;replace H:=zzIt H;obtain rfl:=Option.some.inj H;go_wp2;go_ret;exact ⟨zzR,zzh1⟩
      ·
       replace h4:=Bool.eq_false_iff.mpr h4;subst h4;replace H:=zzIf H;replace H:=zzH H;obtain ⟨⟨d6,b3⟩,j6,H⟩:=H;replace H:((Qi.f b6 b3 1).bind fun d2=>(if d2 < 0 then (some false) else (if d2=d6 then ((Qh.f b6 l0).bind fun d0=>((Qz.f b6 d0).bind fun d1=>((Qe.f b6 d1 b5).bind fun h1=>(if h1=true then ((Qi.f b6 b3 1).bind fun d7=>(if d7 < 0 then (some false) else (if d7=d6 then (some true) else (some false)))) else (some false))))) else (some false))))=some r:=H;have e7:=zzm j6;clear j6;obtain ⟨d2,e8,H⟩:=zzG H;by_cases e9:d2 < 0
       ·
        rw [if_pos e9] at H;have k0:decide (d2 < 0)=true:=decide_eq_true e9;clear e9;obtain rfl:=Option.some.inj H;go_wp2_with (first|((with_reducible refine gate_callee (f:=11) rfl ?_);refine goesL_ (some 45) rfl rfl Try.func11 (by kernel_rfl) rfl #[.slice b7 b0.length b8,.int .i64 1] rfl zzM2 ?_;(with_reducible refine (Q2.calls (fun k_=>B2≤k_) (.slice b7 b0.length b8) b0 1 d6 b3 w _ ?side1 ?side2 e7.out).mono ?_);(case side1=>repeat (first|(with_reducible first|exact HB.out|apply zza|apply zzb|apply zzc)|exact HB.out));(case side2=>exact a0.out);rintro e q7 ⟨rfl,hy0,hb,hkp⟩;refine ⟨_,rfl,?_⟩;have a1:=zzm (Kd.S_mono (Kd.S_keptB a6.out hkp (fun k_ hk_ hs_=>absurd hs_ (Nat.not_le.mpr hk_.2))) (fun k_ hk_=>hk_.1));have a2:=zzm hy0;have a5:=zzm (hb);clear a6 a0 HB;have a6:=a1;have a0:=a2;have HB:=a5;clear a1 a2 a5;(try clear hb);(try clear hkp);(try clear hy0))|((with_reducible refine gate_callee (f:=12) rfl ?_);refine goesL_ (some 48) rfl rfl Try.func12 (by kernel_rfl) rfl #[.slice b7 b3.length b8,.int .i64 1] rfl (by (try simp only [map_toArray,map_cons,map_nil]);first|done|(rw [show b3.length=b0.length from (A_reads' a0.out).1.symm] <;> rfl)|rfl|(simp only [length_drop,length_take];rfl)) ?_;(with_reducible refine (Qi.calls b6 _ _ b3 1 d2 _ ?side1 ?side2 e8.out).mono ?_);(case side1=>repeat (first|exact (A_reads' a0.out).2.2|(with_reducible refine Kd.C_alloc ?_ _)|(with_reducible refine Kd.C_drewN ?_ _)|(with_reducible refine Kd.C_drew ?_)));(case side2=>rw [show b3.length=b0.length from (A_reads' a0.out).1.symm];exact (A_reads' a0.out).2.1);rintro e w' ⟨rfl,⟨nd,rfl⟩⟩;refine ⟨_,rfl,?_⟩));go_ret;exact ⟨zzR,zzh1⟩
       ·
        rw [if_neg e9] at H;have k0:decide (d2 < 0)=false:=decide_eq_false e9;clear e9;by_cases g6:d2=d6
        ·
         rw [if_pos g6] at H;obtain ⟨k1,k2⟩:=zzQ g6;clear g6;obtain ⟨d0,h5,H⟩:=zzG H;obtain ⟨d1,h6,H⟩:=zzG H;obtain ⟨h1,h7,H⟩:=zzG H;by_cases h8:h1=true
         ·
          subst h8;replace H:=zzIt H;obtain ⟨d7,j7,H⟩:=zzG H;by_cases g0:d7 < 0
          ·
           rw [if_pos g0] at H;have k3:decide (d7 < 0)=true:=decide_eq_true g0;clear g0;obtain rfl:=Option.some.inj H;go_wp2_with (first|((with_reducible refine gate_callee (f:=11) rfl ?_);refine goesL_ (some 45) rfl rfl Try.func11 (by kernel_rfl) rfl #[.slice b7 b0.length b8,.int .i64 1] rfl zzM2 ?_;(with_reducible refine (Q2.calls (fun k_=>B2≤k_) (.slice b7 b0.length b8) b0 1 d6 b3 w _ ?side1 ?side2 e7.out).mono ?_);(case side1=>repeat (first|(with_reducible first|exact HB.out|apply zza|apply zzb|apply zzc)|exact HB.out));(case side2=>exact a0.out);rintro e q8 ⟨rfl,hy0,hb,hkp⟩;refine ⟨_,rfl,?_⟩;have a1:=zzm (Kd.S_mono (Kd.S_keptB a6.out hkp (fun k_ hk_ hs_=>absurd hs_ (Nat.not_le.mpr hk_.2))) (fun k_ hk_=>hk_.1));have a2:=zzm hy0;have a5:=zzm (hb);clear a6 a0 HB;have a6:=a1;have a0:=a2;have HB:=a5;clear a1 a2 a5;(try clear hb);(try clear hkp);(try clear hy0))|((with_reducible refine gate_callee (f:=12) rfl ?_);refine goesL_ (some 48) rfl rfl Try.func12 (by kernel_rfl) rfl #[.slice b7 b3.length b8,.int .i64 1] rfl (by (try simp only [map_toArray,map_cons,map_nil]);first|done|(rw [show b3.length=b0.length from (A_reads' a0.out).1.symm] <;> rfl)|rfl|(simp only [length_drop,length_take];rfl)) ?_;(with_reducible refine (Qi.calls b6 _ _ b3 1 d2 _ ?side1 ?side2 e8.out).mono ?_);(case side1=>repeat (first|exact (A_reads' a0.out).2.2|(with_reducible refine Kd.C_alloc ?_ _)|(with_reducible refine Kd.C_drewN ?_ _)|(with_reducible refine Kd.C_drew ?_)));(case side2=>rw [show b3.length=b0.length from (A_reads' a0.out).1.symm];exact (A_reads' a0.out).2.1);rintro e w' ⟨rfl,⟨nd,rfl⟩⟩;refine ⟨_,rfl,?_⟩)|((with_reducible refine gate_callee (f:=6) rfl ?_);refine goesL_ (some 55) rfl rfl Try.func6 (by kernel_rfl) rfl #[.slice A0 l0.length c0] rfl zzM2 ?_;(with_reducible refine (Qh.calls b6 _ _ l0 d0 _ ?side1 ?side2 h5.out).mono ?_);(case side1=>repeat (first|exact (Kd.C_below d3.out zzh1)|(with_reducible refine Kd.C_alloc ?_ _)|(with_reducible refine Kd.C_drewN ?_ _)|(with_reducible refine Kd.C_drew ?_)));(case side2=>exact d4.out);rintro e q9 ⟨h2,rfl,ho0,hb⟩;refine ⟨_,rfl,?_⟩;have a1:=zzm (Kd.S_below (zzS a6.out) hb);have a2:=zzm (Kd.S_below (zzS a0.out) hb);have a5:=zzm (Kd.R_lower (Kd.R_new' (Kd.R_new' ho0 (Kd.S_lt (zzS a6.out))) (Kd.S_lt (zzS a0.out))) (zzo zzh1));have a8:=zzm (zzp zzh1 hb);clear a6 a0 HB;have a6:=a1;have a0:=a2;have b1:=a5;have HB:=a8;clear a1 a2 a5 a8;(try clear hb);(try clear hb2);(try clear hk);(try clear hi);(try clear ho0);obtain ⟨m2,m3,eo47⟩:=Kd.R_slice b1.out;subst eo47)|((with_reducible refine gate_callee (f:=7) rfl ?_);refine goesL_ (some 56) rfl rfl Try.func7 (by kernel_rfl) rfl #[.slice m2 d0.length m3] rfl zzM2 ?_;(with_reducible refine (Qz.calls b6 _ _ d0 d1 _ ?side1 ?side2 h6.out).mono ?_);(case side1=>repeat (first|exact (Kd.R_reads' b1.out).2.2|(with_reducible refine Kd.C_alloc ?_ _)|(with_reducible refine Kd.C_drewN ?_ _)|(with_reducible refine Kd.C_drew ?_)));(case side2=>exact (Kd.R_reads' b1.out).2.1);rintro e r0 ⟨h3,rfl,ho0,hb⟩;replace ho0:=S_weakA ho0;refine ⟨_,rfl,?_⟩;have a1:=zzm (Kd.S_elder' (zzS a6.out) (Kd.S_base ho0) hb);have a2:=zzm (Kd.S_elder' (zzS a0.out) (Kd.S_base ho0) hb);have a5:=zzm (Kd.R_elder' (by (with_reducible repeat (first|apply Kd.R_alloc|apply Kd.R_drewN|apply Kd.R_drew));exact b1.out) (Kd.S_base ho0) hb);have a8:=zzm (Kd.S_lower (Kd.S_new' (Kd.S_new' ho0 (Kd.S_lt (zzS a6.out))) (Kd.S_lt (zzS a0.out))) (zzo zzh1));have b2:=zzm (zzp zzh1 hb);clear a6 a0 b1 HB;have a6:=a1;have a0:=a2;have b1:=a5;have b4:=a8;have HB:=b2;clear a1 a2 a5 a8 b2;(try clear hb);(try clear hb2);(try clear hk);(try clear hi);(try clear ho0);obtain ⟨m4,m5,eo49⟩:=Kd.S_slice b4.out;subst eo49)|((with_reducible refine gate_callee (f:=8) rfl ?_);refine goesL_ (some 59) rfl rfl Try.func8 (by kernel_rfl) rfl #[.slice m4 d1.length m5,.slice e4 b5.length e5] rfl zzM2 ?_;(with_reducible refine (Qe.calls b6 _ _ d1 _ _ b5 true _ ?side1 ?side2 ?side3 ?side4 h7.out).mono ?_);(case side1=>repeat (first|exact (Kd.S_reads' b4.out).2.2|(with_reducible refine Kd.C_alloc ?_ _)|(with_reducible refine Kd.C_drewN ?_ _)|(with_reducible refine Kd.C_drew ?_)));(case side2=>exact (Kd.S_reads' b4.out).2.1);(case side3=>repeat (first|exact (Kd.S_reads' a6.out).2.2|(with_reducible refine Kd.C_alloc ?_ _)|(with_reducible refine Kd.C_drewN ?_ _)|(with_reducible refine Kd.C_drew ?_)));(case side4=>exact (Kd.S_reads' a6.out).2.1);rintro e r1 ⟨rfl,hb⟩;refine ⟨_,rfl,?_⟩;have a1:=zzm (Kd.S_below (zzS a6.out) hb);have a2:=zzm (Kd.S_below (zzS a0.out) hb);have a5:=zzm (Kd.R_below (by (with_reducible repeat (first|apply Kd.R_alloc|apply Kd.R_drewN|apply Kd.R_drew));exact b1.out) hb);have a8:=zzm (Kd.S_below (zzS b4.out) hb);have b2:=zzm (zzp zzh1 hb);clear a6 a0 b1 b4 HB;have a6:=a1;have a0:=a2;have b1:=a5;have b4:=a8;have HB:=b2;clear a1 a2 a5 a8 b2;(try clear hb);(try clear hb2);(try clear hk);(try clear hi))|((with_reducible refine gate_callee (f:=12) rfl ?_);refine goesL_ (some 63) rfl rfl Try.func12 (by kernel_rfl) rfl #[.slice b7 b3.length b8,.int .i64 1] rfl (by (try simp only [map_toArray,map_cons,map_nil]);first|done|(rw [show b3.length=b0.length from (A_reads' a0.out).1.symm] <;> rfl)|rfl|(simp only [length_drop,length_take];rfl)) ?_;(with_reducible refine (Qi.calls b6 _ _ b3 1 d7 _ ?side1 ?side2 j7.out).mono ?_);(case side1=>repeat (first|exact (A_reads' a0.out).2.2|(with_reducible refine Kd.C_alloc ?_ _)|(with_reducible refine Kd.C_drewN ?_ _)|(with_reducible refine Kd.C_drew ?_)));(case side2=>rw [show b3.length=b0.length from (A_reads' a0.out).1.symm];exact (A_reads' a0.out).2.1);rintro e w' ⟨rfl,⟨nd,rfl⟩⟩;refine ⟨_,rfl,?_⟩));go_ret;exact ⟨zzR,zzh1⟩
          ·
           rw [if_neg g0] at H;have k3:decide (d7 < 0)=false:=decide_eq_false g0;clear g0;by_cases g7:d7=d6
           ·
            rw [if_pos g7] at H;obtain ⟨k4,k5⟩:=zzQ g7;clear g7;obtain rfl:=Option.some.inj H;go_wp2_with (first|((with_reducible refine gate_callee (f:=11) rfl ?_);refine goesL_ (some 45) rfl rfl Try.func11 (by kernel_rfl) rfl #[.slice b7 b0.length b8,.int .i64 1] rfl zzM2 ?_;(with_reducible refine (Q2.calls (fun k_=>B2≤k_) (.slice b7 b0.length b8) b0 1 d6 b3 w _ ?side1 ?side2 e7.out).mono ?_);(case side1=>repeat (first|(with_reducible first|exact HB.out|apply zza|apply zzb|apply zzc)|exact HB.out));(case side2=>exact a0.out);rintro e r2 ⟨rfl,hy0,hb,hkp⟩;refine ⟨_,rfl,?_⟩;have a1:=zzm (Kd.S_mono (Kd.S_keptB a6.out hkp (fun k_ hk_ hs_=>absurd hs_ (Nat.not_le.mpr hk_.2))) (fun k_ hk_=>hk_.1));have a2:=zzm hy0;have a5:=zzm (hb);clear a6 a0 HB;have a6:=a1;have a0:=a2;have HB:=a5;clear a1 a2 a5;(try clear hb);(try clear hkp);(try clear hy0))|((with_reducible refine gate_callee (f:=12) rfl ?_);refine goesL_ (some 48) rfl rfl Try.func12 (by kernel_rfl) rfl #[.slice b7 b3.length b8,.int .i64 1] rfl (by (try simp only [map_toArray,map_cons,map_nil]);first|done|(rw [show b3.length=b0.length from (A_reads' a0.out).1.symm] <;> rfl)|rfl|(simp only [length_drop,length_take];rfl)) ?_;(with_reducible refine (Qi.calls b6 _ _ b3 1 d2 _ ?side1 ?side2 e8.out).mono ?_);(case side1=>repeat (first|exact (A_reads' a0.out).2.2|(with_reducible refine Kd.C_alloc ?_ _)|(with_reducible refine Kd.C_drewN ?_ _)|(with_reducible refine Kd.C_drew ?_)));(case side2=>rw [show b3.length=b0.length from (A_reads' a0.out).1.symm];exact (A_reads' a0.out).2.1);rintro e w' ⟨rfl,⟨nd,rfl⟩⟩;refine ⟨_,rfl,?_⟩)|((with_reducible refine gate_callee (f:=6) rfl ?_);refine goesL_ (some 55) rfl rfl Try.func6 (by kernel_rfl) rfl #[.slice A0 l0.length c0] rfl zzM2 ?_;(with_reducible refine (Qh.calls b6 _ _ l0 d0 _ ?side1 ?side2 h5.out).mono ?_);(case side1=>repeat (first|exact (Kd.C_below d3.out zzh1)|(with_reducible refine Kd.C_alloc ?_ _)|(with_reducible refine Kd.C_drewN ?_ _)|(with_reducible refine Kd.C_drew ?_)));(case side2=>exact d4.out);rintro e r3 ⟨h2,rfl,ho0,hb⟩;refine ⟨_,rfl,?_⟩;have a1:=zzm (Kd.S_below (zzS a6.out) hb);have a2:=zzm (Kd.S_below (zzS a0.out) hb);have a5:=zzm (Kd.R_lower (Kd.R_new' (Kd.R_new' ho0 (Kd.S_lt (zzS a6.out))) (Kd.S_lt (zzS a0.out))) (zzo zzh1));have a8:=zzm (zzp zzh1 hb);clear a6 a0 HB;have a6:=a1;have a0:=a2;have b1:=a5;have HB:=a8;clear a1 a2 a5 a8;(try clear hb);(try clear hb2);(try clear hk);(try clear hi);(try clear ho0);obtain ⟨m6,m7,eo54⟩:=Kd.R_slice b1.out;subst eo54)|((with_reducible refine gate_callee (f:=7) rfl ?_);refine goesL_ (some 56) rfl rfl Try.func7 (by kernel_rfl) rfl #[.slice m6 d0.length m7] rfl zzM2 ?_;(with_reducible refine (Qz.calls b6 _ _ d0 d1 _ ?side1 ?side2 h6.out).mono ?_);(case side1=>repeat (first|exact (Kd.R_reads' b1.out).2.2|(with_reducible refine Kd.C_alloc ?_ _)|(with_reducible refine Kd.C_drewN ?_ _)|(with_reducible refine Kd.C_drew ?_)));(case side2=>exact (Kd.R_reads' b1.out).2.1);rintro e r4 ⟨h3,rfl,ho0,hb⟩;replace ho0:=S_weakA ho0;refine ⟨_,rfl,?_⟩;have a1:=zzm (Kd.S_elder' (zzS a6.out) (Kd.S_base ho0) hb);have a2:=zzm (Kd.S_elder' (zzS a0.out) (Kd.S_base ho0) hb);have a5:=zzm (Kd.R_elder' (by (with_reducible repeat (first|apply Kd.R_alloc|apply Kd.R_drewN|apply Kd.R_drew));exact b1.out) (Kd.S_base ho0) hb);have a8:=zzm (Kd.S_lower (Kd.S_new' (Kd.S_new' ho0 (Kd.S_lt (zzS a6.out))) (Kd.S_lt (zzS a0.out))) (zzo zzh1));have b2:=zzm (zzp zzh1 hb);clear a6 a0 b1 HB;have a6:=a1;have a0:=a2;have b1:=a5;have b4:=a8;have HB:=b2;clear a1 a2 a5 a8 b2;(try clear hb);(try clear hb2);(try clear hk);(try clear hi);(try clear ho0);obtain ⟨m8,m9,eo56⟩:=Kd.S_slice b4.out;subst eo56)|((with_reducible refine gate_callee (f:=8) rfl ?_);refine goesL_ (some 59) rfl rfl Try.func8 (by kernel_rfl) rfl #[.slice m8 d1.length m9,.slice e4 b5.length e5] rfl zzM2 ?_;(with_reducible refine (Qe.calls b6 _ _ d1 _ _ b5 true _ ?side1 ?side2 ?side3 ?side4 h7.out).mono ?_);(case side1=>repeat (first|exact (Kd.S_reads' b4.out).2.2|(with_reducible refine Kd.C_alloc ?_ _)|(with_reducible refine Kd.C_drewN ?_ _)|(with_reducible refine Kd.C_drew ?_)));(case side2=>exact (Kd.S_reads' b4.out).2.1);(case side3=>repeat (first|exact (Kd.S_reads' a6.out).2.2|(with_reducible refine Kd.C_alloc ?_ _)|(with_reducible refine Kd.C_drewN ?_ _)|(with_reducible refine Kd.C_drew ?_)));(case side4=>exact (Kd.S_reads' a6.out).2.1);rintro e r5 ⟨rfl,hb⟩;refine ⟨_,rfl,?_⟩;have a1:=zzm (Kd.S_below (zzS a6.out) hb);have a2:=zzm (Kd.S_below (zzS a0.out) hb);have a5:=zzm (Kd.R_below (by (with_reducible repeat (first|apply Kd.R_alloc|apply Kd.R_drewN|apply Kd.R_drew));exact b1.out) hb);have a8:=zzm (Kd.S_below (zzS b4.out) hb);have b2:=zzm (zzp zzh1 hb);clear a6 a0 b1 b4 HB;have a6:=a1;have a0:=a2;have b1:=a5;have b4:=a8;have HB:=b2;clear a1 a2 a5 a8 b2;(try clear hb);(try clear hb2);(try clear hk);(try clear hi))|((with_reducible refine gate_callee (f:=12) rfl ?_);refine goesL_ (some 63) rfl rfl Try.func12 (by kernel_rfl) rfl #[.slice b7 b3.length b8,.int .i64 1] rfl (by (try simp only [map_toArray,map_cons,map_nil]);first|done|(rw [show b3.length=b0.length from (A_reads' a0.out).1.symm] <;> rfl)|rfl|(simp only [length_drop,length_take];rfl)) ?_;(with_reducible refine (Qi.calls b6 _ _ b3 1 d7 _ ?side1 ?side2 j7.out).mono ?_);(case side1=>repeat (first|exact (A_reads' a0.out).2.2|(with_reducible refine Kd.C_alloc ?_ _)|(with_reducible refine Kd.C_drewN ?_ _)|(with_reducible refine Kd.C_drew ?_)));(case side2=>rw [show b3.length=b0.length from (A_reads' a0.out).1.symm];exact (A_reads' a0.out).2.1);rintro e w' ⟨rfl,⟨nd,rfl⟩⟩;refine ⟨_,rfl,?_⟩));go_ret;exact ⟨zzR,zzh1⟩
           ·
            rw [if_neg g7] at H;obtain ⟨k4,k5⟩:=zzY g7;obtain rfl:=Option.some.inj H;go_wp2_with (first|((with_reducible refine gate_callee (f:=11) rfl ?_);refine goesL_ (some 45) rfl rfl Try.func11 (by kernel_rfl) rfl #[.slice b7 b0.length b8,.int .i64 1] rfl zzM2 ?_;(with_reducible refine (Q2.calls (fun k_=>B2≤k_) (.slice b7 b0.length b8) b0 1 d6 b3 w _ ?side1 ?side2 e7.out).mono ?_);(case side1=>repeat (first|(with_reducible first|exact HB.out|apply zza|apply zzb|apply zzc)|exact HB.out));(case side2=>exact a0.out);rintro e r6 ⟨rfl,hy0,hb,hkp⟩;refine ⟨_,rfl,?_⟩;have a1:=zzm (Kd.S_mono (Kd.S_keptB a6.out hkp (fun k_ hk_ hs_=>absurd hs_ (Nat.not_le.mpr hk_.2))) (fun k_ hk_=>hk_.1));have a2:=zzm hy0;have a5:=zzm (hb);clear a6 a0 HB;have a6:=a1;have a0:=a2;have HB:=a5;clear a1 a2 a5;(try clear hb);(try clear hkp);(try clear hy0))|((with_reducible refine gate_callee (f:=12) rfl ?_);refine goesL_ (some 48) rfl rfl Try.func12 (by kernel_rfl) rfl #[.slice b7 b3.length b8,.int .i64 1] rfl (by (try simp only [map_toArray,map_cons,map_nil]);first|done|(rw [show b3.length=b0.length from (A_reads' a0.out).1.symm] <;> rfl)|rfl|(simp only [length_drop,length_take];rfl)) ?_;(with_reducible refine (Qi.calls b6 _ _ b3 1 d2 _ ?side1 ?side2 e8.out).mono ?_);(case side1=>repeat (first|exact (A_reads' a0.out).2.2|(with_reducible refine Kd.C_alloc ?_ _)|(with_reducible refine Kd.C_drewN ?_ _)|(with_reducible refine Kd.C_drew ?_)));(case side2=>rw [show b3.length=b0.length from (A_reads' a0.out).1.symm];exact (A_reads' a0.out).2.1);rintro e w' ⟨rfl,⟨nd,rfl⟩⟩;refine ⟨_,rfl,?_⟩)|((with_reducible refine gate_callee (f:=6) rfl ?_);refine goesL_ (some 55) rfl rfl Try.func6 (by kernel_rfl) rfl #[.slice A0 l0.length c0] rfl zzM2 ?_;(with_reducible refine (Qh.calls b6 _ _ l0 d0 _ ?side1 ?side2 h5.out).mono ?_);(case side1=>repeat (first|exact (Kd.C_below d3.out zzh1)|(with_reducible refine Kd.C_alloc ?_ _)|(with_reducible refine Kd.C_drewN ?_ _)|(with_reducible refine Kd.C_drew ?_)));(case side2=>exact d4.out);rintro e r7 ⟨h2,rfl,ho0,hb⟩;refine ⟨_,rfl,?_⟩;have a1:=zzm (Kd.S_below (zzS a6.out) hb);have a2:=zzm (Kd.S_below (zzS a0.out) hb);have a5:=zzm (Kd.R_lower (Kd.R_new' (Kd.R_new' ho0 (Kd.S_lt (zzS a6.out))) (Kd.S_lt (zzS a0.out))) (zzo zzh1));have a8:=zzm (zzp zzh1 hb);clear a6 a0 HB;have a6:=a1;have a0:=a2;have b1:=a5;have HB:=a8;clear a1 a2 a5 a8;(try clear hb);(try clear hb2);(try clear hk);(try clear hi);(try clear ho0);obtain ⟨n0,n1,eo60⟩:=Kd.R_slice b1.out;subst eo60)|((with_reducible refine gate_callee (f:=7) rfl ?_);refine goesL_ (some 56) rfl rfl Try.func7 (by kernel_rfl) rfl #[.slice n0 d0.length n1] rfl zzM2 ?_;(with_reducible refine (Qz.calls b6 _ _ d0 d1 _ ?side1 ?side2 h6.out).mono ?_);(case side1=>repeat (first|exact (Kd.R_reads' b1.out).2.2|(with_reducible refine Kd.C_alloc ?_ _)|(with_reducible refine Kd.C_drewN ?_ _)|(with_reducible refine Kd.C_drew ?_)));(case side2=>exact (Kd.R_reads' b1.out).2.1);rintro e r8 ⟨h3,rfl,ho0,hb⟩;replace ho0:=S_weakA ho0;refine ⟨_,rfl,?_⟩;have a1:=zzm (Kd.S_elder' (zzS a6.out) (Kd.S_base ho0) hb);have a2:=zzm (Kd.S_elder' (zzS a0.out) (Kd.S_base ho0) hb);have a5:=zzm (Kd.R_elder' (by (with_reducible repeat (first|apply Kd.R_alloc|apply Kd.R_drewN|apply Kd.R_drew));exact b1.out) (Kd.S_base ho0) hb);have a8:=zzm (Kd.S_lower (Kd.S_new' (Kd.S_new' ho0 (Kd.S_lt (zzS a6.out))) (Kd.S_lt (zzS a0.out))) (zzo zzh1));have b2:=zzm (zzp zzh1 hb);clear a6 a0 b1 HB;have a6:=a1;have a0:=a2;have b1:=a5;have b4:=a8;have HB:=b2;clear a1 a2 a5 a8 b2;(try clear hb);(try clear hb2);(try clear hk);(try clear hi);(try clear ho0);obtain ⟨n2,n3,eo62⟩:=Kd.S_slice b4.out;subst eo62)|((with_reducible refine gate_callee (f:=8) rfl ?_);refine goesL_ (some 59) rfl rfl Try.func8 (by kernel_rfl) rfl #[.slice n2 d1.length n3,.slice e4 b5.length e5] rfl zzM2 ?_;(with_reducible refine (Qe.calls b6 _ _ d1 _ _ b5 true _ ?side1 ?side2 ?side3 ?side4 h7.out).mono ?_);(case side1=>repeat (first|exact (Kd.S_reads' b4.out).2.2|(with_reducible refine Kd.C_alloc ?_ _)|(with_reducible refine Kd.C_drewN ?_ _)|(with_reducible refine Kd.C_drew ?_)));(case side2=>exact (Kd.S_reads' b4.out).2.1);(case side3=>repeat (first|exact (Kd.S_reads' a6.out).2.2|(with_reducible refine Kd.C_alloc ?_ _)|(with_reducible refine Kd.C_drewN ?_ _)|(with_reducible refine Kd.C_drew ?_)));(case side4=>exact (Kd.S_reads' a6.out).2.1);rintro e r9 ⟨rfl,hb⟩;refine ⟨_,rfl,?_⟩;have a1:=zzm (Kd.S_below (zzS a6.out) hb);have a2:=zzm (Kd.S_below (zzS a0.out) hb);have a5:=zzm (Kd.R_below (by (with_reducible repeat (first|apply Kd.R_alloc|apply Kd.R_drewN|apply Kd.R_drew));exact b1.out) hb);have a8:=zzm (Kd.S_below (zzS b4.out) hb);have b2:=zzm (zzp zzh1 hb);clear a6 a0 b1 b4 HB;have a6:=a1;have a0:=a2;have b1:=a5;have b4:=a8;have HB:=b2;clear a1 a2 a5 a8 b2;(try clear hb);(try clear hb2);(try clear hk);(try clear hi))|((with_reducible refine gate_callee (f:=12) rfl ?_);refine goesL_ (some 63) rfl rfl Try.func12 (by kernel_rfl) rfl #[.slice b7 b3.length b8,.int .i64 1] rfl (by (try simp only [map_toArray,map_cons,map_nil]);first|done|(rw [show b3.length=b0.length from (A_reads' a0.out).1.symm] <;> rfl)|rfl|(simp only [length_drop,length_take];rfl)) ?_;(with_reducible refine (Qi.calls b6 _ _ b3 1 d7 _ ?side1 ?side2 j7.out).mono ?_);(case side1=>repeat (first|exact (A_reads' a0.out).2.2|(with_reducible refine Kd.C_alloc ?_ _)|(with_reducible refine Kd.C_drewN ?_ _)|(with_reducible refine Kd.C_drew ?_)));(case side2=>rw [show b3.length=b0.length from (A_reads' a0.out).1.symm];exact (A_reads' a0.out).2.1);rintro e w' ⟨rfl,⟨nd,rfl⟩⟩;refine ⟨_,rfl,?_⟩));go_ret;exact ⟨zzR,zzh1⟩
         ·
          replace h8:=Bool.eq_false_iff.mpr h8;subst h8;replace H:=zzIf H;obtain rfl:=Option.some.inj H;go_wp2_with (first|((with_reducible refine gate_callee (f:=11) rfl ?_);refine goesL_ (some 45) rfl rfl Try.func11 (by kernel_rfl) rfl #[.slice b7 b0.length b8,.int .i64 1] rfl zzM2 ?_;(with_reducible refine (Q2.calls (fun k_=>B2≤k_) (.slice b7 b0.length b8) b0 1 d6 b3 w _ ?side1 ?side2 e7.out).mono ?_);(case side1=>repeat (first|(with_reducible first|exact HB.out|apply zza|apply zzb|apply zzc)|exact HB.out));(case side2=>exact a0.out);rintro e s0 ⟨rfl,hy0,hb,hkp⟩;refine ⟨_,rfl,?_⟩;have a1:=zzm (Kd.S_mono (Kd.S_keptB a6.out hkp (fun k_ hk_ hs_=>absurd hs_ (Nat.not_le.mpr hk_.2))) (fun k_ hk_=>hk_.1));have a2:=zzm hy0;have a5:=zzm (hb);clear a6 a0 HB;have a6:=a1;have a0:=a2;have HB:=a5;clear a1 a2 a5;(try clear hb);(try clear hkp);(try clear hy0))|((with_reducible refine gate_callee (f:=12) rfl ?_);refine goesL_ (some 48) rfl rfl Try.func12 (by kernel_rfl) rfl #[.slice b7 b3.length b8,.int .i64 1] rfl (by (try simp only [map_toArray,map_cons,map_nil]);first|done|(rw [show b3.length=b0.length from (A_reads' a0.out).1.symm] <;> rfl)|rfl|(simp only [length_drop,length_take];rfl)) ?_;(with_reducible refine (Qi.calls b6 _ _ b3 1 d2 _ ?side1 ?side2 e8.out).mono ?_);(case side1=>repeat (first|exact (A_reads' a0.out).2.2|(with_reducible refine Kd.C_alloc ?_ _)|(with_reducible refine Kd.C_drewN ?_ _)|(with_reducible refine Kd.C_drew ?_)));(case side2=>rw [show b3.length=b0.length from (A_reads' a0.out).1.symm];exact (A_reads' a0.out).2.1);rintro e w' ⟨rfl,⟨nd,rfl⟩⟩;refine ⟨_,rfl,?_⟩)|((with_reducible refine gate_callee (f:=6) rfl ?_);refine goesL_ (some 55) rfl rfl Try.func6 (by kernel_rfl) rfl #[.slice A0 l0.length c0] rfl zzM2 ?_;(with_reducible refine (Qh.calls b6 _ _ l0 d0 _ ?side1 ?side2 h5.out).mono ?_);(case side1=>repeat (first|exact (Kd.C_below d3.out zzh1)|(with_reducible refine Kd.C_alloc ?_ _)|(with_reducible refine Kd.C_drewN ?_ _)|(with_reducible refine Kd.C_drew ?_)));(case side2=>exact d4.out);rintro e s1 ⟨h2,rfl,ho0,hb⟩;refine ⟨_,rfl,?_⟩;have a1:=zzm (Kd.S_below (zzS a6.out) hb);have a2:=zzm (Kd.S_below (zzS a0.out) hb);have a5:=zzm (Kd.R_lower (Kd.R_new' (Kd.R_new' ho0 (Kd.S_lt (zzS a6.out))) (Kd.S_lt (zzS a0.out))) (zzo zzh1));have a8:=zzm (zzp zzh1 hb);clear a6 a0 HB;have a6:=a1;have a0:=a2;have b1:=a5;have HB:=a8;clear a1 a2 a5 a8;(try clear hb);(try clear hb2);(try clear hk);(try clear hi);(try clear ho0);obtain ⟨n4,n5,eo66⟩:=Kd.R_slice b1.out;subst eo66)|((with_reducible refine gate_callee (f:=7) rfl ?_);refine goesL_ (some 56) rfl rfl Try.func7 (by kernel_rfl) rfl #[.slice n4 d0.length n5] rfl zzM2 ?_;(with_reducible refine (Qz.calls b6 _ _ d0 d1 _ ?side1 ?side2 h6.out).mono ?_);(case side1=>repeat (first|exact (Kd.R_reads' b1.out).2.2|(with_reducible refine Kd.C_alloc ?_ _)|(with_reducible refine Kd.C_drewN ?_ _)|(with_reducible refine Kd.C_drew ?_)));(case side2=>exact (Kd.R_reads' b1.out).2.1);rintro e s2 ⟨h3,rfl,ho0,hb⟩;replace ho0:=S_weakA ho0;refine ⟨_,rfl,?_⟩;have a1:=zzm (Kd.S_elder' (zzS a6.out) (Kd.S_base ho0) hb);have a2:=zzm (Kd.S_elder' (zzS a0.out) (Kd.S_base ho0) hb);have a5:=zzm (Kd.R_elder' (by (with_reducible repeat (first|apply Kd.R_alloc|apply Kd.R_drewN|apply Kd.R_drew));exact b1.out) (Kd.S_base ho0) hb);have a8:=zzm (Kd.S_lower (Kd.S_new' (Kd.S_new' ho0 (Kd.S_lt (zzS a6.out))) (Kd.S_lt (zzS a0.out))) (zzo zzh1));have b2:=zzm (zzp zzh1 hb);clear a6 a0 b1 HB;have a6:=a1;have a0:=a2;have b1:=a5;have b4:=a8;have HB:=b2;clear a1 a2 a5 a8 b2;(try clear hb);(try clear hb2);(try clear hk);(try clear hi);(try clear ho0);obtain ⟨n6,n7,eo68⟩:=Kd.S_slice b4.out;subst eo68)|((with_reducible refine gate_callee (f:=8) rfl ?_);refine goesL_ (some 59) rfl rfl Try.func8 (by kernel_rfl) rfl #[.slice n6 d1.length n7,.slice e4 b5.length e5] rfl zzM2 ?_;(with_reducible refine (Qe.calls b6 _ _ d1 _ _ b5 false _ ?side1 ?side2 ?side3 ?side4 h7.out).mono ?_);(case side1=>repeat (first|exact (Kd.S_reads' b4.out).2.2|(with_reducible refine Kd.C_alloc ?_ _)|(with_reducible refine Kd.C_drewN ?_ _)|(with_reducible refine Kd.C_drew ?_)));(case side2=>exact (Kd.S_reads' b4.out).2.1);(case side3=>repeat (first|exact (Kd.S_reads' a6.out).2.2|(with_reducible refine Kd.C_alloc ?_ _)|(with_reducible refine Kd.C_drewN ?_ _)|(with_reducible refine Kd.C_drew ?_)));(case side4=>exact (Kd.S_reads' a6.out).2.1);rintro e s3 ⟨rfl,hb⟩;refine ⟨_,rfl,?_⟩;have a1:=zzm (Kd.S_below (zzS a6.out) hb);have a2:=zzm (Kd.S_below (zzS a0.out) hb);have a5:=zzm (Kd.R_below (by (with_reducible repeat (first|apply Kd.R_alloc|apply Kd.R_drewN|apply Kd.R_drew));exact b1.out) hb);have a8:=zzm (Kd.S_below (zzS b4.out) hb);have b2:=zzm (zzp zzh1 hb);clear a6 a0 b1 b4 HB;have a6:=a1;have a0:=a2;have b1:=a5;have b4:=a8;have HB:=b2;clear a1 a2 a5 a8 b2;(try clear hb);(try clear hb2);(try clear hk);(try clear hi)));go_ret;exact ⟨zzR,zzh1⟩
        ·
         rw [if_neg g6] at H;obtain ⟨k1,k2⟩:=zzY g6;obtain rfl:=Option.some.inj H;go_wp2_with (first|((with_reducible refine gate_callee (f:=11) rfl ?_);refine goesL_ (some 45) rfl rfl Try.func11 (by kernel_rfl) rfl #[.slice b7 b0.length b8,.int .i64 1] rfl zzM2 ?_;(with_reducible refine (Q2.calls (fun k_=>B2≤k_) (.slice b7 b0.length b8) b0 1 d6 b3 w _ ?side1 ?side2 e7.out).mono ?_);(case side1=>repeat (first|(with_reducible first|exact HB.out|apply zza|apply zzb|apply zzc)|exact HB.out));(case side2=>exact a0.out);rintro e s4 ⟨rfl,hy0,hb,hkp⟩;refine ⟨_,rfl,?_⟩;have a1:=zzm (Kd.S_mono (Kd.S_keptB a6.out hkp (fun k_ hk_ hs_=>absurd hs_ (Nat.not_le.mpr hk_.2))) (fun k_ hk_=>hk_.1));have a2:=zzm hy0;have a5:=zzm (hb);clear a6 a0 HB;have a6:=a1;have a0:=a2;have HB:=a5;clear a1 a2 a5;(try clear hb);(try clear hkp);(try clear hy0))|((with_reducible refine gate_callee (f:=12) rfl ?_);refine goesL_ (some 48) rfl rfl Try.func12 (by kernel_rfl) rfl #[.slice b7 b3.length b8,.int .i64 1] rfl (by (try simp only [map_toArray,map_cons,map_nil]);first|done|(rw [show b3.length=b0.length from (A_reads' a0.out).1.symm] <;> rfl)|rfl|(simp only [length_drop,length_take];rfl)) ?_;(with_reducible refine (Qi.calls b6 _ _ b3 1 d2 _ ?side1 ?side2 e8.out).mono ?_);(case side1=>repeat (first|exact (A_reads' a0.out).2.2|(with_reducible refine Kd.C_alloc ?_ _)|(with_reducible refine Kd.C_drewN ?_ _)|(with_reducible refine Kd.C_drew ?_)));(case side2=>rw [show b3.length=b0.length from (A_reads' a0.out).1.symm];exact (A_reads' a0.out).2.1);rintro e w' ⟨rfl,⟨nd,rfl⟩⟩;refine ⟨_,rfl,?_⟩));go_ret;exact ⟨zzR,zzh1⟩
   ·
    replace g5:=Bool.eq_false_iff.mpr g5;subst g5;replace H:=zzIf H;obtain rfl:=Option.some.inj H;go_enter Try.func3,Try.ntmps3;go_wp2_with (first|((with_reducible refine gate_callee (f:=4) rfl ?_);refine goesL_ (some 13) rfl rfl Try.func4 (by kernel_rfl) rfl #[.slice A0 l0.length c0,.int .i64 1048576] rfl zzM2 ?_;(with_reducible refine (Qu.calls k _ _ l0 1048576 d8 _ ?side1 ?side2 A2.out).mono ?_);(case side1=>repeat (first|exact d3.out|(with_reducible refine Kd.C_alloc ?_ _)|(with_reducible refine Kd.C_drewN ?_ _)|(with_reducible refine Kd.C_drew ?_)));(case side2=>exact d4.out);rintro e s5 ⟨rfl,hb⟩;refine ⟨_,rfl,?_⟩;have a1:=zzm (zzp zzh1 hb);clear HB;have HB:=a1;clear a1;(try clear hb);(try clear hb2);(try clear hk);(try clear hi))|((with_reducible refine gate_callee (f:=6) rfl ?_);refine goesL_ (some 17) rfl rfl Try.func6 (by kernel_rfl) rfl #[.slice A0 l0.length c0] rfl zzM2 ?_;(with_reducible refine (Qh.calls k _ _ l0 d5 _ ?side1 ?side2 A5.out).mono ?_);(case side1=>exact zzcb d3 HB);(case side2=>exact d4.out);rintro e s6 ⟨j2,rfl,ho0,hb⟩;refine ⟨_,rfl,?_⟩;have a1:=zzm (Kd.R_lower ho0 (zzo zzh1));have a2:=zzm (zzp zzh1 hb);clear HB;have a3:=a1;have HB:=a2;clear a1 a2;(try clear hb);(try clear hb2);(try clear hk);(try clear hi);(try clear ho0);obtain ⟨n8,n9,eo73⟩:=Kd.R_slice a3.out;subst eo73)|((with_reducible refine gate_callee (f:=5) rfl ?_);refine goesL_ (some 18) rfl rfl Try.func5 (by kernel_rfl) rfl #[.slice n8 d5.length n9] rfl zzM2 ?_;(with_reducible refine (Qd.calls k _ _ d5 b5 _ ?side1 ?side2 A6.out).mono ?_);(case side1=>repeat (first|exact (Kd.R_reads' a3.out).2.2|(with_reducible refine Kd.C_alloc ?_ _)|(with_reducible refine Kd.C_drewN ?_ _)|(with_reducible refine Kd.C_drew ?_)));(case side2=>exact (Kd.R_reads' a3.out).2.1);rintro e s7 ⟨j3,rfl,ho0,hb⟩;refine ⟨_,rfl,?_⟩;have a1:=zzm (Kd.R_elder' (by (with_reducible repeat (first|apply Kd.R_alloc|apply Kd.R_drewN|apply Kd.R_drew));exact a3.out) (Kd.S_base ho0) hb);have a2:=zzm (Kd.S_lower ho0 (zzo zzh1));have a5:=zzm (zzp zzh1 hb);clear a3 HB;have a3:=a1;have a4:=a2;have HB:=a5;clear a1 a2 a5;(try clear hb);(try clear hb2);(try clear hk);(try clear hi);(try clear ho0))|((with_reducible refine gate_callee (f:=6) rfl ?_);refine goesL_ (some 20) rfl rfl Try.func6 (by kernel_rfl) rfl #[.slice A0 l0.length c0] rfl zzM2 ?_;(with_reducible refine (Qh.calls k _ _ l0 c2 _ ?side1 ?side2 A7.out).mono ?_);(case side1=>exact zzcb d3 HB);(case side2=>exact d4.out);rintro e s8 ⟨j4,rfl,ho0,hb⟩;refine ⟨_,rfl,?_⟩;have a1:=zzm (Kd.R_elder' (by (with_reducible repeat (first|apply Kd.R_alloc|apply Kd.R_drewN|apply Kd.R_drew));exact a3.out) (Kd.R_base ho0) hb);have a2:=zzm (Kd.S_below (zzS a4.out) hb);have a5:=zzm (Kd.R_lower (Kd.R_new' (Kd.R_new' ho0 (Kd.R_lt (by (with_reducible repeat (first|apply Kd.R_alloc|apply Kd.R_drewN|apply Kd.R_drew));exact a3.out))) (Kd.S_lt (zzS a4.out))) (zzo zzh1));have a8:=zzm (zzp zzh1 hb);clear a3 a4 HB;have a3:=a1;have a4:=a2;have a7:=a5;have HB:=a8;clear a1 a2 a5 a8;(try clear hb);(try clear hb2);(try clear hk);(try clear hi);(try clear ho0);obtain ⟨j8,j9,eo76⟩:=Kd.R_slice a7.out;subst eo76)|((with_reducible refine gate_callee (f:=7) rfl ?_);refine goesL_ (some 22) rfl rfl Try.func7 (by kernel_rfl) rfl #[.slice j8 c2.length j9] rfl zzM2 ?_;(with_reducible refine (Qz.calls k _ _ c2 b0 _ ?side1 ?side2 A8.out).mono ?_);(case side1=>repeat (first|exact (Kd.R_reads' a7.out).2.2|(with_reducible refine Kd.C_alloc ?_ _)|(with_reducible refine Kd.C_drewN ?_ _)|(with_reducible refine Kd.C_drew ?_)));(case side2=>exact (Kd.R_reads' a7.out).2.1);rintro e s9 ⟨j5,rfl,ho0,hb⟩;replace ho0:=S_weakA ho0;refine ⟨_,rfl,?_⟩;have a1:=zzm (Kd.R_elder' (by (with_reducible repeat (first|apply Kd.R_alloc|apply Kd.R_drewN|apply Kd.R_drew));exact a3.out) (Kd.S_base ho0) hb);have a2:=zzm (Kd.S_elder' (zzS a4.out) (Kd.S_base ho0) hb);have a5:=zzm (Kd.R_elder' (by (with_reducible repeat (first|apply Kd.R_alloc|apply Kd.R_drewN|apply Kd.R_drew));exact a7.out) (Kd.S_base ho0) hb);have a8:=zzm (Kd.S_lower (Kd.S_new' ho0 (Kd.S_lt (zzS a4.out))) (zzo zzh1));have b2:=zzm (zzp zzh1 hb);clear a3 a4 a7 HB;have a3:=a1;have a4:=a2;have a7:=a5;have a9:=a8;have HB:=b2;clear a1 a2 a5 a8 b2;(try clear hb);(try clear hb2);(try clear hk);(try clear hi);(try clear ho0);obtain ⟨o0,o1,eo78⟩:=Kd.S_slice a9.out;subst eo78;obtain ⟨o2,o3,eo79⟩:=Kd.S_slice a4.out;subst eo79)|((with_reducible refine gate_callee (f:=8) rfl ?_);refine goesL_ (some 25) rfl rfl Try.func8 (by kernel_rfl) rfl #[.slice o0 b0.length o1,.slice o2 b5.length o3] rfl zzM2 ?_;(with_reducible refine (Qe.calls k _ _ b0 _ _ b5 true _ ?side1 ?side2 ?side3 ?side4 A9.out).mono ?_);(case side1=>repeat (first|exact (Kd.S_reads' a9.out).2.2|(with_reducible refine Kd.C_alloc ?_ _)|(with_reducible refine Kd.C_drewN ?_ _)|(with_reducible refine Kd.C_drew ?_)));(case side2=>exact (Kd.S_reads' a9.out).2.1);(case side3=>repeat (first|exact (Kd.S_reads' a4.out).2.2|(with_reducible refine Kd.C_alloc ?_ _)|(with_reducible refine Kd.C_drewN ?_ _)|(with_reducible refine Kd.C_drew ?_)));(case side4=>exact (Kd.S_reads' a4.out).2.1);rintro e t0 ⟨rfl,hb⟩;refine ⟨_,rfl,?_⟩;have a1:=zzm (Kd.R_below (by (with_reducible repeat (first|apply Kd.R_alloc|apply Kd.R_drewN|apply Kd.R_drew));exact a3.out) hb);have a2:=zzm (Kd.S_below (zzS a4.out) hb);have a5:=zzm (Kd.R_below (by (with_reducible repeat (first|apply Kd.R_alloc|apply Kd.R_drewN|apply Kd.R_drew));exact a7.out) hb);have a8:=zzm (Kd.S_below (zzS a9.out) hb);have b2:=zzm (zzp zzh1 hb);clear a3 a4 a7 a9 HB;have a3:=a1;have a4:=a2;have a7:=a5;have a9:=a8;have HB:=b2;clear a1 a2 a5 a8 b2;(try clear hb);(try clear hb2);(try clear hk);(try clear hi))|((with_reducible refine gate_callee (f:=6) rfl ?_);refine goesL_ (some 29) rfl rfl Try.func6 (by kernel_rfl) rfl #[.slice A0 l0.length c0] rfl zzM2 ?_;(with_reducible refine (Qh.calls k _ _ l0 d9 _ ?side1 ?side2 k8.out).mono ?_);(case side1=>exact zzcb d3 HB);(case side2=>exact d4.out);rintro e t1 ⟨l9,rfl,ho0,hb⟩;refine ⟨_,rfl,?_⟩;have a1:=zzm (Kd.R_elder' (by (with_reducible repeat (first|apply Kd.R_alloc|apply Kd.R_drewN|apply Kd.R_drew));exact a3.out) (Kd.R_base ho0) hb);have a2:=zzm (Kd.S_below (zzS a4.out) hb);have a5:=zzm (Kd.R_elder' (by (with_reducible repeat (first|apply Kd.R_alloc|apply Kd.R_drewN|apply Kd.R_drew));exact a7.out) (Kd.R_base ho0) hb);have a8:=zzm (Kd.S_below (zzS a9.out) hb);have b2:=zzm (Kd.R_lower (Kd.R_new' (Kd.R_new' (Kd.R_new' (Kd.R_new' ho0 (Kd.R_lt (by (with_reducible repeat (first|apply Kd.R_alloc|apply Kd.R_drewN|apply Kd.R_drew));exact a3.out))) (Kd.S_lt (zzS a4.out))) (Kd.R_lt (by (with_reducible repeat (first|apply Kd.R_alloc|apply Kd.R_drewN|apply Kd.R_drew));exact a7.out))) (Kd.S_lt (zzS a9.out))) (zzo zzh1));have e0:=zzm (zzp zzh1 hb);clear a3 a4 a7 a9 HB;have a3:=a1;have a4:=a2;have a7:=a5;have a9:=a8;have b9:=b2;have HB:=e0;clear a1 a2 a5 a8 b2 e0;(try clear hb);(try clear hb2);(try clear hk);(try clear hi);(try clear ho0);obtain ⟨o4,o5,eo82⟩:=Kd.R_slice b9.out;subst eo82)|((with_reducible refine gate_callee (f:=9) rfl ?_);refine goesL_ (some 30) rfl rfl Try.func9 (by kernel_rfl) rfl #[.slice j8 c2.length j9,.slice o4 d9.length o5] rfl zzM2 ?_;(with_reducible refine (Qm.calls k _ _ c2 _ _ d9 false _ ?side1 ?side2 ?side3 ?side4 k9.out).mono ?_);(case side1=>repeat (first|exact (Kd.R_reads' a7.out).2.2|(with_reducible refine Kd.C_alloc ?_ _)|(with_reducible refine Kd.C_drewN ?_ _)|(with_reducible refine Kd.C_drew ?_)));(case side2=>exact (Kd.R_reads' a7.out).2.1);(case side3=>repeat (first|exact (Kd.R_reads' b9.out).2.2|(with_reducible refine Kd.C_alloc ?_ _)|(with_reducible refine Kd.C_drewN ?_ _)|(with_reducible refine Kd.C_drew ?_)));(case side4=>exact (Kd.R_reads' b9.out).2.1);rintro e t2 ⟨rfl,hb⟩;refine ⟨_,rfl,?_⟩;have a1:=zzm (Kd.R_below (by (with_reducible repeat (first|apply Kd.R_alloc|apply Kd.R_drewN|apply Kd.R_drew));exact a3.out) hb);have a2:=zzm (Kd.S_below (zzS a4.out) hb);have a5:=zzm (Kd.R_below (by (with_reducible repeat (first|apply Kd.R_alloc|apply Kd.R_drewN|apply Kd.R_drew));exact a7.out) hb);have a8:=zzm (Kd.S_below (zzS a9.out) hb);have b2:=zzm (Kd.R_below (by (with_reducible repeat (first|apply Kd.R_alloc|apply Kd.R_drewN|apply Kd.R_drew));exact b9.out) hb);have e0:=zzm (zzp zzh1 hb);clear a3 a4 a7 a9 b9 HB;have a3:=a1;have a4:=a2;have a7:=a5;have a9:=a8;have b9:=b2;have HB:=e0;clear a1 a2 a5 a8 b2 e0;(try clear hb);(try clear hb2);(try clear hk);(try clear hi)));go_ret;exact ⟨zzR,zzh1⟩
  ·
   replace g4:=Bool.eq_false_iff.mpr g4;subst g4;replace H:=zzIf H;obtain rfl:=Option.some.inj H;go_enter Try.func3,Try.ntmps3;go_wp2_with (first|((with_reducible refine gate_callee (f:=4) rfl ?_);refine goesL_ (some 13) rfl rfl Try.func4 (by kernel_rfl) rfl #[.slice A0 l0.length c0,.int .i64 1048576] rfl zzM2 ?_;(with_reducible refine (Qu.calls k _ _ l0 1048576 d8 _ ?side1 ?side2 A2.out).mono ?_);(case side1=>repeat (first|exact d3.out|(with_reducible refine Kd.C_alloc ?_ _)|(with_reducible refine Kd.C_drewN ?_ _)|(with_reducible refine Kd.C_drew ?_)));(case side2=>exact d4.out);rintro e t3 ⟨rfl,hb⟩;refine ⟨_,rfl,?_⟩;have a1:=zzm (zzp zzh1 hb);clear HB;have HB:=a1;clear a1;(try clear hb);(try clear hb2);(try clear hk);(try clear hi))|((with_reducible refine gate_callee (f:=6) rfl ?_);refine goesL_ (some 17) rfl rfl Try.func6 (by kernel_rfl) rfl #[.slice A0 l0.length c0] rfl zzM2 ?_;(with_reducible refine (Qh.calls k _ _ l0 d5 _ ?side1 ?side2 A5.out).mono ?_);(case side1=>exact zzcb d3 HB);(case side2=>exact d4.out);rintro e t4 ⟨j2,rfl,ho0,hb⟩;refine ⟨_,rfl,?_⟩;have a1:=zzm (Kd.R_lower ho0 (zzo zzh1));have a2:=zzm (zzp zzh1 hb);clear HB;have a3:=a1;have HB:=a2;clear a1 a2;(try clear hb);(try clear hb2);(try clear hk);(try clear hi);(try clear ho0);obtain ⟨o6,o7,eo86⟩:=Kd.R_slice a3.out;subst eo86)|((with_reducible refine gate_callee (f:=5) rfl ?_);refine goesL_ (some 18) rfl rfl Try.func5 (by kernel_rfl) rfl #[.slice o6 d5.length o7] rfl zzM2 ?_;(with_reducible refine (Qd.calls k _ _ d5 b5 _ ?side1 ?side2 A6.out).mono ?_);(case side1=>repeat (first|exact (Kd.R_reads' a3.out).2.2|(with_reducible refine Kd.C_alloc ?_ _)|(with_reducible refine Kd.C_drewN ?_ _)|(with_reducible refine Kd.C_drew ?_)));(case side2=>exact (Kd.R_reads' a3.out).2.1);rintro e t5 ⟨j3,rfl,ho0,hb⟩;refine ⟨_,rfl,?_⟩;have a1:=zzm (Kd.R_elder' (by (with_reducible repeat (first|apply Kd.R_alloc|apply Kd.R_drewN|apply Kd.R_drew));exact a3.out) (Kd.S_base ho0) hb);have a2:=zzm (Kd.S_lower ho0 (zzo zzh1));have a5:=zzm (zzp zzh1 hb);clear a3 HB;have a3:=a1;have a4:=a2;have HB:=a5;clear a1 a2 a5;(try clear hb);(try clear hb2);(try clear hk);(try clear hi);(try clear ho0))|((with_reducible refine gate_callee (f:=6) rfl ?_);refine goesL_ (some 20) rfl rfl Try.func6 (by kernel_rfl) rfl #[.slice A0 l0.length c0] rfl zzM2 ?_;(with_reducible refine (Qh.calls k _ _ l0 c2 _ ?side1 ?side2 A7.out).mono ?_);(case side1=>exact zzcb d3 HB);(case side2=>exact d4.out);rintro e t6 ⟨j4,rfl,ho0,hb⟩;refine ⟨_,rfl,?_⟩;have a1:=zzm (Kd.R_elder' (by (with_reducible repeat (first|apply Kd.R_alloc|apply Kd.R_drewN|apply Kd.R_drew));exact a3.out) (Kd.R_base ho0) hb);have a2:=zzm (Kd.S_below (zzS a4.out) hb);have a5:=zzm (Kd.R_lower (Kd.R_new' (Kd.R_new' ho0 (Kd.R_lt (by (with_reducible repeat (first|apply Kd.R_alloc|apply Kd.R_drewN|apply Kd.R_drew));exact a3.out))) (Kd.S_lt (zzS a4.out))) (zzo zzh1));have a8:=zzm (zzp zzh1 hb);clear a3 a4 HB;have a3:=a1;have a4:=a2;have a7:=a5;have HB:=a8;clear a1 a2 a5 a8;(try clear hb);(try clear hb2);(try clear hk);(try clear hi);(try clear ho0);obtain ⟨o8,o9,eo89⟩:=Kd.R_slice a7.out;subst eo89)|((with_reducible refine gate_callee (f:=7) rfl ?_);refine goesL_ (some 22) rfl rfl Try.func7 (by kernel_rfl) rfl #[.slice o8 c2.length o9] rfl zzM2 ?_;(with_reducible refine (Qz.calls k _ _ c2 b0 _ ?side1 ?side2 A8.out).mono ?_);(case side1=>repeat (first|exact (Kd.R_reads' a7.out).2.2|(with_reducible refine Kd.C_alloc ?_ _)|(with_reducible refine Kd.C_drewN ?_ _)|(with_reducible refine Kd.C_drew ?_)));(case side2=>exact (Kd.R_reads' a7.out).2.1);rintro e t7 ⟨j5,rfl,ho0,hb⟩;replace ho0:=S_weakA ho0;refine ⟨_,rfl,?_⟩;have a1:=zzm (Kd.R_elder' (by (with_reducible repeat (first|apply Kd.R_alloc|apply Kd.R_drewN|apply Kd.R_drew));exact a3.out) (Kd.S_base ho0) hb);have a2:=zzm (Kd.S_elder' (zzS a4.out) (Kd.S_base ho0) hb);have a5:=zzm (Kd.R_elder' (by (with_reducible repeat (first|apply Kd.R_alloc|apply Kd.R_drewN|apply Kd.R_drew));exact a7.out) (Kd.S_base ho0) hb);have a8:=zzm (Kd.S_lower (Kd.S_new' ho0 (Kd.S_lt (zzS a4.out))) (zzo zzh1));have b2:=zzm (zzp zzh1 hb);clear a3 a4 a7 HB;have a3:=a1;have a4:=a2;have a7:=a5;have a9:=a8;have HB:=b2;clear a1 a2 a5 a8 b2;(try clear hb);(try clear hb2);(try clear hk);(try clear hi);(try clear ho0);obtain ⟨p0,p1,eo91⟩:=Kd.S_slice a9.out;subst eo91;obtain ⟨p3,p4,eo92⟩:=Kd.S_slice a4.out;subst eo92)|((with_reducible refine gate_callee (f:=8) rfl ?_);refine goesL_ (some 25) rfl rfl Try.func8 (by kernel_rfl) rfl #[.slice p0 b0.length p1,.slice p3 b5.length p4] rfl zzM2 ?_;(with_reducible refine (Qe.calls k _ _ b0 _ _ b5 false _ ?side1 ?side2 ?side3 ?side4 A9.out).mono ?_);(case side1=>repeat (first|exact (Kd.S_reads' a9.out).2.2|(with_reducible refine Kd.C_alloc ?_ _)|(with_reducible refine Kd.C_drewN ?_ _)|(with_reducible refine Kd.C_drew ?_)));(case side2=>exact (Kd.S_reads' a9.out).2.1);(case side3=>repeat (first|exact (Kd.S_reads' a4.out).2.2|(with_reducible refine Kd.C_alloc ?_ _)|(with_reducible refine Kd.C_drewN ?_ _)|(with_reducible refine Kd.C_drew ?_)));(case side4=>exact (Kd.S_reads' a4.out).2.1);rintro e t8 ⟨rfl,hb⟩;refine ⟨_,rfl,?_⟩;have a1:=zzm (Kd.R_below (by (with_reducible repeat (first|apply Kd.R_alloc|apply Kd.R_drewN|apply Kd.R_drew));exact a3.out) hb);have a2:=zzm (Kd.S_below (zzS a4.out) hb);have a5:=zzm (Kd.R_below (by (with_reducible repeat (first|apply Kd.R_alloc|apply Kd.R_drewN|apply Kd.R_drew));exact a7.out) hb);have a8:=zzm (Kd.S_below (zzS a9.out) hb);have b2:=zzm (zzp zzh1 hb);clear a3 a4 a7 a9 HB;have a3:=a1;have a4:=a2;have a7:=a5;have a9:=a8;have HB:=b2;clear a1 a2 a5 a8 b2;(try clear hb);(try clear hb2);(try clear hk);(try clear hi)));go_ret;exact ⟨zzR,zzh1⟩
end Go.Proofs.Ytppaknpjgkaciaa.T
namespace Go.Proofs.Ytppaknpjgkaciaa.Q
open Go.RowKit Go.Proofs.Ytppaknpjgkaciaa.T Go.Proofs.YtppaknpjgkaciaaW.PrintWords Go.Proofs.YtppaknpjgkaciaaW.PrintLast
set_option linter.unusedVariables false
set_option linter.unusedSimpArgs false
theorem uptoI_get (a:Int) (n j:Nat) (h:j < n):rd (uptoI a n) (j:Int)=a+(j:Int):=by
 unfold rd
 rw [Int.toNat_natCast,List.getD_eq_getElem?_getD]
 have:∀ (n j:Nat) (a:Int),j < n→(uptoI a n)[j]? = some (a+(j:Int)):=by
  intro n
  induction n with
  | zero=>intro j a h;omega
  | succ n ih=>
   intro j a h
   cases j with
   | zero=>simp [uptoI]
   | succ j=>
    show (uptoI (a+1) n)[j]? = _
    rw [ih j (a+1) (by omega)]
    congr 1
    omega
 rw [this n j a h]
 rfl
theorem heldInts (n:Nat) (a:Int) (h0 : 0≤a) (h1:a+(n:Int)≤9000000000000000000):Ev (fun k=>Qo.f k (uptoI a n) a) (a+(n:Int)):=by
 have loop:∀ (d i:Nat),n - i=d→i≤n→Ev (fun k=>Qo.l0 k (uptoI a n) (a+(i:Int)) (i:Int)) (a+(n:Int)):=by
  intro d
  induction d with
  | zero=>
   intro i hd hi
   obtain rfl:i=n:=by omega
   refine ev_succ ?_
   simp only [Qo.l0,uptoI_len,if_neg (show ¬ (i:Int) < (i:Int) by omega)]
   exact ev_some _
  | succ d ih=>
   intro i hd hi
   have e1:wrap64 ((i:Int)+1)=((i+1:Nat):Int):=by rw [wrap_id (by omega) (by omega)];omega
   have e2:wrap64 (a+(i:Int)+1)=a+((i+1:Nat):Int):=by rw [wrap_id (by omega) (by omega)];omega
   refine ev_succ ?_
   simp only [Qo.l0,uptoI_len,if_pos (show (i:Int) < (n:Int) by omega),if_pos (show (0:Int)≤(i:Int) by omega),uptoI_get a n i (by omega),if_true,e1,e2]
   exact ih (i+1) (by omega) (by omega)
 unfold Qo.f
 have h:=loop n 0 rfl (by omega)
 rw [show a+((0:Nat):Int)=a by omega] at h
 exact h
theorem markL_get (l:List Rc):∀ (m:Nat) (a:Int) (x:Rc),l[m]? = some x→(markL l a)[m]? = some (mkRX x (a+(cntL (l.take m):Int))):=by
 induction l with
 | nil=>intro m a x h;simp at h
 | cons y t ih=>
  intro m a x h
  cases m with
  | zero=>
   have:y=x:=by simpa using h
   subst this
   simp [markL,cntL]
  | succ m=>
   have h' : t[m]? = some x:=by simpa using h
   show (markL t (a+(cntX y:Int)))[m]? = _
   rw [ih m _ x h',List.take_succ_cons,cntL]
   congr 2
   omega
theorem rr_mark (l:List Rc) (a:Int) (m:Nat) (h:m < l.length):rr (markL l a) (m:Int)=mkRX l[m] (a+(cntL (l.take m):Int)):=by
 have h1:=markL_get l m a _ (List.getElem?_eq_getElem h)
 have h2:m < (markL l a).length:=by rw [markL_len];exact h
 rw [rr_nat _ m h2]
 exact (List.getElem?_eq_some_iff.1 h1).2
theorem heldRecs (l:List Rc) (a:Int) (h0 : 0≤a) (h1:a+(cntL l:Int)≤9000000000000000000):Ev (fun k=>Qi.f k (markL l a) a) (a+(cntL l:Int)):=by
 have loop:∀ (d i:Nat),l.length - i=d→i≤l.length→Ev (fun k=>Qi.l0 k (markL l a) (a+(cntL (l.take i):Int)) (i:Int)) (a+(cntL l:Int)):=by
  intro d
  induction d with
  | zero=>
   intro i hd hi
   obtain rfl:i=l.length:=by omega
   rw [List.take_length]
   refine ev_succ ?_
   simp only [Qi.l0,markL_len,if_neg (show ¬ (l.length:Int) < (l.length:Int) by omega)]
   exact ev_some _
  | succ d ih=>
   intro i hd hi
   have hlt:i < l.length:=by omega
   have hle:=le_cntL l
   have e1:wrap64 ((i:Int)+1)=((i+1:Nat):Int):=by rw [wrap_id (by omega) (by omega)];omega
   have hr:=rr_mark l a i hlt
   have hc:=cnt_at l (List.getElem?_eq_getElem hlt)
   have ht:=cntL_take l (i+1)
   generalize l[i]=x at hr hc
   obtain ⟨kk,hkk⟩:∃ kk:Int,kk=a+(cntL (l.take i):Int):=⟨_,rfl⟩
   rw [← hkk] at hr
   rw [← hkk]
   have hcx:cntX x=4+x.f3.length+x.f5.length:=rfl
   have w1:wrap64 (kk+1)=kk+1:=wrap_id (by omega) (by omega)
   have w2:wrap64 (kk+1+1)=kk+1+1:=wrap_id (by omega) (by omega)
   have w3:wrap64 (kk+1+1+1)=kk+1+1+1:=wrap_id (by omega) (by omega)
   have w4:wrap64 (kk+1+1+1+(x.f3.length:Int)+1)=kk+1+1+1+(x.f3.length:Int)+1:=wrap_id (by omega) (by omega)
   have hi1:=heldInts x.f3.length (kk+1+1+1) (by omega) (by omega)
   have hi2:=heldInts x.f5.length (kk+1+1+1+(x.f3.length:Int)+1) (by omega) (by omega)
   have ih':=ih (i+1) (by omega) (by omega)
   have hend:a+(cntL (l.take (i+1)):Int)=kk+1+1+1+(x.f3.length:Int)+1+(x.f5.length:Int):=by omega
   rw [hend] at ih'
   have hn1:¬ kk+1+1+1+(x.f3.length:Int) < 0:=by omega
   have hn2:¬ kk+1+1+1+(x.f3.length:Int)+1+(x.f5.length:Int) < 0:=by omega
   have hr' : Qb (markL l a) (i:Int)=mkRX x kk:=hr
   refine ev_succ ?_
   simp only [Qi.l0,markL_len,if_pos (show (i:Int) < (l.length:Int) by omega),if_pos (show (0:Int)≤(i:Int) by omega),hr',mkRX,if_true,w1,w2,w3,bne_self_eq_false,Bool.false_eq_true,if_false,e1]
   refine Ev.bind hi1 ?_
   simp only [if_neg hn1,bne_self_eq_false,Bool.false_eq_true,if_false,w4]
   refine Ev.bind hi2 ?_
   simp only [if_neg hn2]
   exact ih'
 unfold Qi.f
 have h:=loop l.length 0 rfl (by omega)
 rw [show a+(cntL (l.take 0):Int)=a by simp [cntL]] at h
 exact h
theorem cntL_bound (l:List Rc) (hl:l.length≤1048576) (hx:∀ x∈l,okRc x):cntL l≤2199027449856:=by
 have:∀ l:List Rc,(∀ x∈l,okRc x)→cntL l≤l.length * 2097156:=by
  intro l
  induction l with
  | nil=>intro _;simp [cntL]
  | cons y t ih=>
   intro hx
   have h1:=hx y List.mem_cons_self
   have h2:=ih (fun x hx'=>hx x (List.mem_cons_of_mem _ hx'))
   have h3:cntX y=4+y.f3.length+y.f5.length:=rfl
   have h4:=h1.1
   have h5:=h1.2
   simp only [cntL,List.length_cons]
   omega
 have:=this l hx
 omega
theorem markRecs (l:List Rc) (hl:l.length≤1048576) (hx:∀ x∈l,okRc x):Q2.f l 1=some (1+(cntL l:Int),markL l 1)∧Ev (fun k=>Qi.f k (markL l 1) 1) (1+(cntL l:Int)):=by
 have hb:=cntL_bound l hl hx
 refine ⟨?_,heldRecs l 1 (by omega) (by omega)⟩
 unfold Q2.f
 rw [if_pos ⟨by omega,by omega⟩]
theorem cntR_boundU (len:Nat→Nat×Nat):∀ n,(∀ i,i < n→(len i).1≤1048576∧(len i).2≤1048576)→cntR len n≤n * 2097156
 | 0,_=>Nat.le_refl _
 | n+1,h=>by
  have h1:=cntR_boundU len n (fun i hi=>h i (by omega))
  have h2:=h n (by omega)
  have h3:cntR len (n+1)=cntR len n+(4+(len n).1+(len n).2):=rfl
  omega
theorem cntB_boundU (num:Nat→Nat) (len:Nat→Nat→Nat×Nat):∀ n,(∀ i,i < n→num i≤1048576∧∀ j,j < num i→(len i j).1≤1048576∧(len i j).2≤1048576)→cntB num len n≤n * 2199027449861
 | 0,_=>Nat.le_refl _
 | n+1,h=>by
  have h1:=cntB_boundU num len n (fun i hi=>h i (by omega))
  have h2:=h n (by omega)
  have h4:=cntR_boundU (len n) (num n) h2.2
  have h3:cntB num len (n+1)=cntB num len n+(5+cntR (len n) (num n)):=rfl
  omega
theorem markBatchS_f (l:List Bt) (hl:l.length≤1048576) (hx:∀ x∈l,okBt x):∃ z,Re.f l 1=some z∧0≤z:=by
 have hb:=cntB_boundU (numB l) (lenB l) l.length (fun i hi=>by
  have e:Qa l (i:Int)=l[i]:=rb_nat l i hi
  have h:=hx _ (List.getElem_mem hi)
  rw [← e] at h
  refine ⟨h.1,fun j hj=>?_⟩
  have e2:Qb (Qa l (i:Int)).f5 (j:Int)=(Qa l (i:Int)).f5[j]:=rr_nat _ j hj
  have h2:=h.2 _ (List.getElem_mem hj)
  rw [← e2] at h2
  exact h2)
 have ho:okMarkB l 1=true:=by
  unfold okMarkB
  rw [decide_eq_true_eq]
  omega
 unfold Re.f
 rw [if_pos ho]
 exact ⟨_,rfl,by omega⟩
end Go.Proofs.Ytppaknpjgkaciaa.Q
namespace Go.Proofs.Ytppaknpjgkaciaa.Q
open Go.RowKit Go.Proofs.Ytppaknpjgkaciaa.T Go.Proofs.YtppaknpjgkaciaaW.PrintWords Go.Proofs.YtppaknpjgkaciaaW.PrintLast
set_option linter.unusedVariables false
set_option linter.unusedSimpArgs false
theorem vl_true {l:List Bt} (h:VL l):vl l=true:=(vl_iff l).2 h
theorem vl_false {l:List Bt} (h:¬ VL l):vl l=false:=by rw [← Bool.not_eq_true,vl_iff];exact h
theorem wstep (j:Nat) (h:j < 4000000000000000):wrap64 ((j:Int)+1)=((j+1:Nat):Int):=by rw [wrap_id (by omega) (by omega)];omega
def okc (r:Rc):Prop:=r.f3.length≤1048576∧r.f5.length≤1048576
theorem pv_len {has:Bool} {l:List Int} (h:pv has l=true):l.length≤12:=by
 unfold pv at h
 split at h
 ·rw [Bool.and_eq_true,decide_eq_true_eq] at h
  exact h.1
 ·rw [decide_eq_true_eq] at h
  omega
theorem rv_okc {r:Rc} (h:rv r=true):r.f3.length≤12∧r.f5.length≤12:=by
 unfold rv at h
 rw [Bool.and_eq_true,Bool.and_eq_true] at h
 exact ⟨pv_len h.2.1,pv_len h.2.2⟩
theorem rv_range {r:Rc} (h:rv r=true) : 0≤r.f0∧r.f0≤99999:=by
 unfold rv at h
 rw [Bool.and_eq_true,decide_eq_true_eq] at h
 exact h.1.1
theorem rv_key {r:Rc} (h:rv r=true) (h2:r.f2=true):ab r.f3=true:=by
 unfold rv pv at h
 rw [Bool.and_eq_true,Bool.and_eq_true,if_pos h2,Bool.and_eq_true] at h
 exact h.2.1.2
theorem mem_pts {l:List Bt} {x:Nat×Nat} : x∈pts l↔x.1 < l.length∧x.2 < (rb l (x.1:Int)).f5.length:=by
 unfold pts ptsTo ptsRow
 rw [List.mem_flatMap]
 constructor
 ·rintro ⟨i,hi,hx⟩
  obtain ⟨j,hj,rfl⟩:=List.mem_map.1 hx
  exact ⟨List.mem_range.1 hi,List.mem_range.1 hj⟩
 ·rintro ⟨h1,h2⟩
  exact ⟨x.1,List.mem_range.2 h1,List.mem_map.2 ⟨x.2,List.mem_range.2 h2,rfl⟩⟩
def offP (l:List Bt) (x:Nat×Nat):Int:=(rcOf l x).f0
theorem rv_at {l:List Bt} (h:VL l) {x:Nat×Nat} (hx:x∈pts l):rv (rcOf l x)=true:=by
 obtain ⟨h1,h2⟩:=mem_pts.1 hx
 exact ((VL_at h x.1 h1).2.2.2 x.2 (Nat.zero_le _) h2).1
theorem RF_le {r:List Rc} (h:RF r 0) {i j:Nat} (hij:i≤j) (hj:j < r.length):(rr r (i:Int)).f0≤(rr r (j:Int)).f0:=by
 rcases Nat.lt_or_ge i j with h1|h1
 ·have:=RF_lt h (j - i - 1) i (by omega)
  rw [show i+(j - i - 1)+1=j by omega] at this
  omega
 ·rw [show i=j by omega];exact Int.le_refl _
theorem fOff_le_at {l:List Bt} (h:VL l) {x:Nat×Nat} (hx:x∈pts l):fOff (rb l (x.1:Int))≤offP l x:=by
 obtain ⟨h1,h2⟩:=mem_pts.1 hx
 exact RF_le (VL_at h x.1 h1).2.2.2 (Nat.zero_le x.2) h2
theorem lOff_ge_at {l:List Bt} (h:VL l) {x:Nat×Nat} (hx:x∈pts l):offP l x≤lOff (rb l (x.1:Int)):=by
 obtain ⟨h1,h2⟩:=mem_pts.1 hx
 have:=RF_le (VL_at h x.1 h1).2.2.2 (show x.2≤(rb l (x.1:Int)).f5.length - 1 by omega) (by omega)
 unfold lOff
 rw [show ((rb l (x.1:Int)).f5.length:Int) - 1=(((rb l (x.1:Int)).f5.length - 1:Nat):Int) by omega]
 exact this
theorem VL_cross {l:List Bt} (h:VL l) {i j:Nat} (hij:i < j) (hj:j < l.length):lOff (rb l (i:Int)) < fOff (rb l (j:Int)):=by
 have h1:=(h.2 (i+1) (Nat.zero_le _) (by omega)).2 (by omega)
 rw [show ((i+1:Nat):Int) - 1=(i:Int) by omega] at h1
 rcases Nat.lt_or_ge (i+1) j with h2|h2
 ·have:=VL_lt' h h2 hj
  omega
 ·rw [show j=i+1 by omega];exact h1
theorem off_lt {l:List Bt} (h:VL l) {x y:Nat×Nat} (hx:x∈pts l) (hy:y∈pts l) (hlt:x.1 < y.1∨(x.1=y.1∧x.2 < y.2)):offP l x < offP l y:=by
 rcases hlt with h1|⟨h1,h2⟩
 ·have a:=lOff_ge_at h hx
  have b:=fOff_le_at h hy
  have c:=VL_cross h h1 (mem_pts.1 hy).1
  omega
 ·obtain ⟨y1,y2⟩:=mem_pts.1 hy
  have:=RF_lt (VL_at h y.1 y1).2.2.2 (y.2 - x.2 - 1) x.2 (by omega)
  rw [show x.2+(y.2 - x.2 - 1)+1=y.2 by omega] at this
  show (rr (rb l (x.1:Int)).f5 (x.2:Int)).f0 < (rr (rb l (y.1:Int)).f5 (y.2:Int)).f0
  rw [h1]
  exact this
theorem pts_lex (l:List Bt):(pts l).Pairwise (fun x y=>x.1 < y.1∨(x.1=y.1∧x.2 < y.2)):=by
 unfold pts ptsTo
 rw [List.pairwise_flatMap]
 refine ⟨fun i hi=>?_,?_⟩
 ·unfold ptsRow
  rw [List.pairwise_map]
  exact List.pairwise_lt_range.imp (fun hab=>.inr ⟨rfl,hab⟩)
 ·refine List.pairwise_lt_range.imp (fun {i j} hij x hx y hy=>?_)
  unfold ptsRow at hx hy
  obtain ⟨a,_,rfl⟩:=List.mem_map.1 hx
  obtain ⟨b,_,rfl⟩:=List.mem_map.1 hy
  exact .inl hij
theorem pts_sorted {l:List Bt} (h:VL l):(pts l).Pairwise (fun x y=>offP l x < offP l y):=
 (pts_lex l).imp_of_mem (fun hx hy hlt=>off_lt h hx hy hlt)
theorem ptsTo_len {l:List Bt} (h:VL l):∀ i,i≤l.length→(ptsTo l i).length≤6 * i
 | 0,_=>by simp [ptsTo]
 | i+1,hi=>by
  have ih:=ptsTo_len h i (by omega)
  have h1:=(vB_pos (VL_at h i (by omega))).2
  rw [ptsTo_succ,List.length_append]
  have h2:(ptsRow l i).length=(rb l (i:Int)).f5.length:=by unfold ptsRow;rw [List.length_map,List.length_range]
  omega
theorem pts_len {l:List Bt} (h:VL l):(pts l).length≤48:=by
 have:=ptsTo_len h l.length (Nat.le_refl _)
 have:=h.1
 show (ptsTo l l.length).length≤48
 omega
theorem rv_mem {l:List Bt} (h:VL l) {b:Bt} (hb:b∈l) {r:Rc} (hr:r∈b.f5):rv r=true:=by
 obtain ⟨j,hj,rfl⟩:=List.getElem_of_mem hb
 obtain ⟨q,hq,rfl⟩:=List.getElem_of_mem hr
 have:=((VL_at h j hj).2.2.2 q (Nat.zero_le _) (by rw [rb_nat l j hj];exact hq)).1
 rw [rb_nat l j hj,rr_nat _ q hq] at this
 exact this
theorem okLog_of {l:List Bt} (h:VL l):okLog l=true:=by
 unfold okLog
 have h1:=pts_len h
 rw [Bool.and_eq_true,decide_eq_true_eq,List.all_eq_true]
 refine ⟨by omega,fun b hb=>?_⟩
 rw [List.all_eq_true]
 intro r hr
 have hv:=rv_mem h hb hr
 have h2:=rv_range hv
 have h3:=rv_okc hv
 rw [Bool.and_eq_true,Bool.and_eq_true,Bool.and_eq_true,decide_eq_true_eq,decide_eq_true_eq,decide_eq_true_eq]
 refine ⟨⟨h2,by omega⟩,by omega,?_⟩
 rw [Bool.or_eq_true]
 cases hk:r.f2 with
 | false=>exact .inl rfl
 | true=>
  right
  have h4:=rv_key hv hk
  unfold ab at h4
  rw [decide_eq_true_eq] at h4
  unfold keyOk
  rw [Bool.and_eq_true,decide_eq_true_eq,List.all_eq_true]
  exact ⟨by omega,fun x hx=>by rw [decide_eq_true_eq];exact h4 x hx⟩
theorem hexDig_inj:∀ a b:Fin 16,hexDig ((a.1:Nat):Int)=hexDig ((b.1:Nat):Int)→a=b:=by decide +kernel
theorem hexDig_eq {x y:Int} (h0 : 0≤x) (h1:x < 16) (h2 : 0≤y) (h3:y < 16) (h:hexDig x=hexDig y):x=y:=by
 have:=hexDig_inj ⟨x.toNat,by omega⟩ ⟨y.toNat,by omega⟩ (by
  show hexDig ((x.toNat:Nat):Int)=hexDig ((y.toNat:Nat):Int)
  rw [Int.toNat_of_nonneg h0,Int.toNat_of_nonneg h2]
  exact h)
 have:=congrArg Fin.val this
 dsimp only at this
 omega
theorem hexOf_inj:∀ {a b:List Int},ab a=true→ab b=true→hexOf a=hexOf b→a=b
 | [],[],_,_,_=>rfl
 | [],y::b,_,_,h=>by simp [hexOf] at h
 | x::a,[],_,_,h=>by simp [hexOf] at h
 | x::a,y::b,ha,hb,h=>by
  rw [ab_cons,Bool.and_eq_true,decide_eq_true_eq] at ha hb
  have h1:hexDig (x / 16)=hexDig (y / 16)∧hexDig (x % 16)=hexDig (y % 16)∧hexOf a=hexOf b:=by
   have h2 : [hexDig (x / 16),hexDig (x % 16)]++hexOf a = [hexDig (y / 16),hexDig (y % 16)]++hexOf b:=h
   simp only [List.cons_append,List.nil_append,List.cons.injEq] at h2
   exact h2
  have e1:=hexDig_eq (by omega) (by omega) (by omega) (by omega) h1.1
  have e2:=hexDig_eq (by omega) (by omega) (by omega) (by omega) h1.2.1
  rw [hexOf_inj ha.2 hb.2 h1.2.2,show x=y by omega]
def cnd (l:List Bt) (kk:List UInt8) (x:Nat×Nat):Bool:=!mkOf l x&&((rcOf l x).f2&&decide (hexOf (rcOf l x).f3=kk))
theorem offStep_eq (l:List Bt) (kk:List UInt8) (a:Int) (x:Nat×Nat):offStep l kk a x=if cnd l kk x=true then offP l x else a:=rfl
theorem fold_none (l:List Bt) (kk:List UInt8):∀ (xs:List (Nat×Nat)) (a:Int),(∀ x∈xs,cnd l kk x=false)→xs.foldl (offStep l kk) a=a
 | [],a,_=>rfl
 | x::xs,a,h=>by
  rw [List.foldl_cons,offStep_eq,h x (List.mem_cons_self ..),if_neg (by simp)]
  exact fold_none l kk xs a (fun y hy=>h y (List.mem_cons_of_mem _ hy))
theorem fold_last (l:List Bt) (kk:List UInt8):∀ (xs:List (Nat×Nat)) (a:Int),xs.Pairwise (fun x y=>offP l x < offP l y)→(∃ x∈xs,cnd l kk x=true) →
  ∃ y∈xs,cnd l kk y=true∧xs.foldl (offStep l kk) a=offP l y∧∀ z∈xs,cnd l kk z=true→offP l z≤offP l y
 | [],a,_,h=>by obtain ⟨x,hx,_⟩:=h;cases hx
 | x::xs,a,hp,h=>by
  rw [List.pairwise_cons] at hp
  by_cases h1:∃ y∈xs,cnd l kk y=true
  ·obtain ⟨y,hy,hc,he,hm⟩:=fold_last l kk xs (offStep l kk a x) hp.2 h1
   refine ⟨y,List.mem_cons_of_mem _ hy,hc,he,fun z hz hzc=>?_⟩
   rcases List.mem_cons.1 hz with rfl|hz
   ·have:=hp.1 y hy;omega
   ·exact hm z hz hzc
  ·have h2:∀ y∈xs,cnd l kk y=false:=fun y hy=>by
    cases hc:cnd l kk y with
    | false=>rfl
    | true=>exact absurd ⟨y,hy,hc⟩ h1
   obtain ⟨y,hy,hc⟩:=h
   have hxc:cnd l kk x=true:=by
    rcases List.mem_cons.1 hy with rfl|hy
    ·exact hc
    ·rw [h2 y hy] at hc;cases hc
   refine ⟨x,List.mem_cons_self ..,hxc,?_,fun z hz hzc=>?_⟩
   ·rw [List.foldl_cons,fold_none l kk xs _ h2,offStep_eq,if_pos hxc]
   ·rcases List.mem_cons.1 hz with rfl|hz
    ·exact Int.le_refl _
    ·rw [h2 z hz] at hzc;cases hzc
def LatAt (l:List Bt) (r:Rc) (x:Nat×Nat):Prop:=mkOf l x=false∧(rcOf l x).f2=true∧r.f0 < (rcOf l x).f0∧(rcOf l x).f3=r.f3
def LaterP (l:List Bt) (r:Rc):Prop:=∃ x∈pts l,LatAt l r x
theorem cnd_key {l:List Bt} (h:VL l) {x y:Nat×Nat} (hx:x∈pts l) (hy:y∈pts l) (h2:(rcOf l x).f2=true):cnd l (hexOf (rcOf l x).f3) y=true↔mkOf l y=false∧(rcOf l y).f2=true∧(rcOf l y).f3=(rcOf l x).f3:=by
 unfold cnd
 rw [Bool.and_eq_true,Bool.and_eq_true,decide_eq_true_eq]
 constructor
 ·rintro ⟨a,b,c⟩
  exact ⟨by simpa using a,b,hexOf_inj (rv_key (rv_at h hy) b) (rv_key (rv_at h hx) h2) c⟩
 ·rintro ⟨a,b,c⟩
  exact ⟨by simpa using a,b,by rw [c]⟩
theorem last_iff {l:List Bt} (h:VL l) {x:Nat×Nat} (hx:x∈pts l) (hm:mkOf l x=false) (h2:(rcOf l x).f2=true):lastOff l (pts l) (hexOf (rcOf l x).f3)=(rcOf l x).f0↔¬ LaterP l (rcOf l x):=by
 obtain ⟨y,hy,hc,he,hmax⟩:=fold_last l (hexOf (rcOf l x).f3) (pts l) 0 (pts_sorted h) ⟨x,hx,(cnd_key h hx hx h2).2 ⟨hm,h2,rfl⟩⟩
 obtain ⟨y1,y2,y3⟩:=(cnd_key h hx hy h2).1 hc
 have hxy:=hmax x hx ((cnd_key h hx hx h2).2 ⟨hm,h2,rfl⟩)
 unfold lastOff
 rw [he]
 constructor
 ·rintro e ⟨z,hz,z1,z2,z3,z4⟩
  have:=hmax z hz ((cnd_key h hx hz h2).2 ⟨z1,z2,z4⟩)
  have e1:offP l z=(rcOf l z).f0:=rfl
  omega
 ·intro hn
  have:¬ (rcOf l x).f0 < (rcOf l y).f0:=fun hlt=>hn ⟨y,hy,y1,y2,hlt,y3⟩
  have e1:offP l y=(rcOf l y).f0:=rfl
  have e2:offP l x=(rcOf l x).f0:=rfl
  omega
theorem keep_iff {l:List Bt} (h:VL l) {x:Nat×Nat} (hx:x∈pts l) (gone:Bool):stayB l gone x=true↔mkOf l x=true∨((rcOf l x).f2=true∧((rcOf l x).f4=true∨gone=true)∧¬ LaterP l (rcOf l x)):=by
 unfold stayB
 rw [Bool.or_eq_true,Bool.and_eq_true,Bool.and_eq_true,Bool.or_eq_true,beq_iff_eq]
 cases hm:mkOf l x with
 | true=>simp
 | false=>
  constructor
  ·rintro (h1|⟨h1,h2,h3⟩)
   ·cases h1
   ·exact .inr ⟨h1,h3,(last_iff h hx hm h1).1 h2⟩
  ·rintro (h1|⟨h1,h2,h3⟩)
   ·cases h1
   ·exact .inr ⟨h1,(last_iff h hx hm h1).2 h3,h2⟩
theorem l3Same_loop (a b:List Int) (hl:a.length=b.length) (hs:a.length≤1000000000000000):∀ (d i:Nat),a.length - i=d→i≤a.length→Ev (fun k=>Q3.l0 k a 0 b (i:Int)) (decide (a.drop i=b.drop i)):=by
 intro d
 induction d with
 | zero=>
  intro i hd hi
  rw [show a.drop i = [] from List.drop_eq_nil_of_le (by omega),show b.drop i = [] from List.drop_eq_nil_of_le (by omega)]
  refine ev_succ ?_
  simp only [Q3.l0,if_neg (show ¬ (i:Int) < (b.length:Int) by omega),decide_true]
  exact ev_some _
 | succ d ih=>
  intro i hd hi
  have e1:wrap64 ((i:Int)+1)=((i+1:Nat):Int):=by rw [wrap_id (by omega) (by omega)];omega
  have e0:wrap64 (0+(i:Int))=(i:Int):=by rw [wrap_id (by omega) (by omega)];omega
  rw [drop_int (show i < a.length by omega),drop_int (show i < b.length by omega)]
  refine ev_succ ?_
  simp only [Q3.l0,if_pos (show (i:Int) < (b.length:Int) by omega),e0,if_pos (show (0:Int)≤i by omega),if_pos (show (i:Int) < (a.length:Int) by omega),e1]
  by_cases h0:rd a i=rd b i
  ·simp only [if_pos h0]
   have:=ih (i+1) (by omega) (by omega)
   simpa [h0] using this
  ·simp only [if_neg h0]
   rw [decide_eq_false (by simp [h0])]
   exact ev_some _
theorem l16Same (a b:List Int) (hs:a.length≤1000000000000000):Ev (fun k=>Ri.f k a b) (decide (a=b)):=by
 unfold Ri.f
 by_cases hl:a.length=b.length
 ·simp only [if_pos (show (a.length:Int)=(b.length:Int) by omega)]
  have h:=l3Same_loop a b hl hs a.length 0 (by omega) (by omega)
  have e0:wrap64 (0+(b.length:Int))=(b.length:Int):=by rw [wrap_id (by omega) (by omega)];omega
  refine Ev.bind (g:=fun k=>Q3.f k a 0 b) (a:=decide (a=b)) ?_ (ev_some _)
  unfold Q3.f
  simp only [e0,if_neg (show ¬ (b.length:Int) > (a.length:Int) by omega)]
  simpa using h
 ·simp only [if_neg (show ¬ (a.length:Int)=(b.length:Int) by omega)]
  rw [decide_eq_false (fun e=>hl (by rw [e]))]
  exact ev_some _
def LatFrom (l:List Bt) (r:Rc) (i j:Nat):Prop:=∃ x∈pts l,(i < x.1∨(i=x.1∧j≤x.2))∧LatAt l r x
theorem LatFrom_step {l:List Bt} {r:Rc} {i j:Nat} (hi:i < l.length) (hj:j < (rb l (i:Int)).f5.length) (h:¬ LatAt l r (i,j)):LatFrom l r i j↔LatFrom l r i (j+1):=by
 constructor
 ·rintro ⟨x,hx,h1,h2⟩
  refine ⟨x,hx,?_,h2⟩
  rcases h1 with h1|⟨h1,h3⟩
  ·exact .inl h1
  ·rcases Nat.lt_or_ge j x.2 with h4|h4
   ·exact .inr ⟨h1,h4⟩
   ·have:x=(i,j):=Prod.ext h1.symm (by show x.2=j;omega)
    exact absurd (this ▸ h2) h
 ·rintro ⟨x,hx,h1,h2⟩
  exact ⟨x,hx,by omega,h2⟩
theorem LatFrom_next {l:List Bt} {r:Rc} {i j:Nat} (hj:¬ j < (rb l (i:Int)).f5.length):LatFrom l r i j↔LatFrom l r (i+1) 0:=by
 constructor
 ·rintro ⟨x,hx,h1,h2⟩
  refine ⟨x,hx,?_,h2⟩
  have h3:=(mem_pts.1 hx).2
  rcases h1 with h1|⟨h1,h4⟩
  ·omega
  ·rw [← h1] at h3
   omega
 ·rintro ⟨x,hx,h1,h2⟩
  exact ⟨x,hx,by omega,h2⟩
theorem later_loop (l:List Bt) (hl:smallBs l) (r:Rc):∀ (d i:Nat),l.length - i=d→i≤l.length→Evs (fun k=>Qg.l0 k l (i:Int) r.f0 r.f1 r.f2 r.f3 r.f4 r.f5) (fun b=>b=true↔LatFrom l r i 0):=by
 intro d
 induction d with
 | zero=>
  intro i hd hi
  refine Evs.succ ?_
  simp only [Qg.l0,if_neg (show ¬ (i:Int) < (l.length:Int) by omega)]
  refine Evs.done ⟨(fun h=>by cases h),?_⟩
  rintro ⟨x,hx,h1,_⟩
  have:=(mem_pts.1 hx).1
  omega
 | succ d ih=>
  intro i hd hi
  have hil:i < l.length:=by omega
  have hll:=hl.1
  have hsm:=smallBs_at hl i hil
  have e1:=wstep i (by omega)
  refine Evs.succ ?_
  simp only [Qg.l0,if_pos (show (i:Int) < (l.length:Int) by omega)]
  have inner:∀ (e j:Nat),(rb l (i:Int)).f5.length - j=e→j≤(rb l (i:Int)).f5.length→Evs (fun k=>Qg.l1 k l (i:Int) (j:Int) r.f0 r.f1 r.f2 r.f3 r.f4 r.f5) (fun b=>b=true↔LatFrom l r i j):=by
   intro e
   induction e with
   | zero=>
    intro j he hj
    refine Evs.succ ?_
    simp only [Qg.l1,if_pos (show 0≤(i:Int) by omega),if_pos (show (i:Int) < (l.length:Int) by omega),if_neg (show ¬ (j:Int) < ((rb l (i:Int)).f5.length:Int) by omega),e1]
    refine (ih (i+1) (by omega) (by omega)).mono (fun b hb=>hb.trans (LatFrom_next (by omega)).symm)
   | succ e ihe=>
    intro j he hj
    have hjl:j < (rb l (i:Int)).f5.length:=by omega
    have hls:=hsm.1
    have e2:=wstep j (by omega)
    have hnext:=ihe (j+1) (by omega) (by omega)
    refine Evs.succ ?_
    simp only [Qg.l1,if_pos (show 0≤(i:Int) by omega),if_pos (show (i:Int) < (l.length:Int) by omega),if_pos (show (j:Int) < ((rb l (i:Int)).f5.length:Int) by omega),if_pos (show 0≤(j:Int) by omega),e2]
    have hf1:(Qa l (i:Int)).f1=mkOf l (i,j):=rfl
    have hrc:Qb (Qa l (i:Int)).f5 (j:Int)=rcOf l (i,j):=rfl
    rw [hf1,hrc]
    by_cases c1:mkOf l (i,j)=true
    ·simp only [if_pos c1]
     exact hnext.mono (fun b hb=>hb.trans (LatFrom_step hil hjl (fun h=>by rw [h.1] at c1;cases c1)).symm)
    ·simp only [if_neg c1]
     by_cases c2:(rcOf l (i,j)).f2=true
     ·simp only [if_pos c2]
      by_cases c3:(rcOf l (i,j)).f0 > r.f0
      ·simp only [if_pos c3]
       refine Evs.bind (Evs.of (Q:=fun x=>x=decide ((rcOf l (i,j)).f3=r.f3)) (l16Same _ _ (smallRs_at hsm j hjl).1) rfl) ?_
       rintro _ rfl
       by_cases c4:(rcOf l (i,j)).f3=r.f3
       ·simp only [decide_eq_true c4,if_true]
        exact Evs.done ⟨fun _=>⟨(i,j),mem_pts.2 ⟨hil,hjl⟩,.inr ⟨rfl,Nat.le_refl _⟩,by simpa using c1,c2,c3,c4⟩,fun _=>rfl⟩
       ·simp only [decide_eq_false c4,Bool.false_eq_true,if_false]
        exact hnext.mono (fun b hb=>hb.trans (LatFrom_step hil hjl (fun h=>c4 h.2.2.2)).symm)
      ·simp only [if_neg c3]
       exact hnext.mono (fun b hb=>hb.trans (LatFrom_step hil hjl (fun h=>c3 h.2.2.1)).symm)
     ·simp only [if_neg c2]
      exact hnext.mono (fun b hb=>hb.trans (LatFrom_step hil hjl (fun h=>c2 h.2.1)).symm)
  exact inner (rb l (i:Int)).f5.length 0 (by omega) (by omega)
theorem specLater (l:List Bt) (hl:smallBs l) (r:Rc):Evs (fun k=>Qg.f k l r.f0 r.f1 r.f2 r.f3 r.f4 r.f5) (fun b=>b=true↔LaterP l r):=by
 unfold Qg.f
 refine (later_loop l hl r l.length 0 (by omega) (by omega)).mono (fun b hb=>hb.trans ⟨?_,?_⟩)
 ·rintro ⟨x,hx,_,h⟩;exact ⟨x,hx,h⟩
 ·rintro ⟨x,hx,h⟩;exact ⟨x,hx,by omega,h⟩
theorem specKeep (l:List Bt) (hl:smallBs l) (h:VL l) (i j:Nat) (hi:i < l.length) (hj:j < (rb l (i:Int)).f5.length) (gone:Bool) :
  Ev (fun k=>Rm.f k l (rb l (i:Int)).f0 (rb l (i:Int)).f1 (rb l (i:Int)).f2 (rb l (i:Int)).f3 (rb l (i:Int)).f4 (rb l (i:Int)).f5 (rcOf l (i,j)).f0 (rcOf l (i,j)).f1 (rcOf l (i,j)).f2 (rcOf l (i,j)).f3 (rcOf l (i,j)).f4 (rcOf l (i,j)).f5 gone) (stayB l gone (i,j)):=by
 have hx:(i,j)∈pts l:=mem_pts.2 ⟨hi,hj⟩
 have hk:=keep_iff h hx gone
 have hb:∀ {b:Bool},(b=true↔(mkOf l (i,j)=true∨((rcOf l (i,j)).f2=true∧((rcOf l (i,j)).f4=true∨gone=true)∧¬ LaterP l (rcOf l (i,j)))))→stayB l gone (i,j)=b:=fun {b} hb=>by
  rw [Bool.eq_iff_iff,hk,hb]
 unfold Rm.f
 have hf1:(rb l (i:Int)).f1=mkOf l (i,j):=rfl
 rw [hf1]
 by_cases c1:mkOf l (i,j)=true
 ·simp only [if_pos c1]
  rw [hb (b:=true) (by simp [c1])]
  exact ev_some _
 ·simp only [if_neg c1]
  obtain ⟨b,he,hbl⟩:=specLater l hl (rcOf l (i,j))
  have hnb:(!b)=true↔¬ LaterP l (rcOf l (i,j)):=by rw [← hbl];simp
  by_cases c2:(rcOf l (i,j)).f2=true
  ·simp only [if_pos c2]
   by_cases c3:(rcOf l (i,j)).f4=true
   ·simp only [if_pos c3]
    rw [hb (b:=!b) (by rw [hnb];simp [c1,c2,c3])]
    exact Ev.bind he (ev_some _)
   ·simp only [if_neg c3]
    by_cases c4:gone=true
    ·simp only [if_pos c4]
     rw [hb (b:=!b) (by rw [hnb];simp [c1,c2,c4])]
     exact Ev.bind he (ev_some _)
    ·simp only [if_neg c4]
     rw [hb (b:=false) (by simp [c1,c3,c4])]
     exact ev_some _
  ·simp only [if_neg c2]
   rw [hb (b:=false) (by simp [c1,c2])]
   exact ev_some _
theorem l12Copy_eq (r:Rc) (h:okc r):Rq.f r.f0 r.f1 r.f2 r.f3 r.f4 r.f5=some (r.f0,r.f1,r.f2,r.f3,r.f4,r.f5):=by
 have h1:=h.1
 have h2:=h.2
 unfold Rq.f
 simp only [bsome,List.length_nil,Nat.zero_add,List.nil_append]
 rw [if_pos (by omega),if_pos (by omega)]
theorem ptsAt_len {l:List Bt} (h:VL l) {i j:Nat} (hi:i < l.length) (hj:j≤(rb l (i:Int)).f5.length):(ptsAt l i j).length≤48:=Nat.le_trans (ptsAt_prefix hi hj).length_le (pts_len h)
theorem stOut_snoc (l:List Bt) (pre:List (Nat×Nat)) (x:Nat×Nat):stOut l (pre ++ [x])=if stKeep l x=true then stOut l pre ++ [rcOf l x] else stOut l pre:=by
 unfold stOut
 rw [List.filter_append,List.map_append]
 split <;> rename_i h
 ·simp [h]
 ·simp [h]
theorem implState (l:List Bt) (hl:smallBs l) (h:VL l):Ev (fun k=>Qz.f k l) (stOut l (pts l)):=by
 unfold Qz.f
 refine Ev.bind (implLog l hl) ?_
 rw [vl_true h]
 simp only [if_true,okLog_of h]
 exact ev_some _
theorem implState_not (l:List Bt) (hl:smallBs l) (h:¬ VL l):Ev (fun k=>Qz.f k l) []:=by
 unfold Qz.f
 refine Ev.bind (implLog l hl) ?_
 rw [vl_false h]
 simp only [Bool.false_eq_true,if_false]
 exact ev_some _
theorem mem_stOut {l:List Bt} (h:VL l) {r:Rc} (hr:r∈stOut l (pts l)):∃ x∈pts l,mkOf l x=false∧r=rcOf l x∧r.f2=true∧r.f4=true∧¬ LaterP l r:=by
 unfold stOut at hr
 obtain ⟨x,hx,rfl⟩:=List.mem_map.1 hr
 obtain ⟨hx,hk⟩:=List.mem_filter.1 hx
 unfold stKeep at hk
 rw [Bool.and_eq_true,keep_iff h hx false] at hk
 have hm:mkOf l x=false:=by simpa using hk.1
 rcases hk.2 with h1|⟨h2,h3,h4⟩
 ·rw [hm] at h1;cases h1
 ·exact ⟨x,hx,hm,rfl,h2,by simpa using h3,h4⟩
theorem specState_loop (l:List Bt) (hl:smallBs l) (h:VL l):∀ (d i:Nat),l.length - i=d→i≤l.length→Ev (fun k=>Qd.l0 k l (stOut l (ptsTo l i)) (i:Int)) (stOut l (pts l)):=by
 intro d
 induction d with
 | zero=>
  intro i hd hi
  obtain rfl:i=l.length:=by omega
  refine ev_succ ?_
  simp only [Qd.l0,if_neg (show ¬ (l.length:Int) < (l.length:Int) by omega)]
  refine ev_succ ?_
  simp only [Qd.j1,Bool.false_eq_true,if_false]
  exact ev_some _
 | succ d ih=>
  intro i hd hi
  have hil:i < l.length:=by omega
  have hll:=h.1
  have e1:=wstep i (by omega)
  refine ev_succ ?_
  simp only [Qd.l0,if_pos (show (i:Int) < (l.length:Int) by omega)]
  refine Ev.bind (specLog l hl) ?_
  rw [vl_true h]
  refine ev_succ ?_
  simp only [Qd.j1,if_true]
  have inner:∀ (e j:Nat),(rb l (i:Int)).f5.length - j=e→j≤(rb l (i:Int)).f5.length→Ev (fun k=>Qd.l1 k l (stOut l (ptsAt l i j)) (i:Int) (j:Int)) (stOut l (pts l)):=by
   intro e
   induction e with
   | zero=>
    intro j he hj
    obtain rfl:j=(rb l (i:Int)).f5.length:=by omega
    refine ev_succ ?_
    simp only [Qd.l1,if_pos (show 0≤(i:Int) by omega),if_pos (show (i:Int) < (l.length:Int) by omega),if_neg (show ¬ ((rb l (i:Int)).f5.length:Int) < ((rb l (i:Int)).f5.length:Int) by omega),e1]
    rw [show ptsAt l i (rb l (i:Int)).f5.length=ptsTo l (i+1) from ptsAt_full l i]
    exact ih (i+1) (by omega) (by omega)
   | succ e ihe=>
    intro j he hj
    have hjl:j < (rb l (i:Int)).f5.length:=by omega
    have h6:=(vB_pos (VL_at h i hil)).2
    have e2:=wstep j (by omega)
    have hnext:=ihe (j+1) (by omega) (by omega)
    rw [ptsAt_succ,stOut_snoc] at hnext
    have hlen:(stOut l (ptsAt l i j)).length≤48:=Nat.le_trans (stOut_len l _) (ptsAt_len h hil hj)
    have hx:(i,j)∈pts l:=mem_pts.2 ⟨hil,hjl⟩
    have hrc:Qb (Qa l (i:Int)).f5 (j:Int)=rcOf l (i,j):=rfl
    have hf1:(Qa l (i:Int)).f1=mkOf l (i,j):=rfl
    refine ev_succ ?_
    simp only [Qd.l1,if_pos (show 0≤(i:Int) by omega),if_pos (show (i:Int) < (l.length:Int) by omega),if_pos (show (j:Int) < ((rb l (i:Int)).f5.length:Int) by omega),if_pos (show 0≤(j:Int) by omega),e2]
    by_cases c1:mkOf l (i,j)=true
    ·have hk:stKeep l (i,j)=false:=by unfold stKeep;rw [c1];rfl
     rw [hk] at hnext
     simp only [Bool.false_eq_true,if_false] at hnext
     simp only [hf1,if_pos c1]
     exact hnext
    ·simp only [hf1,if_neg c1]
     have hsk:=specKeep l hl h i j hil hjl false
     have hk:stKeep l (i,j)=stayB l false (i,j):=by unfold stKeep;rw [Bool.not_eq_true] at c1;rw [c1];rfl
     rw [hk] at hnext
     rw [hrc]
     rw [hf1] at hsk
     refine Ev.bind hsk ?_
     have hok:okc (rcOf l (i,j)):=by have:=rv_okc (rv_at h hx);exact ⟨by omega,by omega⟩
     cases hb:stayB l false (i,j) with
     | true=>
      rw [hb] at hnext
      simp only [if_true] at hnext
      simp only [if_true,l12Copy_eq _ hok,bsome,if_pos (show (stOut l (ptsAt l i j)).length < 1759218604441 by omega)]
      exact hnext
     | false=>
      rw [hb] at hnext
      simp only [Bool.false_eq_true,if_false] at hnext
      simp only [Bool.false_eq_true,if_false]
      exact hnext
  have h0:=inner (rb l (i:Int)).f5.length 0 (by omega) (by omega)
  rw [ptsAt_zero] at h0
  exact h0
theorem specState (l:List Bt) (hl:smallBs l) (h:VL l):Ev (fun k=>Qd.f k l) (stOut l (pts l)):=by
 unfold Qd.f
 exact specState_loop l hl h l.length 0 (by omega) (by omega)
theorem specState_not (l:List Bt) (hl:smallBs l) (h:¬ VL l):Ev (fun k=>Qd.f k l) []:=by
 unfold Qd.f
 refine ev_succ ?_
 by_cases h0:(0:Int) < (l.length:Int)
 ·simp only [Qd.l0,if_pos h0]
  refine Ev.bind (specLog l hl) ?_
  rw [vl_false h]
  refine ev_succ ?_
  simp only [Qd.j1,Bool.false_eq_true,if_false]
  exact ev_some _
 ·simp only [Qd.l0,if_neg h0]
  refine ev_succ ?_
  simp only [Qd.j1,Bool.false_eq_true,if_false]
  exact ev_some _
end Go.Proofs.Ytppaknpjgkaciaa.Q
namespace Go.Proofs.Ytppaknpjgkaciaa.Pure
open Go.RowKit Go.Proofs.Ytppaknpjgkaciaa.T Go.Proofs.YtppaknpjgkaciaaW.PrintWords Go.Proofs.YtppaknpjgkaciaaW.PrintLast Go.Proofs.Ytppaknpjgkaciaa.Q
set_option linter.unusedVariables false
set_option linter.unusedSimpArgs false
theorem state_out (l:List Bt) (hs:smallBs l):∃ x:List Rc,x.length≤1048576∧(∀ r∈x,okRc r)∧Ev (fun k=>Qz.f k l) x∧Ev (fun k=>Qd.f k l) x:=by
 by_cases hv:VL l
 ·have h1:=stOut_len l (pts l)
  have h2:=pts_len hv
  refine ⟨stOut l (pts l),by omega,fun r hr=>?_,implState l hs hv,specState l hs hv⟩
  obtain ⟨x,hx,_,rfl,_⟩:=mem_stOut hv hr
  have h3:=rv_okc (rv_at hv hx)
  exact ⟨by omega,by omega⟩
 ·exact ⟨[],by simp,fun r hr=>by simp at hr,implState_not l hs hv,specState_not l hs hv⟩
theorem FnExactStateOf:∀ (l0:List (S36)),l0.length≤maxLen→(∀ v∈l0,WF36 v)→∃ k,laws_FnExactStateOf.f k l0=some true:=by
 intro l0 hl hw
 refine Ev.rounds ?_
 unfold laws_FnExactStateOf.f
 obtain ⟨r,h1,p1⟩:=szBats l0 (Nat.le_trans hl maxLen_le) (fun x hx=>bigB_of (hw x hx)) 1048576 (by omega) (by omega)
 refine Ev.bind h1 ?_
 rcases p1 with rfl|⟨s0,s1,s2,s3⟩
 ·simp only [if_pos (show (-1:Int) < 0 by omega)]
  exact ev_some _
 ·simp only [if_neg (show ¬ r < 0 by omega)]
  have ht:=toBats l0 s2 s3
  have hml:(l0.map toB).length=l0.length:=List.length_map ..
  have hs:smallBs (l0.map toB):=by
   refine ⟨by omega,fun b hb=>?_⟩
   obtain ⟨x,hx,rfl⟩:=List.mem_map.1 hb
   exact smallRs_of x (s3 x hx)
  have hk:∀ b∈l0.map toB,okBt b:=fun b hb=>by
   obtain ⟨x,hx,rfl⟩:=List.mem_map.1 hb
   exact okBt_of x (s3 x hx)
  obtain ⟨x,hxl,hxo,e1,e2⟩:=state_out (l0.map toB) hs
  have eu:=eqRecs_self x hxl hxo
  have eb:=eqBats_self (l0.map toB) (by omega) hk
  obtain ⟨z,hz,hz0⟩:=markBatchS_f (l0.map toB) (by omega) hk
  obtain ⟨hmk,hheld⟩:=markRecs x hxl hxo
  have hn:¬ (1+(cntL x:Int)) < 0:=by omega
  refine Ev.bind ht ?_
  refine Ev.bind e2 ?_
  refine Ev.bind ht ?_
  refine Ev.bind e1 ?_
  refine Ev.bind eu ?_
  simp only [if_true]
  refine Ev.bind ht ?_
  refine Ev.bind eb ?_
  simp only [if_true]
  simp only [hz,bsome,if_neg (show ¬ z < 0 by omega)]
  refine Ev.bind eu ?_
  simp only [Bool.not_true]
  refine ev_succ ?_
  simp only [laws_FnExactStateOf.j0,Bool.false_eq_true,if_false,hmk,bsome]
  refine Ev.bind hheld ?_
  simp only [if_neg hn,if_true]
  refine Ev.bind ht ?_
  refine Ev.bind e1 ?_
  refine Ev.bind eu ?_
  simp only [if_true]
  refine Ev.bind hheld ?_
  simp only [if_neg hn,if_true]
  exact ev_some _
end Go.Proofs.Ytppaknpjgkaciaa.Pure
namespace Go.Proofs.Ytppaknpjgkaciaa.fnExactStateOf
open Go.ChangeShapes Go.WideShapes Go.ChangeAt Go.RowKit
open Go.ChangeMaps (open_string shut_string)
open Go.Proofs.YtppaknpjgkaciaaW.PrintWords
set_option linter.unusedVariables false
theorem own:ownKnob Try.prog.godebug=none:=by kernel_rfl
theorem laidOut:laidOutB Try.prog=true:=by kernel_rfl
theorem lifted (os:Os) (started:os.Started) (H:Type) (enc:TypeId×Value→H) :
  ReturnsInHanded {} Try.checked os 3 .any (Rows.fnExactStateOfSpec.pre6 enc Try.prog Try.f3 Rows.fnExactStateOfRow.domain false) (Rows.fnExactStateOfSpec.post enc Try.prog Try.f3 false true false false):=by
 refine returnsInHanded_of_change_sized (C:=Try.checked) own started (by kernel_rfl) Try.func3
  (ChangeSpec.witness6 (enc:=enc) (C:=Try.checked) false ⟨#[],#[.slice none 0 0],[]⟩ 8 (by kernel_rfl) (by kernel_rfl) (by kernel_rfl) (by kernel_rfl)) ?_
 intro W base args ds gs before hval0 hW hcnd hsz0 _
 have hval:∀ (j:Nat) t v,Try.f3.params[j]? = some t→args[j]? = some v→Value.okWide Try.prog W .any base t v:=hval0
 have hW':=hW
 obtain ⟨p,q,hA0,hV,rfl,hfz,hnd⟩:=hW
 have hA:DataW.TrodAll enc Try.prog W 0 (fun _=>true) true Try.f3.params.toList args.toList ds p:=hA0
 rw [Try.params3] at hA hval
 obtain ⟨v0,vs0,d0,ds0,p0,q0,hargs,rfl,rfl,h0,r0⟩:=trodAll_cons hA
 obtain ⟨rfl,rfl,rfl⟩:=trodAll_nil r0
 obtain rfl:args = #[v0]:=by cases args;simp_all
 obtain ⟨rfl,rfl⟩:=trodVars_none hV
 obtain ⟨a0,len0,cap0,rfl⟩:=okWide_slice Try.underlying22 (hval 0 22 v0 rfl rfl)
 have k0:=h0
 have lt0:∀ x∈p0,x.block < W.heap.size:=by obtain ⟨m,hm⟩:=k0;exact DataW.trod_lt m _ _ _ hm
 obtain ⟨fu0,hf0⟩:=h0
 obtain ⟨l0,⟨A0,c0,hE0,hc0,hC0⟩,hm0,hw0⟩:=(Q.Opens.slice Try.underlying22 T.opens36 (by kernel_rfl)) _ enc W _ _ _ _ _ _ hf0
 replace hE0:([.slice a0 len0 cap0]:List Value) = [.slice A0 l0.length c0]:=hE0
 simp only [List.cons.injEq,Value.slice.injEq,and_true] at hE0
 obtain ⟨rfl,rfl,rfl⟩:=hE0
 clear hA0 hval0 hsz0
 obtain ⟨k,h⟩:=Pure.FnExactStateOf l0 hm0 hw0
 refine (T.laws_FnExactStateOf.calls k _ _ l0 true W hC0 hc0 h).mono ?_
 rintro e W' ⟨rfl,bel⟩
 exact ⟨_,rfl,_,_,_,[],_,[],hW',trodAll_mk1 (shut_bool Try.underlying4 _),(trodAll_cons_mk (Below.trod laidOut (by kernel_rfl) (of_decide_eq_true (by kernel_rfl)) k0 bel lt0) trodAll_mk0),rfl,bel.frame _,fun h=>by cases h⟩
theorem closed:joinedFacts Try.prog 3 Try.f3 Rows.fnExactStateOfSpec Rows.fnExactStateOfRow=true:=
 Head.closed_of _ _ _ _ _ (by kernel_rfl) (by kernel_rfl) (by kernel_rfl) (by kernel_rfl) (by kernel_rfl) (by kernel_rfl) (by kernel_rfl) (by kernel_rfl) (by kernel_rfl) (by kernel_rfl) (by kernel_rfl) (by kernel_rfl) (by kernel_rfl) (by kernel_rfl) (by kernel_rfl) (by kernel_rfl) (by kernel_rfl) (by kernel_rfl) (by kernel_rfl) (by kernel_rfl) (by kernel_rfl) (by kernel_rfl) (by kernel_rfl) (by kernel_rfl) (by kernel_rfl) Head.may_enter (by rw [Head.lifts_final];kernel_rfl) (by rw [Head.make_is];kernel_rfl) (by kernel_rfl) (by kernel_rfl) (by kernel_rfl) (by kernel_rfl)
theorem over:Rows.fnExactStateOfRow.holds Try.pinned (OpenSpec.ofChange Rows.fnExactStateOfSpec):=
 OpenClaim.holds_of_wide 3 Try.f3 rfl rfl rfl rfl rfl rfl rfl ⟨rfl,rfl,rfl,rfl,rfl⟩ rfl rfl rfl rfl rfl (by kernel_rfl) Try.func3 closed
  (of_decide_eq_true (by kernel_rfl)) (by unfold Func.isWrapper;first|(rw [if_pos (by decide +kernel)];kernel_rfl)|(rw [if_neg (by decide +kernel)];exact ⟨rfl,rfl⟩))
  (fun os started H enc _=>lifted os started H enc)
theorem proved:Rows.FnExactStateOfSaid:=over
end Go.Proofs.Ytppaknpjgkaciaa.fnExactStateOf
namespace Go.Proofs.Ytppaknpjgkaciaa
theorem fnExactStateOf_holds:Rows.FnExactStateOfSaid:=fnExactStateOf.proved
end Go.Proofs.Ytppaknpjgkaciaa
