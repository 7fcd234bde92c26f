/- The law FnExactCompactLog holds (part 6 of 6; merged by pack2.py). -/
import Derived.RangeFuncNested
import Derived.RangeFuncBound
import Derived.RangeFuncCalls
import Derived.RangeFuncLeaves
import Derived.Shelf.Abstract
import Derived.Shelf.RegionOpen
import Derived.OwnWalkIn
import Derived.TacticsInMore
import Derived.LoopNIn
import Derived.LoopIn
import Derived.Maps.OwnIn
import Derived.Maps.Views
import Derived.StringKeys
import Derived.OpenShut
import Derived.ShutString
import Derived.ChangeOld
import Derived.SizedLaws
import Derived.Test.YtnjalgheihiagaaFnExactCompactLogK4
set_option maxRecDepth 1000000
open List (setIfInBounds_toArray set_cons_zero set_cons_succ map_toArray map_cons map_nil length_drop length_take)
namespace Go.Proofs.Ytnjalgheihiagaa.T
open Go.RowKit Go.Proofs.YtnjalgheihiagaaW.PrintWords Go.Proofs.YtnjalgheihiagaaW.PrintLast Go.Proofs.YtnjalgheihiagaaW.PrintMore

set_option linter.unusedVariables false
set_option linter.unusedSimpArgs false
section
open Go.Shelf
attribute [local go_sem] Oper.semAt_some
def KeepT (t:TypeId) (W W' : World):Prop:=∀ (k:Nat) (cs:Array Value) (f:Nat×Nat),W.heap[k]? = some (.cells cs t f)→W'.heap[k]? = some (.cells cs t f)
theorem KeepT.refl (t:TypeId) (W:World):KeepT t W W:=fun _ _ _ h=>h
theorem KeepT.trans {t:TypeId} {X Y Z:World} (h:KeepT t X Y) (k:KeepT t Y Z):KeepT t X Z:=fun i cs f hi=>k i cs f (h i cs f hi)
theorem KeepT.of_below {t:TypeId} {W W' : World} (h:Below W.heap.size W W'):KeepT t W W':=fun k cs f hk=>(h.block k (Array.getElem?_eq_some_iff.1 hk).1).trans hk
theorem KeepT.of_grownBy {t:TypeId} {W W' : World} {row:Option Nat} (h:W.grownBy W' row) (hr:∀ k,row=some k→∀ cs f,W.heap[k]? ≠ some (.cells cs t f)):KeepT t W W':=fun k cs f hk=>(h.block k (Array.getElem?_eq_some_iff.1 hk).1 (fun e=>hr k e.symm cs f hk)).trans hk
theorem KeepT.putObj {t:TypeId} (W:World) (l:Nat) (o o' : Obj) (h:W.heap[l]? = some o) (ho:o.isCells=false):KeepT t W (W.putObj l o'):=
 KeepT.of_grownBy (grownBy_putObj' W l o') (fun k e cs f hk=>by cases e;rw [h] at hk;cases hk;cases ho)
theorem KeepT.alloc {t:TypeId} (W:World) (o:Obj):KeepT t W (W.alloc o):=KeepT.of_grownBy (World.grownBy_alloc W o none) (fun k e=>by cases e)
structure Places (w:World) (A:Option Addr) (l:List S39) (AB:Nat→Option Addr) (CB:Nat→Nat) (AK:Nat→Nat→Option Addr) (CK:Nat→Nat→Nat) (AV:Nat→Nat→Option Addr) (CV:Nat→Nat→Nat):Prop where
 out:∀ i:Nat,i < l.length→∃ ad,A=some ad∧w.cell? (ad.add (i * 6))=some (.bool (Qa l i).f0)∧w.cell? ⟨(ad.add (i * 6)).block,(ad.add (i * 6)).off+1,none⟩=some (.bool (Qa l i).f1)∧w.cell? ⟨(ad.add (i * 6)).block,(ad.add (i * 6)).off+2,none⟩=some (.int .i64 (Qa l i).f2)∧w.cell? ⟨(ad.add (i * 6)).block,(ad.add (i * 6)).off+3,none⟩=some (.int .i64 (Qa l i).f3)∧w.cell? ⟨(ad.add (i * 6)).block,(ad.add (i * 6)).off+4,none⟩=some (.int .i64 (Qa l i).f4)∧w.cell? ⟨(ad.add (i * 6)).block,(ad.add (i * 6)).off+5,none⟩=some (.slice (AB i) (Qa l i).f5.length (CB i))
 row:∀ i:Nat,(Qa l i).f5.length≤CB i∧Kd.C k47 w (AB i) (Qa l i).f5.length (Qa l i).f5
 item:∀ i j:Nat,j < (Qa l i).f5.length→∃ ad,AB i=some ad∧w.cell? (ad.add (j * 6))=some (.int .i64 (Qb (Qa l i).f5 j).f0)∧w.cell? ⟨(ad.add (j * 6)).block,(ad.add (j * 6)).off+1,none⟩=some (.int .i64 (Qb (Qa l i).f5 j).f1)∧w.cell? ⟨(ad.add (j * 6)).block,(ad.add (j * 6)).off+2,none⟩=some (.bool (Qb (Qa l i).f5 j).f2)∧w.cell? ⟨(ad.add (j * 6)).block,(ad.add (j * 6)).off+3,none⟩=some (.slice (AK i j) (Qb (Qa l i).f5 j).f3.length (CK i j))∧w.cell? ⟨(ad.add (j * 6)).block,(ad.add (j * 6)).off+4,none⟩=some (.bool (Qb (Qa l i).f5 j).f4)∧w.cell? ⟨(ad.add (j * 6)).block,(ad.add (j * 6)).off+5,none⟩=some (.slice (AV i j) (Qb (Qa l i).f5 j).f5.length (CV i j))
 key:∀ i j:Nat,(Qb (Qa l i).f5 j).f3.length≤CK i j∧(Kd.int .i64).C w (AK i j) (Qb (Qa l i).f5 j).f3.length (Qb (Qa l i).f5 j).f3
 val:∀ i j:Nat,(Qb (Qa l i).f5 j).f5.length≤CV i j∧(Kd.int .i64).C w (AV i j) (Qb (Qa l i).f5 j).f5.length (Qb (Qa l i).f5 j).f5
theorem rd_none_B {l:List S39} {i:Nat} (h:¬ i < l.length):Qa l i=z39:=by
 unfold Qa;rw [Int.toNat_natCast,List.getD_eq_getElem?_getD,List.getElem?_eq_none (by omega)];rfl
theorem rd_none_R {l:List S47} {i:Nat} (h:¬ i < l.length):Qb l i=z47:=by
 unfold Qb;rw [Int.toNat_natCast,List.getD_eq_getElem?_getD,List.getElem?_eq_none (by omega)];rfl
theorem places_of {w:World} {A:Option Addr} {l:List S39} (h:Kd.C k39 w A l.length l):∃ AB CB AK CK AV CV,Places w A l AB CB AK CK AV CV:=by
 have h1:∀ i:Nat,∃ (p:Option Addr×Nat),(i < l.length→∃ ad,A=some ad∧w.cell? (ad.add (i * 6))=some (.bool (Qa l i).f0)∧w.cell? ⟨(ad.add (i * 6)).block,(ad.add (i * 6)).off+1,none⟩=some (.bool (Qa l i).f1)∧w.cell? ⟨(ad.add (i * 6)).block,(ad.add (i * 6)).off+2,none⟩=some (.int .i64 (Qa l i).f2)∧w.cell? ⟨(ad.add (i * 6)).block,(ad.add (i * 6)).off+3,none⟩=some (.int .i64 (Qa l i).f3)∧w.cell? ⟨(ad.add (i * 6)).block,(ad.add (i * 6)).off+4,none⟩=some (.int .i64 (Qa l i).f4)∧w.cell? ⟨(ad.add (i * 6)).block,(ad.add (i * 6)).off+5,none⟩=some (.slice p.1 (Qa l i).f5.length p.2)) ∧
   (Qa l i).f5.length≤p.2∧Kd.C k47 w p.1 (Qa l i).f5.length (Qa l i).f5:=by
  intro i;by_cases hi:i < l.length
  ·
   obtain ⟨ad,A5,c5,e,e0,e1,e2,e3,e4,e5,hl,hc⟩:=Qp h (i:Int) (by omega) (by omega);simp only [Int.toNat_natCast] at e0 e1 e2 e3 e4 e5;exact ⟨(A5,c5),fun _=>⟨ad,e,e0,e1,e2,e3,e4,e5⟩,hl,hc⟩
  ·
   refine ⟨(none,0),fun hi'=>absurd hi' hi,?_,?_⟩
   ·
    rw [rd_none_B hi];exact Nat.le_refl _
   ·
    rw [rd_none_B hi];exact Kd.C_nil k47 w
 obtain ⟨p,hp⟩:=Classical.axiomOfChoice h1;have h2:∀ x:Nat×Nat,∃ (q:(Option Addr×Nat)×(Option Addr×Nat)),(x.2 < (Qa l x.1).f5.length→∃ ad,(p x.1).1=some ad∧w.cell? (ad.add (x.2 * 6))=some (.int .i64 (Qb (Qa l x.1).f5 x.2).f0)∧w.cell? ⟨(ad.add (x.2 * 6)).block,(ad.add (x.2 * 6)).off+1,none⟩=some (.int .i64 (Qb (Qa l x.1).f5 x.2).f1)∧w.cell? ⟨(ad.add (x.2 * 6)).block,(ad.add (x.2 * 6)).off+2,none⟩=some (.bool (Qb (Qa l x.1).f5 x.2).f2)∧w.cell? ⟨(ad.add (x.2 * 6)).block,(ad.add (x.2 * 6)).off+3,none⟩=some (.slice q.1.1 (Qb (Qa l x.1).f5 x.2).f3.length q.1.2)∧w.cell? ⟨(ad.add (x.2 * 6)).block,(ad.add (x.2 * 6)).off+4,none⟩=some (.bool (Qb (Qa l x.1).f5 x.2).f4)∧w.cell? ⟨(ad.add (x.2 * 6)).block,(ad.add (x.2 * 6)).off+5,none⟩=some (.slice q.2.1 (Qb (Qa l x.1).f5 x.2).f5.length q.2.2)) ∧
   ((Qb (Qa l x.1).f5 x.2).f3.length≤q.1.2∧(Kd.int .i64).C w q.1.1 (Qb (Qa l x.1).f5 x.2).f3.length (Qb (Qa l x.1).f5 x.2).f3) ∧
   ((Qb (Qa l x.1).f5 x.2).f5.length≤q.2.2∧(Kd.int .i64).C w q.2.1 (Qb (Qa l x.1).f5 x.2).f5.length (Qb (Qa l x.1).f5 x.2).f5):=by
  rintro ⟨i,j⟩;dsimp only;by_cases hj:j < (Qa l i).f5.length
  ·
   obtain ⟨ad,A3,c3,A5,c5,e,e0,e1,e2,e3,e4,e5,hl3,hc3,hl5,hc5⟩:=Qs (hp i).2.2 (j:Int) (by omega) (by omega);simp only [Int.toNat_natCast] at e0 e1 e2 e3 e4 e5;exact ⟨((A3,c3),(A5,c5)),fun _=>⟨ad,e,e0,e1,e2,e3,e4,e5⟩,⟨hl3,hc3⟩,⟨hl5,hc5⟩⟩
  ·
   refine ⟨((none,0),(none,0)),fun hj'=>absurd hj' hj,?_,?_⟩
   ·
    rw [rd_none_R hj];exact ⟨Nat.le_refl _,Kd.C_nil _ w⟩
   ·
    rw [rd_none_R hj];exact ⟨Nat.le_refl _,Kd.C_nil _ w⟩
 obtain ⟨q,hq⟩:=Classical.axiomOfChoice h2;exact ⟨fun i=>(p i).1,fun i=>(p i).2,fun i j=>(q (i,j)).1.1,fun i j=>(q (i,j)).1.2,fun i j=>(q (i,j)).2.1,fun i j=>(q (i,j)).2.2,fun i hi=>(hp i).1 hi,fun i=>(hp i).2,fun i j hj=>(hq (i,j)).1 hj,fun i j=>(hq (i,j)).2.1,fun i j=>(hq (i,j)).2.2⟩
def ptsRow (l:List S39) (i:Nat):List (Nat×Nat):=(List.range (Qa l i).f5.length).map fun j=>(i,j)
def ptsTo (l:List S39) (i:Nat):List (Nat×Nat):=(List.range i).flatMap (ptsRow l)
def pts (l:List S39):List (Nat×Nat):=ptsTo l l.length
theorem ptsTo_succ (l:List S39) (i:Nat):ptsTo l (i+1)=ptsTo l i++ptsRow l i:=by
 unfold ptsTo;rw [List.range_succ,List.flatMap_append];simp
theorem ptsTo_prefix (l:List S39):∀ (d i:Nat),ptsTo l i <+: ptsTo l (i+d)
 | 0,i=>List.prefix_refl _
 | d+1,i=>by
  refine (ptsTo_prefix l d i).trans ?_
  rw [← Nat.add_assoc,ptsTo_succ]
  exact List.prefix_append _ _
def ptsAt (l:List S39) (i j:Nat):List (Nat×Nat):=ptsTo l i++(List.range j).map fun j=>(i,j)
theorem ptsAt_zero (l:List S39) (i:Nat):ptsAt l i 0=ptsTo l i:=by simp [ptsAt]
theorem ptsAt_succ (l:List S39) (i j:Nat):ptsAt l i (j+1)=ptsAt l i j ++ [(i,j)]:=by simp [ptsAt,List.range_succ]
theorem ptsAt_full (l:List S39) (i:Nat):ptsAt l i (Qa l i).f5.length=ptsTo l (i+1):=by rw [ptsTo_succ];rfl
theorem ptsAt_prefix {l:List S39} {i j:Nat} (hi:i < l.length) (hj:j≤(Qa l i).f5.length):ptsAt l i j <+: pts l:=by
 have h1:ptsAt l i j <+: ptsTo l (i+1):=by
  obtain ⟨d,hd⟩:∃ d,(Qa l i).f5.length=j+d:=⟨_,(Nat.add_sub_of_le hj).symm⟩;rw [← ptsAt_full,hd];unfold ptsAt;rw [List.range_add,List.map_append,← List.append_assoc];exact List.prefix_append _ _
 have h2:=ptsTo_prefix l (l.length - (i+1)) (i+1);rw [show i+1+(l.length - (i+1))=l.length by omega] at h2;exact h1.trans h2
theorem ptsAt_lt {l:List S39} {i j:Nat} (hi:i < l.length) (hj:j < (Qa l i).f5.length):(ptsAt l i j).length < (pts l).length:=by
 have:=(ptsAt_prefix hi (show j+1≤_ by omega)).length_le;rw [ptsAt_succ,List.length_append,List.length_singleton] at this;omega
def encB (l:List S39) (AB:Nat→Option Addr) (CB:Nat→Nat) (i:Nat):Value:=.agg #[.bool (Qa l i).f0,.bool (Qa l i).f1,.int .i64 (Qa l i).f2,.int .i64 (Qa l i).f3,.int .i64 (Qa l i).f4,.slice (AB i) (Qa l i).f5.length (CB i)]
def encR (l:List S39) (AK:Nat→Nat→Option Addr) (CK:Nat→Nat→Nat) (AV:Nat→Nat→Option Addr) (CV:Nat→Nat→Nat) (i j:Nat):Value:=.agg #[.int .i64 (Qb (Qa l i).f5 j).f0,.int .i64 (Qb (Qa l i).f5 j).f1,.bool (Qb (Qa l i).f5 j).f2,.slice (AK i j) (Qb (Qa l i).f5 j).f3.length (CK i j),.bool (Qb (Qa l i).f5 j).f4,.slice (AV i j) (Qb (Qa l i).f5 j).f5.length (CV i j)]
def KpR (n₀:Nat) (W W' : World):Prop:=Below n₀ W W'∧KeepT 39 W W'
theorem KpR.t {n₀:Nat} {A B C:World} (h:KpR n₀ A B) (k:KpR n₀ B C):KpR n₀ A C:=⟨h.1.trans k.1,h.2.trans k.2⟩
theorem KpR.b {n₀:Nat} {w:World} (hn:n₀≤w.heap.size) (W:World) (l:Nat) (o o' : Obj) (hl:w.heap.size≤l) (h:W.heap[l]? = some o) (hc:o.isCells=false) (hw:o.isWalk=false):KpR n₀ W (W.putObj l o'):=
 ⟨belowK_b hn W l o o' hl h hc hw,KeepT.putObj W l o o' h hc⟩
set_option maxHeartbeats 4000000 in
theorem recs1_in (F:Fence) (n:Nat) (h1:F.fn 51) (hro:F.round=none) (hn : 1≤n) (l Bs n₀:Nat) (A0:Option Addr) (c0:Nat) (l0:List S39) {AB:Nat→Option Addr} {CB:Nat→Nat} {AK:Nat→Nat→Option Addr} {CK:Nat→Nat→Nat} {AV:Nat→Nat→Option Addr} {CV:Nat→Nat→Nat}
  (w W:World) (hP:Places w A0 l0 AB CB AK CK AV CV) (hmax:l0.length≤9223372036854775807) (hn₀:n₀=w.heap.size) (J Jx:List (Nat×Nat)→World→Prop) (hJ:AbidesFrom W.heap.size J)
  (hY:∀ pre (x:Nat×Nat) W1,J pre W1→pre.length < (pts l0).length→YieldAt F (n - 1) Try.prog l #[encB l0 AB CB x.1,encR l0 AK CK AV CV x.1 x.2] W1 fun e W'=>
   (e = .returned (.bool true)∧J (pre ++ [x]) W'∧KpR n₀ W1 W')∨(e = .returned (.bool false)∧Jx (pre ++ [x]) W'))
  (hBs:W.cell? ⟨Bs,0,none⟩=some (.slice A0 l0.length c0)) (hWB:Below n₀ w W) (h0:J [] W) :
  CallsIn F n Try.prog 51 #[.func (.yield l) #[] #[],.pointer (some ⟨Bs,0,none⟩)] W fun e W'=>(∃ v,e = .returned v) ∧
   ((∃ ys,ys=pts l0∧J ys W')∨(∃ pre,pre <+: pts l0∧Jx pre W')):=by
 have HP:=zzm hP;have HJ:=zzm hJ;have HY:=zzm hY;clear hP hJ hY;refine callsIn_of_wp Try.func51 rfl h1 ?_ hro;simp only [Try.ntmps51,List.size_toArray,List.length_cons,List.length_nil,Nat.reduceAdd,Nat.reduceSub,Array.replicate_succ,Array.replicate_zero,List.push_toArray,List.append_toArray,List.nil_append,List.cons_append];gi_wp2;gi_loopw [9] (fun i wr=>∃ m:Nat,m≤l0.length∧i = .int .i64 (m:Int)∧J (ptsTo l0 m) wr∧Below n₀ W wr)
  (fun i _=>l0.length - (intOf i).toNat)
 case atStart=>exact ⟨0,Nat.zero_le _,by go_num,by simpa [ptsTo] using h0,Below.refl _ _⟩
 case round=>
  obtain ⟨m,hm,rfl,hJs,hnx⟩:=hrel;by_cases hlt:m < l0.length
  ·
   have hmi:((m:Nat):Int) < (l0.length:Int):=by omega
   obtain ⟨ad,he,a0,a1,a2,a3,a4,a5⟩:=HP.out.out m hlt;subst he;have hwb:=hWB.trans hnx;have a7:=(hwb.cell (by rw [hn₀];exact zzn w _ a0)).trans a0;have a8:=(hwb.cell (by rw [hn₀];exact zzn w _ a1)).trans a1;have a9:=(hwb.cell (by rw [hn₀];exact zzn w _ a2)).trans a2;have b0:=(hwb.cell (by rw [hn₀];exact zzn w _ a3)).trans a3;have b1:=(hwb.cell (by rw [hn₀];exact zzn w _ a4)).trans a4;have b2:=(hwb.cell (by rw [hn₀];exact zzn w _ a5)).trans a5;clear a0 a1 a2 a3 a4 a5;have HWB:=zzm hwb;clear hwb;gi_wp2;obtain ⟨B0,hB0⟩:∃ B0,wr.heap.size=B0:=⟨_,rfl⟩;rw [hB0];gi_loopw [16] (fun i w2=>∃ j:Nat,j≤(Qa l0 (m:Int)).f5.length∧i = .int .i64 (j:Int)∧J (ptsAt l0 m j) w2∧Below n₀ W w2∧w2.heap[B0]? = some (.cells #[.bool (Qa l0 (m:Int)).f0,.bool (Qa l0 (m:Int)).f1,.int .i64 (Qa l0 (m:Int)).f2,.int .i64 (Qa l0 (m:Int)).f3,.int .i64 (Qa l0 (m:Int)).f4,.slice (AB m) (Qa l0 (m:Int)).f5.length (CB m)] 39 (0,0)))
    (fun i _=>(Qa l0 (m:Int)).f5.length - (intOf i).toNat)
   case atStart=>exact ⟨0,Nat.zero_le _,by go_num,by rw [ptsAt_zero];exact HJ.out _ _ _ none hJs (World.grownBy_alloc wr _ none) (fun r e=>by cases e),hnx.trans ((Below.refl _ wr).alloc (by have:=hnx.size;have:=hWB.size;omega) _),hB0 ▸ World.alloc_heap_new wr _⟩
   case round=>
    obtain ⟨j,hj,rfl,hJ2,a6,hbx⟩:=hrel;have hmx:(Qa l0 (m:Int)).f5.length≤9223372036854775807:=(HP.out.row m).2.2.1;by_cases hltj:j < (Qa l0 (m:Int)).f5.length
    ·
     have hji:((j:Nat):Int) < ((Qa l0 (m:Int)).f5.length:Int):=by omega
     obtain ⟨b3,he2,a0,a1,a2,a3,a4,a5⟩:=HP.out.item m j hltj;rw [he2];rw [he2] at hbx;have hwb:=hWB.trans a6;have hd0:=(hwb.cell (by rw [hn₀];exact zzn w _ a0)).trans a0;have hd1:=(hwb.cell (by rw [hn₀];exact zzn w _ a1)).trans a1;have hd2:=(hwb.cell (by rw [hn₀];exact zzn w _ a2)).trans a2;have hd3:=(hwb.cell (by rw [hn₀];exact zzn w _ a3)).trans a3;have hd4:=(hwb.cell (by rw [hn₀];exact zzn w _ a4)).trans a4;have hd5:=(hwb.cell (by rw [hn₀];exact zzn w _ a5)).trans a5;clear a0 a1 a2 a3 a4 a5 a7 a8 a9 b0 b1 b2;have hbx2:=(Below.heap_alloc wr (.cells #[.int .i64 (Qb (Qa l0 (m:Int)).f5 (j:Int)).f0,.int .i64 (Qb (Qa l0 (m:Int)).f5 (j:Int)).f1,.bool (Qb (Qa l0 (m:Int)).f5 (j:Int)).f2,.slice (AK m j) (Qb (Qa l0 (m:Int)).f5 (j:Int)).f3.length (CK m j),.bool (Qb (Qa l0 (m:Int)).f5 (j:Int)).f4,.slice (AV m j) (Qb (Qa l0 (m:Int)).f5 (j:Int)).f5.length (CV m j)] 47) B0 (Array.getElem?_eq_some_iff.1 hbx).1).trans hbx;have hb0:(wr.alloc (.cells #[.int .i64 (Qb (Qa l0 (m:Int)).f5 (j:Int)).f0,.int .i64 (Qb (Qa l0 (m:Int)).f5 (j:Int)).f1,.bool (Qb (Qa l0 (m:Int)).f5 (j:Int)).f2,.slice (AK m j) (Qb (Qa l0 (m:Int)).f5 (j:Int)).f3.length (CK m j),.bool (Qb (Qa l0 (m:Int)).f5 (j:Int)).f4,.slice (AV m j) (Qb (Qa l0 (m:Int)).f5 (j:Int)).f5.length (CV m j)] 47)).cell? ⟨B0,0,none⟩=some (.bool (Qa l0 (m:Int)).f0):=by simp [World.cell?,hbx2]
     have hb1:(wr.alloc (.cells #[.int .i64 (Qb (Qa l0 (m:Int)).f5 (j:Int)).f0,.int .i64 (Qb (Qa l0 (m:Int)).f5 (j:Int)).f1,.bool (Qb (Qa l0 (m:Int)).f5 (j:Int)).f2,.slice (AK m j) (Qb (Qa l0 (m:Int)).f5 (j:Int)).f3.length (CK m j),.bool (Qb (Qa l0 (m:Int)).f5 (j:Int)).f4,.slice (AV m j) (Qb (Qa l0 (m:Int)).f5 (j:Int)).f5.length (CV m j)] 47)).cell? ⟨B0,1,none⟩=some (.bool (Qa l0 (m:Int)).f1):=by simp [World.cell?,hbx2]
     have hb2:(wr.alloc (.cells #[.int .i64 (Qb (Qa l0 (m:Int)).f5 (j:Int)).f0,.int .i64 (Qb (Qa l0 (m:Int)).f5 (j:Int)).f1,.bool (Qb (Qa l0 (m:Int)).f5 (j:Int)).f2,.slice (AK m j) (Qb (Qa l0 (m:Int)).f5 (j:Int)).f3.length (CK m j),.bool (Qb (Qa l0 (m:Int)).f5 (j:Int)).f4,.slice (AV m j) (Qb (Qa l0 (m:Int)).f5 (j:Int)).f5.length (CV m j)] 47)).cell? ⟨B0,2,none⟩=some (.int .i64 (Qa l0 (m:Int)).f2):=by simp [World.cell?,hbx2]
     have hb3:(wr.alloc (.cells #[.int .i64 (Qb (Qa l0 (m:Int)).f5 (j:Int)).f0,.int .i64 (Qb (Qa l0 (m:Int)).f5 (j:Int)).f1,.bool (Qb (Qa l0 (m:Int)).f5 (j:Int)).f2,.slice (AK m j) (Qb (Qa l0 (m:Int)).f5 (j:Int)).f3.length (CK m j),.bool (Qb (Qa l0 (m:Int)).f5 (j:Int)).f4,.slice (AV m j) (Qb (Qa l0 (m:Int)).f5 (j:Int)).f5.length (CV m j)] 47)).cell? ⟨B0,3,none⟩=some (.int .i64 (Qa l0 (m:Int)).f3):=by simp [World.cell?,hbx2]
     have hb4:(wr.alloc (.cells #[.int .i64 (Qb (Qa l0 (m:Int)).f5 (j:Int)).f0,.int .i64 (Qb (Qa l0 (m:Int)).f5 (j:Int)).f1,.bool (Qb (Qa l0 (m:Int)).f5 (j:Int)).f2,.slice (AK m j) (Qb (Qa l0 (m:Int)).f5 (j:Int)).f3.length (CK m j),.bool (Qb (Qa l0 (m:Int)).f5 (j:Int)).f4,.slice (AV m j) (Qb (Qa l0 (m:Int)).f5 (j:Int)).f5.length (CV m j)] 47)).cell? ⟨B0,4,none⟩=some (.int .i64 (Qa l0 (m:Int)).f4):=by simp [World.cell?,hbx2]
     have hb5:(wr.alloc (.cells #[.int .i64 (Qb (Qa l0 (m:Int)).f5 (j:Int)).f0,.int .i64 (Qb (Qa l0 (m:Int)).f5 (j:Int)).f1,.bool (Qb (Qa l0 (m:Int)).f5 (j:Int)).f2,.slice (AK m j) (Qb (Qa l0 (m:Int)).f5 (j:Int)).f3.length (CK m j),.bool (Qb (Qa l0 (m:Int)).f5 (j:Int)).f4,.slice (AV m j) (Qb (Qa l0 (m:Int)).f5 (j:Int)).f5.length (CV m j)] 47)).cell? ⟨B0,5,none⟩=some (.slice (some b3) (Qa l0 (m:Int)).f5.length (CB m)):=by simp [World.cell?,hbx2]
     obtain ⟨fn,tmps,assign,body,hy,hR⟩:=HY.out _ (m,j) (wr.alloc (.cells #[.int .i64 (Qb (Qa l0 (m:Int)).f5 (j:Int)).f0,.int .i64 (Qb (Qa l0 (m:Int)).f5 (j:Int)).f1,.bool (Qb (Qa l0 (m:Int)).f5 (j:Int)).f2,.slice (AK m j) (Qb (Qa l0 (m:Int)).f5 (j:Int)).f3.length (CK m j),.bool (Qb (Qa l0 (m:Int)).f5 (j:Int)).f4,.slice (AV m j) (Qb (Qa l0 (m:Int)).f5 (j:Int)).f5.length (CV m j)] 47)) (HJ.out _ _ _ none hJ2 (World.grownBy_alloc wr _ none) (fun r e=>by cases e)) (ptsAt_lt hlt hltj);dsimp only [encB,encR] at hy;rw [he2] at hy;gi_wp2;have b4:=a6.trans ((Below.refl n₀ wr).alloc (by have:=a6.size;have:=hWB.size;omega) (.cells #[.int .i64 (Qb (Qa l0 (m:Int)).f5 (j:Int)).f0,.int .i64 (Qb (Qa l0 (m:Int)).f5 (j:Int)).f1,.bool (Qb (Qa l0 (m:Int)).f5 (j:Int)).f2,.slice (AK m j) (Qb (Qa l0 (m:Int)).f5 (j:Int)).f3.length (CK m j),.bool (Qb (Qa l0 (m:Int)).f5 (j:Int)).f4,.slice (AV m j) (Qb (Qa l0 (m:Int)).f5 (j:Int)).f5.length (CV m j)] 47));refine hR.mono ?_;rintro e W3 (⟨rfl,hJ3,hk3⟩|⟨rfl,hJx3⟩)
     ·
      gi_wp2;go_roundw
      case rel=>exact ⟨j+1,by omega,by go_num,by rw [ptsAt_succ];exact hJ3,b4.trans hk3.1,hk3.2 _ _ _ hbx2⟩
      case measure=>simp [intOf] <;> omega
     ·
      gi_wp2;refine bodyPost_ret (results_none rfl _ _ _) rfl ?_;exact ⟨⟨_,rfl⟩,.inr ⟨ptsAt l0 m j ++ [(m,j)],by rw [← ptsAt_succ];exact ptsAt_prefix hlt (by omega),hJx3⟩⟩
    ·
     have hje:j=(Qa l0 (m:Int)).f5.length:=by omega
     have hji:¬ ((j:Nat):Int) < ((Qa l0 (m:Int)).f5.length:Int):=by omega
     gi_wp2;go_roundw
     case rel=>exact ⟨m+1,by omega,by go_num,by rw [← ptsAt_full,← hje];exact hJ2,a6⟩
     case measure=>simp [intOf] <;> omega
  ·
   have hme:m=l0.length:=by omega
   have hmi:¬ ((m:Nat):Int) < (l0.length:Int):=by omega
   gi_wp2;go_end0;exact ⟨⟨_,rfl⟩,.inl (by have h:=hJs;rw [hme] at h;exact h)⟩
theorem recs_stops (F:Fence) (n:Nat) (h1:F.fn 51) (hro:F.round=none) (hn : 1≤n) (Bs:Nat) (A0:Option Addr) (c0:Nat) (l0:List S39) {AB:Nat→Option Addr} {CB:Nat→Nat} {AK:Nat→Nat→Option Addr} {CK:Nat→Nat→Nat} {AV:Nat→Nat→Option Addr} {CV:Nat→Nat→Nat}
  (w W0:World) (hP:Places w A0 l0 AB CB AK CK AV CV) (hmax:l0.length≤9223372036854775807) (hWB:Below w.heap.size w W0) (hc:W0.cell? ⟨Bs,0,none⟩=some (.slice A0 l0.length c0)) :
  SeqStopsK F n Try.prog 51 #[.pointer (some ⟨Bs,0,none⟩)] (fun x:Nat×Nat=>#[encB l0 AB CB x.1,encR l0 AK CK AV CV x.1 x.2]) (KpR w.heap.size) (fun ys=>ys=pts l0) (fun pre=>pre <+: pts l0) (pts l0).length W0:=
 fun l J Jx W hW hJ _ hY h0=>recs1_in F n h1 hro hn l Bs w.heap.size A0 c0 l0 w W hP hmax rfl J Jx hJ hY ((hW.cell (zzn W0 _ hc)).trans hc) (hWB.trans (hW.mono hWB.size)) h0
set_option maxHeartbeats 1000000 in
theorem recs_in (F:Fence) (n:Nat) (h6:F.fn 34) (hro:F.round=none) (A0:Option Addr) (len cap:Nat) (w:World) :
  CallsIn F n Try.prog 34 #[.slice A0 len cap] w fun e w'=>e = .returned (.func (.func 51) #[] #[.pointer (some ⟨w.heap.size,0,none⟩)])∧w' = w.alloc (.cells #[.slice A0 len cap] 24):=by
 refine callsIn_of_wp Try.func34 rfl h6 ?_ hro;simp only [Try.ntmps34,List.size_toArray,List.length_cons,List.length_nil,Nat.reduceAdd,Nat.reduceSub,Array.replicate_succ,Array.replicate_zero,List.push_toArray,List.append_toArray,List.nil_append,List.cons_append];gi_wp2;go_ret;exact ⟨rfl,rfl⟩
end
section
open Go.Shelf
variable {F:Fence} {n:Nat} {P:Program} {ops:Array Oper} {Q:Exit→Act→World→Prop}
section
variable {o:Oper} {a:Act} {W:World} {K:Act→World→Prop} {α:Type}
end
end
section
open Go.Shelf
variable {F:Fence} {n:Nat} {P:Program} {ops:Array Oper} {Q:Exit→Act→World→Prop}
theorem wpAnyIn_inv3 {md:Region.Mode} (Inv:Array Bool→Act→World→Prop) (todo:Array Bool→Nat)
  (h:∀ listed a w,Inv listed a w→(Region.ready md ops listed = []→Q .normal a w)∧∀ i∈Region.ready md ops listed,wpOpIn F n P ops Q i (fun a' w'=>Inv (listed.setIfInBounds i true) a' w') a w)
  (h0:∀ listed a w,Inv listed a w→todo listed=0→Region.ready md ops listed = [])
  (hdec:∀ listed i a w,Inv listed a w→i∈Region.ready md ops listed→todo (listed.setIfInBounds i true) < todo listed) :
  ∀ (fuel:Nat) (listed:Array Bool) (a:Act) (w:World),Inv listed a w→todo listed≤fuel→wpAnyIn F n P md ops Q fuel listed a w
 | 0,listed,a,w,hi,ht=>by
  have hr:=h0 listed a w hi (by omega)
  exact ⟨hr,(h listed a w hi).1 hr⟩
 | fuel+1,listed,a,w,hi,ht=>by
  refine ⟨(h listed a w hi).1,fun i hm=>?_⟩
  have hd:=hdec listed i a w hi hm
  refine wpOpIn_mono ?_ ((h listed a w hi).2 i hm)
  intro a' w' hi'
  exact wpAnyIn_inv3 Inv todo h h0 hdec fuel _ a' w' hi' (by omega)
def stTab {σ:Type} [DecidableEq σ] (ops:Array Oper) (all:List σ) (st : σ→Array Bool) (go : σ→List (Nat×σ)):Bool:=
 all.all fun s=>(Region.ready .any ops (st s)==(go s).map (·.1))&&((go s).all fun p=>decide (p.2∈all)&&(((st s).setIfInBounds p.1 true==st p.2)&&decide ((st p.2).toList.count false < (st s).toList.count false)))&&(decide ((st s).toList.count false≠0)||(go s).isEmpty)
theorem wpAnyIn_states {σ:Type} [DecidableEq σ] (all:List σ) (st : σ→Array Bool) (go : σ→List (Nat×σ)) (htab:stTab ops all st go=true) (I : σ→Act→World→Prop)
  (hdone:∀ s∈all,go s = []→∀ a w,I s a w→Q .normal a w)
  (hstep:∀ s∈all,∀ p∈go s,∀ a w,I s a w→wpOpIn F n P ops Q p.1 (fun a' w'=>I p.2 a' w') a w)
  (s0 : σ) (hs0:s0∈all) (fuel:Nat) (hf:(st s0).toList.count false≤fuel) {a:Act} {w:World} (hi:I s0 a w):wpAnyIn F n P .any ops Q fuel (st s0) a w:=by
 have tab:∀ s∈all,Region.ready .any ops (st s)=(go s).map (·.1)∧(∀ p∈go s,p.2∈all∧(st s).setIfInBounds p.1 true=st p.2∧(st p.2).toList.count false < (st s).toList.count false)∧((st s).toList.count false=0→go s = []):=by
  intro s hs;have h:=List.all_eq_true.mp htab s hs;simp only [Bool.and_eq_true,Bool.or_eq_true,decide_eq_true_eq] at h;obtain ⟨⟨h1,h2⟩,h3⟩:=h;refine ⟨eq_of_beq h1,fun p hp=>?_,fun h0=>?_⟩
  ·
   have:=List.all_eq_true.mp h2 p hp;simp only [Bool.and_eq_true,decide_eq_true_eq] at this;exact ⟨this.1,eq_of_beq this.2.1,this.2.2⟩
  ·
   rcases h3 with h3|h3
   ·
    exact absurd h0 h3
   ·
    simpa using h3
 refine wpAnyIn_inv3 (fun l a w=>∃ s∈all,l=st s∧I s a w) (fun l=>l.toList.count false) ?_ ?_ ?_ _ _ _ _ ⟨s0,hs0,rfl,hi⟩ hf
 ·
  rintro listed a w ⟨s,hs,rfl,hI⟩;obtain ⟨t1,t2,t3⟩:=tab s hs;rw [t1];refine ⟨fun e=>hdone s hs (by simpa using e) a w hI,fun i hm=>?_⟩;obtain ⟨p,hp,rfl⟩:=List.mem_map.1 hm;obtain ⟨p1,p2,p3⟩:=t2 p hp;exact wpOpIn_mono (fun a' w' h=>⟨p.2,p1,p2,h⟩) (hstep s hs p hp a w hI)
 ·
  rintro listed a w ⟨s,hs,rfl,hI⟩ h0;obtain ⟨t1,t2,t3⟩:=tab s hs;rw [t1,t3 h0];rfl
 ·
  rintro listed i a w ⟨s,hs,rfl,hI⟩ hm;obtain ⟨t1,t2,t3⟩:=tab s hs;rw [t1] at hm;obtain ⟨p,hp,rfl⟩:=List.mem_map.1 hm;obtain ⟨p1,p2,p3⟩:=t2 p hp;rw [p2];exact p3
abbrev St3:=Option (Nat×Nat×Nat)
def st132:St3→Array Bool
 | none=>(zzB 7 127)
 | some (a,b,c)=>#[decide (1≤a),decide (1≤b),decide (2≤b),decide (3≤b),decide (1≤c),decide (2≤c),false]
def go132:St3→List (Nat×St3)
 | none=>[]
 | some (a,b,c)=>(if a=0 then [(0,some (1,b,c))] else [])++((if b=0 then [(1,some (a,1,c))] else if b=1 then [(2,some (a,2,c))] else if b=2 then [(3,some (a,3,c))] else [])++((if c=0 then [(4,some (a,b,1))] else if c=1 then [(5,some (a,b,2))] else [])++(if a=1∧b=3∧c=2 then [(6,none)] else [])))
def all132:List St3:=none::(List.range 2).flatMap fun a=>(List.range 4).flatMap fun b=>(List.range 3).map fun c=>some (a,b,c)
theorem wpAnyIn_132 (htab:stTab ops all132 st132 go132=true) (I:Nat→Nat→Nat→Act→World→Prop) (J:Act→World→Prop)
  (hdone:∀ a w,J a w→Q .normal a w)
  (s0:∀ y z a w,I 0 y z a w→wpOpIn F n P ops Q 0 (fun a' w'=>I 1 y z a' w') a w)
  (s1:∀ x z a w,I x 0 z a w→wpOpIn F n P ops Q 1 (fun a' w'=>I x 1 z a' w') a w)
  (s2:∀ x z a w,I x 1 z a w→wpOpIn F n P ops Q 2 (fun a' w'=>I x 2 z a' w') a w)
  (s3:∀ x z a w,I x 2 z a w→wpOpIn F n P ops Q 3 (fun a' w'=>I x 3 z a' w') a w)
  (s4:∀ x y a w,I x y 0 a w→wpOpIn F n P ops Q 4 (fun a' w'=>I x y 1 a' w') a w)
  (s5:∀ x y a w,I x y 1 a w→wpOpIn F n P ops Q 5 (fun a' w'=>I x y 2 a' w') a w)
  (s6:∀ a w,I 1 3 2 a w→wpOpIn F n P ops Q 6 (fun a' w'=>J a' w') a w)
  {a:Act} {w:World} (hi:I 0 0 0 a w):wpAnyIn F n P .any ops Q 7 (zzB 7 0) a w:=by
 refine wpAnyIn_states all132 st132 go132 htab (fun s a w=>match s with
  | none=>J a w
  | some (x,y,z)=>I x y z a w) ?_ ?_ (some (0,0,0)) (by decide) 7 (by decide) hi
 ·
  rintro s hs hg a w hI;cases s with
  | none=>exact hdone a w hI
  | some p=>
   obtain ⟨x,y,z⟩:=p;exfalso;simp only [go132,List.append_eq_nil_iff] at hg;obtain ⟨g1,g2,g3,g4⟩:=hg;simp only [all132,List.mem_cons,List.mem_flatMap,List.mem_map,List.mem_range,reduceCtorEq,false_or] at hs;obtain ⟨a',ha,b',hb,c',hc,e⟩:=hs;cases e;have h1:x=1:=by
    by_cases h:x=0
    ·
     rw [if_pos h] at g1;cases g1
    ·
     omega
   have h2:y=3:=by
    by_cases h:y=0
    ·
     rw [if_pos h] at g2;cases g2
    ·
     by_cases h' : y=1
     ·
      rw [if_neg h,if_pos h'] at g2;cases g2
     ·
      by_cases h'' : y=2
      ·
       rw [if_neg h,if_neg h',if_pos h''] at g2;cases g2
      ·
       omega
   have h3:z=2:=by
    by_cases h:z=0
    ·
     rw [if_pos h] at g3;cases g3
    ·
     by_cases h' : z=1
     ·
      rw [if_neg h,if_pos h'] at g3;cases g3
     ·
      omega
   rw [if_pos ⟨h1,h2,h3⟩] at g4;cases g4
 ·
  rintro s hs p hp a w hI;cases s with
  | none=>simp [go132] at hp
  | some q=>
   obtain ⟨x,y,z⟩:=q;simp only [go132,List.mem_append] at hp;rcases hp with hp|hp|hp|hp
   ·
    split at hp
    ·
     obtain rfl:=List.mem_singleton.1 hp;subst x;exact s0 y z a w hI
    ·
     cases hp
   ·
    split at hp
    ·
     obtain rfl:=List.mem_singleton.1 hp;subst y;exact s1 x z a w hI
    ·
     split at hp
     ·
      obtain rfl:=List.mem_singleton.1 hp;subst y;exact s2 x z a w hI
     ·
      split at hp
      ·
       obtain rfl:=List.mem_singleton.1 hp;subst y;exact s3 x z a w hI
      ·
       cases hp
   ·
    split at hp
    ·
     obtain rfl:=List.mem_singleton.1 hp;subst z;exact s4 x y a w hI
    ·
     split at hp
     ·
      obtain rfl:=List.mem_singleton.1 hp;subst z;exact s5 x y a w hI
     ·
      cases hp
   ·
    split at hp
    ·
     rename_i h;obtain ⟨rfl,rfl,rfl⟩:=h;obtain rfl:=List.mem_singleton.1 hp;exact s6 a w hI
    ·
     cases hp
abbrev St20:=Nat×Nat×Nat×Nat×Nat
def st20:St20→Array Bool
 | (0,x,_,_,_)=>#[decide (1≤x),decide (2≤x),false,false,false,false,false,false,false,false,false,false,false,false,false,false,false,false,false,false]
 | (1,x,y,z,d)=>#[true,true,true,decide (1≤x),decide (1≤y),decide (2≤y),decide (3≤y),decide (1≤d),decide (1≤z),decide (2≤z),false,false,false,false,false,false,false,false,false,false]
 | (_,x,_,_,_)=>#[true,true,true,true,true,true,true,true,true,true,decide (1≤x),decide (2≤x),decide (3≤x),decide (4≤x),decide (5≤x),decide (6≤x),decide (7≤x),decide (8≤x),decide (9≤x),decide (10≤x)]
def go20:St20→List (Nat×St20)
 | (0,x,_,_,_)=>if x=0 then [(0,(0,1,0,0,0))] else if x=1 then [(1,(0,2,0,0,0))] else [(2,(1,0,0,0,0))]
 | (1,x,y,z,d)=>(if x=0 then [(3,(1,1,y,z,d))] else [])++((if y=0 then [(4,(1,x,1,z,d))] else if y=1 then [(5,(1,x,2,z,d))] else if y=2 then [(6,(1,x,3,z,d))] else [])++((if x=1∧y=3∧d=0 then [(7,(1,x,y,z,1))] else [])++((if z=0 then [(8,(1,x,y,1,d))] else if z=1 then [(9,(1,x,y,2,d))] else [])++(if d=1∧z=2 then [(10,(2,1,0,0,0))] else []))))
 | (_,x,_,_,_)=>if x < 10 then [(10+x,(2,x+1,0,0,0))] else []
def all20:List St20:=(List.range 3).map (fun x=>(0,x,0,0,0))++(((List.range 2).flatMap fun x=>(List.range 4).flatMap fun y=>(List.range 3).map fun z=>(1,x,y,z,0))++((List.range 3).map (fun z=>(1,1,3,z,1))++(List.range 10).map (fun x=>(2,x+1,0,0,0))))
theorem wpAnyIn_20 (htab:stTab ops all20 st20 go20=true) (I0:Nat→Act→World→Prop) (I1:Nat→Nat→Nat→Nat→Act→World→Prop) (I2:Nat→Act→World→Prop)
  (hdone:∀ a w,I2 10 a w→Q .normal a w)
  (s0:∀ a w,I0 0 a w→wpOpIn F n P ops Q 0 (fun a' w'=>I0 1 a' w') a w)
  (s1:∀ a w,I0 1 a w→wpOpIn F n P ops Q 1 (fun a' w'=>I0 2 a' w') a w)
  (s2:∀ a w,I0 2 a w→wpOpIn F n P ops Q 2 (fun a' w'=>I1 0 0 0 0 a' w') a w)
  (s3:∀ y z d a w,I1 0 y z d a w→wpOpIn F n P ops Q 3 (fun a' w'=>I1 1 y z d a' w') a w)
  (s4:∀ x z d a w,I1 x 0 z d a w→wpOpIn F n P ops Q 4 (fun a' w'=>I1 x 1 z d a' w') a w)
  (s5:∀ x z d a w,I1 x 1 z d a w→wpOpIn F n P ops Q 5 (fun a' w'=>I1 x 2 z d a' w') a w)
  (s6:∀ x z d a w,I1 x 2 z d a w→wpOpIn F n P ops Q 6 (fun a' w'=>I1 x 3 z d a' w') a w)
  (s7:∀ z a w,I1 1 3 z 0 a w→wpOpIn F n P ops Q 7 (fun a' w'=>I1 1 3 z 1 a' w') a w)
  (s8:∀ x y d a w,I1 x y 0 d a w→wpOpIn F n P ops Q 8 (fun a' w'=>I1 x y 1 d a' w') a w)
  (s9:∀ x y d a w,I1 x y 1 d a w→wpOpIn F n P ops Q 9 (fun a' w'=>I1 x y 2 d a' w') a w)
  (s10:∀ a w,I1 1 3 2 1 a w→wpOpIn F n P ops Q 10 (fun a' w'=>I2 1 a' w') a w)
  (s11:∀ a w,I2 1 a w→wpOpIn F n P ops Q 11 (fun a' w'=>I2 2 a' w') a w)
  (s12:∀ a w,I2 2 a w→wpOpIn F n P ops Q 12 (fun a' w'=>I2 3 a' w') a w)
  (s13:∀ a w,I2 3 a w→wpOpIn F n P ops Q 13 (fun a' w'=>I2 4 a' w') a w)
  (s14:∀ a w,I2 4 a w→wpOpIn F n P ops Q 14 (fun a' w'=>I2 5 a' w') a w)
  (s15:∀ a w,I2 5 a w→wpOpIn F n P ops Q 15 (fun a' w'=>I2 6 a' w') a w)
  (s16:∀ a w,I2 6 a w→wpOpIn F n P ops Q 16 (fun a' w'=>I2 7 a' w') a w)
  (s17:∀ a w,I2 7 a w→wpOpIn F n P ops Q 17 (fun a' w'=>I2 8 a' w') a w)
  (s18:∀ a w,I2 8 a w→wpOpIn F n P ops Q 18 (fun a' w'=>I2 9 a' w') a w)
  (s19:∀ a w,I2 9 a w→wpOpIn F n P ops Q 19 (fun a' w'=>I2 10 a' w') a w)
  {a:Act} {w:World} (hi:I0 0 a w):wpAnyIn F n P .any ops Q 20 (zzB 20 0) a w:=by
 refine wpAnyIn_states all20 st20 go20 htab (fun s a w=>match s with
  | (0,x,_,_,_)=>I0 x a w
  | (1,x,y,z,d)=>I1 x y z d a w
  | (_,x,_,_,_)=>I2 x a w) ?_ ?_ (0,0,0,0,0) (by decide) 20 (by decide) hi
 ·
  have h20:∀ s∈all20,go20 s = []→s=(2,10,0,0,0):=by decide +kernel
  intro s hs hg a w hI;rw [h20 s hs hg] at hI;exact hdone a w hI
 ·
  rintro ⟨p0,x,y,z,d⟩ hs p hp a w hI;simp only [all20,List.mem_append,List.mem_map,List.mem_range,List.mem_flatMap,Prod.mk.injEq] at hs;rcases hs with ⟨x',hx',rfl,rfl,rfl,rfl,rfl⟩|⟨x',hx',y',hy',z',hz',rfl,rfl,rfl,rfl,rfl⟩|⟨z',hz',rfl,rfl,rfl,rfl,rfl⟩|⟨x',hx',rfl,rfl,rfl,rfl,rfl⟩
  ·
   simp only [go20] at hp;split at hp
   ·
    obtain rfl:=List.mem_singleton.1 hp;subst x';exact s0 a w hI
   ·
    split at hp
    ·
     obtain rfl:=List.mem_singleton.1 hp;subst x';exact s1 a w hI
    ·
     obtain rfl:=List.mem_singleton.1 hp;obtain rfl:x' = 2:=by omega
     exact s2 a w hI
  ·
   simp only [go20,List.mem_append] at hp;rcases hp with hp|hp|hp|hp|hp
   ·
    split at hp
    ·
     obtain rfl:=List.mem_singleton.1 hp;subst x';exact s3 y' z' 0 a w hI
    ·
     cases hp
   ·
    split at hp
    ·
     obtain rfl:=List.mem_singleton.1 hp;subst y';exact s4 x' z' 0 a w hI
    ·
     split at hp
     ·
      obtain rfl:=List.mem_singleton.1 hp;subst y';exact s5 x' z' 0 a w hI
     ·
      split at hp
      ·
       obtain rfl:=List.mem_singleton.1 hp;subst y';exact s6 x' z' 0 a w hI
      ·
       cases hp
   ·
    split at hp
    ·
     rename_i h;obtain ⟨rfl,rfl,-⟩:=h;obtain rfl:=List.mem_singleton.1 hp;exact s7 z' a w hI
    ·
     cases hp
   ·
    split at hp
    ·
     obtain rfl:=List.mem_singleton.1 hp;subst z';exact s8 x' y' 0 a w hI
    ·
     split at hp
     ·
      obtain rfl:=List.mem_singleton.1 hp;subst z';exact s9 x' y' 0 a w hI
     ·
      cases hp
   ·
    rw [if_neg (by omega)] at hp;cases hp
  ·
   simp only [go20,List.mem_append] at hp;rcases hp with hp|hp|hp|hp|hp
   ·
    rw [if_neg (by omega)] at hp;cases hp
   ·
    rw [if_neg (by omega),if_neg (by omega),if_neg (by omega)] at hp;cases hp
   ·
    rw [if_neg (by omega)] at hp;cases hp
   ·
    split at hp
    ·
     obtain rfl:=List.mem_singleton.1 hp;subst z';exact s8 1 3 1 a w hI
    ·
     split at hp
     ·
      obtain rfl:=List.mem_singleton.1 hp;subst z';exact s9 1 3 1 a w hI
     ·
      cases hp
   ·
    split at hp
    ·
     rename_i h;obtain ⟨-,rfl⟩:=h;obtain rfl:=List.mem_singleton.1 hp;exact s10 a w hI
    ·
     cases hp
  ·
   simp only [go20] at hp;split at hp
   ·
    rename_i h;obtain rfl:=List.mem_singleton.1 hp;match x',h,hI with
    | 0,h,hI=>exact s11 a w hI
    | 1,h,hI=>exact s12 a w hI
    | 2,h,hI=>exact s13 a w hI
    | 3,h,hI=>exact s14 a w hI
    | 4,h,hI=>exact s15 a w hI
    | 5,h,hI=>exact s16 a w hI
    | 6,h,hI=>exact s17 a w hI
    | 7,h,hI=>exact s18 a w hI
    | 8,h,hI=>exact s19 a w hI
    | x' + 9,h,hI=>exact absurd h (by omega)
   ·
    cases hp
end
section
open Go.Shelf
attribute [local go_sem] Oper.semAt_some
def okLog (l:List S39):Bool:=decide ((pts l).length≤1000000)&&l.all fun b=>b.f5.all fun r=>(decide (0≤r.f0∧r.f0≤99999)&&decide (r.f3.length≤1000))&&(decide (r.f5.length≤1000)&&(!r.f2||keyOk r.f3))
def rcOf (l:List S39) (x:Nat×Nat):S47:=Qb (Qa l (x.1:Int)).f5 (x.2:Int)
def mkOf (l:List S39) (x:Nat×Nat):Bool:=(Qa l (x.1:Int)).f1
theorem okLog_len {l:List S39} (h:okLog l=true):(pts l).length≤1000000:=by
 unfold okLog at h;rw [Bool.and_eq_true,decide_eq_true_eq] at h;exact h.1
theorem okLog_at {l:List S39} (h:okLog l=true) (x:Nat×Nat):(0≤(rcOf l x).f0∧(rcOf l x).f0≤99999)∧(rcOf l x).f3.length≤1000∧(rcOf l x).f5.length≤1000∧((rcOf l x).f2=true→keyOk (rcOf l x).f3=true):=by
 obtain ⟨i,j⟩:=x;unfold rcOf;dsimp only;by_cases hi:i < l.length
 ·
  by_cases hj:j < (Qa l i).f5.length
  ·
   have h1:Qa l i=l[i]:=by unfold Qa;rw [Int.toNat_natCast,List.getD_eq_getElem?_getD,List.getElem?_eq_getElem hi];rfl
   have h2:Qb (Qa l i).f5 j=(Qa l i).f5[j]:=by unfold Qb;rw [Int.toNat_natCast,List.getD_eq_getElem?_getD,List.getElem?_eq_getElem hj];rfl
   unfold okLog at h;rw [Bool.and_eq_true] at h;have h3:=List.all_eq_true.1 (List.all_eq_true.1 h.2 (Qa l i) (by rw [h1];exact List.getElem_mem hi)) _ (List.getElem_mem hj);rw [h2];simp only [Bool.and_eq_true,decide_eq_true_eq,Bool.or_eq_true,Bool.not_eq_true'] at h3;refine ⟨h3.1.1,h3.1.2,h3.2.1,fun h4=>?_⟩;rcases h3.2.2 with h5|h5
   ·
    rw [h4] at h5;cases h5
   ·
    exact h5
  ·
   rw [rd_none_R hj];exact ⟨by decide,by decide,by decide,by decide⟩
 ·
  rw [rd_none_B hi,rd_none_R (by simp [z39])];exact ⟨by decide,by decide,by decide,by decide⟩
def lastStep (l:List S39) (D:DataW Unit) (x:Nat×Nat):DataW Unit:=if (!mkOf l x&&(rcOf l x).f2)=true then D.put (.string (hexOf (rcOf l x).f3)) (.lit (.int .i64 (rcOf l x).f0)) else D
def lastD (l:List S39) (pre:List (Nat×Nat)):DataW Unit:=pre.foldl (lastStep l) (.map [])
def offStep (l:List S39) (kk:List UInt8) (a:Int) (x:Nat×Nat):Int:=if (!mkOf l x&&((rcOf l x).f2&&decide (hexOf (rcOf l x).f3=kk)))=true then (rcOf l x).f0 else a
def lastOff (l:List S39) (pre:List (Nat×Nat)) (kk:List UInt8):Int:=pre.foldl (offStep l kk) 0
theorem last_fold (l:List S39):∀ (xs:List (Nat×Nat)) (D:DataW Unit) (a:List UInt8→Int),Maps.IsMap D→(∀ kk,D.atKey (.string kk) (.lit (.int .i64 0)) = .lit (.int .i64 (a kk))) →
  ∀ kk,(xs.foldl (lastStep l) D).atKey (.string kk) (.lit (.int .i64 0)) = .lit (.int .i64 (xs.foldl (offStep l kk) (a kk)))
 | [],D,a,hm,h,kk=>h kk
 | x::xs,D,a,hm,h,kk=>by
  rw [List.foldl_cons,List.foldl_cons]
  refine last_fold l xs (lastStep l D x) (fun kk=>offStep l kk (a kk) x) ?_ ?_ kk
  ·
   unfold lastStep
   split
   ·
    exact Maps.IsMap.put hm _ _
   ·
    exact hm
  ·
   intro kk
   unfold lastStep offStep
   by_cases h1:(!mkOf l x&&(rcOf l x).f2)=true
   ·
    rw [if_pos h1]
    rw [Bool.and_eq_true] at h1
    by_cases h2:hexOf (rcOf l x).f3=kk
    ·
     rw [if_pos (by simp [h1.2,h2];simpa using h1.1),← h2]
     exact Maps.atKey_put_same hm (by exact True.intro) _ _
    ·
     rw [if_neg (by simp [h2]),Maps.atKey_put_other (fun e=>h2 (by cases e;rfl))]
     exact h kk
   ·
    rw [if_neg h1,if_neg (fun h3=>h1 (by simp only [Bool.and_eq_true] at h3 ⊢;exact ⟨h3.1,h3.2.1⟩))]
    exact h kk
theorem lastD_at (l:List S39) (pre:List (Nat×Nat)) (kk:List UInt8):(lastD l pre).atKey (.string kk) (.lit (.int .i64 0)) = .lit (.int .i64 (lastOff l pre kk)):=
 last_fold l pre (.map []) (fun _=>0) Maps.isMap_empty (fun kk=>rfl) kk
theorem lastD_snoc (l:List S39) (pre:List (Nat×Nat)) (x:Nat×Nat):lastD l (pre ++ [x])=lastStep l (lastD l pre) x:=by simp [lastD]
theorem allBytes_from (l:List Int) (h:∀ m:Nat,m < l.length→0≤rd l (m:Int)∧rd l (m:Int)≤255) (hl:l.length≤1000):∀ (d i:Nat),l.length - i=d→i≤l.length→Qn.l0 (d+1) l (l.length:Int) (i:Int)=some true
 | 0,i,hd,hi=>by
  simp only [Qn.l0]
  rw [if_neg (by omega)]
 | d+1,i,hd,hi=>by
  have:=h i (by omega)
  have e1:wrap64 ((i:Int)+1)=((i+1:Nat):Int):=by unfold wrap64;omega
  have e2:Ro.f (rd l (i:Int))=some true:=by unfold Ro.f;rw [if_pos (by omega)];simp [this.2]
  have ih:=allBytes_from l h hl d (i+1) (by omega) (by omega)
  unfold Qn.l0
  rw [if_pos (by omega),if_pos (by omega),e2,Option.bind_some,if_pos rfl,e1,if_pos (by omega)]
  exact ih
theorem allBytes_true {l:List Int} (h:keyOk l=true):Qn.f (l.length+1) l=some true:=by
 unfold Qn.f;exact allBytes_from l (keyOk_at h) (keyOk_len h) l.length 0 (by omega) (by omega)
theorem bytesText_f {l:List Int} (h:keyOk l=true):Rn.f (l.length+1) l=some ⟨(hexOf l).toArray⟩:=by
 unfold Rn.f;rw [allBytes_true h];simp only [Option.bind_some,if_true,h]
theorem ownsMap_below {W W' : World} {b n:Nat} {D:DataW Unit} {P:Program} {k:TypeId} {R:Value→Option (DataW Unit×List MemPlace)} (h:W.ownsMap P k R b n D) (hb:Below W.heap.size W W'):W'.ownsMap P k R b n D:=by
 obtain ⟨es,clock,h1,F,hs,hD⟩:=h;exact ⟨es,clock,(hb.block _ (Array.getElem?_eq_some_iff.1 h1).1).trans h1,F,hs,hD⟩
theorem Boxed.of_below {W W' : World} {B:Nat} {t:TypeId} {v:Value} (h:Boxed W B t v) (hb:Below W.heap.size W W'):Boxed W' B t v:=(hb.block _ (Array.getElem?_eq_some_iff.1 h).1).trans h
theorem KeepsFrom.of_below {B:Nat} {W W' : World} (h:Below W.heap.size W W'):KeepsFrom B W W':=⟨h.size,fun i o hB hi ho=>(h.block i (Array.getElem?_eq_some_iff.1 hi).1).trans hi⟩
theorem S_mapUpdate_in {F:Fence} {n:Nat} {P:Program} {W:World} {o:Oper} {a:Act} {K:Act→World→Prop} {Q:Exit→Act→World→Prop} (m x v:Operand) (t:TypeId) (hop:o.op=Op.mapUpdate t m x v)
  (k e:TypeId) (KD:Maps.Keyed P k) (ht:P.underlying t=some (.map k e)) (R:Value→Option (DataW Unit×List MemPlace)) (b nn:Nat) (D:DataW Unit)
  (hm:a.eval m = .map (some b)) (hown:W.ownsMap P k R b nn D) (hn:nn < maxLen) (key val:Value) (kl:Lit) (hx:a.eval x=key) (hv:a.eval v=val) (hkey:keyOf P k key=some kl)
  (d:DataW Unit) (ps:List MemPlace) (hval:R val=some (d,ps))
  (h:∀ w',w'.ownsMap P k R b (nn+1) (D.put kl d)→W.grownBy w' (some b)→K (a.put o.dst undef) w'):Oper.wpIn F n P o a W K Q:=by
 obtain ⟨w',hrun,r1,r2⟩:=hown.update KD ht hn hkey hval;unfold Oper.wpIn;refine ⟨by simp [Oper.about,hop],?_⟩;rw [Oper.semAt_plain F _ _ (by rw [hop];intro c hc';cases hc')];simp [execOp,hop,hm,hx,hv,hrun,Result.andThen];exact h w' r1 r2
set_option maxHeartbeats 4000000 in
theorem stayer_calls (A0:Option Addr) (c0:Nat) (l0:List (S39)) (gone:Bool) (w:World) (a0:Kd.C k39 w A0 l0.length l0) (a1:l0.length≤c0) (hok:okLog l0=true) :
  Calls Try.prog 16 #[.slice A0 l0.length c0,.bool gone] w fun e w'=>∃ Bm Bg bm,e = .returned (.func (.func 36) #[] #[.pointer (some ⟨Bm,0,none⟩),.pointer (some ⟨Bg,0,none⟩)])∧w.heap.size≤Bm∧w.heap.size≤Bg∧w.heap.size≤bm∧Boxed w' Bm 59 (.map (some bm))∧Boxed w' Bg 4 (.bool gone)∧w'.ownsMap Try.prog 9 (plainElem Try.prog 3) bm (pts l0).length (lastD l0 (pts l0))∧Below w.heap.size w w':=by
 have hm0:l0.length≤9223372036854775807:=a0.2.1;obtain ⟨AB,CB,AK,CK,AV,CV,hP⟩:=places_of a0;have HP:=zzm hP;have a4:=zzm a0;have a5:=zzm a1;have HOK:=zzm hok;clear a0 a1 hP hok;refine callsIn_wide (n:=8).1 ?_;have hro:(Fence.wide).round=none:=rfl;refine callsIn_of_wp_marks Try.func16 rfl trivial ?_ hro;simp only [Try.ntmps16,List.size_toArray,List.length_cons,List.length_nil,Nat.reduceAdd,Nat.reduceSub,Array.replicate_succ,Array.replicate_zero,List.push_toArray,List.append_toArray,List.nil_append,List.cons_append];have hmm:=@run_makeMap Try.prog;gi_wp2_with (refine ⟨trivial,?_⟩;gi_at_call 34;refine (recs_in Fence.wide 7 trivial hro A0 _ _ _).mono ?_;rintro e w3 ⟨rfl,rfl⟩;dsimp only);obtain ⟨W0,hW0⟩:∃ W0,W0=((((w.alloc (.cells #[.bool gone] 4)).alloc (.map #[] 0)).alloc (.cells #[.map (some (w.heap.size+1))] 59)).alloc (.cells #[.slice A0 l0.length c0] 24)):=⟨_,rfl⟩;obtain ⟨Bs,hBs⟩:∃ Bs,Bs=(((w.alloc (.cells #[.bool gone] 4)).alloc (.map #[] 0)).alloc (.cells #[.map (some (w.heap.size+1))] 59)).heap.size:=⟨_,rfl⟩;have hB0:Below w.heap.size w W0:=by rw [hW0];exact ((((Below.refl _ w).alloc (Nat.le_refl _) _).alloc (by simp) _).alloc (by simp;omega) _).alloc (by simp;omega) _
 have hsz0:W0.heap.size=w.heap.size+4:=by rw [hW0];simp
 have hb1:Boxed W0 w.heap.size 4 (.bool gone):=by rw [hW0];exact (((Boxed.new w 4 _).alloc _).alloc _).alloc _
 have hb2:Boxed W0 (w.heap.size+1+1) 59 (.map (some (w.heap.size+1))):=by
  have:=(Boxed.new ((w.alloc (.cells #[.bool gone] 4)).alloc (.map #[] 0)) 59 (.map (some (w.heap.size+1)))).alloc (.cells #[.slice A0 l0.length c0] 24);simp only [World.size_alloc] at this;rw [hW0];exact this
 have hsb:Boxed W0 Bs 24 (.slice A0 l0.length c0):=by rw [hW0,hBs];exact Boxed.new _ _ _
 have hown0:W0.ownsMap Try.prog 9 (plainElem (H:=Unit) Try.prog 3) (w.heap.size+1) 0 (.map []):=by
  have:=((World.ownsMap_made (w.alloc (.cells #[.bool gone] 4)) Try.prog 9 (plainElem (H:=Unit) Try.prog 3)).alloc (.cells #[.map (some (w.heap.size+1))] 59)).alloc (.cells #[.slice A0 l0.length c0] 24);simp only [World.size_alloc] at this;rw [hW0];exact this
 rw [← hW0,← hBs];clear hW0 hBs;refine wpIn_rangeFunc_ownH rfl (by omega) (gf:=51) (lb:=#[.pointer (some ⟨Bs,0,none⟩)]) rfl trivial (enters_of Try.func51 (by kernel_rfl) rfl)
  (recs_stops Fence.wide _ trivial rfl (by omega) Bs A0 c0 l0 w W0 HP.out hm0 hB0 hsb.cell) KpR.t (KpR.b hB0.size) (Below.refl _ _) (fun _=>rfl)
  (fun pre W=>W.ownsMap Try.prog 9 (plainElem Try.prog 3) (w.heap.size+1) pre.length (lastD l0 pre)∧Boxed W (w.heap.size+1+1) 59 (.map (some (w.heap.size+1)))∧Boxed W w.heap.size 4 (.bool gone)∧Below w.heap.size w W)
  (fun _ _ _=>False)
  (fun s X Y row hs hg hr=>by
   obtain ⟨e1,e2,e3,e4⟩:=hs;have hc:∀ r,row=some r→∃ o:Obj,X.heap[r]? = some o∧o.isCells=false:=fun r e=>(hr r e).2;exact ⟨e1.kept hg (fun e=>by have:=(hr _ e.symm).1;omega),boxed_own _ _ (fun _:Unit=>_) () X Y row e2 hg hc,boxed_own _ _ (fun _:Unit=>_) () X Y row e3 hg hc,ownFrom_below (Nat.le_refl _) hB0.size () X Y row e4 hg hr⟩)
  (fun _ _ _ _ _ hs _ _=>hs)
  ⟨hown0,hb2,hb1,hB0⟩
  (fun x a' W=>∃ Bx,W.heap[Bx]? = some (.cells #[.bool (Qa l0 (x.1:Int)).f0,.bool (Qa l0 (x.1:Int)).f1,.int .i64 (Qa l0 (x.1:Int)).f2,.int .i64 (Qa l0 (x.1:Int)).f3,.int .i64 (Qa l0 (x.1:Int)).f4,.slice (AB x.1) (Qa l0 (x.1:Int)).f5.length (CB x.1)] 39 (0,0))∧W.heap[Bx+1]? = some (.cells #[.int .i64 (rcOf l0 x).f0,.int .i64 (rcOf l0 x).f1,.bool (rcOf l0 x).f2,.slice (AK x.1 x.2) (rcOf l0 x).f3.length (CK x.1 x.2),.bool (rcOf l0 x).f4,.slice (AV x.1 x.2) (rcOf l0 x).f5.length (CV x.1 x.2)] 47 (0,0))∧a' = { tmps:=#[.slice A0 l0.length c0,.bool gone,undef,.pointer (some ⟨w.heap.size,0,none⟩),.nilFunc,.pointer (some ⟨w.heap.size+1+1,0,none⟩),.pointer (some ⟨Bx,0,none⟩),.pointer (some ⟨Bx+1,0,none⟩),.map (some (w.heap.size+1)),.slice A0 l0.length c0,.func (.func 51) #[] #[.pointer (some ⟨Bs,0,none⟩)],encB l0 AB CB x.1,encR l0 AK CK AV CV x.1 x.2,undef,undef,undef,undef,undef,undef,undef,undef,undef,undef,undef,undef,undef,undef],defers:=[] })
  (fun x a' _ X Y row hs hg hr=>by
   obtain ⟨Bx,e1,e2,e3⟩:=hs;have hne:∀ k cs t f,X.heap[k]? = some (.cells cs t f)→some k≠row:=fun k cs t f h e=>by obtain ⟨o,ho,hoc⟩:=(hr k e.symm).2;rw [h] at ho;cases ho;cases hoc
   exact ⟨Bx,(hg.block _ (Array.getElem?_eq_some_iff.1 e1).1 (hne _ _ _ _ e1)).trans e1,(hg.block _ (Array.getElem?_eq_some_iff.1 e2).1 (hne _ _ _ _ e2)).trans e2,e3⟩)
  ?assign ?body ?done ?stop
 case assign=>
  rintro l pre x W K ⟨e1,e2,e3,e4⟩ hK;unfold encB encR;gi_wp2;have a2:=World.alloc_heap_new W (.cells #[.bool (Qa l0 (x.1:Int)).f0,.bool (Qa l0 (x.1:Int)).f1,.int .i64 (Qa l0 (x.1:Int)).f2,.int .i64 (Qa l0 (x.1:Int)).f3,.int .i64 (Qa l0 (x.1:Int)).f4,.slice (AB x.1) (Qa l0 (x.1:Int)).f5.length (CB x.1)] 39);have a3:=World.alloc_heap_new (W.alloc (.cells #[.bool (Qa l0 (x.1:Int)).f0,.bool (Qa l0 (x.1:Int)).f1,.int .i64 (Qa l0 (x.1:Int)).f2,.int .i64 (Qa l0 (x.1:Int)).f3,.int .i64 (Qa l0 (x.1:Int)).f4,.slice (AB x.1) (Qa l0 (x.1:Int)).f5.length (CB x.1)] 39)) (.cells #[.int .i64 (rcOf l0 x).f0,.int .i64 (rcOf l0 x).f1,.bool (rcOf l0 x).f2,.slice (AK x.1 x.2) (rcOf l0 x).f3.length (CK x.1 x.2),.bool (rcOf l0 x).f4,.slice (AV x.1 x.2) (rcOf l0 x).f5.length (CV x.1 x.2)] 47);refine hK _ _ (((KeepsOthers.alloc _ _).trans (KeepsOthers.alloc _ _)).from _) ⟨((Below.refl _ W).alloc e4.size _).alloc (by simp;have:=e4.size;omega) _,(KeepT.alloc _ _).trans (KeepT.alloc _ _)⟩ ?_ ?_
  ·
   exact ⟨(e1.alloc _).alloc _,(e2.alloc _).alloc _,(e3.alloc _).alloc _,(e4.alloc e4.size _).alloc (by simp;have:=e4.size;omega) _⟩
  ·
   exact ⟨W.heap.size,(Below.heap_alloc _ _ _ (by simp)).trans a2,by have h:=a3;simp only [World.size_alloc] at h;exact h,rfl⟩
 case body=>
  rintro l pre x a' W hl ⟨lr,hlr⟩ ⟨e1,e2,e3,e4⟩ ⟨Bx,cB,cR,rfl⟩ hlt;have m1:W.cell? ⟨Bx,1,none⟩=some (.bool (mkOf l0 x)):=by simp [World.cell?,cB];rfl
  have r2:W.cell? ⟨Bx+1,2,none⟩=some (.bool (rcOf l0 x).f2):=by simp [World.cell?,cR]
  have hpl:(pre ++ [x]).length=pre.length+1:=by simp
  have same:(!mkOf l0 x&&(rcOf l0 x).f2)=false→lastD l0 (pre ++ [x])=lastD l0 pre:=fun h=>by rw [lastD_snoc];unfold lastStep;rw [h];rfl
  have stay:(!mkOf l0 x&&(rcOf l0 x).f2)=false→W.ownsMap Try.prog 9 (plainElem (H:=Unit) Try.prog 3) (w.heap.size+1) (pre ++ [x]).length (lastD l0 (pre ++ [x])):=fun h=>by rw [same h,hpl];exact e1.mono (Nat.le_succ _)
  cases hm:mkOf l0 x with
  | true=>
   rw [hm] at m1;have hst:=stay (by simp [hm]);clear same stay;gi_wp2;exact ⟨KeepsFrom.refl _ _,⟨Below.refl _ _,KeepT.refl _ _⟩,hst,e2,e3,e4⟩
  | false=>
   rw [hm] at m1;cases hf:(rcOf l0 x).f2 with
   | false=>
    rw [hf] at r2;have hst:=stay (by simp [hf]);clear same stay;gi_wp2;exact ⟨KeepsFrom.refl _ _,⟨Below.refl _ _,KeepT.refl _ _⟩,hst,e2,e3,e4⟩
   | true=>
    rw [hf] at r2;clear same stay;gi_wp2;have hkey:=(okLog_at HOK.out x).2.2.2 hf;have hoff:=(okLog_at HOK.out x).1;have hBT:=zzm (bytesText_f hkey);have hnx:lastD l0 (pre ++ [x])=(lastD l0 pre).put (.string (hexOf (rcOf l0 x).f3)) (.lit (.int .i64 (rcOf l0 x).f0)):=by rw [lastD_snoc];unfold lastStep;rw [hm,hf];rfl
    have hwf:(Lit.int .i64 (rcOf l0 x).f0).wf=true:=by simp [Lit.wf,IntKind.min,IntKind.max,IntKind.signed,IntKind.bits];omega
    have hplt:pre.length < 1000000:=by have:=okLog_len HOK.out;omega
    have cM:=e2.cell;have hmx:Try.prog.follows .mixedOrders=true:=by kernel_rfl
    obtain ⟨mk,hmk⟩:∃ mk:Value→Value→Value→Value→Value→Value→Act,mk=fun u0 u1 u2 u3 u4 u5=>{ tmps:=#[.slice A0 l0.length c0,.bool gone,undef,.pointer (some ⟨w.heap.size,0,none⟩),.nilFunc,.pointer (some ⟨w.heap.size+1+1,0,none⟩),.pointer (some ⟨Bx,0,none⟩),.pointer (some ⟨Bx+1,0,none⟩),.map (some (w.heap.size+1)),.slice A0 l0.length c0,.func (.func 51) #[] #[.pointer (some ⟨Bs,0,none⟩)],encB l0 AB CB x.1,encR l0 AK CK AV CV x.1 x.2,.pointer (some ⟨Bx,1,none⟩),.bool false,.bool true,.bool true,.pointer (some ⟨Bx+1,2,none⟩),.bool true,.bool true,u0,u1,u2,u3,u4,u5,undef],defers:=[] }:=⟨_,rfl⟩;refine wpIn_region_any hmx (wpAnyIn_132 (by kernel_rfl) (fun p q s a' W'=>∃ u0 u1 u2 u3 u4 u5,a' = mk u0 u1 u2 u3 u4 u5∧Below W.heap.size W W'∧(p=1→u0 = .map (some (w.heap.size+1)))∧(1≤q→u1 = .pointer (some ⟨Bx+1,3,none⟩))∧(2≤q→u2 = .slice (AK x.1 x.2) (rcOf l0 x).f3.length (CK x.1 x.2))∧(3≤q→u3 = .string ⟨(hexOf (rcOf l0 x).f3).toArray⟩)∧(1≤s→u4 = .pointer (some ⟨Bx+1,0,none⟩))∧(2≤s→u5 = .int .i64 (rcOf l0 x).f0))
     (fun a' W'=>(∃ u0 u1 u2 u3 u4 u5,a' = mk u0 u1 u2 u3 u4 u5)∧KeepsFrom W0.heap.size W W'∧KpR w.heap.size W W'∧W'.ownsMap Try.prog 9 (plainElem (H:=Unit) Try.prog 3) (w.heap.size+1) (pre ++ [x]).length (lastD l0 (pre ++ [x]))∧Boxed W' (w.heap.size+1+1) 59 (.map (some (w.heap.size+1)))∧Boxed W' w.heap.size 4 (.bool gone)∧Below w.heap.size w W')
     ?hdone ?s0 ?s1 ?s2 ?s3 ?s4 ?s5 ?s6 ⟨_,_,_,_,_,_,by rw [hmk],?hini,by simp,by simp,by simp,by simp,by simp,by simp⟩)
    case hini=>exact zzb (Below.refl _ W) 1
    case hdone=>
     rintro a' W' ⟨⟨u0,u1,u2,u3,u4,u5,rfl⟩,k1,k2,k3,k4,k5,k6⟩;rw [hmk];gi_wp2;exact ⟨k1,k2,k3,k4,k5,k6⟩
    case s0=>
     rintro q s a' W' ⟨u0,u1,u2,u3,u4,u5,rfl,hb,h0,h1,h2,h3,h4,h5⟩;rw [hmk];refine wpOpIn_step rfl (fun K hK=>?_);have HK:=zzm hK;have cMn:=(hb.cell (zzn W _ cM)).trans cM;clear hK;go_simp;exact HK.out _ _ ⟨_,u1,u2,u3,u4,u5,rfl,hb,fun _=>rfl,h1,h2,h3,h4,h5⟩
    case s1=>
     rintro p s a' W' ⟨u0,u1,u2,u3,u4,u5,rfl,hb,h0,h1,h2,h3,h4,h5⟩;rw [hmk];refine wpOpIn_step rfl (fun K hK=>?_);have HK:=zzm hK;clear hK;go_simp;exact HK.out _ _ ⟨u0,_,u2,u3,u4,u5,rfl,hb,h0,fun _=>rfl,by simp,by simp,h4,h5⟩
    case s2=>
     rintro p s a' W' ⟨u0,u1,u2,u3,u4,u5,rfl,hb,h0,h1,h2,h3,h4,h5⟩;obtain rfl:=h1 (by decide);rw [hmk];refine wpOpIn_step rfl (fun K hK=>?_);have HK:=zzm hK;have hcR:=(hb.block _ (Array.getElem?_eq_some_iff.1 cR).1).trans cR;have q3:W'.cell? ⟨Bx+1,3,none⟩=some (.slice (AK x.1 x.2) (rcOf l0 x).f3.length (CK x.1 x.2)):=by simp [World.cell?,hcR]
     clear hK hcR;go_simp;exact HK.out _ _ ⟨u0,_,_,u3,u4,u5,rfl,hb,h0,fun _=>rfl,fun _=>rfl,by simp,h4,h5⟩
    case s3=>
     rintro p s a' W' ⟨u0,u1,u2,u3,u4,u5,rfl,hb,h0,h1,h2,h3,h4,h5⟩;obtain rfl:=h1 (by decide);obtain rfl:=h2 (by decide);rw [hmk];refine wpOpIn_step rfl (fun K hK=>?_);have HK:=zzm hK;have hKy:=zzm (Kd.C_below (HP.out.key x.1 x.2).2 (e4.trans (hb.mono e4.size)));clear hK;go_simp;gi_wp2_with (refine ⟨trivial,?_⟩;gi_at_call 35;refine (CallsIn.inRound l (callsIn_wide.2 (Rn.calls _ _ _ _ _ _ hKy.out (HP.out.key x.1 x.2).1 hBT.out))).mono ?_;rintro e w7 ⟨rfl,hb7⟩;dsimp only);exact HK.out _ _ ⟨u0,_,_,_,u4,u5,rfl,zzp hb hb7,h0,fun _=>rfl,fun _=>rfl,fun _=>rfl,h4,h5⟩
    case s4=>
     rintro p q a' W' ⟨u0,u1,u2,u3,u4,u5,rfl,hb,h0,h1,h2,h3,h4,h5⟩;rw [hmk];refine wpOpIn_step rfl (fun K hK=>?_);have HK:=zzm hK;clear hK;go_simp;exact HK.out _ _ ⟨u0,u1,u2,u3,_,u5,rfl,hb,h0,h1,h2,h3,fun _=>rfl,by simp⟩
    case s5=>
     rintro p q a' W' ⟨u0,u1,u2,u3,u4,u5,rfl,hb,h0,h1,h2,h3,h4,h5⟩;obtain rfl:=h4 (by decide);rw [hmk];refine wpOpIn_step rfl (fun K hK=>?_);have HK:=zzm hK;have hcR:=(hb.block _ (Array.getElem?_eq_some_iff.1 cR).1).trans cR;have q0:W'.cell? ⟨Bx+1,0,none⟩=some (.int .i64 (rcOf l0 x).f0):=by simp [World.cell?,hcR]
     clear hK hcR;go_simp;exact HK.out _ _ ⟨u0,u1,u2,u3,_,_,rfl,hb,h0,h1,h2,h3,fun _=>rfl,fun _=>rfl⟩
    case s6=>
     rintro a' W' ⟨u0,u1,u2,u3,u4,u5,rfl,hb,h0,h1,h2,h3,h4,h5⟩;obtain rfl:=h0 rfl;obtain rfl:=h3 (by decide);obtain rfl:=h5 (by decide);rw [hmk];have howW:=ownsMap_below e1 hb;refine wpOpIn_step rfl (fun K hK=>?_);rw [if_pos (by rfl)];have hmax:maxLen=9223372036854775807:=rfl;have hkeyo:keyOf Try.prog 9 (.string ⟨(hexOf (rcOf l0 x).f3).toArray⟩)=some (.string (hexOf (rcOf l0 x).f3)):=by
      rw [Go.WideMaps.keyOf_string_mk Try.underlying9 (by have h7:=hexOf_len (rcOf l0 x).f3;have h8:=keyOk_len hkey;show (hexOf (rcOf l0 x).f3).toArray.size≤maxLen;rw [List.size_toArray];omega)]
     refine S_mapUpdate_in (.tmp 20) (.tmp 23) (.tmp 25) 59 rfl 9 3 (Maps.string_keyed Try.underlying9) Try.underlying59 (plainElem Try.prog 3) (w.heap.size+1) pre.length (lastD l0 pre) rfl howW (by omega) _ _ _ rfl rfl hkeyo (.lit (.int .i64 (rcOf l0 x).f0)) [] (plainElem_int Try.underlying3 hwf) ?_;intro w7 ho7 hg7;rw [← hnx] at ho7;have hszW:=zzn W _ cM;have hsz7:=hb.size;obtain ⟨es7,ck7,hmp7,_⟩:=howW;refine hK _ _ ⟨⟨_,_,_,_,_,_,rfl⟩,?_,⟨?_,?_⟩,?_,?_,?_,?_⟩
     ·
      exact (KeepsFrom.of_below hb).trans (KeepsFrom.of_grownBy hg7 (fun j e=>by cases e;omega))
     ·
      exact ((Below.refl _ W).trans (hb.mono e4.size)).grown hg7 (by have:=e4.size;omega) (fun j e=>by cases e;omega)
     ·
      exact (KeepT.of_below hb).trans (KeepT.of_grownBy hg7 (fun j e cs f h=>by cases e;rw [hmp7] at h;cases h))
     ·
      rw [hpl];exact ho7
     ·
      exact (Boxed.of_below e2 hb).kept hg7 (fun e=>by have:=Option.some.inj e;omega)
     ·
      exact (Boxed.of_below e3 hb).kept hg7 (fun e=>by have:=Option.some.inj e;omega)
     ·
      exact (e4.trans (hb.mono e4.size)).grown hg7 (by have:=e4.size;omega) (fun j e=>by cases e;omega)
 case done=>
  rintro D ys W hD rfl ⟨e1,e2,e3,e4⟩ hK;gi_wp2;refine ⟨by simp,.inl ⟨_,_,rfl,run_takeDeferred hK,?_⟩⟩;have hg:=grownBy_putObj' W D (.deferred none);have hne:∀ k cs t f,W.heap[k]? = some (.cells cs t f)→some k≠some D:=fun k cs t f h e=>by cases e;rw [hK] at h;cases h
  refine ⟨_,results_tmp rfl _ _ _,w.heap.size+1+1,w.heap.size,w.heap.size+1,rfl,by omega,by omega,by omega,e2.kept hg (hne _ _ _ _ e2),e3.kept hg (hne _ _ _ _ e3),e1.kept hg (fun e=>by cases e;obtain ⟨_,_,h,_⟩:=e1;rw [hK] at h;cases h),?_⟩;exact e4.trans (belowK_b (w:=w) (Nat.le_refl _) W D _ _ (by omega) hK rfl rfl)
 case stop=>
  rintro D c pre W hD hp h hK;exact h.elim
end
section
open Go.Shelf
attribute [local go_sem] Oper.semAt_some
theorem S_lookup_in {F:Fence} {n:Nat} {P:Program} {W:World} {o:Oper} {a:Act} {K:Act→World→Prop} {Q:Exit→Act→World→Prop} (m x:Operand) (t:TypeId) (hop:o.op=Op.lookup t m x false)
  (k e:TypeId) (q:IntKind) (KD:Maps.Keyed P k) (ht:P.underlying t=some (.map k e)) (he:P.underlying e=some (.int q)) (hz:(zeroValue e).run P W = .ok (.int q 0) W) (b nn:Nat) (D:DataW Unit)
  (hm:a.eval m = .map (some b)) (hown:W.ownsMap P k (plainElem P e) b nn D) (key:Value) (kl:Lit) (hx:a.eval x=key) (hkey:keyOf P k key=some kl)
  (h:∀ c,D.atKey kl (.lit (.int q 0)) = .lit (.int q c)→K (a.put o.dst (.int q c)) W):Oper.wpIn F n P o a W K Q:=by
 obtain ⟨c,hrun,hat,_⟩:=hown.lookup_int KD ht he hz hkey;unfold Oper.wpIn;refine ⟨by simp [Oper.about,hop],?_⟩;rw [Oper.semAt_plain F _ _ (by rw [hop];intro c hc';cases hc')];simp [execOp,hop,hm,hx,hrun,Result.andThen];exact h c hat
set_option maxHeartbeats 4000000 in
theorem stays_calls (b0 b1 r2 r4 gone:Bool) (b2 b3 b4 r0 r1 c:Int) (P3 P5 P6:Option Addr) (n5 q5 q3 n6 q6:Nat) (Bm Bg bm nn:Nat) (key:List Int) (D:DataW Unit) (w:World)
  (hBm:Boxed w Bm 59 (.map (some bm))) (hBg:Boxed w Bg 4 (.bool gone)) (hown:w.ownsMap Try.prog 9 (plainElem Try.prog 3) bm nn D) (hk:(Kd.int .i64).C w P3 key.length key) (hq:key.length≤q3)
  (hok:r2=true→keyOk key=true) (hc:r2=true→D.atKey (.string (hexOf key)) (.lit (.int .i64 0)) = .lit (.int .i64 c)) :
  Calls Try.prog 36 #[.agg #[.bool b0,.bool b1,.int .i64 b2,.int .i64 b3,.int .i64 b4,.slice P5 n5 q5],.agg #[.int .i64 r0,.int .i64 r1,.bool r2,.slice P3 key.length q3,.bool r4,.slice P6 n6 q6],.pointer (some ⟨Bm,0,none⟩),.pointer (some ⟨Bg,0,none⟩)] w fun e w'=>e = .returned (.bool (b1||(r2&&((c==r0)&&(r4||gone)))))∧Below w.heap.size w w':=by
 have cM:=hBm.cell;have cG:=hBg.cell;have HOWN:=zzm hown;have HK3:=zzm hk;have HOK:=zzm hok;have HC:=zzm hc;have hltM:=hBm.lt;have hltG:=hBg.lt;clear hBm hBg hown hk hok hc;refine callsIn_wide (n:=4).1 ?_;have hro:(Fence.wide).round=none:=rfl;refine callsIn_of_wp Try.func36 rfl trivial ?_ hro;simp only [Try.ntmps36,List.size_toArray,List.length_cons,List.length_nil,Nat.reduceAdd,Nat.reduceSub,Array.replicate_succ,Array.replicate_zero,List.push_toArray,List.append_toArray,List.nil_append,List.cons_append];cases b1 with
 | true=>
  gi_wp2;exact bodyPost_ret (results_tmp rfl _ _ _) rfl ⟨rfl,((Below.refl _ w).alloc (Nat.le_refl _) _).alloc (by simp) _⟩
 | false=>
  have hmx:Try.prog.follows .mixedOrders=true:=by kernel_rfl
  gi_wp2;obtain ⟨W,hW⟩:∃ W,W=(w.alloc (.cells #[.bool b0,.bool false,.int .i64 b2,.int .i64 b3,.int .i64 b4,.slice P5 n5 q5] 39)).alloc (.cells #[.int .i64 r0,.int .i64 r1,.bool r2,.slice P3 key.length q3,.bool r4,.slice P6 n6 q6] 47):=⟨_,rfl⟩;have hBW:Below w.heap.size w W:=by rw [hW];exact ((Below.refl _ w).alloc (Nat.le_refl _) _).alloc (by simp) _
  have cR:W.heap[w.heap.size+1]? = some (.cells #[.int .i64 r0,.int .i64 r1,.bool r2,.slice P3 key.length q3,.bool r4,.slice P6 n6 q6] 47 (0,0)):=by
   have h:=World.alloc_heap_new (w.alloc (.cells #[.bool b0,.bool false,.int .i64 b2,.int .i64 b3,.int .i64 b4,.slice P5 n5 q5] 39)) (.cells #[.int .i64 r0,.int .i64 r1,.bool r2,.slice P3 key.length q3,.bool r4,.slice P6 n6 q6] 47);simp only [World.size_alloc] at h;rw [hW];exact h
  rw [← hW];clear hW;obtain ⟨mk,hmk⟩:∃ mk:Value→Value→Value→Value→Value→Value→Value→Value→Value→Value→Value→Value→Value→Value→Value→Value→Value→Value→Value→Value→Act,mk=fun u6 u9 u10 u11 u12 u13 u14 u15 u16 u17 u18 u19 u20 u21 u22 u23 u24 u25 u26 u27=>{ tmps:=#[.agg #[.bool b0,.bool false,.int .i64 b2,.int .i64 b3,.int .i64 b4,.slice P5 n5 q5],.agg #[.int .i64 r0,.int .i64 r1,.bool r2,.slice P3 key.length q3,.bool r4,.slice P6 n6 q6],.pointer (some ⟨Bm,0,none⟩),.pointer (some ⟨Bg,0,none⟩),.pointer (some ⟨w.heap.size,0,none⟩),.pointer (some ⟨w.heap.size+1,0,none⟩),u6,.pointer (some ⟨w.heap.size,1,none⟩),.bool false,u9,u10,u11,u12,u13,u14,u15,u16,u17,u18,u19,u20,u21,u22,u23,u24,u25,u26,u27],defers:=[] }:=⟨_,rfl⟩;cases r2 with
  | false=>
   refine wpIn_region_any hmx (wpAnyIn_20 (by kernel_rfl) (fun k a' W'=>Below w.heap.size w W'∧W'.heap[w.heap.size+1]? = W.heap[w.heap.size+1]?∧a' = (if k=0 then mk (.bool false) undef undef undef undef undef undef undef undef undef undef undef undef undef undef undef undef undef undef undef else if k=1 then mk (.bool false) (.pointer (some ⟨w.heap.size+1,2,none⟩)) undef undef undef undef undef undef undef undef undef undef undef undef undef undef undef undef undef undef else mk (.bool false) (.pointer (some ⟨w.heap.size+1,2,none⟩)) (.bool false) undef undef undef undef undef undef undef undef undef undef undef undef undef undef undef undef undef)) (fun _ _ _ _ a' W'=>Below w.heap.size w W'∧a' = mk (.bool false) (.pointer (some ⟨w.heap.size+1,2,none⟩)) (.bool false) (.bool false) undef undef undef undef undef undef undef undef undef undef undef undef undef undef undef undef) (fun k a' W'=>Below w.heap.size w W'∧a' = (if k=1 then mk (.bool false) (.pointer (some ⟨w.heap.size+1,2,none⟩)) (.bool false) (.bool false) undef undef undef undef undef undef undef undef undef undef undef undef undef undef undef undef else if k=2 then mk (.bool false) (.pointer (some ⟨w.heap.size+1,2,none⟩)) (.bool false) (.bool false) undef undef undef undef undef undef undef undef (.bool false) undef undef undef undef undef undef undef else if k=3 then mk (.bool false) (.pointer (some ⟨w.heap.size+1,2,none⟩)) (.bool false) (.bool false) undef undef undef undef undef undef undef undef (.bool false) (.bool false) undef undef undef undef undef undef else if k=4 then mk (.bool false) (.pointer (some ⟨w.heap.size+1,2,none⟩)) (.bool false) (.bool false) undef undef undef undef undef undef undef undef (.bool false) (.bool false) undef undef undef undef undef undef else if k=5 then mk (.bool false) (.pointer (some ⟨w.heap.size+1,2,none⟩)) (.bool false) (.bool false) undef undef undef undef undef undef undef undef (.bool false) (.bool false) undef undef undef undef undef undef else if k=6 then mk (.bool false) (.pointer (some ⟨w.heap.size+1,2,none⟩)) (.bool false) (.bool false) undef undef undef undef undef undef undef undef (.bool false) (.bool false) undef undef undef undef undef undef else if k=7 then mk (.bool false) (.pointer (some ⟨w.heap.size+1,2,none⟩)) (.bool false) (.bool false) undef undef undef undef undef undef undef undef (.bool false) (.bool false) undef undef undef undef undef undef else if k=8 then mk (.bool false) (.pointer (some ⟨w.heap.size+1,2,none⟩)) (.bool false) (.bool false) undef undef undef undef undef undef undef undef (.bool false) (.bool false) undef undef undef undef undef undef else if k=9 then mk (.bool false) (.pointer (some ⟨w.heap.size+1,2,none⟩)) (.bool false) (.bool false) undef undef undef undef undef undef undef undef (.bool false) (.bool false) undef undef undef undef undef (.bool false) else mk (.bool false) (.pointer (some ⟨w.heap.size+1,2,none⟩)) (.bool false) (.bool false) undef undef undef undef undef undef undef undef (.bool false) (.bool false) undef undef undef undef undef (.bool false))) ?hdone ?s0 ?s1 ?s2 ?s3 ?s4 ?s5 ?s6 ?s7 ?s8 ?s9 ?s10 ?s11 ?s12 ?s13 ?s14 ?s15 ?s16 ?s17 ?s18 ?s19 ?hini)
   case hini=>exact ⟨zzb hBW 1,rfl,by rw [hmk];rfl⟩
   case hdone=>
    rintro a' W' ⟨hb,rfl⟩;simp only [Nat.reduceEqDiff,if_false];rw [hmk];gi_wp2;exact bodyPost_ret (results_tmp rfl _ _ _) rfl ⟨rfl,hb⟩
   case s0=>
    rintro a' W' ⟨hb,hw,rfl⟩;simp only [Nat.reduceEqDiff,if_true,if_false];rw [hmk];rw [cR] at hw;skip;refine wpOpIn_step rfl (fun K hK=>?_);have HK:=zzm hK;clear hK;go_simp;exact HK.out _ _ ⟨hb,hw.trans cR.symm,rfl⟩
   case s1=>
    rintro a' W' ⟨hb,hw,rfl⟩;simp only [Nat.reduceEqDiff,if_true,if_false];rw [hmk];rw [cR] at hw;have q2:W'.cell? ⟨w.heap.size+1,2,none⟩=some (.bool false):=by simp [World.cell?,hw]
    refine wpOpIn_step rfl (fun K hK=>?_);have HK:=zzm hK;clear hK;go_simp;exact HK.out _ _ ⟨hb,hw.trans cR.symm,rfl⟩
   case s2=>
    rintro a' W' ⟨hb,hw,rfl⟩;simp only [Nat.reduceEqDiff,if_true,if_false];rw [hmk];rw [cR] at hw;skip;refine wpOpIn_step rfl (fun K hK=>?_);have HK:=zzm hK;clear hK;go_simp;exact HK.out _ _ ⟨hb,rfl⟩
   case s3=>
    rintro y z d a' W' ⟨hb,rfl⟩;skip;rw [hmk];refine wpOpIn_step rfl (fun K hK=>?_);have HK:=zzm hK;clear hK;go_simp;exact HK.out _ _ ⟨hb,rfl⟩
   case s4=>
    rintro x z d a' W' ⟨hb,rfl⟩;skip;rw [hmk];refine wpOpIn_step rfl (fun K hK=>?_);have HK:=zzm hK;clear hK;go_simp;exact HK.out _ _ ⟨hb,rfl⟩
   case s5=>
    rintro x z d a' W' ⟨hb,rfl⟩;skip;rw [hmk];refine wpOpIn_step rfl (fun K hK=>?_);have HK:=zzm hK;clear hK;go_simp;exact HK.out _ _ ⟨hb,rfl⟩
   case s6=>
    rintro x z d a' W' ⟨hb,rfl⟩;skip;rw [hmk];refine wpOpIn_step rfl (fun K hK=>?_);have HK:=zzm hK;clear hK;go_simp;exact ⟨trivial,HK.out _ _ ⟨hb,rfl⟩⟩
   case s7=>
    rintro z a' W' ⟨hb,rfl⟩;skip;rw [hmk];refine wpOpIn_step rfl (fun K hK=>?_);have HK:=zzm hK;clear hK;go_simp;exact HK.out _ _ ⟨hb,rfl⟩
   case s8=>
    rintro x y d a' W' ⟨hb,rfl⟩;skip;rw [hmk];refine wpOpIn_step rfl (fun K hK=>?_);have HK:=zzm hK;clear hK;go_simp;exact HK.out _ _ ⟨hb,rfl⟩
   case s9=>
    rintro x y d a' W' ⟨hb,rfl⟩;skip;rw [hmk];refine wpOpIn_step rfl (fun K hK=>?_);have HK:=zzm hK;clear hK;go_simp;exact HK.out _ _ ⟨hb,rfl⟩
   case s10=>
    rintro  a' W' ⟨hb,rfl⟩;skip;rw [hmk];refine wpOpIn_step rfl (fun K hK=>?_);have HK:=zzm hK;clear hK;go_simp;exact HK.out _ _ ⟨hb,rfl⟩
   case s11=>
    rintro  a' W' ⟨hb,rfl⟩;simp only [Nat.reduceEqDiff,if_true,if_false];rw [hmk];refine wpOpIn_step rfl (fun K hK=>?_);have HK:=zzm hK;clear hK;go_simp;exact HK.out _ _ ⟨hb,rfl⟩
   case s12=>
    rintro  a' W' ⟨hb,rfl⟩;simp only [Nat.reduceEqDiff,if_true,if_false];rw [hmk];refine wpOpIn_step rfl (fun K hK=>?_);have HK:=zzm hK;clear hK;go_simp;exact HK.out _ _ ⟨hb,rfl⟩
   case s13=>
    rintro  a' W' ⟨hb,rfl⟩;simp only [Nat.reduceEqDiff,if_true,if_false];rw [hmk];refine wpOpIn_step rfl (fun K hK=>?_);have HK:=zzm hK;clear hK;go_simp;exact HK.out _ _ ⟨hb,rfl⟩
   case s14=>
    rintro  a' W' ⟨hb,rfl⟩;simp only [Nat.reduceEqDiff,if_true,if_false];rw [hmk];refine wpOpIn_step rfl (fun K hK=>?_);have HK:=zzm hK;clear hK;go_simp;exact HK.out _ _ ⟨hb,rfl⟩
   case s15=>
    rintro  a' W' ⟨hb,rfl⟩;simp only [Nat.reduceEqDiff,if_true,if_false];rw [hmk];refine wpOpIn_step rfl (fun K hK=>?_);have HK:=zzm hK;clear hK;go_simp;exact HK.out _ _ ⟨hb,rfl⟩
   case s16=>
    rintro  a' W' ⟨hb,rfl⟩;simp only [Nat.reduceEqDiff,if_true,if_false];rw [hmk];refine wpOpIn_step rfl (fun K hK=>?_);have HK:=zzm hK;clear hK;go_simp;exact HK.out _ _ ⟨hb,rfl⟩
   case s17=>
    rintro  a' W' ⟨hb,rfl⟩;simp only [Nat.reduceEqDiff,if_true,if_false];rw [hmk];refine wpOpIn_step rfl (fun K hK=>?_);have HK:=zzm hK;clear hK;go_simp;exact HK.out _ _ ⟨hb,rfl⟩
   case s18=>
    rintro  a' W' ⟨hb,rfl⟩;simp only [Nat.reduceEqDiff,if_true,if_false];rw [hmk];refine wpOpIn_step rfl (fun K hK=>?_);have HK:=zzm hK;clear hK;go_simp;exact HK.out _ _ ⟨hb,rfl⟩
   case s19=>
    rintro  a' W' ⟨hb,rfl⟩;simp only [Nat.reduceEqDiff,if_true,if_false];rw [hmk];refine wpOpIn_step rfl (fun K hK=>?_);have HK:=zzm hK;clear hK;go_simp;exact HK.out _ _ ⟨hb,rfl⟩
  | true=>
   have hkey:=HOK.out rfl;have hcc:=zzm (HC.out rfl);have hBT:=zzm (bytesText_f hkey);have hkeyo:keyOf Try.prog 9 (.string ⟨(hexOf key).toArray⟩)=some (.string (hexOf key)):=by
    have hmax:maxLen=9223372036854775807:=rfl;rw [Go.WideMaps.keyOf_string_mk Try.underlying9 (by have h7:=hexOf_len key;have h8:=keyOk_len hkey;show (hexOf key).toArray.size≤maxLen;rw [List.size_toArray];omega)]
   obtain ⟨q,hq0⟩:∃ q,q=(c==r0):=⟨_,rfl⟩;refine wpIn_region_any hmx (wpAnyIn_20 (by kernel_rfl) (fun k a' W'=>Below w.heap.size w W'∧W'.heap[w.heap.size+1]? = W.heap[w.heap.size+1]?∧a' = (if k=0 then mk (.bool false) undef undef undef undef undef undef undef undef undef undef undef undef undef undef undef undef undef undef undef else if k=1 then mk (.bool false) (.pointer (some ⟨w.heap.size+1,2,none⟩)) undef undef undef undef undef undef undef undef undef undef undef undef undef undef undef undef undef undef else mk (.bool false) (.pointer (some ⟨w.heap.size+1,2,none⟩)) (.bool true) undef undef undef undef undef undef undef undef undef undef undef undef undef undef undef undef undef)) (fun x y z d a' W'=>Below w.heap.size w W'∧W'.heap[w.heap.size+1]? = W.heap[w.heap.size+1]?∧∃ u12 u13 u14 u15 u16 u17 u18,a' = mk (.bool false) (.pointer (some ⟨w.heap.size+1,2,none⟩)) (.bool true) (.bool true) (u12) (u13) (u14) (u15) (u16) (u17) (u18) undef undef undef undef undef undef undef undef undef∧(1≤x→u12 = .map (some bm))∧(1≤y→u13 = .pointer (some ⟨w.heap.size+1,3,none⟩))∧(2≤y→u14 = .slice P3 key.length q3)∧(3≤y→u15 = .string ⟨(hexOf key).toArray⟩)∧(1≤d→u16 = .int .i64 c)∧(1≤z→u17 = .pointer (some ⟨w.heap.size+1,0,none⟩))∧(2≤z→u18 = .int .i64 r0)) (fun k a' W'=>Below w.heap.size w W'∧W'.heap[w.heap.size+1]? = W.heap[w.heap.size+1]?∧a' = (if k=1 then mk (.bool false) (.pointer (some ⟨w.heap.size+1,2,none⟩)) (.bool true) (.bool true) (.map (some bm)) (.pointer (some ⟨w.heap.size+1,3,none⟩)) (.slice P3 key.length q3) (.string ⟨(hexOf key).toArray⟩) (.int .i64 c) (.pointer (some ⟨w.heap.size+1,0,none⟩)) (.int .i64 r0) (.bool q) undef undef undef undef undef undef undef undef else if k=2 then mk (.bool false) (.pointer (some ⟨w.heap.size+1,2,none⟩)) (.bool true) (.bool true) (.map (some bm)) (.pointer (some ⟨w.heap.size+1,3,none⟩)) (.slice P3 key.length q3) (.string ⟨(hexOf key).toArray⟩) (.int .i64 c) (.pointer (some ⟨w.heap.size+1,0,none⟩)) (.int .i64 r0) (.bool q) (.bool q) undef undef undef undef undef undef undef else if k=3 then mk (.bool false) (.pointer (some ⟨w.heap.size+1,2,none⟩)) (.bool true) (.bool true) (.map (some bm)) (.pointer (some ⟨w.heap.size+1,3,none⟩)) (.slice P3 key.length q3) (.string ⟨(hexOf key).toArray⟩) (.int .i64 c) (.pointer (some ⟨w.heap.size+1,0,none⟩)) (.int .i64 r0) (.bool q) (.bool q) (.bool q) undef undef undef undef undef undef else if k=4 then mk (.bool false) (.pointer (some ⟨w.heap.size+1,2,none⟩)) (.bool true) (.bool true) (.map (some bm)) (.pointer (some ⟨w.heap.size+1,3,none⟩)) (.slice P3 key.length q3) (.string ⟨(hexOf key).toArray⟩) (.int .i64 c) (.pointer (some ⟨w.heap.size+1,0,none⟩)) (.int .i64 r0) (.bool q) (.bool q) (.bool q) (if q=true then .pointer (some ⟨w.heap.size+1,4,none⟩) else undef) undef undef undef undef undef else if k=5 then mk (.bool false) (.pointer (some ⟨w.heap.size+1,2,none⟩)) (.bool true) (.bool true) (.map (some bm)) (.pointer (some ⟨w.heap.size+1,3,none⟩)) (.slice P3 key.length q3) (.string ⟨(hexOf key).toArray⟩) (.int .i64 c) (.pointer (some ⟨w.heap.size+1,0,none⟩)) (.int .i64 r0) (.bool q) (.bool q) (.bool q) (if q=true then .pointer (some ⟨w.heap.size+1,4,none⟩) else undef) (if q=true then .bool r4 else undef) undef undef undef undef else if k=6 then mk (.bool false) (.pointer (some ⟨w.heap.size+1,2,none⟩)) (.bool true) (.bool true) (.map (some bm)) (.pointer (some ⟨w.heap.size+1,3,none⟩)) (.slice P3 key.length q3) (.string ⟨(hexOf key).toArray⟩) (.int .i64 c) (.pointer (some ⟨w.heap.size+1,0,none⟩)) (.int .i64 r0) (.bool q) (.bool q) (.bool q) (if q=true then .pointer (some ⟨w.heap.size+1,4,none⟩) else undef) (if q=true then .bool r4 else undef) (if q=true then .bool r4 else undef) undef undef undef else if k=7 then mk (.bool false) (.pointer (some ⟨w.heap.size+1,2,none⟩)) (.bool true) (.bool true) (.map (some bm)) (.pointer (some ⟨w.heap.size+1,3,none⟩)) (.slice P3 key.length q3) (.string ⟨(hexOf key).toArray⟩) (.int .i64 c) (.pointer (some ⟨w.heap.size+1,0,none⟩)) (.int .i64 r0) (.bool q) (.bool q) (.bool q) (if q=true then .pointer (some ⟨w.heap.size+1,4,none⟩) else undef) (if q=true then .bool r4 else undef) (if q=true then .bool r4 else undef) (if (q && !r4)=true then .bool gone else undef) undef undef else if k=8 then mk (.bool false) (.pointer (some ⟨w.heap.size+1,2,none⟩)) (.bool true) (.bool true) (.map (some bm)) (.pointer (some ⟨w.heap.size+1,3,none⟩)) (.slice P3 key.length q3) (.string ⟨(hexOf key).toArray⟩) (.int .i64 c) (.pointer (some ⟨w.heap.size+1,0,none⟩)) (.int .i64 r0) (.bool q) (.bool q) (.bool q) (if q=true then .pointer (some ⟨w.heap.size+1,4,none⟩) else undef) (if q=true then .bool r4 else undef) (if q=true then .bool r4 else undef) (if (q && !r4)=true then .bool gone else undef) (if q=true then .bool (r4||gone) else undef) undef else if k=9 then mk (.bool false) (.pointer (some ⟨w.heap.size+1,2,none⟩)) (.bool true) (.bool true) (.map (some bm)) (.pointer (some ⟨w.heap.size+1,3,none⟩)) (.slice P3 key.length q3) (.string ⟨(hexOf key).toArray⟩) (.int .i64 c) (.pointer (some ⟨w.heap.size+1,0,none⟩)) (.int .i64 r0) (.bool q) (.bool q) (.bool q) (if q=true then .pointer (some ⟨w.heap.size+1,4,none⟩) else undef) (if q=true then .bool r4 else undef) (if q=true then .bool r4 else undef) (if (q && !r4)=true then .bool gone else undef) (if q=true then .bool (r4||gone) else undef) (.bool (q&&(r4||gone))) else mk (.bool (q&&(r4||gone))) (.pointer (some ⟨w.heap.size+1,2,none⟩)) (.bool true) (.bool true) (.map (some bm)) (.pointer (some ⟨w.heap.size+1,3,none⟩)) (.slice P3 key.length q3) (.string ⟨(hexOf key).toArray⟩) (.int .i64 c) (.pointer (some ⟨w.heap.size+1,0,none⟩)) (.int .i64 r0) (.bool q) (.bool q) (.bool q) (if q=true then .pointer (some ⟨w.heap.size+1,4,none⟩) else undef) (if q=true then .bool r4 else undef) (if q=true then .bool r4 else undef) (if (q && !r4)=true then .bool gone else undef) (if q=true then .bool (r4||gone) else undef) (.bool (q&&(r4||gone))))) ?hdone ?s0 ?s1 ?s2 ?s3 ?s4 ?s5 ?s6 ?s7 ?s8 ?s9 ?s10 ?s11 ?s12 ?s13 ?s14 ?s15 ?s16 ?s17 ?s18 ?s19 ?hini)
   case hini=>exact ⟨zzb hBW 1,rfl,by rw [hmk];rfl⟩
   case hdone=>
    rintro a' W' ⟨hb,-,rfl⟩;simp only [Nat.reduceEqDiff,if_false];generalize (if q=true then Value.pointer (some ⟨w.heap.size+1,4,none⟩) else undef)=y22;generalize (if q=true then Value.bool r4 else undef)=y23;generalize (if (q && !r4)=true then Value.bool gone else undef)=y25;generalize (if q=true then Value.bool (r4||gone) else undef)=y26;rw [hq0];clear hq0;generalize hz:((c==r0)&&(r4||gone))=z;rw [hmk];gi_wp2;exact bodyPost_ret (results_tmp rfl _ _ _) rfl ⟨by rw [← hz];rfl,hb⟩
   case s0=>
    rintro a' W' ⟨hb,hw,rfl⟩;simp only [Nat.reduceEqDiff,if_true,if_false];rw [hmk];skip;refine wpOpIn_step rfl (fun K hK=>?_);have HK:=zzm hK;clear hK;go_simp;exact HK.out _ _ ⟨hb,hw,rfl⟩
   case s1=>
    rintro a' W' ⟨hb,hw,rfl⟩;simp only [Nat.reduceEqDiff,if_true,if_false];rw [hmk];have q2:W'.cell? ⟨w.heap.size+1,2,none⟩=some (.bool true):=by simp [World.cell?,hw,cR]
    refine wpOpIn_step rfl (fun K hK=>?_);have HK:=zzm hK;clear hK;go_simp;exact HK.out _ _ ⟨hb,hw,rfl⟩
   case s2=>
    rintro a' W' ⟨hb,hw,rfl⟩;simp only [Nat.reduceEqDiff,if_true,if_false];rw [hmk];skip;refine wpOpIn_step rfl (fun K hK=>?_);have HK:=zzm hK;clear hK;go_simp;exact HK.out _ _ ⟨hb,hw,_,_,_,_,_,_,_,rfl,by simp,by simp,by simp,by simp,by simp,by simp,by simp⟩
   case s3=>
    rintro y z d a' W' ⟨hb,hw,u12,u13,u14,u15,u16,u17,u18,rfl,h1,h2,h3,h4,h5,h6,h7⟩;have cMn:=(hb.cell hltM).trans cM;rw [hmk];refine wpOpIn_step rfl (fun K hK=>?_);have HK:=zzm hK;clear hK;go_simp;exact HK.out _ _ ⟨hb,hw,_,u13,u14,u15,u16,u17,u18,rfl,fun _=>rfl,h2,h3,h4,h5,h6,h7⟩
   case s4=>
    rintro x z d a' W' ⟨hb,hw,u12,u13,u14,u15,u16,u17,u18,rfl,h1,h2,h3,h4,h5,h6,h7⟩;rw [hmk];refine wpOpIn_step rfl (fun K hK=>?_);have HK:=zzm hK;clear hK;go_simp;exact HK.out _ _ ⟨hb,hw,u12,_,u14,u15,u16,u17,u18,rfl,h1,fun _=>rfl,by simp,by simp,h5,h6,h7⟩
   case s5=>
    rintro x z d a' W' ⟨hb,hw,u12,u13,u14,u15,u16,u17,u18,rfl,h1,h2,h3,h4,h5,h6,h7⟩;obtain rfl:=h2 (by decide);have q2:W'.cell? ⟨w.heap.size+1,3,none⟩=some (.slice P3 key.length q3):=by simp [World.cell?,hw,cR]
    rw [hmk];refine wpOpIn_step rfl (fun K hK=>?_);have HK:=zzm hK;clear hK;go_simp;exact HK.out _ _ ⟨hb,hw,u12,_,_,u15,u16,u17,u18,rfl,h1,fun _=>rfl,fun _=>rfl,by simp,h5,h6,h7⟩
   case s6=>
    rintro x z d a' W' ⟨hb,hw,u12,u13,u14,u15,u16,u17,u18,rfl,h1,h2,h3,h4,h5,h6,h7⟩;obtain rfl:=h2 (by decide);obtain rfl:=h3 (by decide);have hKy:=zzm (Kd.C_below HK3.out hb);have hsz:=hBW.size;have hlt:w.heap.size+1 < W'.heap.size:=by rw [cR] at hw;exact (Array.getElem?_eq_some_iff.1 hw).1
    rw [hmk];refine wpOpIn_step rfl (fun K hK=>?_);have HK:=zzm hK;clear hK;go_simp;gi_wp2_with (refine ⟨trivial,?_⟩;gi_at_call 35;refine (callsIn_wide.2 (Rn.calls _ _ _ _ _ _ hKy.out hq hBT.out)).mono ?_;rintro e w7 ⟨rfl,hb7⟩;dsimp only);exact HK.out _ _ ⟨hb.trans (hb7.mono (by omega)),(hb7.block _ hlt).trans hw,u12,_,_,_,u16,u17,u18,rfl,h1,fun _=>rfl,fun _=>rfl,fun _=>rfl,h5,h6,h7⟩
   case s7=>
    rintro z a' W' ⟨hb,hw,u12,u13,u14,u15,u16,u17,u18,rfl,h1,h2,h3,h4,h5,h6,h7⟩;obtain rfl:=h1 (by decide);obtain rfl:=h4 (by decide);rw [hmk];have howW:=ownsMap_below HOWN.out hb;refine wpOpIn_step rfl (fun K hK=>?_);rw [if_pos (by rfl)];refine S_lookup_in (.tmp 12) (.tmp 15) 59 rfl 9 3 .i64 (Maps.string_keyed Try.underlying9) Try.underlying59 Try.underlying3 (Try.zeroValue3 _) bm nn D rfl howW _ _ rfl hkeyo ?_;intro c' hc';have a0:=hcc.out;rw [hc'] at a0;obtain rfl:c' = c:=by injection a0 with h;injection h
    exact hK _ _ ⟨hb,hw,_,u13,u14,_,_,u17,u18,rfl,fun _=>rfl,h2,h3,fun _=>rfl,fun _=>rfl,h6,h7⟩
   case s8=>
    rintro x y d a' W' ⟨hb,hw,u12,u13,u14,u15,u16,u17,u18,rfl,h1,h2,h3,h4,h5,h6,h7⟩;rw [hmk];refine wpOpIn_step rfl (fun K hK=>?_);have HK:=zzm hK;clear hK;go_simp;exact HK.out _ _ ⟨hb,hw,u12,u13,u14,u15,u16,_,u18,rfl,h1,h2,h3,h4,h5,fun _=>rfl,by simp⟩
   case s9=>
    rintro x y d a' W' ⟨hb,hw,u12,u13,u14,u15,u16,u17,u18,rfl,h1,h2,h3,h4,h5,h6,h7⟩;obtain rfl:=h6 (by decide);have q2:W'.cell? ⟨w.heap.size+1,0,none⟩=some (.int .i64 r0):=by simp [World.cell?,hw,cR]
    rw [hmk];refine wpOpIn_step rfl (fun K hK=>?_);have HK:=zzm hK;clear hK;go_simp;exact HK.out _ _ ⟨hb,hw,u12,u13,u14,u15,u16,_,_,rfl,h1,h2,h3,h4,h5,fun _=>rfl,fun _=>rfl⟩
   case s10=>
    rintro a' W' ⟨hb,hw,u12,u13,u14,u15,u16,u17,u18,rfl,h1,h2,h3,h4,h5,h6,h7⟩;obtain rfl:=h1 (by decide);obtain rfl:=h2 (by decide);obtain rfl:=h3 (by decide);obtain rfl:=h4 (by decide);obtain rfl:=h5 (by decide);obtain rfl:=h6 (by decide);obtain rfl:=h7 (by decide);rw [hmk];refine wpOpIn_step rfl (fun K hK=>?_);have HK:=zzm hK;clear hK;go_simp;exact HK.out _ _ ⟨hb,hw,by rw [hq0];rfl⟩
   case s11=>
    rintro a' W' ⟨hb,hw,rfl⟩;simp only [Nat.reduceEqDiff,if_true,if_false];rw [hmk];clear hq0;cases q <;> (refine wpOpIn_step rfl (fun K hK=>?_);have HK:=zzm hK;clear hK;go_simp;exact HK.out _ _ ⟨hb,hw,rfl⟩)
   case s12=>
    rintro a' W' ⟨hb,hw,rfl⟩;simp only [Nat.reduceEqDiff,if_true,if_false];rw [hmk];clear hq0;cases q <;> (refine wpOpIn_step rfl (fun K hK=>?_);have HK:=zzm hK;clear hK;go_simp;exact HK.out _ _ ⟨hb,hw,rfl⟩)
   case s13=>
    rintro a' W' ⟨hb,hw,rfl⟩;simp only [Nat.reduceEqDiff,if_true,if_false];rw [hmk];clear hq0;cases q <;> cases r4 <;> (refine wpOpIn_step rfl (fun K hK=>?_);have HK:=zzm hK;clear hK;go_simp;exact HK.out _ _ ⟨hb,hw,rfl⟩)
   case s14=>
    rintro a' W' ⟨hb,hw,rfl⟩;simp only [Nat.reduceEqDiff,if_true,if_false];rw [hmk];have q2:W'.cell? ⟨w.heap.size+1,4,none⟩=some (.bool r4):=by simp [World.cell?,hw,cR]
    clear hq0;cases q <;> cases r4 <;> (refine wpOpIn_step rfl (fun K hK=>?_);have HK:=zzm hK;clear hK;go_simp;exact HK.out _ _ ⟨hb,hw,rfl⟩)
   case s15=>
    rintro a' W' ⟨hb,hw,rfl⟩;simp only [Nat.reduceEqDiff,if_true,if_false];rw [hmk];clear hq0;cases q <;> cases r4 <;> (refine wpOpIn_step rfl (fun K hK=>?_);have HK:=zzm hK;clear hK;go_simp;exact HK.out _ _ ⟨hb,hw,rfl⟩)
   case s16=>
    rintro a' W' ⟨hb,hw,rfl⟩;simp only [Nat.reduceEqDiff,if_true,if_false];rw [hmk];have cGn:=(hb.cell hltG).trans cG;clear hq0;cases q <;> cases r4 <;> (refine wpOpIn_step rfl (fun K hK=>?_);have HK:=zzm hK;clear hK;go_simp;exact HK.out _ _ ⟨hb,hw,rfl⟩)
   case s17=>
    rintro a' W' ⟨hb,hw,rfl⟩;simp only [Nat.reduceEqDiff,if_true,if_false];rw [hmk];clear hq0;cases q <;> cases r4 <;> (refine wpOpIn_step rfl (fun K hK=>?_);have HK:=zzm hK;clear hK;go_simp;exact HK.out _ _ ⟨hb,hw,rfl⟩)
   case s18=>
    rintro a' W' ⟨hb,hw,rfl⟩;simp only [Nat.reduceEqDiff,if_true,if_false];rw [hmk];clear hq0;cases q <;> cases r4 <;> (refine wpOpIn_step rfl (fun K hK=>?_);have HK:=zzm hK;clear hK;go_simp;exact HK.out _ _ ⟨hb,hw,rfl⟩)
   case s19=>
    rintro a' W' ⟨hb,hw,rfl⟩;simp only [Nat.reduceEqDiff,if_true,if_false];rw [hmk];clear hq0;cases q <;> cases r4 <;> (refine wpOpIn_step rfl (fun K hK=>?_);have HK:=zzm hK;clear hK;go_simp;exact HK.out _ _ ⟨hb,hw,rfl⟩)
end
section
def kAB:Kd S39 where
 sz:=k39.sz
 E:=k39.E
 K:=k39.K
 M:=fun w base ok x cs=>∃ v5:Value,cs = [.bool x.f0,.bool x.f1,.int .i64 x.f2,.int .i64 x.f3,.int .i64 x.f4,v5]∧Kd.S kA 47 w base ok v5 x.f5
 K_len:=k39.K_len
 K_one:=k39.K_one
 K_below:=k39.K_below
 K_of_M:=by
  rintro w base ok x cs ⟨v5,rfl,h5⟩;exact k39.K_of_M (k39_mkM w base ok x (Kd.S_R (S_weakA h5)))
 M_mono:=by
  rintro w base ok ok' x cs hok ⟨v5,rfl,h5⟩;exact ⟨v5,rfl,Kd.S_mono h5 hok⟩
 M_bound:=by
  rintro w base ok x cs ⟨v5,rfl,h5⟩;have hE:∀ q,q∈47::kA.E→q∈k39.E:=by
   intro q hq;exact (show ∀ q,q∈47::k47.E→q∈k39.E by decide) q hq
  exact ⟨v5,rfl,Kd.S_mono (Kd.S_bound h5) fun k h=>⟨h.1,h.2.1,h.2.2.1,h.2.2.2.imp fun q hq=>⟨hE q hq.1,hq.2⟩⟩⟩
 M_move:=by
  rintro w w1 base ok x cs hm ⟨v5,rfl,h5⟩;exact ⟨v5,rfl,Kd.S_move h5 hm⟩
 M_lower:=by
  rintro w base base' ok x cs hb ⟨v5,rfl,h5⟩;exact ⟨v5,rfl,Kd.S_lower h5 hb⟩
theorem S_weakAB {e base:Nat} {w:World} {ok:Nat→Prop} {v:Value} {xs:List S39} (h:Kd.S kAB e w base ok v xs):Kd.S k39 e w base ok v xs:=by
 obtain ⟨f,h0,inner,ho,hr⟩:=h;refine ⟨f,h0,inner,ho,hr.imp_ (fun p cs hp=>?_)⟩;obtain ⟨v5,e,h5⟩:=hp;subst e;exact k39_mkM _ _ _ _ (Kd.S_R (S_weakA h5))
theorem AB_reads' {e base n c:Nat} {w:World} {ok:Nat→Prop} {A:Option Addr} {xs:List S39} (h:Kd.S kAB e w base ok (.slice A n c) xs):n=xs.length∧n≤c∧Kd.C k39 w A xs.length xs:=Kd.S_reads' (S_weakAB h)
theorem two_oldR {α β:Type} {d:Kd α} {d' : Kd β} {e e' base:Nat} {W w1:World} {ok ok2:Nat→Prop} {v v2:Value} {xs:List α} {ys:List β} (h:Kd.R d e W base ok v xs) (hb:Below W.heap.size W w1) (ho:Kd.R d' e' w1 W.heap.size ok2 v2 ys) (hl:base≤W.heap.size) :
  ∃ B1,Kd.R d e w1 base (fun k=>k < B1) v xs∧Kd.R d' e' w1 base (fun k=>B1≤k) v2 ys:=
 ⟨W.heap.size,Kd.R_mono (Kd.R_below (Kd.R_bound h) hb) (fun k hk=>hk.2.2.1),Kd.R_lower (Kd.R_mono (Kd.R_bound ho) (fun k hk=>hk.2.1)) hl⟩
theorem three_oldR {α β γ:Type} {d:Kd α} {d' : Kd β} {d2:Kd γ} {e e' e2 base:Nat} {W w1:World} {ok ok1 ok2:Nat→Prop} {v v1 v2:Value} {xs:List α} {ys:List β} {zs:List γ} (h:Kd.R d e W base ok v xs) (hx:Kd.R d' e' W base ok1 v1 ys) (hb:Below W.heap.size W w1) (ho:Kd.S d2 e2 w1 W.heap.size ok2 v2 zs) (hl:base≤W.heap.size) :
  ∃ B2,Kd.R d e w1 base (fun k=>ok k∧k < B2) v xs∧Kd.R d' e' w1 base (fun k=>ok1 k∧k < B2) v1 ys∧Kd.S d2 e2 w1 base (fun k=>B2≤k) v2 zs:=
 ⟨W.heap.size,Kd.R_mono (Kd.R_below (Kd.R_bound h) hb) (fun k hk=>⟨hk.1,hk.2.2.1⟩),Kd.R_mono (Kd.R_below (Kd.R_bound hx) hb) (fun k hk=>⟨hk.1,hk.2.2.1⟩),Kd.S_lower (Kd.S_mono (Kd.S_bound ho) (fun k hk=>hk.2.1)) hl⟩
theorem S_of_tags {α:Type} {d:Kd α} {f:Nat→Nat} {e base:Nat} {w:World} {ok:Nat→Prop} {v:Value} {zs:List (α×Nat)} (h:Kd.R (Kd.tag f d) e w base ok v zs) (hn:(zs.map Prod.snd).Nodup):Kd.S d e w base ok v (zs.map Prod.fst):=by
 obtain ⟨h0,inner,ho,hr⟩:=h;have hl:(zs.map Prod.fst).zipIdx.length=zs.length:=by rw [List.length_zipIdx,List.length_map]
 refine ⟨fun b=>(zs.map Prod.snd).idxOf (f b),h0,inner,by rw [hl];exact ho,by rw [hl];exact hr.1,fun j p hj=>?_⟩;rw [List.getElem?_zipIdx,Nat.zero_add] at hj;obtain ⟨x,hx,rfl⟩:=Option.map_eq_some_iff.1 hj;rw [List.getElem?_map] at hx;obtain ⟨z,hz,rfl⟩:=Option.map_eq_some_iff.1 hx;refine d.M_mono (fun b hb=>⟨hb.1,?_⟩) (hr.2 j z hz);have hb2:f b=z.2:=hb.2;show (zs.map Prod.snd).idxOf (f b)=j;have hjl:j < zs.length:=(List.getElem?_eq_some_iff.1 hz).1;have hze:zs[j]=z:=(List.getElem?_eq_some_iff.1 hz).2;have:(zs.map Prod.snd)[j]'(by rw [List.length_map];exact hjl)=f b:=by rw [List.getElem_map,hze,hb2]
 rw [← this];exact hn.idxOf_getElem j (by rw [List.length_map];exact hjl)
end
section
open Go.Shelf
theorem rd_at_R {l:List S47} {j:Nat} (h:j < l.length):Qb l (j:Int)=l[j]:=by unfold Qb;rw [Int.toNat_natCast,List.getD_eq_getElem?_getD,List.getElem?_eq_getElem h];rfl
theorem rd_at_B {l:List S39} {j:Nat} (h:j < l.length):Qa l (j:Int)=l[j]:=by unfold Qa;rw [Int.toNat_natCast,List.getD_eq_getElem?_getD,List.getElem?_eq_getElem h];rfl
theorem copyRecs_fuel (l:List S47) (hl:l.length≤1000000) (hx:∀ r∈l,r.f3.length≤1000∧r.f5.length≤1000):∀ (d i:Nat),l.length - i=d→i≤l.length→Qo.l0 (d+1) (l.take i) l (l.length:Int) (i:Int)=some l
 | 0,i,hd,hi=>by
  obtain rfl:i=l.length:=by omega
  unfold Qo.l0
  rw [if_neg (by omega),List.take_length]
 | d+1,i,hd,hi=>by
  have ih:=copyRecs_fuel l hl hx d (i+1) (by omega) (by omega)
  have hil:i < l.length:=by omega
  have h2:=hx _ (List.getElem_mem hil)
  have e1:wrap64 ((i:Int)+1)=((i+1:Nat):Int):=by unfold wrap64;omega
  have e2:Ri.f (Qb l (i:Int)).f0 (Qb l (i:Int)).f1 (Qb l (i:Int)).f2 (Qb l (i:Int)).f3 (Qb l (i:Int)).f4 (Qb l (i:Int)).f5=some (l[i].f0,l[i].f1,l[i].f2,l[i].f3,l[i].f4,l[i].f5):=by
   rw [rd_at_R hil];unfold Ri.f slices_Clone_int_int.f;rw [if_pos (by omega),if_pos (by omega)];rfl
  have e3:l.take i ++ [(⟨l[i].f0,l[i].f1,l[i].f2,l[i].f3,l[i].f4,l[i].f5⟩:S47)]=l.take (i+1):=by rw [List.take_succ_eq_append_getElem hil]
  unfold Qo.l0;rw [if_pos (by omega),if_pos (by omega),if_pos (by omega),e2,Option.bind_some];dsimp only;rw [if_pos (by rw [length_take];omega),e3,e1];exact ih
theorem ptsRow_le {l:List S39} {i:Nat} (hi:i < l.length):(Qa l (i:Int)).f5.length≤(pts l).length:=by
 have:=(ptsAt_prefix hi (Nat.le_refl _)).length_le;unfold ptsAt at this;rw [List.length_append,List.length_map,List.length_range] at this;omega
theorem copyB_at {l:List S39} (h:okLog l=true) {i:Nat} (hi:i < l.length):∃ k,Rq.f k (Qa l (i:Int)).f0 (Qa l (i:Int)).f1 (Qa l (i:Int)).f2 (Qa l (i:Int)).f3 (Qa l (i:Int)).f4 (Qa l (i:Int)).f5=some ((Qa l (i:Int)).f0,(Qa l (i:Int)).f1,(Qa l (i:Int)).f2,(Qa l (i:Int)).f3,(Qa l (i:Int)).f4,(Qa l (i:Int)).f5):=by
 have h1:=okLog_len h;have h2:=ptsRow_le hi;have hc:=copyRecs_fuel (Qa l (i:Int)).f5 (by omega) (fun r hr=>by
  obtain ⟨j,hj,rfl⟩:=List.getElem_of_mem hr;have:=okLog_at h (i,j);unfold rcOf at this;dsimp only at this;rw [rd_at_R hj] at this;exact ⟨this.2.1,this.2.2.1⟩) (Qa l (i:Int)).f5.length 0 (by omega) (by omega)
 refine ⟨(Qa l (i:Int)).f5.length+1,?_⟩;unfold Rq.f Qo.f;rw [if_pos (by omega),if_pos (by omega)];rw [List.take_zero] at hc;rw [show ((0:Nat):Int)=0 from rfl] at hc;rw [hc];rfl
theorem S_of_nil {α:Type} {d:Kd α} {e base:Nat} {w:World} {ok:Nat→Prop} {v:Value} (h:Kd.R d e w base ok v []):Kd.S d e w base ok v []:=by
 obtain ⟨h0,inner,ho,hr⟩:=h;exact ⟨fun _=>0,h0,inner,ho,hr.1,fun j p hp=>by simp at hp⟩
set_option maxHeartbeats 4000000 in
theorem copyBatchesS_calls (A0:Option Addr) (c0:Nat) (l0:List (S39)) (w:World) (a0:Kd.C k39 w A0 l0.length l0) (a1:l0.length≤c0) (hlen:l0.length≤1000000) (hok:okLog l0=true) :
  Calls Try.prog 17 #[.slice A0 l0.length c0] w fun e w'=>∃ v,e = .returned v∧Kd.S kAB 39 w' w.heap.size (fun _=>True) v l0∧Below w.heap.size w w':=by
 have a5:=zzm a0;have b7:=zzm a1;have HOK:=zzm hok;have HL:=zzm hlen;have hm0:l0.length≤9223372036854775807:=a0.2.1;clear a0 a1 hok hlen;have hu:=Try.underlying39;go_enter Try.func17,Try.ntmps17;go_wp2_with (first|((with_reducible refine gate_dst (N:=8) rfl ?_);refine rmake0_R kAB _ 39 rfl (N:=8) rfl 24 _ _ rfl (l0.length:Int) rfl rfl Try.underlying24 (.agg #[(.bool false),(.bool false),(.int .i64 0),(.int .i64 0),(.int .i64 0),(.slice none 0 0)]) 56 info39 (by decide) (by omega) (ok:=fun _=>True) trivial (by omega) (by have:=HL.out;omega) (Below.refl _ _) (Nat.le_refl _) ?_;intro b6 w4 ho5 hb hg_ hnew_;clear hg_ hnew_;have a2:=zzm ho5;have HB5:=zzm hb;clear ho5 hb));go_loopw [3,11] (fun v3 i w'=>∃ m:Nat,m≤l0.length∧i = .int .i64 m∧Kd.S kAB 39 w' w.heap.size (fun _=>True) v3 (l0.take m)∧Below w.heap.size w w') (fun _ i _=>l0.length - (intOf i).toNat)
 case atStart=>exact ⟨0,Nat.zero_le _,by go_num,by rw [List.take_zero];exact S_of_nil a2.out,HB5.out⟩
 case round=>
  obtain ⟨m,hm,rfl,hS,hB⟩:=hrel;have HB:=zzm hB;have HS:=zzm hS;clear hB hS a2 HB5;have hll:=HL.out;by_cases hlt:m < l0.length
  ·
   obtain ⟨kk,hkk⟩:=copyB_at HOK.out hlt;have HKK:=zzm hkk;clear hkk;obtain ⟨ad,A5,c5,he,a6,a7,a8,a9,b0,b1,a3,a4⟩:=Qp (Kd.C_below a5.out HB.out) (m:Int) (by omega) (by omega);subst he;simp only [Int.toNat_natCast] at a6 a7 a8 a9 b0 b1;have b2:=zzm a4;have b3:=zzm a3;clear a4 a3;have htk:l0.take m ++ [Qa l0 (m:Int)]=l0.take (m+1):=by rw [rd_at_B hlt,List.take_succ_eq_append_getElem hlt]
   have hlm:(l0.take m).length=m:=by rw [length_take];omega
   go_wp2_with (first|(go_at_call 37;refine (Rq.callsA kk _ _ _ _ _ _ _ (Qa l0 (m:Int)).f5 _ _ _ _ _ _ _ (Kd.C_alloc b2.out _) b3.out HKK.out).mono ?_;rintro e w2 ⟨v5,rfl,ho5,hb2⟩;obtain ⟨A6,c6,b4⟩:=Kd.S_slice ho5;subst b4;have b5:=zzm ho5;have HB2:=zzm hb2;clear ho5 hb2)|(at_builtin;refine Kd.S_append kAB (w0:=w) w.heap.size rfl (.tmp 15) (.tmp 18) 24 39 (.agg #[(.bool false),(.bool false),(.int .i64 0),(.int .i64 0),(.int .i64 0),(.slice none 0 0)]) 56 rfl Try.underlying24 info39 rfl (by decide) (by omega) _ (l0.take m) (Qa l0 (m:Int)) [.bool (Qa l0 (m:Int)).f0,.bool (Qa l0 (m:Int)).f1,.int .i64 (Qa l0 (m:Int)).f2,.int .i64 (Qa l0 (m:Int)).f3,.int .i64 (Qa l0 (m:Int)).f4,.slice A6 (Qa l0 (m:Int)).f5.length c6] (fun _=>True) (fun k=>wr.heap.size < k) rfl rfl ?aP ?aK (fun _ _=>trivial) ?aO ?aB ?aS ?aL ?_;(case aP=>exact (show kAB.M w2 w.heap.size _ (Qa l0 (m:Int)) _ from ⟨_,rfl,Kd.S_mono (Kd.S_lower (Kd.S_bound b5.out) (by have:=HB.out.size;simp;omega)) (fun k hk=>by have:=hk.2.1;simp at this;omega)⟩));(case aK=>exact fun k hk=>⟨trivial,fun e=>by have:=Kd.R_lt (Kd.S_R HS.out) k e.symm;omega⟩);(case aO=>exact Kd.S_mono (Kd.S_below (Kd.S_bound HS.out) (((Below.refl _ wr).alloc (Nat.le_refl _) _).trans (HB2.out.mono (by simp)))) (fun k hk=>⟨trivial,by omega⟩));(case aB=>exact HB.out.trans ((((Below.refl _ wr).alloc (Nat.le_refl _) _).trans (HB2.out.mono (by simp))).mono HB.out.size));(case aS=>have h1:=HB.out.size;have h2:=HB2.out.size;simp at h2;omega);(case aL=>rw [hlm];omega);intro v1 w1 hS1 hb1 hg1 hat;rw [htk] at hS1;have HS1:=zzm hS1;have HB1:=zzm hb1;clear hS1 hb1 hg1 hat));go_roundw
   case rel=>exact ⟨m+1,by omega,by go_num,HS1.out,HB1.out⟩
   case measure=>simp [intOf] <;> omega
  ·
   obtain rfl:m=l0.length:=by omega
   go_wp2;go_ret;refine ⟨_,rfl,?_,HB.out⟩;have h:=HS.out;rw [List.take_length] at h;exact h
end
section
open Go.Shelf
def firstAt {α:Type} (p : α→Bool) (xs:List α):Int:=match xs.findIdx? p with
 | none=>-1
 | some i=>(i:Int)
theorem firstAt_hit {α:Type} (p : α→Bool) (xs:List α) (m:Nat) (hm:m < xs.length) (h:∀ j x,j < m→xs[j]? = some x→p x=false) (hp:p xs[m]=true):firstAt p xs=(m:Int):=by
 unfold firstAt;have:xs.findIdx? p=some m:=by
  rw [List.findIdx?_eq_some_iff_getElem];exact ⟨hm,hp,fun j hj=>by have:=h j xs[j] hj (List.getElem?_eq_getElem (by omega));simp [this]⟩
 rw [this]
theorem firstAt_miss {α:Type} (p : α→Bool) (xs:List α) (h:∀ x∈xs,p x=false):firstAt p xs = -1:=by
 unfold firstAt;have:xs.findIdx? p=none:=by rw [List.findIdx?_eq_none_iff];exact fun x hx=>by simp [h x hx]
 rw [this]
set_option maxHeartbeats 4000000 in
theorem index47_calls (cl:Nat) (lb:Array Value) (eg:∀ args w,(callFunc cl args).run Try.prog w = .ok (.enter cl args) w) (p:S47→Bool) (Okw:World→Prop) (hok1:∀ W W',Okw W→Below W.heap.size W W'→Okw W') (A:Option Addr) (c:Nat) (xs:List S47) (w:World)
  (PR:∀ (W:World) (x:S47) (cs:Array Value),Okw W→x∈xs→k47.K W x cs.toList→Calls Try.prog cl (#[.agg cs]++lb) W fun e w'=>e = .returned (.bool (p x))∧Below W.heap.size W w') (hC:Kd.C k47 w A xs.length xs) (hw:Okw w) :
  Calls Try.prog 38 #[.slice A xs.length c,.func (.func cl) #[] lb] w fun e w'=>e = .returned (.int .i64 (firstAt p xs))∧Below w.heap.size w w':=by
 have HC:=zzm hC;have HW:=zzm hw;have HPR:=zzm PR;have HO:=zzm hok1;have hm0:xs.length≤9223372036854775807:=hC.2.1;have hu:=Try.underlying47;clear hC hw PR hok1;go_enter Try.func38,Try.ntmps38;go_wp2;go_loopg [5,8] xs.length (fun gg _ s8 wr=>∃ m:Nat,m≤xs.length∧xs.length - m≤gg∧s8 = .int .i64 m∧Below w.heap.size w wr∧Aside0 (∀ j x,j < m→xs[j]? = some x→p x=false))
 case atStart=>exact ⟨0,Nat.zero_le _,by omega,rfl,Below.refl _ _,⟨fun j x hj=>absurd hj (Nat.not_lt_zero _)⟩⟩
 case round=>
  obtain ⟨m,hm,hgg,rfl,hB,HF⟩:=hrel;have HB:=zzm hB;clear hB;by_cases hlt:m < xs.length
  ·
   have hltz:(m:Int) < (xs.length:Int):=by omega
   obtain ⟨ad,A3,c3,A5,c5,he,a4,a5,a6,a7,a8,a9,a0,a1,a2,a3⟩:=Qs (Kd.C_below HC.out HB.out) (m:Int) (by omega) (by omega);subst he;simp only [Int.toNat_natCast] at a4 a5 a6 a7 a8 a9;have hrd:Qb xs (m:Int)=xs[m]:=rd_at_R hlt;have hcall:=HPR.out wr (Qb xs (m:Int)) #[.int .i64 (Qb xs (m:Int)).f0,.int .i64 (Qb xs (m:Int)).f1,.bool (Qb xs (m:Int)).f2,.slice A3 (Qb xs (m:Int)).f3.length c3,.bool (Qb xs (m:Int)).f4,.slice A5 (Qb xs (m:Int)).f5.length c5] (HO.out w wr HW.out HB.out) (by rw [hrd];exact List.getElem_mem hlt) (k47_mk _ _ a0 a1 a2 a3);have HRD:=zzm hrd;clear hrd a0 a1 a2 a3;cases hq:p (Qb xs (m:Int)) with
   | true=>
    rw [hq] at hcall;have HQ:=zzm hq;clear hq;go_wp2_with (go_at_fn cl;refine hcall.mono ?_;rintro e w' ⟨rfl,hb2⟩;have HB2:=zzm hb2;clear hb2);go_ret;refine ⟨?_,HB.out.trans (HB2.out.mono HB.out.size)⟩;rw [firstAt_hit p xs m hlt HF.out (by rw [← HRD.out];exact HQ.out)];rfl
   | false=>
    rw [hq] at hcall;have HQ:=zzm hq;clear hq;go_wp2_with (go_at_fn cl;refine hcall.mono ?_;rintro e w' ⟨rfl,hb2⟩;have HB2:=zzm hb2;clear hb2);go_roundg (xs.length - (m+1))
    case measure=>omega
    case rel=>
     refine ⟨m+1,by omega,Nat.le_refl _,by go_num,HB.out.trans (HB2.out.mono HB.out.size),⟨fun j x hj hx=>?_⟩⟩;by_cases e:j=m
     ·
      subst e;rw [List.getElem?_eq_getElem hlt] at hx;rw [← Option.some.inj hx,← HRD.out];exact HQ.out
     ·
      exact HF.out j x (by omega) hx
  ·
   have hltz:¬ (m:Int) < (xs.length:Int):=by omega
   go_wp2;go_ret;refine ⟨?_,HB.out⟩;rw [firstAt_miss p xs (fun x hx=>by obtain ⟨j,hj,rfl⟩:=List.getElem_of_mem hx;exact HF.out j _ (by omega) (List.getElem?_eq_getElem hj))];rfl
set_option maxHeartbeats 4000000 in
theorem index39_calls (cl:Nat) (lb:Array Value) (eg:∀ args w,(callFunc cl args).run Try.prog w = .ok (.enter cl args) w) (p:S39→Bool) (Okw:World→Prop) (hok1:∀ W W',Okw W→Below W.heap.size W W'→Okw W') (A:Option Addr) (c:Nat) (xs:List S39) (w:World)
  (PR:∀ (W:World) (x:S39) (cs:Array Value),Okw W→x∈xs→k39.K W x cs.toList→Calls Try.prog cl (#[.agg cs]++lb) W fun e w'=>e = .returned (.bool (p x))∧Below W.heap.size W w') (hC:Kd.C k39 w A xs.length xs) (hw:Okw w) :
  Calls Try.prog 39 #[.slice A xs.length c,.func (.func cl) #[] lb] w fun e w'=>e = .returned (.int .i64 (firstAt p xs))∧Below w.heap.size w w':=by
 have HC:=zzm hC;have HW:=zzm hw;have HPR:=zzm PR;have HO:=zzm hok1;have hm0:xs.length≤9223372036854775807:=hC.2.1;have hu:=Try.underlying39;clear hC hw PR hok1;go_enter Try.func39,Try.ntmps39;go_wp2;go_loopg [5,8] xs.length (fun gg _ s8 wr=>∃ m:Nat,m≤xs.length∧xs.length - m≤gg∧s8 = .int .i64 m∧Below w.heap.size w wr∧Aside0 (∀ j x,j < m→xs[j]? = some x→p x=false))
 case atStart=>exact ⟨0,Nat.zero_le _,by omega,rfl,Below.refl _ _,⟨fun j x hj=>absurd hj (Nat.not_lt_zero _)⟩⟩
 case round=>
  obtain ⟨m,hm,hgg,rfl,hB,HF⟩:=hrel;have HB:=zzm hB;clear hB;by_cases hlt:m < xs.length
  ·
   have hltz:(m:Int) < (xs.length:Int):=by omega
   obtain ⟨ad,A5,c5,he,a2,a3,a4,a5,a6,a7,a0,a1⟩:=Qp (Kd.C_below HC.out HB.out) (m:Int) (by omega) (by omega);subst he;simp only [Int.toNat_natCast] at a2 a3 a4 a5 a6 a7;have hrd:Qa xs (m:Int)=xs[m]:=rd_at_B hlt;have hcall:=HPR.out wr (Qa xs (m:Int)) #[.bool (Qa xs (m:Int)).f0,.bool (Qa xs (m:Int)).f1,.int .i64 (Qa xs (m:Int)).f2,.int .i64 (Qa xs (m:Int)).f3,.int .i64 (Qa xs (m:Int)).f4,.slice A5 (Qa xs (m:Int)).f5.length c5] (HO.out w wr HW.out HB.out) (by rw [hrd];exact List.getElem_mem hlt) (k39_mk _ _ a0 a1);have HRD:=zzm hrd;clear hrd a0 a1;cases hq:p (Qa xs (m:Int)) with
   | true=>
    rw [hq] at hcall;have HQ:=zzm hq;clear hq;go_wp2_with (go_at_fn cl;refine hcall.mono ?_;rintro e w' ⟨rfl,hb2⟩;have HB2:=zzm hb2;clear hb2);go_ret;refine ⟨?_,HB.out.trans (HB2.out.mono HB.out.size)⟩;rw [firstAt_hit p xs m hlt HF.out (by rw [← HRD.out];exact HQ.out)];rfl
   | false=>
    rw [hq] at hcall;have HQ:=zzm hq;clear hq;go_wp2_with (go_at_fn cl;refine hcall.mono ?_;rintro e w' ⟨rfl,hb2⟩;have HB2:=zzm hb2;clear hb2);go_roundg (xs.length - (m+1))
    case measure=>omega
    case rel=>
     refine ⟨m+1,by omega,Nat.le_refl _,by go_num,HB.out.trans (HB2.out.mono HB.out.size),⟨fun j x hj hx=>?_⟩⟩;by_cases e:j=m
     ·
      subst e;rw [List.getElem?_eq_getElem hlt] at hx;rw [← Option.some.inj hx,← HRD.out];exact HQ.out
     ·
      exact HF.out j x (by omega) hx
  ·
   have hltz:¬ (m:Int) < (xs.length:Int):=by omega
   go_wp2;go_ret;refine ⟨?_,HB.out⟩;rw [firstAt_miss p xs (fun x hx=>by obtain ⟨j,hj,rfl⟩:=List.getElem_of_mem hx;exact HF.out j _ (by omega) (List.getElem?_eq_getElem hj))];rfl
end
section
open Go.Shelf
theorem run_clear_rows {P:Program} (w:World) (t e ty:TypeId) (z:Value) (ht:P.underlying t=some (.slice e)) (hv:∀ w,(zeroValue e).run P w = .ok z w) (b o n c:Nat) (hn : 0 < n) (zs:List Value) (hz:(Builtin.zeroCells z.cells n).toList=zs)
  (hc:∀ j,j < zs.length→(w.cell? ⟨b,o+j,none⟩).isSome=true) (hf:∀ j,j < zs.length→w.frozen? ⟨b,o+j,none⟩=false) (h1:∀ v∈zs,v.oneCell' = true) :
  (Builtin.clear_ #[t] ty #[.slice (some ⟨b,o,none⟩) n c]).run P w = .ok (.tuple #[]) (w.setCells b o zs):=by
 have hst:=run_storeCells_cells (P:=P) b o zs 0 w (by simpa using hc) (by simpa using hf) h1;simp only [Nat.add_zero] at hst;obtain ⟨m,rfl⟩:∃ m,n=m+1:=⟨n - 1,by omega⟩;simp [Builtin.clear_,run_underlying ht,hv,hz,hst]
def Gr (g:Nat) (W W' : World):Prop:=W.heap.size≤W'.heap.size∧Below g W W'∧∀ k,k < W.heap.size→k≠g→W'.heap[k]? = W.heap[k]?
theorem Gr.trans {g:Nat} {X Y Z:World} (h:Gr g X Y) (k:Gr g Y Z):Gr g X Z:=⟨Nat.le_trans h.1 k.1,h.2.1.trans k.2.1,fun i hi hn=>(k.2.2 i (Nat.lt_of_lt_of_le hi h.1) hn).trans (h.2.2 i hi hn)⟩
theorem Gr.of_below {g:Nat} {W W' : World} (hg:g≤W.heap.size) (h:Below W.heap.size W W'):Gr g W W':=⟨h.size,h.mono hg,fun k hk _=>h.block k hk⟩
theorem Gr.of_grown {g:Nat} {W W' : World} (hg:g≤W.heap.size) (h:W.grownBy W' (some g)):Gr g W W':=⟨h.size,(Below.refl g W).grown h hg (fun k e=>by cases e;exact Nat.le_refl _),fun k hk hn=>h.block k hk (fun e=>hn (Option.some.inj e))⟩
theorem firstAt_spec {α:Type} (p : α→Bool) (xs:List α):(firstAt p xs = -1∧∀ x∈xs,p x=false)∨∃ k,∃ h:k < xs.length,firstAt p xs=(k:Int)∧p xs[k]=true∧∀ j x,j < k→xs[j]? = some x→p x=false:=by
 unfold firstAt;cases h:xs.findIdx? p with
 | none=>exact .inl ⟨rfl,by rw [List.findIdx?_eq_none_iff] at h;exact h⟩
 | some k=>
  rw [List.findIdx?_eq_some_iff_getElem] at h;obtain ⟨hk,hp,hb⟩:=h;refine .inr ⟨k,hk,rfl,hp,fun j x hj hx=>?_⟩;have:=hb j hj;rw [List.getElem?_eq_getElem (by omega)] at hx;rw [← Option.some.inj hx];simpa using this
theorem drop_getD {α:Type} {ys xs:List α} {j:Nat} {z : α} (h:ys.drop j=xs.drop j) (hj:j < xs.length):ys.getD j z=xs[j]:=by
 have h1:(ys.drop j)[0]? = (xs.drop j)[0]?:=by rw [h]
 rw [List.getElem?_drop,List.getElem?_drop,Nat.add_zero,List.getElem?_eq_getElem hj] at h1;rw [List.getD_eq_getElem?_getD,h1];rfl
theorem R_block {α:Type} {d:Kd α} {e:Nat} {W:World} {base g n cap:Nat} {ok:Nat→Prop} {xs:List α} (h:Kd.R d e W base ok (.slice (some ⟨g,0,none⟩) n cap) xs):∃ cur,base≤g∧W.heap[g]? = some (.cells cur e (0,0))∧n≤cap∧cap≤maxLen∧cur.size=cap * d.sz:=by
 obtain ⟨h0,inner,⟨hil,ho⟩,hr⟩:=h;rcases ho with ⟨hv,_⟩|⟨g',cap',cur,hv,hb,hh,h1,h2,h3,h4⟩
 ·
  cases hv
 ·
  injection hv with e1 e2 e3;injection e1 with e1;injection e1 with e1;subst e1 e3;exact ⟨cur,hb,hh,by omega,h2,h3⟩
theorem cell_some {W:World} {g e o:Nat} {cur:Array Value} (h:W.heap[g]? = some (.cells cur e (0,0))) (ho:o < cur.size):(W.cell? ⟨g,o,none⟩).isSome=true:=by
 simp [World.cell?,h,ho]
theorem zeroCells_one {z:Array Value} (n:Nat) (h:∀ u∈z,u.oneCell' = true):∀ v∈(Builtin.zeroCells z n).toList,v.oneCell' = true:=by
 intro v hv;unfold Builtin.zeroCells at hv;rw [Array.toList_map] at hv;obtain ⟨i,hi,rfl⟩:=List.mem_map.1 hv;have hi2:i < n * z.size:=by simpa using hi
 have hz : 0 < z.size:=by
  rcases Nat.eq_zero_or_pos z.size with h0|h0
  ·
   rw [h0] at hi2;omega
  ·
   exact h0
 have hm:=Nat.mod_lt i hz;rw [getElem!_pos z (i % z.size) hm];exact h _ (Array.getElem_mem hm)
theorem R_cut {α:Type} {d:Kd α} {e:Nat} {W:World} {base g n cap:Nat} {ok:Nat→Prop} {xs:List α} (h:Kd.R d e W base ok (.slice (some ⟨g,0,none⟩) n cap) xs) (m:Nat) (hm:m≤xs.length) (zs:List Value) (hz:m * d.sz+zs.length≤cap * d.sz) :
  Kd.R d e (W.setCells g (m * d.sz) zs) base ok (.slice (some ⟨g,0,none⟩) m cap) (xs.take m)∧W.grownBy (W.setCells g (m * d.sz) zs) (some g):=by
 obtain ⟨h0,inner,⟨hil,ho⟩,hr⟩:=h;have hgo:∀ {n' : Nat},(Value.slice (some ⟨g,0,none⟩) n' cap).ownBlock=some g:=fun {n'}=>by simp [Value.ownBlock]
 rcases ho with ⟨hv,_⟩|⟨g',cap',cur,hv,hb,hh,h1,h2,h3,h4⟩
 ·
  cases hv
 ·
  injection hv with e1 e2 e3;injection e1 with e1;injection e1 with e1;subst e1 e3;obtain ⟨cur',c1,c2,c3⟩:=setCells_row zs (m * d.sz) W cur hh (by rw [h3];exact hz);have hms:m * d.sz≤xs.length * d.sz:=Nat.mul_le_mul_right _ hm;have hml:(xs.take m).length=m:=by rw [length_take];omega
  obtain ⟨s1,s2,s3,s4⟩:=setCells_same g zs (m * d.sz) W;refine ⟨⟨fun k hk=>h0 k (by rw [hgo] at hk ⊢;exact hk),inner.take (m * d.sz),⟨by rw [hml,length_take,hil];omega,.inr ⟨g,cap,cur',by rw [hml],hb,c1,by rw [hml];omega,h2,c2.trans h3,?_⟩⟩,by rw [hml,length_take,hil];omega,fun j p hj=>?_⟩,⟨s1,s2,s3,Nat.le_of_eq s4.symm,fun k _ hk=>setCells_far zs _ k (fun e=>hk (by rw [e]))⟩⟩
  ·
   rw [hml,c3,List.append_assoc,List.take_append_of_le_length (by rw [length_take,Array.length_toList,h3];omega),List.take_take,Nat.min_self,← h4,List.take_take];congr 1;omega
  ·
   have hjm:j < m:=by have:=(List.getElem?_eq_some_iff.1 hj).1;omega
   rw [List.getElem?_take,if_pos hjm] at hj;have hM:=hr.2 j p hj;have hjs:j * d.sz+d.sz≤m * d.sz:=by rw [← Nat.succ_mul];exact Nat.mul_le_mul_right _ hjm
   rw [List.drop_take,List.take_take,Nat.min_eq_left (by omega)];refine d.M_move (fun k hk=>setCells_far zs _ k (fun e=>hk.2 (by rw [e,hgo]))) (d.M_mono (fun k hk=>⟨hk.1,by rw [hgo] at hk ⊢;exact hk.2⟩) hM)
theorem below_box {W w' : World} {o:Obj} (h:Below (W.alloc o).heap.size (W.alloc o) w'):Below W.heap.size W w':=((Below.refl _ W).alloc (Nat.le_refl _) _).trans (h.mono (by simp))
def KeptIn {α:Type} (p : α→Bool) (xs ys:List α) (i j:Nat):Prop:=ys.length=xs.length∧ys.take i=(xs.take j).filter (fun x=>!p x)∧ys.drop j=xs.drop j∧((xs.take j).filter (fun x=>!p x)).length=i
theorem KeptIn.skip {α:Type} {p : α→Bool} {xs ys:List α} {i j:Nat} (h:KeptIn p xs ys i j) (hj:j < xs.length) (hp:p xs[j]=true):KeptIn p xs ys i (j+1):=by
 obtain ⟨h1,h2,h3,h4⟩:=h;have e:(xs.take (j+1)).filter (fun x=>!p x)=(xs.take j).filter (fun x=>!p x):=by
  rw [List.take_succ_eq_append_getElem hj,List.filter_append];simp [hp]
 refine ⟨h1,by rw [e];exact h2,?_,by rw [e];exact h4⟩;rw [← List.drop_drop,← List.drop_drop,h3]
theorem KeptIn.keep {α:Type} {p : α→Bool} {xs ys:List α} {i j:Nat} (h:KeptIn p xs ys i j) (hij:i < j) (hj:j < xs.length) (hp:p xs[j]=false):KeptIn p xs (ys.set i xs[j]) (i+1) (j+1):=by
 obtain ⟨h1,h2,h3,h4⟩:=h;have e:(xs.take (j+1)).filter (fun x=>!p x)=(xs.take j).filter (fun x=>!p x) ++ [xs[j]]:=by
  rw [List.take_succ_eq_append_getElem hj,List.filter_append];simp [hp]
 refine ⟨by rw [List.length_set];exact h1,?_,?_,by rw [e,List.length_append,h4];rfl⟩
 ·
  rw [e,← h2,List.take_succ_eq_append_getElem (by rw [List.length_set];omega)];rw [List.take_set_of_le (Nat.le_refl _),List.getElem_set_self]
 ·
  rw [List.drop_set_of_lt (by omega),← List.drop_drop,← List.drop_drop,h3]
theorem kept_start {α:Type} (p : α→Bool) (xs:List α) (k:Nat) (hk:k < xs.length) (hb:∀ j x,j < k→xs[j]? = some x→p x=false) (hp:p xs[k]=true):(xs.take (k+1)).filter (fun x=>!p x)=xs.take k:=by
 rw [List.take_succ_eq_append_getElem hk,List.filter_append];have h1:(xs.take k).filter (fun x=>!p x)=xs.take k:=by
  rw [List.filter_eq_self];intro x hx;obtain ⟨j,hj,rfl⟩:=List.getElem_of_mem hx;rw [length_take] at hj;rw [List.getElem_take];simp [hb j _ (by omega) (List.getElem?_eq_getElem (by omega))]
 rw [h1];simp [hp]
theorem firstAt_fst {α β:Type} (p : α→Bool) (xs:List (α×β)):firstAt p (xs.map Prod.fst)=firstAt (fun y=>p y.1) xs:=by
 unfold firstAt;rw [List.findIdx?_map];rfl
theorem C_fst {α:Type} {d:Kd α} {f:Nat→Nat} {w:World} {A:Option Addr} {n:Nat} {xs:List (α×Nat)} (h:Kd.C (Kd.tag f d) w A n xs):Kd.C d w A (xs.map Prod.fst).length (xs.map Prod.fst):=by
 have hl:(xs.map Prod.fst).length=n:=by rw [List.length_map];exact h.1
 refine ⟨rfl,by rw [hl];exact h.2.1,fun hn=>?_⟩;obtain ⟨ad,e,hc⟩:=h.2.2 (by rw [← hl];exact hn);refine ⟨ad,e,fun j p hj=>?_⟩;rw [List.getElem?_map] at hj;obtain ⟨y,hy,rfl⟩:=Option.map_eq_some_iff.1 hj;exact hc j y hy
theorem zip_nodup {α:Type} (xs:List α):(xs.zipIdx.map Prod.snd).Nodup:=by
 rw [List.zipIdx_map_snd];exact List.nodup_range'
theorem filter_tags {α:Type} (p : α→Bool) (xs:List α):((xs.zipIdx.filter fun y=>p y.1).map Prod.snd).Nodup∧(xs.zipIdx.filter fun y=>p y.1).map Prod.fst=xs.filter p:=by
 constructor
 ·
  exact ((List.filter_sublist).map Prod.snd).nodup (zip_nodup xs)
 ·
  have h:=List.filter_map (f:=Prod.fst) (p:=p) (l:=xs.zipIdx);rw [List.zipIdx_map_fst] at h;exact h.symm
set_option maxHeartbeats 4000000 in
theorem deleteT47_calls (f:Nat→Nat) (cl:Nat) (lb:Array Value) (eg:∀ args w,(callFunc cl args).run Try.prog w = .ok (.enter cl args) w) (p:S47→Bool) (Okw:World→Prop) (hok1:∀ W W',Okw W→Below W.heap.size W W'→Okw W') (g cap base:Nat) (ok:Nat→Prop) (xs:List (S47×Nat)) (w:World) (hok2:∀ W W',Okw W→W.grownBy W' (some g)→Okw W')
  (PR:∀ (W:World) (x:(S47×Nat)) (cs:Array Value),Okw W→x∈xs→k47.K W x.1 cs.toList→Calls Try.prog cl (#[.agg cs]++lb) W fun e w'=>e = .returned (.bool (p x.1))∧Below W.heap.size W w') (hR:Kd.R (Kd.tag f kA) 47 w base ok (.slice (some ⟨g,0,none⟩) xs.length cap) xs) (hw:Okw w) :
  Calls Try.prog 18 #[.slice (some ⟨g,0,none⟩) xs.length cap,.func (.func cl) #[] lb] w fun e w'=>e = .returned (.slice (some ⟨g,0,none⟩) (xs.filter fun x=>!p x.1).length cap)∧Kd.R (Kd.tag f kA) 47 w' base ok (.slice (some ⟨g,0,none⟩) (xs.filter fun x=>!p x.1).length cap) (xs.filter fun x=>!p x.1)∧Gr g w w':=by
 obtain ⟨A_,c_,he_,hl_,hC⟩:=Kd.R_reads hR;injection he_ with he1 _ he2;subst he1;subst he2;have hC':=C_fst hC;have hidx:=index47_calls cl lb eg p Okw hok1 (some ⟨g,0,none⟩) cap (xs.map Prod.fst) w (fun W x cs hW hx hK=>by obtain ⟨y,hy,rfl⟩:=List.mem_map.1 hx;exact PR W y cs hW hy hK) hC' hw;rw [firstAt_fst,List.length_map] at hidx;clear hC';have hlg:=Kd.R_lt hR g (by simp [Value.ownBlock]);have hm0:xs.length≤9223372036854775807:=hC.2.1;have hu:=Try.underlying47;have HR:=zzm hR;have HW:=zzm hw;have HPR:=zzm PR;have a0:=zzm hok1;have a1:=zzm hok2;have HLC:=zzm hl_;clear hR hw PR hok1 hok2 hC hl_;rcases firstAt_spec (fun y:(S47×Nat)=>p y.1) xs with ⟨e1,hall⟩|⟨k0,hk0,e1,ht,hbef⟩
 ·
  rw [e1] at hidx;have hf:(xs.filter fun x=>!p x.1)=xs:=by rw [List.filter_eq_self];intro x hx;simp [hall x hx]
  rw [hf];have HI:=zzm hidx;clear hidx;go_enter Try.func18,Try.ntmps18;go_wp2_with (go_at_call 38;refine HI.out.mono ?_;rintro e w' ⟨rfl,hb2⟩;have HB2:=zzm hb2;clear hb2);go_ret;exact ⟨rfl,Kd.R_below HR.out HB2.out,Gr.of_below (Nat.le_of_lt hlg) HB2.out⟩
 ·
  rw [e1] at hidx;have HI:=zzm hidx;have hne1:((k0:Int) == -1)=false:=beq_eq_false_iff_ne.2 (by omega);have HT:=zzm ht;have HBF:=zzm hbef;clear hidx ht hbef e1;go_enter Try.func18,Try.ntmps18;go_wp2_with (go_at_call 38;refine HI.out.mono ?_;rintro e w' ⟨rfl,hb2⟩;have HB2:=zzm hb2;clear hb2);go_loopg [5,6,7] xs.length (fun gg s5 s6 _ wr=>∃ (i j:Nat) (ys:List (S47×Nat)),s5 = .int .i64 i∧s6 = .int .i64 j∧i < j∧j≤xs.length∧xs.length - j≤gg∧Aside0 (KeptIn (fun y:(S47×Nat)=>p y.1) xs ys i j)∧Aside0 (Kd.R (Kd.tag f kA) 47 wr base ok (.slice (some ⟨g,0,none⟩) xs.length cap) ys)∧Aside0 (Gr g w wr)∧Aside0 (Okw wr))
  case atStart=>
   refine ⟨k0,k0+1,xs,rfl,by go_num,by omega,by omega,by omega,⟨rfl,?_,rfl,?_⟩,⟨Kd.R_below HR.out HB2.out⟩,⟨Gr.of_below (Nat.le_of_lt hlg) HB2.out⟩,⟨a0.out _ _ HW.out HB2.out⟩⟩
   ·
    exact (kept_start (fun y:(S47×Nat)=>p y.1) xs k0 hk0 HBF.out HT.out).symm
   ·
    rw [kept_start (fun y:(S47×Nat)=>p y.1) xs k0 hk0 HBF.out HT.out,length_take];omega
  case round=>
   obtain ⟨i,j,ys,rfl,rfl,hij,hj,hgg,HY,HRY,HG,HW2⟩:=hrel;have hyl:=HY.out.1;have hgy:g < wr.heap.size:=Nat.lt_of_lt_of_le hlg HG.out.1;by_cases hlt:j < xs.length
   ·
    have hltz:(j:Int) < (xs.length:Int):=by omega
    obtain ⟨c,hcl,hM,hcc,hfr⟩:=Kd.R_elem HRY.out (z47,0) (j:Int) (by omega) (by omega);simp only [Int.toNat_natCast,show (Kd.tag f kA).sz=6 from rfl] at hM hcc hfr;rw [drop_getD HY.out.2.2.1 hlt] at hM;have hmem:=List.getElem_mem hlt;generalize hx:xs[j]=x at hM hmem;have HX:=zzm hx;clear hx;obtain ⟨v3,v5,rfl,g3,g5⟩:=id hM;obtain ⟨A3,c3,rfl⟩:=Kd.R_slice g3;obtain ⟨A5,c5,rfl⟩:=Kd.R_slice g5;have x0:wr.cell? ⟨g,j * 6,none⟩=some (.int .i64 x.1.f0):=hcc 0 _ rfl;have x1:wr.cell? ⟨g,j * 6+1,none⟩=some (.int .i64 x.1.f1):=hcc 1 _ rfl;have x2:wr.cell? ⟨g,j * 6+2,none⟩=some (.bool x.1.f2):=hcc 2 _ rfl;have x3:wr.cell? ⟨g,j * 6+3,none⟩=some (.slice A3 x.1.f3.length c3):=hcc 3 _ rfl;have x4:wr.cell? ⟨g,j * 6+4,none⟩=some (.bool x.1.f4):=hcc 4 _ rfl;have x5:wr.cell? ⟨g,j * 6+5,none⟩=some (.slice A5 x.1.f5.length c5):=hcc 5 _ rfl;have HM:=zzm hM;have hcall:=HPR.out (wr.alloc (.cells #[.int .i64 x.1.f0,.int .i64 x.1.f1,.bool x.1.f2,.slice A3 x.1.f3.length c3,.bool x.1.f4,.slice A5 x.1.f5.length c5] 47)) x #[.int .i64 x.1.f0,.int .i64 x.1.f1,.bool x.1.f2,.slice A3 x.1.f3.length c3,.bool x.1.f4,.slice A5 x.1.f5.length c5] (a0.out _ _ HW2.out ((Below.refl _ wr).alloc (Nat.le_refl _) _)) hmem (k47.K_below ((Below.refl _ wr).alloc (Nat.le_refl _) _) ((Kd.tag f kA).K_of_M hM));have HCC:=zzm hcc;clear hM hcc hfr hcl g3 g5;have hbnew:=World.alloc_heap_new wr (.cells #[.int .i64 x.1.f0,.int .i64 x.1.f1,.bool x.1.f2,.slice A3 x.1.f3.length c3,.bool x.1.f4,.slice A5 x.1.f5.length c5] 47);cases hq:p x.1 with
    | true=>
     rw [hq] at hcall;have HQ:=zzm hq;have HCA:=zzm hcall;clear hq hcall;go_wp2_with (go_at_fn cl;refine HCA.out.mono ?_;rintro e w' ⟨rfl,hb2⟩;have HB3:=zzm hb2;clear hb2);go_roundg (xs.length - (j+1))
     case measure=>omega
     case rel=>exact ⟨i,j+1,ys,rfl,by go_num,by omega,by omega,Nat.le_refl _,⟨KeptIn.skip HY.out hlt (by rw [HX.out];exact HQ.out)⟩,⟨Kd.R_below HRY.out (below_box HB3.out)⟩,⟨HG.out.trans (Gr.of_below (Nat.le_of_lt hgy) (below_box HB3.out))⟩,⟨a0.out _ _ HW2.out (below_box HB3.out)⟩⟩
    | false=>
     rw [hq] at hcall;have HQ:=zzm hq;have HCA:=zzm hcall;clear hq hcall;go_wp2_with (go_at_fn cl;refine HCA.out.mono ?_;rintro e w2 ⟨rfl,hb2⟩;have hbx:=(hb2.block wr.heap.size (by simp)).trans hbnew;have b0:w2.cell? ⟨wr.heap.size,0,none⟩=some (.int .i64 x.1.f0):=(by simp [World.cell?,hbx]);have b1:w2.cell? ⟨wr.heap.size,1,none⟩=some (.int .i64 x.1.f1):=(by simp [World.cell?,hbx]);have b2:w2.cell? ⟨wr.heap.size,2,none⟩=some (.bool x.1.f2):=(by simp [World.cell?,hbx]);have b3:w2.cell? ⟨wr.heap.size,3,none⟩=some (.slice A3 x.1.f3.length c3):=(by simp [World.cell?,hbx]);have b4:w2.cell? ⟨wr.heap.size,4,none⟩=some (.bool x.1.f4):=(by simp [World.cell?,hbx]);have b5:w2.cell? ⟨wr.heap.size,5,none⟩=some (.slice A5 x.1.f5.length c5):=(by simp [World.cell?,hbx]);obtain ⟨ci,hcli,hMi,hcci,hfri⟩:=Kd.R_elem (Kd.R_below HRY.out (below_box hb2)) (z47,0) (i:Int) (by omega) (by omega);simp only [Int.toNat_natCast,show (Kd.tag f kA).sz=6 from rfl] at hMi hcci hfri;obtain ⟨t3,t5,rfl,-,-⟩:=id hMi;have y0:w2.cell? ⟨g,i * 6,none⟩=some _:=hcci 0 _ rfl;have y1:w2.cell? ⟨g,i * 6+1,none⟩=some _:=hcci 1 _ rfl;have y2:w2.cell? ⟨g,i * 6+2,none⟩=some _:=hcci 2 _ rfl;have y3:w2.cell? ⟨g,i * 6+3,none⟩=some _:=hcci 3 _ rfl;have y4:w2.cell? ⟨g,i * 6+4,none⟩=some _:=hcci 4 _ rfl;have y5:w2.cell? ⟨g,i * 6+5,none⟩=some _:=hcci 5 _ rfl;have f0:w2.frozen? ⟨g,i * 6,none⟩=false:=hfri 0;have f1:w2.frozen? ⟨g,i * 6+1,none⟩=false:=hfri 1;have f2:w2.frozen? ⟨g,i * 6+2,none⟩=false:=hfri 2;have f3:w2.frozen? ⟨g,i * 6+3,none⟩=false:=hfri 3;have f4:w2.frozen? ⟨g,i * 6+4,none⟩=false:=hfri 4;have f5:w2.frozen? ⟨g,i * 6+5,none⟩=false:=hfri 5;have HCI:=zzm hcci;have HB3:=zzm hb2;clear hb2 hbx hcci hfri hMi hcli);have hbW:=below_box HB3.out;have hgw:g≤w2.heap.size:=Nat.le_trans (Nat.le_of_lt hgy) hbW.size;have hseg:=Kd.R_seg (Kd.R_below HRY.out hbW) (i:Int) (by omega) (by omega) (seg:=[.int .i64 x.1.f0,.int .i64 x.1.f1,.bool x.1.f2,.slice A3 x.1.f3.length c3,.bool x.1.f4,.slice A5 x.1.f5.length c5]) (j:=0) rfl HCI.out (show 0+6≤6 from Nat.le_refl _) (x':=x) (okp:=fun k=>ok k∧k≠g) (Kd.M_below HM.out hbW) (fun _ hk=>hk);have HS1:=zzm hseg.1;have HS2:=zzm hseg.2;clear hseg;go_roundg (xs.length - (j+1))
     case measure=>omega
     case rel=>exact ⟨i+1,j+1,ys.set i x,by go_num,by go_num,by omega,by omega,Nat.le_refl _,⟨by have h:=KeptIn.keep HY.out hij hlt (by rw [HX.out];exact HQ.out);rw [HX.out] at h;exact h⟩,⟨HS1.out⟩,⟨(HG.out.trans (Gr.of_below (Nat.le_of_lt hgy) hbW)).trans (Gr.of_grown hgw HS2.out)⟩,⟨a1.out _ _ (a0.out _ _ HW2.out hbW) HS2.out⟩⟩
   ·
    obtain rfl:j=xs.length:=by omega
    have hltz:¬ (xs.length:Int) < (xs.length:Int):=by omega
    have hlc:=HLC.out;have hk:=HY.out;unfold KeptIn at hk;rw [List.take_length] at hk;obtain ⟨cur,hbg,hblk,hnc,hcm,hcs⟩:=R_block HRY.out;obtain ⟨zs,hzs⟩:∃ zs,zs=(Builtin.zeroCells (Value.agg #[.int .i64 0,.int .i64 0,.bool false,.slice none 0 0,.bool false,.slice none 0 0]).cells (xs.length - i)).toList:=⟨_,rfl⟩;have hzl:zs.length=(xs.length - i) * 6:=by rw [hzs];simp [Builtin.zeroCells];rfl
    have hz1:∀ v∈zs,v.oneCell' = true:=by
     intro v hv;rw [hzs] at hv;exact zeroCells_one _ (by decide) v hv
    have hsz:(Kd.tag f kA).sz=6:=rfl;rw [hsz] at hcs;have hfit:i * 6+zs.length≤cur.size:=by rw [hzl,hcs];omega
    have hcl:∀ ty,(Builtin.clear_ #[37] ty #[.slice (some ⟨g,i * 6,none⟩) (xs.length - i) (cap - i)]).run Try.prog wr = .ok (.tuple #[]) (wr.setCells g (i * 6) zs):=fun ty=>run_clear_rows wr 37 47 ty _ Try.underlying37 Try.zeroValue47 g (i * 6) (xs.length - i) (cap - i) (by omega) zs hzs.symm
     (fun q hq=>cell_some hblk (by omega)) (fun q hq=>zzl hblk _) hz1
    have hcut:=R_cut HRY.out i (by omega) zs (by rw [hsz];rw [hcs] at hfit;exact hfit);rw [hsz] at hcut;have a2:=zzm hcut.1;have a3:=zzm hcut.2;have HKK:=zzm hk;clear hcut hblk hzs hk hfit hzl;go_wp2;go_ret;have hk:=HKK.out;have hgw:g≤wr.heap.size:=Nat.le_of_lt hgy;refine ⟨by rw [hk.2.2.2];rfl,?_,HG.out.trans (Gr.of_grown hgw a3.out)⟩;have h:=a2.out;rw [hk.2.1] at h;rw [hk.2.2.2];exact h
theorem deleteS47_calls (cl:Nat) (lb:Array Value) (eg:∀ args w,(callFunc cl args).run Try.prog w = .ok (.enter cl args) w) (p:S47→Bool) (Okw:World→Prop) (hok1:∀ W W',Okw W→Below W.heap.size W W'→Okw W') (g cap base:Nat) (ok:Nat→Prop) (xs:List S47) (w:World) (hok2:∀ W W',Okw W→W.grownBy W' (some g)→Okw W')
  (PR:∀ (W:World) (x:S47) (cs:Array Value),Okw W→x∈xs→k47.K W x cs.toList→Calls Try.prog cl (#[.agg cs]++lb) W fun e w'=>e = .returned (.bool (p x))∧Below W.heap.size W w') (hS:Kd.S kA 47 w base ok (.slice (some ⟨g,0,none⟩) xs.length cap) xs) (hw:Okw w) :
  Calls Try.prog 18 #[.slice (some ⟨g,0,none⟩) xs.length cap,.func (.func cl) #[] lb] w fun e w'=>e = .returned (.slice (some ⟨g,0,none⟩) (xs.filter fun x=>!p x).length cap)∧Kd.S kA 47 w' base ok (.slice (some ⟨g,0,none⟩) (xs.filter fun x=>!p x).length cap) (xs.filter fun x=>!p x)∧Gr g w w':=by
 obtain ⟨f,hR⟩:=hS;have hl:xs.zipIdx.length=xs.length:=List.length_zipIdx;have h:=deleteT47_calls f cl lb eg p Okw hok1 g cap base ok xs.zipIdx w hok2 (fun W y cs hW hy hK=>PR W y.1 cs hW (by have:=List.mem_map_of_mem (f:=Prod.fst) hy;rw [List.zipIdx_map_fst] at this;exact this) hK) (by rw [hl];exact hR) hw;rw [hl] at h;obtain ⟨hn,he⟩:=filter_tags (fun x=>!p x) xs;have hll:(xs.zipIdx.filter fun y=>!p y.1).length=(xs.filter fun x=>!p x).length:=by rw [← he,List.length_map]
 rw [hll] at h;refine h.mono ?_;rintro e w' ⟨rfl,hR2,hG⟩;refine ⟨rfl,?_,hG⟩;have h2:=S_of_tags hR2 hn;rw [he] at h2;exact h2
set_option maxHeartbeats 4000000 in
theorem deleteT39_calls (f:Nat→Nat) (cl:Nat) (lb:Array Value) (eg:∀ args w,(callFunc cl args).run Try.prog w = .ok (.enter cl args) w) (p:S39→Bool) (Okw:World→Prop) (hok1:∀ W W',Okw W→Below W.heap.size W W'→Okw W') (g cap base:Nat) (ok:Nat→Prop) (xs:List (S39×Nat)) (w:World) (hok2:∀ W W',Okw W→W.grownBy W' (some g)→Okw W')
  (PR:∀ (W:World) (x:(S39×Nat)) (cs:Array Value),Okw W→x∈xs→k39.K W x.1 cs.toList→Calls Try.prog cl (#[.agg cs]++lb) W fun e w'=>e = .returned (.bool (p x.1))∧Below W.heap.size W w') (hR:Kd.R (Kd.tag f kAB) 39 w base ok (.slice (some ⟨g,0,none⟩) xs.length cap) xs) (hw:Okw w) :
  Calls Try.prog 20 #[.slice (some ⟨g,0,none⟩) xs.length cap,.func (.func cl) #[] lb] w fun e w'=>e = .returned (.slice (some ⟨g,0,none⟩) (xs.filter fun x=>!p x.1).length cap)∧Kd.R (Kd.tag f kAB) 39 w' base ok (.slice (some ⟨g,0,none⟩) (xs.filter fun x=>!p x.1).length cap) (xs.filter fun x=>!p x.1)∧Gr g w w':=by
 obtain ⟨A_,c_,he_,hl_,hC⟩:=Kd.R_reads hR;injection he_ with he1 _ he2;subst he1;subst he2;have hC':=C_fst hC;have hidx:=index39_calls cl lb eg p Okw hok1 (some ⟨g,0,none⟩) cap (xs.map Prod.fst) w (fun W x cs hW hx hK=>by obtain ⟨y,hy,rfl⟩:=List.mem_map.1 hx;exact PR W y cs hW hy hK) hC' hw;rw [firstAt_fst,List.length_map] at hidx;clear hC';have hlg:=Kd.R_lt hR g (by simp [Value.ownBlock]);have hm0:xs.length≤9223372036854775807:=hC.2.1;have hu:=Try.underlying39;have HR:=zzm hR;have HW:=zzm hw;have HPR:=zzm PR;have a0:=zzm hok1;have a1:=zzm hok2;have HLC:=zzm hl_;clear hR hw PR hok1 hok2 hC hl_;rcases firstAt_spec (fun y:(S39×Nat)=>p y.1) xs with ⟨e1,hall⟩|⟨k0,hk0,e1,ht,hbef⟩
 ·
  rw [e1] at hidx;have hf:(xs.filter fun x=>!p x.1)=xs:=by rw [List.filter_eq_self];intro x hx;simp [hall x hx]
  rw [hf];have HI:=zzm hidx;clear hidx;go_enter Try.func20,Try.ntmps20;go_wp2_with (go_at_call 39;refine HI.out.mono ?_;rintro e w' ⟨rfl,hb2⟩;have HB2:=zzm hb2;clear hb2);go_ret;exact ⟨rfl,Kd.R_below HR.out HB2.out,Gr.of_below (Nat.le_of_lt hlg) HB2.out⟩
 ·
  rw [e1] at hidx;have HI:=zzm hidx;have hne1:((k0:Int) == -1)=false:=beq_eq_false_iff_ne.2 (by omega);have HT:=zzm ht;have HBF:=zzm hbef;clear hidx ht hbef e1;go_enter Try.func20,Try.ntmps20;go_wp2_with (go_at_call 39;refine HI.out.mono ?_;rintro e w' ⟨rfl,hb2⟩;have HB2:=zzm hb2;clear hb2);go_loopg [5,6,7] xs.length (fun gg s5 s6 _ wr=>∃ (i j:Nat) (ys:List (S39×Nat)),s5 = .int .i64 i∧s6 = .int .i64 j∧i < j∧j≤xs.length∧xs.length - j≤gg∧Aside0 (KeptIn (fun y:(S39×Nat)=>p y.1) xs ys i j)∧Aside0 (Kd.R (Kd.tag f kAB) 39 wr base ok (.slice (some ⟨g,0,none⟩) xs.length cap) ys)∧Aside0 (Gr g w wr)∧Aside0 (Okw wr))
  case atStart=>
   refine ⟨k0,k0+1,xs,rfl,by go_num,by omega,by omega,by omega,⟨rfl,?_,rfl,?_⟩,⟨Kd.R_below HR.out HB2.out⟩,⟨Gr.of_below (Nat.le_of_lt hlg) HB2.out⟩,⟨a0.out _ _ HW.out HB2.out⟩⟩
   ·
    exact (kept_start (fun y:(S39×Nat)=>p y.1) xs k0 hk0 HBF.out HT.out).symm
   ·
    rw [kept_start (fun y:(S39×Nat)=>p y.1) xs k0 hk0 HBF.out HT.out,length_take];omega
  case round=>
   obtain ⟨i,j,ys,rfl,rfl,hij,hj,hgg,HY,HRY,HG,HW2⟩:=hrel;have hyl:=HY.out.1;have hgy:g < wr.heap.size:=Nat.lt_of_lt_of_le hlg HG.out.1;by_cases hlt:j < xs.length
   ·
    have hltz:(j:Int) < (xs.length:Int):=by omega
    obtain ⟨c,hcl,hM,hcc,hfr⟩:=Kd.R_elem HRY.out (z39,0) (j:Int) (by omega) (by omega);simp only [Int.toNat_natCast,show (Kd.tag f kAB).sz=6 from rfl] at hM hcc hfr;rw [drop_getD HY.out.2.2.1 hlt] at hM;have hmem:=List.getElem_mem hlt;generalize hx:xs[j]=x at hM hmem;have HX:=zzm hx;clear hx;obtain ⟨v5,rfl,g5⟩:=id hM;obtain ⟨A5,c5,rfl⟩:=Kd.S_slice g5;have x0:wr.cell? ⟨g,j * 6,none⟩=some (.bool x.1.f0):=hcc 0 _ rfl;have x1:wr.cell? ⟨g,j * 6+1,none⟩=some (.bool x.1.f1):=hcc 1 _ rfl;have x2:wr.cell? ⟨g,j * 6+2,none⟩=some (.int .i64 x.1.f2):=hcc 2 _ rfl;have x3:wr.cell? ⟨g,j * 6+3,none⟩=some (.int .i64 x.1.f3):=hcc 3 _ rfl;have x4:wr.cell? ⟨g,j * 6+4,none⟩=some (.int .i64 x.1.f4):=hcc 4 _ rfl;have x5:wr.cell? ⟨g,j * 6+5,none⟩=some (.slice A5 x.1.f5.length c5):=hcc 5 _ rfl;have HM:=zzm hM;have hcall:=HPR.out (wr.alloc (.cells #[.bool x.1.f0,.bool x.1.f1,.int .i64 x.1.f2,.int .i64 x.1.f3,.int .i64 x.1.f4,.slice A5 x.1.f5.length c5] 39)) x #[.bool x.1.f0,.bool x.1.f1,.int .i64 x.1.f2,.int .i64 x.1.f3,.int .i64 x.1.f4,.slice A5 x.1.f5.length c5] (a0.out _ _ HW2.out ((Below.refl _ wr).alloc (Nat.le_refl _) _)) hmem (k39.K_below ((Below.refl _ wr).alloc (Nat.le_refl _) _) ((Kd.tag f kAB).K_of_M hM));have HCC:=zzm hcc;clear hM hcc hfr hcl g5;have hbnew:=World.alloc_heap_new wr (.cells #[.bool x.1.f0,.bool x.1.f1,.int .i64 x.1.f2,.int .i64 x.1.f3,.int .i64 x.1.f4,.slice A5 x.1.f5.length c5] 39);cases hq:p x.1 with
    | true=>
     rw [hq] at hcall;have HQ:=zzm hq;have HCA:=zzm hcall;clear hq hcall;go_wp2_with (go_at_fn cl;refine HCA.out.mono ?_;rintro e w' ⟨rfl,hb2⟩;have HB3:=zzm hb2;clear hb2);go_roundg (xs.length - (j+1))
     case measure=>omega
     case rel=>exact ⟨i,j+1,ys,rfl,by go_num,by omega,by omega,Nat.le_refl _,⟨KeptIn.skip HY.out hlt (by rw [HX.out];exact HQ.out)⟩,⟨Kd.R_below HRY.out (below_box HB3.out)⟩,⟨HG.out.trans (Gr.of_below (Nat.le_of_lt hgy) (below_box HB3.out))⟩,⟨a0.out _ _ HW2.out (below_box HB3.out)⟩⟩
    | false=>
     rw [hq] at hcall;have HQ:=zzm hq;have HCA:=zzm hcall;clear hq hcall;go_wp2_with (go_at_fn cl;refine HCA.out.mono ?_;rintro e w2 ⟨rfl,hb2⟩;have hbx:=(hb2.block wr.heap.size (by simp)).trans hbnew;have b0:w2.cell? ⟨wr.heap.size,0,none⟩=some (.bool x.1.f0):=(by simp [World.cell?,hbx]);have b1:w2.cell? ⟨wr.heap.size,1,none⟩=some (.bool x.1.f1):=(by simp [World.cell?,hbx]);have b2:w2.cell? ⟨wr.heap.size,2,none⟩=some (.int .i64 x.1.f2):=(by simp [World.cell?,hbx]);have b3:w2.cell? ⟨wr.heap.size,3,none⟩=some (.int .i64 x.1.f3):=(by simp [World.cell?,hbx]);have b4:w2.cell? ⟨wr.heap.size,4,none⟩=some (.int .i64 x.1.f4):=(by simp [World.cell?,hbx]);have b5:w2.cell? ⟨wr.heap.size,5,none⟩=some (.slice A5 x.1.f5.length c5):=(by simp [World.cell?,hbx]);obtain ⟨ci,hcli,hMi,hcci,hfri⟩:=Kd.R_elem (Kd.R_below HRY.out (below_box hb2)) (z39,0) (i:Int) (by omega) (by omega);simp only [Int.toNat_natCast,show (Kd.tag f kAB).sz=6 from rfl] at hMi hcci hfri;obtain ⟨t5,rfl,-⟩:=id hMi;have y0:w2.cell? ⟨g,i * 6,none⟩=some _:=hcci 0 _ rfl;have y1:w2.cell? ⟨g,i * 6+1,none⟩=some _:=hcci 1 _ rfl;have y2:w2.cell? ⟨g,i * 6+2,none⟩=some _:=hcci 2 _ rfl;have y3:w2.cell? ⟨g,i * 6+3,none⟩=some _:=hcci 3 _ rfl;have y4:w2.cell? ⟨g,i * 6+4,none⟩=some _:=hcci 4 _ rfl;have y5:w2.cell? ⟨g,i * 6+5,none⟩=some _:=hcci 5 _ rfl;have f0:w2.frozen? ⟨g,i * 6,none⟩=false:=hfri 0;have f1:w2.frozen? ⟨g,i * 6+1,none⟩=false:=hfri 1;have f2:w2.frozen? ⟨g,i * 6+2,none⟩=false:=hfri 2;have f3:w2.frozen? ⟨g,i * 6+3,none⟩=false:=hfri 3;have f4:w2.frozen? ⟨g,i * 6+4,none⟩=false:=hfri 4;have f5:w2.frozen? ⟨g,i * 6+5,none⟩=false:=hfri 5;have HCI:=zzm hcci;have HB3:=zzm hb2;clear hb2 hbx hcci hfri hMi hcli);have hbW:=below_box HB3.out;have hgw:g≤w2.heap.size:=Nat.le_trans (Nat.le_of_lt hgy) hbW.size;have hseg:=Kd.R_seg (Kd.R_below HRY.out hbW) (i:Int) (by omega) (by omega) (seg:=[.bool x.1.f0,.bool x.1.f1,.int .i64 x.1.f2,.int .i64 x.1.f3,.int .i64 x.1.f4,.slice A5 x.1.f5.length c5]) (j:=0) rfl HCI.out (show 0+6≤6 from Nat.le_refl _) (x':=x) (okp:=fun k=>ok k∧k≠g) (Kd.M_below HM.out hbW) (fun _ hk=>hk);have HS1:=zzm hseg.1;have HS2:=zzm hseg.2;clear hseg;go_roundg (xs.length - (j+1))
     case measure=>omega
     case rel=>exact ⟨i+1,j+1,ys.set i x,by go_num,by go_num,by omega,by omega,Nat.le_refl _,⟨by have h:=KeptIn.keep HY.out hij hlt (by rw [HX.out];exact HQ.out);rw [HX.out] at h;exact h⟩,⟨HS1.out⟩,⟨(HG.out.trans (Gr.of_below (Nat.le_of_lt hgy) hbW)).trans (Gr.of_grown hgw HS2.out)⟩,⟨a1.out _ _ (a0.out _ _ HW2.out hbW) HS2.out⟩⟩
   ·
    obtain rfl:j=xs.length:=by omega
    have hltz:¬ (xs.length:Int) < (xs.length:Int):=by omega
    have hlc:=HLC.out;have hk:=HY.out;unfold KeptIn at hk;rw [List.take_length] at hk;obtain ⟨cur,hbg,hblk,hnc,hcm,hcs⟩:=R_block HRY.out;obtain ⟨zs,hzs⟩:∃ zs,zs=(Builtin.zeroCells (Value.agg #[.bool false,.bool false,.int .i64 0,.int .i64 0,.int .i64 0,.slice none 0 0]).cells (xs.length - i)).toList:=⟨_,rfl⟩;have hzl:zs.length=(xs.length - i) * 6:=by rw [hzs];simp [Builtin.zeroCells];rfl
    have hz1:∀ v∈zs,v.oneCell' = true:=by
     intro v hv;rw [hzs] at hv;exact zeroCells_one _ (by decide) v hv
    have hsz:(Kd.tag f kAB).sz=6:=rfl;rw [hsz] at hcs;have hfit:i * 6+zs.length≤cur.size:=by rw [hzl,hcs];omega
    have hcl:∀ ty,(Builtin.clear_ #[24] ty #[.slice (some ⟨g,i * 6,none⟩) (xs.length - i) (cap - i)]).run Try.prog wr = .ok (.tuple #[]) (wr.setCells g (i * 6) zs):=fun ty=>run_clear_rows wr 24 39 ty _ Try.underlying24 Try.zeroValue39 g (i * 6) (xs.length - i) (cap - i) (by omega) zs hzs.symm
     (fun q hq=>cell_some hblk (by omega)) (fun q hq=>zzl hblk _) hz1
    have hcut:=R_cut HRY.out i (by omega) zs (by rw [hsz];rw [hcs] at hfit;exact hfit);rw [hsz] at hcut;have a2:=zzm hcut.1;have a3:=zzm hcut.2;have HKK:=zzm hk;clear hcut hblk hzs hk hfit hzl;go_wp2;go_ret;have hk:=HKK.out;have hgw:g≤wr.heap.size:=Nat.le_of_lt hgy;refine ⟨by rw [hk.2.2.2];rfl,?_,HG.out.trans (Gr.of_grown hgw a3.out)⟩;have h:=a2.out;rw [hk.2.1] at h;rw [hk.2.2.2];exact h
theorem deleteS39_calls (cl:Nat) (lb:Array Value) (eg:∀ args w,(callFunc cl args).run Try.prog w = .ok (.enter cl args) w) (p:S39→Bool) (Okw:World→Prop) (hok1:∀ W W',Okw W→Below W.heap.size W W'→Okw W') (g cap base:Nat) (ok:Nat→Prop) (xs:List S39) (w:World) (hok2:∀ W W',Okw W→W.grownBy W' (some g)→Okw W')
  (PR:∀ (W:World) (x:S39) (cs:Array Value),Okw W→x∈xs→k39.K W x cs.toList→Calls Try.prog cl (#[.agg cs]++lb) W fun e w'=>e = .returned (.bool (p x))∧Below W.heap.size W w') (hS:Kd.S kAB 39 w base ok (.slice (some ⟨g,0,none⟩) xs.length cap) xs) (hw:Okw w) :
  Calls Try.prog 20 #[.slice (some ⟨g,0,none⟩) xs.length cap,.func (.func cl) #[] lb] w fun e w'=>e = .returned (.slice (some ⟨g,0,none⟩) (xs.filter fun x=>!p x).length cap)∧Kd.S kAB 39 w' base ok (.slice (some ⟨g,0,none⟩) (xs.filter fun x=>!p x).length cap) (xs.filter fun x=>!p x)∧Gr g w w':=by
 obtain ⟨f,hR⟩:=hS;have hl:xs.zipIdx.length=xs.length:=List.length_zipIdx;have h:=deleteT39_calls f cl lb eg p Okw hok1 g cap base ok xs.zipIdx w hok2 (fun W y cs hW hy hK=>PR W y.1 cs hW (by have:=List.mem_map_of_mem (f:=Prod.fst) hy;rw [List.zipIdx_map_fst] at this;exact this) hK) (by rw [hl];exact hR) hw;rw [hl] at h;obtain ⟨hn,he⟩:=filter_tags (fun x=>!p x) xs;have hll:(xs.zipIdx.filter fun y=>!p y.1).length=(xs.filter fun x=>!p x).length:=by rw [← he,List.length_map]
 rw [hll] at h;refine h.mono ?_;rintro e w' ⟨rfl,hR2,hG⟩;refine ⟨rfl,?_,hG⟩;have h2:=S_of_tags hR2 hn;rw [he] at h2;exact h2
end
section
open Go.Shelf
set_option maxHeartbeats 4000000 in
theorem cl1_calls (b0 b1 r2 r4 gone:Bool) (b2 b3 b4 r0 r1 c:Int) (P3 P5 P6:Option Addr) (n5 q5 q3 n6 q6:Nat) (Bst Bb Bm Bg bm nn:Nat) (key:List Int) (D:DataW Unit) (w:World)
  (hst:Boxed w Bst 41 (.func (.func 36) #[] #[.pointer (some ⟨Bm,0,none⟩),.pointer (some ⟨Bg,0,none⟩)])) (hBb:w.heap[Bb]? = some (.cells #[.bool b0,.bool b1,.int .i64 b2,.int .i64 b3,.int .i64 b4,.slice P5 n5 q5] 39 (0,0)))
  (hBm:Boxed w Bm 59 (.map (some bm))) (hBg:Boxed w Bg 4 (.bool gone)) (hown:w.ownsMap Try.prog 9 (plainElem Try.prog 3) bm nn D) (hk:(Kd.int .i64).C w P3 key.length key) (hq:key.length≤q3)
  (hok:r2=true→keyOk key=true) (hc:r2=true→D.atKey (.string (hexOf key)) (.lit (.int .i64 0)) = .lit (.int .i64 c)) :
  Calls Try.prog 19 #[.agg #[.int .i64 r0,.int .i64 r1,.bool r2,.slice P3 key.length q3,.bool r4,.slice P6 n6 q6],.pointer (some ⟨Bst,0,none⟩),.pointer (some ⟨Bb,0,none⟩)] w fun e w'=>e = .returned (.bool (!(b1||(r2&&((c==r0)&&(r4||gone))))))∧Below w.heap.size w w':=by
 have hba:=(Below.refl w.heap.size w).alloc (Nat.le_refl _) (.cells #[.int .i64 r0,.int .i64 r1,.bool r2,.slice P3 key.length q3,.bool r4,.slice P6 n6 q6] 47);have HS:=zzm (stays_calls b0 b1 r2 r4 gone b2 b3 b4 r0 r1 c P3 P5 P6 n5 q5 q3 n6 q6 Bm Bg bm nn key D (w.alloc (.cells #[.int .i64 r0,.int .i64 r1,.bool r2,.slice P3 key.length q3,.bool r4,.slice P6 n6 q6] 47)) (hBm.alloc _) (hBg.alloc _) (hown.alloc _) (Kd.C_alloc hk _) hq hok hc);have hBa:(w.alloc (.cells #[.int .i64 r0,.int .i64 r1,.bool r2,.slice P3 key.length q3,.bool r4,.slice P6 n6 q6] 47)).heap[Bb]? = some (.cells #[.bool b0,.bool b1,.int .i64 b2,.int .i64 b3,.int .i64 b4,.slice P5 n5 q5] 39 (0,0)):=(((Below.refl w.heap.size w).alloc (Nat.le_refl _) _).block _ (Array.getElem?_eq_some_iff.1 hBb).1).trans hBb;have cst:(w.alloc (.cells #[.int .i64 r0,.int .i64 r1,.bool r2,.slice P3 key.length q3,.bool r4,.slice P6 n6 q6] 47)).cell? ⟨Bst,0,none⟩ = _:=(hst.alloc _).cell;have m0:(w.alloc (.cells #[.int .i64 r0,.int .i64 r1,.bool r2,.slice P3 key.length q3,.bool r4,.slice P6 n6 q6] 47)).cell? ⟨Bb,0,none⟩=some (.bool b0):=by simp [World.cell?,hBa]
 have m1:(w.alloc (.cells #[.int .i64 r0,.int .i64 r1,.bool r2,.slice P3 key.length q3,.bool r4,.slice P6 n6 q6] 47)).cell? ⟨Bb,1,none⟩=some (.bool b1):=by simp [World.cell?,hBa]
 have m2:(w.alloc (.cells #[.int .i64 r0,.int .i64 r1,.bool r2,.slice P3 key.length q3,.bool r4,.slice P6 n6 q6] 47)).cell? ⟨Bb,2,none⟩=some (.int .i64 b2):=by simp [World.cell?,hBa]
 have m3:(w.alloc (.cells #[.int .i64 r0,.int .i64 r1,.bool r2,.slice P3 key.length q3,.bool r4,.slice P6 n6 q6] 47)).cell? ⟨Bb,3,none⟩=some (.int .i64 b3):=by simp [World.cell?,hBa]
 have m4:(w.alloc (.cells #[.int .i64 r0,.int .i64 r1,.bool r2,.slice P3 key.length q3,.bool r4,.slice P6 n6 q6] 47)).cell? ⟨Bb,4,none⟩=some (.int .i64 b4):=by simp [World.cell?,hBa]
 have m5:(w.alloc (.cells #[.int .i64 r0,.int .i64 r1,.bool r2,.slice P3 key.length q3,.bool r4,.slice P6 n6 q6] 47)).cell? ⟨Bb,5,none⟩=some (.slice P5 n5 q5):=by simp [World.cell?,hBa]
 have HBA:=zzm hba;clear hBa hst hBb hBm hBg hown hk hok hc hba;go_enter Try.func19,Try.ntmps19;go_wp2_with (go_at_call 36;refine HS.out.mono ?_;rintro e w2 ⟨rfl,hb2⟩);go_ret;exact ⟨by generalize (c==r0)=z;cases b1 <;> cases r2 <;> cases r4 <;> cases gone <;> cases z <;> rfl,HBA.out.trans (hb2.mono (by simp))⟩
set_option maxHeartbeats 4000000 in
theorem cl2_calls (b0 b1:Bool) (b2 b3 b4:Int) (P5:Option Addr) (n5 q5:Nat) (w:World) :
  Calls Try.prog 21 #[.agg #[.bool b0,.bool b1,.int .i64 b2,.int .i64 b3,.int .i64 b4,.slice P5 n5 q5]] w fun e w'=>e = .returned (.bool (decide (n5=0)))∧Below w.heap.size w w':=by
 have hz:((n5:Int)==0)=decide (n5=0):=by
  by_cases h:n5=0
  ·
   subst h;rfl
  ·
   rw [decide_eq_false h];exact beq_eq_false_iff_ne.2 (by omega)
 go_enter Try.func21,Try.ntmps21;go_wp2;go_ret;exact ⟨by first|rfl|(rw [← hz];rfl),(Below.refl _ w).alloc (Nat.le_refl _) _⟩
end
section
open Go.Shelf
@[local go_sem] theorem run_store_func2 {P:Program} {w:World} {a:Addr} {m:Mode} (f:Fn) (b c:Array Value):(store a (.func f b c) m).run P w=stored P w a (.func f b c) m:=run_store P w a _ m rfl
def stayR (l:List S39) (mk gone:Bool) (r:S47):Bool:=mk||(r.f2&&((lastOff l (pts l) (hexOf r.f3)==r.f0)&&(r.f4||gone)))
def stB (l:List S39) (gone:Bool) (b:S39):S39:=⟨b.f0,b.f1,b.f2,b.f3,b.f4,b.f5.filter (stayR l b.f1 gone)⟩
def cmpOut (l:List S39) (gone:Bool):List S39:=(l.map (stB l gone)).filter (fun b=>!decide (b.f5.length=0))
def full (l:List S39):Bool:=l.all fun b=>decide (0 < b.f5.length)
def mixL (l:List S39) (gone:Bool) (m:Nat):List S39:=(l.take m).map (stB l gone)++l.drop m
theorem mixL_len (l:List S39) (gone:Bool) (m:Nat) (hm:m≤l.length):(mixL l gone m).length=l.length:=by simp [mixL];omega
theorem mixL_at (l:List S39) (gone:Bool) (m:Nat) (hm:m < l.length) (z:S39):(mixL l gone m).getD m z=l[m]:=by
 unfold mixL;rw [List.getD_eq_getElem?_getD,List.getElem?_append_right (by simp;omega)];simp [hm,Nat.min_eq_left (Nat.le_of_lt hm)]
theorem mixL_set (l:List S39) (gone:Bool) (m:Nat) (hm:m < l.length):(mixL l gone m).set m (stB l gone l[m])=mixL l gone (m+1):=by
 unfold mixL;have hl:((l.take m).map (stB l gone)).length=m:=by simp;omega
 rw [List.set_append_right _ _ (by omega),hl,Nat.sub_self,List.drop_eq_getElem_cons hm,zzr,List.take_succ_eq_append_getElem hm,List.map_append];simp
def Q1.f (k:Nat) (l0:List S39) (a1:Bool):Option (List S39×Bool):=(Qi.f k l0).bind fun t=>if t=true then (if okLog l0=true∧full l0=true then some (cmpOut l0 a1,true) else none) else some ([],false)
theorem full_len {l:List S39} (h:full l=true) (h2:okLog l=true):l.length≤1000000:=by
 have h3:=okLog_len h2;have:∀ i,i≤l.length→i≤(ptsTo l i).length:=by
  intro i;induction i with
  | zero=>intro _;exact Nat.zero_le _
  | succ i ih=>
   intro hi;have h4:=ih (by omega);have h5 : 0 < (Qa l (i:Int)).f5.length:=by
    rw [rd_at_B (show i < l.length by omega)];unfold full at h;have:=List.all_eq_true.1 h _ (List.getElem_mem (show i < l.length by omega));simpa using this
   rw [ptsTo_succ,List.length_append];unfold ptsRow;rw [List.length_map,List.length_range];omega
 have:=this l.length (Nat.le_refl _);show l.length≤1000000;have h6:(ptsTo l l.length).length≤1000000:=h3;omega
set_option maxHeartbeats 4000000 in
theorem deleteB_empty (cl:Nat) (lb:Array Value) (eg:∀ args w,(callFunc cl args).run Try.prog w = .ok (.enter cl args) w) (A:Option Addr) (c:Nat) (w:World) (hC:Kd.C k39 w A 0 [])
  (PR:∀ (W:World) (x:S39) (cs:Array Value),True→x∈([]:List S39)→k39.K W x cs.toList→Calls Try.prog cl (#[.agg cs]++lb) W fun e w'=>e = .returned (.bool (decide (x.f5.length=0)))∧Below W.heap.size W w') :
  Calls Try.prog 20 #[.slice A 0 c,.func (.func cl) #[] lb] w fun e w'=>e = .returned (.slice A 0 c)∧Below w.heap.size w w':=by
 have HI:=zzm (index39_calls cl lb eg (fun x=>decide (x.f5.length=0)) (fun _=>True) (fun _ _ _ _=>trivial) A c [] w PR hC trivial);go_enter Try.func20,Try.ntmps20;go_wp2_with (go_at_call 39;refine HI.out.mono ?_;rintro e w' ⟨rfl,hb2⟩;have HB2:=zzm hb2;clear hb2;rw [show firstAt (fun x:S39=>decide (x.f5.length=0)) [] = -1 from rfl]);go_ret;exact ⟨rfl,HB2.out⟩
set_option maxHeartbeats 4000000 in
theorem Q1.calls (k:Nat) (A0:Option Addr) (c0:Nat) (l0:List (S39)) (a1:Bool) (r1:List (S39)) (r2:Bool) (w:World) (a3:Kd.C k39 w A0 l0.length l0) (a4:l0.length≤c0) (h:Q1.f k l0 a1=some (r1,r2)) :
  Calls Try.prog 7 #[.slice A0 l0.length c0,.bool a1] w fun e w'=>∃ a5:Value,e = .returned (.tuple #[a5,.bool r2])∧Kd.S kAB 39 w' w.heap.size (fun _=>True) a5 r1∧Below w.heap.size w w':=by
 unfold Q1.f at h;replace h:=Option.bind_eq_some_iff.mp h;obtain ⟨t0,a6,h⟩:=h;have HV0:=zzm a6;have a0:=zzm a3;have a2:=zzm a4;have hm0:l0.length≤9223372036854775807:=a3.2.1;have hu:=Try.underlying39;clear a3 a4 a6;cases t0 with
 | false=>
  have h1:r1 = []∧r2=false:=by simpa [eq_comm] using h
  obtain ⟨rfl,rfl⟩:=h1;clear h;go_enter Try.func7,Try.ntmps7;go_wp2_with (go_at_call 15;refine (Qi.calls k _ _ l0 _ _ a0.out a2.out HV0.out).mono ?_;rintro e w1 ⟨rfl,hbl⟩;have HBL:=zzm hbl;clear hbl);go_ret2;exact ⟨_,rfl,Kd.S_nil _ _ _ _ _,HBL.out⟩
 | true=>
  have hok:okLog l0=true∧full l0=true∧r1=cmpOut l0 a1∧r2=true:=by
   rw [if_pos rfl] at h;by_cases h5:okLog l0=true∧full l0=true
   ·
    rw [if_pos h5] at h;injection h with h;injection h with h6 h7;exact ⟨h5.1,h5.2,h6.symm,h7.symm⟩
   ·
    rw [if_neg h5] at h;cases h
  obtain ⟨hok,hfl,rfl,rfl⟩:=hok;have HOK:=zzm hok;have HFL:=zzm hfl;have hlen:=full_len hfl hok;clear h hok hfl;go_enter Try.func7,Try.ntmps7;go_wp2_with (first|(go_at_call 15;refine (Qi.calls k _ _ l0 _ _ a0.out a2.out HV0.out).mono ?_;rintro e w1 ⟨rfl,hbl⟩;have HBL:=zzm hbl;clear hbl)|(go_at_call 16;refine (stayer_calls A0 c0 l0 a1 _ (Kd.C_below a0.out HBL.out) a2.out HOK.out).mono ?_;rintro e w2 ⟨Bm,Bg,bm,rfl,hm1,hm2,hm3,hbm,hbg,hown,hb12⟩;have HBM:=zzm hbm;have HBG:=zzm hbg;have HOW:=zzm hown;have HB12:=zzm hb12;clear hbm hbg hown hb12)|(go_at_call 17;refine (copyBatchesS_calls A0 c0 l0 _ (Kd.C_below a0.out ((HBL.out.trans (HB12.out.mono HBL.out.size)).alloc (Nat.le_trans HBL.out.size HB12.out.size) _)) a2.out hlen HOK.out).mono ?_;rintro e w3 ⟨v,rfl,hS3,hb23⟩;have HS3:=zzm hS3;have HB23:=zzm hb23;clear hS3 hb23;obtain ⟨Av,cv,hve⟩:=Kd.S_slice HS3.out;subst hve));have hsz2:=HBL.out.size;have hsz12:=HB12.out.size;have hst3:=Boxed.of_below (Boxed.new w2 41 (.func (.func 36) #[] #[.pointer (some ⟨Bm,0,none⟩),.pointer (some ⟨Bg,0,none⟩)])) HB23.out;have hbm3:=Boxed.of_below (HBM.out.alloc _) HB23.out;have hbg3:=Boxed.of_below (HBG.out.alloc _) HB23.out;have how3:=ownsMap_below (HOW.out.alloc _) HB23.out;have hB3:Below w.heap.size w w3:=((HBL.out.trans (HB12.out.mono HBL.out.size)).alloc (Nat.le_trans HBL.out.size HB12.out.size) _).trans (HB23.out.mono (by simp;omega));have ltm:=HBM.out.lt;have ltg:=HBG.out.lt;have ltb:=HOW.out.lt;obtain ⟨N0,hN0⟩:∃ N0,N0=w2.heap.size+1:=⟨_,rfl⟩;obtain ⟨Bst,hBst⟩:∃ Bst,Bst=w2.heap.size:=⟨_,rfl⟩;have hS3' : Kd.S kAB 39 w3 N0 (fun k=>N0≤k) (.slice Av l0.length cv) l0:=by
   have h:=Kd.S_mono (Kd.S_bound HS3.out) (fun k hk=>hk.2.1);rw [World.size_alloc,← hN0] at h;exact h
  have a7:w.heap.size≤N0:=by omega
  have hst3' : Boxed w3 Bst 41 (.func (.func 36) #[] #[.pointer (some ⟨Bm,0,none⟩),.pointer (some ⟨Bg,0,none⟩)]):=by rw [hBst];exact hst3
  have ltS:Bst < N0:=by omega
  have ltM:Bm < N0:=by omega
  have ltG:Bg < N0:=by omega
  have ltB:bm < N0:=by omega
  have HS3':=zzm hS3';have HST3:=zzm hst3';have HBM3:=zzm hbm3;have HBG3:=zzm hbg3;have HOW3:=zzm how3;have HB3:=zzm hB3;rw [← hBst];clear hst3 hst3' hbm3 hbg3 how3 hB3 hS3' ltm ltg ltb HBM HBG HOW HB12 HB23 HS3 hm1 hm2 hm3 HBL hsz2 hsz12 hN0 hBst;go_loopg [8,9,20] l0.length (fun gg _ _ b1 wr=>∃ m:Nat,b1 = .int .i64 m∧m≤l0.length∧l0.length - m≤gg∧Aside0 (Kd.S kAB 39 wr N0 (fun k=>N0≤k) (.slice Av l0.length cv) (mixL l0 a1 m))∧Aside0 (Boxed wr Bst 41 (.func (.func 36) #[] #[.pointer (some ⟨Bm,0,none⟩),.pointer (some ⟨Bg,0,none⟩)]))∧Aside0 (Boxed wr Bm 59 (.map (some bm)))∧Aside0 (Boxed wr Bg 4 (.bool a1))∧Aside0 (wr.ownsMap Try.prog 9 (plainElem Try.prog 3) bm (pts l0).length (lastD l0 (pts l0)))∧Aside0 (Below w.heap.size w wr))
  case atStart=>exact ⟨0,by go_num,Nat.zero_le _,by omega,by rw [show mixL l0 a1 0=l0 by simp [mixL]];exact HS3',HST3,HBM3,HBG3,HOW3,HB3⟩
  case round=>
   clear HS3' HST3 HBM3 HBG3 HOW3 HB3;obtain ⟨m,rfl,hm,hgg,HS,HST,HBM,HBG,HOW,HB⟩:=hrel;by_cases hlt:m < l0.length
   ·
    have hltz:(m:Int) < (l0.length:Int):=by omega
    obtain ⟨hn,hnc,hC⟩:=AB_reads' HS.out;have hC' : Kd.C k39 wr Av (mixL l0 a1 m).length (mixL l0 a1 m):=hC;clear hn hnc;obtain ⟨ad,_,_,he,_⟩:=Qp hC' (m:Int) (by omega) (by rw [mixL_len l0 a1 m hm];omega);subst he;obtain ⟨G,rfl⟩:=Kd.R_head (Kd.S_R HS.out);obtain ⟨cur,hbG,hblk,hncG,hcmG,hcsG⟩:=R_block (Kd.S_R HS.out);have hltG:G < wr.heap.size:=(Array.getElem?_eq_some_iff.1 hblk).1;obtain ⟨oki,c,hcl,hM,hcc,hfr,hoki,hH⟩:=Kd.S_elem HS.out z39 (m:Int) (by omega) (by omega);simp only [Int.toNat_natCast,show kAB.sz=6 from rfl] at hM hcc hfr;rw [mixL_at l0 a1 m hlt] at hM;have hset:=mixL_set l0 a1 m hlt;have hrdm:=rd_at_B hlt;have hpos : 0 < l0[m].f5.length:=by
     have h:=HFL.out;unfold full at h;have:=List.all_eq_true.1 h _ (List.getElem_mem hlt);simpa using this
    generalize l0[m]=b at hM hset hrdm hpos;obtain ⟨v5,rfl,gr5⟩:=id hM;obtain ⟨A5,c5,b2,b8,hC5⟩:=Kd.R_reads (Kd.S_R (S_weakA gr5));subst b2;obtain ⟨b9,_,_,_,_,he5,_⟩:=Qs hC5 0 (by omega) (by omega);subst he5;obtain ⟨g5,rfl⟩:=Kd.R_head (Kd.S_R gr5);have hok5:oki g5:=(Kd.S_R gr5).1 g5 (by simp [Value.ownBlock]);have hg5:=hoki g5 hok5;have hlt5:g5 < wr.heap.size:=Kd.S_lt gr5 g5 (by simp [Value.ownBlock]);have x0:wr.cell? ⟨G,m * 6,none⟩=some (.bool b.f0):=hcc 0 _ rfl;have x1:wr.cell? ⟨G,m * 6+1,none⟩=some (.bool b.f1):=hcc 1 _ rfl;have x2:wr.cell? ⟨G,m * 6+2,none⟩=some (.int .i64 b.f2):=hcc 2 _ rfl;have x3:wr.cell? ⟨G,m * 6+3,none⟩=some (.int .i64 b.f3):=hcc 3 _ rfl;have x4:wr.cell? ⟨G,m * 6+4,none⟩=some (.int .i64 b.f4):=hcc 4 _ rfl;have x5:wr.cell? ⟨G,m * 6+5,none⟩=some (.slice (some ⟨g5,0,none⟩) b.f5.length c5):=hcc 5 _ rfl;have f5:=hfr 5;obtain ⟨Okw,hOkw⟩:∃ Okw:World→Prop,Okw=fun W=>Boxed W Bst 41 (.func (.func 36) #[] #[.pointer (some ⟨Bm,0,none⟩),.pointer (some ⟨Bg,0,none⟩)])∧W.heap[wr.heap.size]? = some (.cells #[.bool b.f0,.bool b.f1,.int .i64 b.f2,.int .i64 b.f3,.int .i64 b.f4,.slice (some ⟨g5,0,none⟩) b.f5.length c5] 39 (0,0))∧Boxed W Bm 59 (.map (some bm))∧Boxed W Bg 4 (.bool a1)∧W.ownsMap Try.prog 9 (plainElem Try.prog 3) bm (pts l0).length (lastD l0 (pts l0)):=⟨_,rfl⟩;have a8:Okw (wr.alloc (.cells #[.bool b.f0,.bool b.f1,.int .i64 b.f2,.int .i64 b.f3,.int .i64 b.f4,.slice (some ⟨g5,0,none⟩) b.f5.length c5] 39)):=by rw [hOkw];exact ⟨HST.out.alloc _,World.alloc_heap_new wr _,HBM.out.alloc _,HBG.out.alloc _,HOW.out.alloc _⟩
    have hk1:∀ W W',Okw W→Below W.heap.size W W'→Okw W':=by
     rw [hOkw];rintro W W' ⟨o1,o2,o3,o4,o5⟩ hb;exact ⟨Boxed.of_below o1 hb,(hb.block _ (Array.getElem?_eq_some_iff.1 o2).1).trans o2,Boxed.of_below o3 hb,Boxed.of_below o4 hb,ownsMap_below o5 hb⟩
    have hk2:∀ W W',Okw W→W.grownBy W' (some g5)→Okw W':=by
     rw [hOkw];rintro W W' ⟨o1,o2,o3,o4,o5⟩ hg;have hne:∀ q,q≠g5→some q≠some g5:=fun q h e=>h (Option.some.inj e);exact ⟨o1.kept hg (hne _ (by omega)),(hg.block _ (Array.getElem?_eq_some_iff.1 o2).1 (hne _ (by omega))).trans o2,o3.kept hg (hne _ (by omega)),o4.kept hg (hne _ (by omega)),o5.kept hg (hne _ (by omega))⟩
    have hPR:∀ (W:World) (x:S47) (cs:Array Value),Okw W→x∈b.f5→k47.K W x cs.toList→Calls Try.prog 19 (#[.agg cs] ++ #[.pointer (some ⟨Bst,0,none⟩),.pointer (some ⟨wr.heap.size,0,none⟩)]) W fun e w'=>e = .returned (.bool (!stayR l0 b.f1 a1 x))∧Below W.heap.size W w':=by
     rw [hOkw];rintro W x cs ⟨o1,o2,o3,o4,o5⟩ hx hK;obtain ⟨A3,c3,A6,c6,hcs,b3,b4,b5,b6⟩:=k47_open hK;have hcs2:cs = #[.int .i64 x.f0,.int .i64 x.f1,.bool x.f2,.slice A3 x.f3.length c3,.bool x.f4,.slice A6 x.f5.length c6]:=by rw [← Array.toArray_toList (xs:=cs),hcs]
     subst hcs2;obtain ⟨j,hj,rfl⟩:=List.getElem_of_mem hx;have hrc:rcOf l0 (m,j)=b.f5[j]:=by unfold rcOf;dsimp only;rw [hrdm,rd_at_R hj]
     have hkk:=(okLog_at HOK.out (m,j)).2.2.2;rw [hrc] at hkk;exact cl1_calls b.f0 b.f1 b.f5[j].f2 b.f5[j].f4 a1 b.f2 b.f3 b.f4 b.f5[j].f0 b.f5[j].f1 (lastOff l0 (pts l0) (hexOf b.f5[j].f3)) A3 _ A6 _ c5 c3 _ c6 Bst wr.heap.size Bm Bg bm _ b.f5[j].f3 (lastD l0 (pts l0)) W o1 o2 o3 o4 o5 b4 b3 hkk (fun _=>lastD_at l0 (pts l0) _)
    have HD:=deleteS47_calls 19 #[.pointer (some ⟨Bst,0,none⟩),.pointer (some ⟨wr.heap.size,0,none⟩)] (enters_of Try.func19 (by kernel_rfl) rfl) (fun r=>!stayR l0 b.f1 a1 r) Okw hk1 g5 c5 N0 oki b.f5 (wr.alloc (.cells #[.bool b.f0,.bool b.f1,.int .i64 b.f2,.int .i64 b.f3,.int .i64 b.f4,.slice (some ⟨g5,0,none⟩) b.f5.length c5] 39)) hk2 hPR (Kd.S_alloc gr5 _) a8;simp only [Bool.not_not] at HD;have HDD:=zzm HD;have HCC:=zzm hH;have HSET:=zzm hset;have HGN:=zzm (And.intro hblk (And.intro hg5 hoki));clear HD hPR hk1 hk2 a8 hOkw hC hC' hM hcc hfr hcl hH gr5 hC5 hset hblk hrdm;go_wp2_with (go_at_call 18;refine HDD.out.mono ?_;rintro e w4 ⟨rfl,hR4,hG4⟩;have hGq:w4.heap[G]? = wr.heap[G]?:=(hG4.2.2 G (by simp;omega) (by have:=HGN.out.2.1.2;omega)).trans (Below.heap_alloc _ _ _ hltG);have y5:w4.cell? ⟨G,m * 6+5,none⟩=some (.slice (some ⟨g5,0,none⟩) b.f5.length c5):=((by unfold World.cell?;rw [hGq]):w4.cell? ⟨G,m * 6+5,none⟩=wr.cell? ⟨G,m * 6+5,none⟩).trans x5;have z5:w4.frozen? ⟨G,m * 6+5,none⟩=false:=((by unfold World.frozen?;rw [hGq]):w4.frozen? ⟨G,m * 6+5,none⟩=wr.frozen? ⟨G,m * 6+5,none⟩).trans f5;have b7:=zzm hR4;have HG4:=zzm hG4;clear hR4 hG4 hGq);have hgr:∀ q,q < wr.heap.size→q≠g5→w4.heap[q]? = wr.heap[q]?:=fun q hq hne=>(HG4.out.2.2 q (by simp;omega) hne).trans (Below.heap_alloc _ _ _ hq);have hoki:=HGN.out.2.2;have hgn:=HGN.out.2.1;have hH4:=Kd.H_mono (Kd.H_step HCC.out (w1:=w4) (fun q hq hnq hlq=>hgr q hlq (fun e=>hnq (e ▸ hok5)))) (ok':=fun q=>N0≤q∧¬ False) (fun q hq=>⟨hq,id⟩);have hseg:=Kd.S_seg (okg:=fun _=>False) hH4 (by omega) (by omega) (seg:=[.slice (some ⟨g5,0,none⟩) (b.f5.filter (stayR l0 b.f1 a1)).length c5]) (j:=5) (show 5+1≤6 from Nat.le_refl _) (x':=stB l0 a1 b) (okp:=oki) (show kAB.M w4 N0 oki (stB l0 a1 b) _ from ⟨_,rfl,b7.out⟩) (fun _ hk=>.inl hk) (fun _ hk=>hk.elim);rw [show ((m:Int)).toNat=m from rfl,HSET.out] at hseg;have HS5:=zzm hseg.1;have HG5:=hseg.2;have hbx:∀ {q:Nat} {ty:TypeId} {u:Value},q < N0→Boxed wr q ty u→Boxed (w4.setCells G (m * 6+5) [.slice (some ⟨g5,0,none⟩) (b.f5.filter (stayR l0 b.f1 a1)).length c5]) q ty u:=fun {q ty u} hq hb=>(show Boxed w4 q ty u from (hgr q hb.lt (by omega)).trans hb).kept HG5 (fun e=>by have:=Option.some.inj e;omega);have hBf:Below w.heap.size w (w4.setCells G (m * 6+5) [.slice (some ⟨g5,0,none⟩) (b.f5.filter (stayR l0 b.f1 a1)).length c5]):=by
     have h1:=HB.out.alloc HB.out.size (.cells #[.bool b.f0,.bool b.f1,.int .i64 b.f2,.int .i64 b.f3,.int .i64 b.f4,.slice (some ⟨g5,0,none⟩) b.f5.length c5] 39);have h2:=h1.trans (HG4.out.2.1.mono (by omega));exact h2.grown HG5 h2.size (fun q e=>by have:=Option.some.inj e;omega)
    have how:(w4.setCells G (m * 6+5) [.slice (some ⟨g5,0,none⟩) (b.f5.filter (stayR l0 b.f1 a1)).length c5]).ownsMap Try.prog 9 (plainElem Try.prog 3) bm (pts l0).length (lastD l0 (pts l0)):=by
     obtain ⟨es,ck,o1,o2,o3,o4⟩:=HOW.out;have o5:w4.ownsMap Try.prog 9 (plainElem Try.prog 3) bm (pts l0).length (lastD l0 (pts l0)):=⟨es,ck,(hgr bm (Array.getElem?_eq_some_iff.1 o1).1 (by omega)).trans o1,o2,o3,o4⟩;exact o5.kept HG5 (fun e=>by have:=Option.some.inj e;omega)
    have HA1:=zzm (hbx ltS HST.out);have HA2:=zzm (hbx ltM HBM.out);have HA3:=zzm (hbx ltG HBG.out);have HA4:=zzm how;have HA5:=zzm hBf;clear hseg hbx hBf how HG5 hH4 hgr;go_roundg (l0.length - (m+1))
    case measure=>omega
    case rel=>exact ⟨m+1,by go_num,by omega,Nat.le_refl _,HS5,HA1,HA2,HA3,HA4,HA5⟩
   ·
    obtain rfl:m=l0.length:=by omega
    have hltz:¬ (l0.length:Int) < (l0.length:Int):=by omega
    obtain ⟨xs,hxs⟩:∃ xs,xs=l0.map (stB l0 a1):=⟨_,rfl⟩;have hmix:mixL l0 a1 l0.length=xs:=by rw [hxs];simp [mixL]
    have hxl:xs.length=l0.length:=by rw [hxs,List.length_map]
    have hcmp:cmpOut l0 a1=xs.filter (fun b=>!decide (b.f5.length=0)):=by rw [hxs];rfl
    have hS:=HS.out;rw [hmix] at hS;have hR:=Kd.S_R (S_weakAB hS);have hPR:∀ (W:World) (x:S39) (cs:Array Value),True→x∈xs→k39.K W x cs.toList→Calls Try.prog 21 (#[.agg cs] ++ #[]) W fun e w'=>e = .returned (.bool (decide (x.f5.length=0)))∧Below W.heap.size W w':=by
     rintro W x cs - hx hK;obtain ⟨A6,c6,hcs,b5,b6⟩:=k39_open hK;have hcs2:cs = #[.bool x.f0,.bool x.f1,.int .i64 x.f2,.int .i64 x.f3,.int .i64 x.f4,.slice A6 x.f5.length c6]:=by rw [← Array.toArray_toList (xs:=cs),hcs]
     subst hcs2;exact cl2_calls x.f0 x.f1 x.f2 x.f3 x.f4 A6 x.f5.length c6 W
    by_cases h0:l0.length=0
    ·
     have a9:xs = []:=List.eq_nil_of_length_eq_zero (by omega);rw [a9] at hPR hR hcmp hS;have HCM:=zzm (show cmpOut l0 a1 = [] from hcmp);have hC0:Kd.C k39 wr Av 0 []:=by
      obtain ⟨A9,c9,h9,b0,hC9⟩:=Kd.R_reads hR;injection h9 with e1 e2 e3;rw [e1];exact hC9
     have HD:=zzm (show Calls Try.prog 20 #[.slice Av l0.length cv,.func (.func 21) #[] #[]] wr fun e w'=>e = .returned (.slice Av l0.length cv)∧Below wr.heap.size wr w' by rw [h0];exact deleteB_empty 21 #[] (enters_of Try.func21 (by kernel_rfl) rfl) Av cv wr hC0 hPR);have HRF:=zzm hS;clear hPR hR hS hC0 hxl hmix hcmp hxs HS h0 a9;go_wp2_with (go_at_call 20;refine HD.out.mono ?_;rintro e w5 ⟨rfl,hb5⟩);go_ret2;refine ⟨_,rfl,?_,HB.out.trans (hb5.mono HB.out.size)⟩;rw [HCM.out];exact Kd.S_mono (Kd.S_lower (Kd.S_below HRF.out hb5) a7) (fun _ _=>trivial)
    ·
     obtain ⟨A9,c9,h9,b0,hC9⟩:=Kd.R_reads hR;injection h9 with e1 e2 e3;subst e1 e3;obtain ⟨ad,_,_,he,_⟩:=Qp hC9 0 (by omega) (by omega);subst he;obtain ⟨G,rfl⟩:=Kd.R_head hR;obtain ⟨cur,hbG,_⟩:=R_block hR;have hR2:Kd.S kAB 39 wr N0 (fun k=>N0≤k) (.slice (some ⟨G,0,none⟩) xs.length cv) xs:=by rw [hxl];exact hS
     have HD:=deleteS39_calls 21 #[] (enters_of Try.func21 (by kernel_rfl) rfl) (fun x=>decide (x.f5.length=0)) (fun _=>True) (fun _ _ _ _=>trivial) G cv N0 (fun k=>N0≤k) xs wr (fun _ _ _ _=>trivial) hPR hR2 trivial;rw [hxl] at HD;obtain ⟨ys,hys⟩:∃ ys,ys=xs.filter (fun b=>!decide (b.f5.length=0)):=⟨_,rfl⟩;rw [← hys] at HD hcmp;have HDD:=zzm HD;have HCM:=zzm hcmp;clear hys;clear HD hPR hR hS hR2 hC9 hxl hmix hcmp hxs HS b0 e2;go_wp2_with (go_at_call 20;refine HDD.out.mono ?_;rintro e w5 ⟨rfl,hR5,hG5⟩);go_ret2;refine ⟨_,rfl,?_,HB.out.trans (hG5.2.1.mono (by omega))⟩;rw [HCM.out];exact Kd.S_mono (Kd.S_lower hR5 a7) (fun _ _=>trivial)
end

set_option linter.unusedVariables false
set_option linter.unusedSimpArgs false
section
def cntB (num:Nat→Nat) (len:Nat→Nat→Nat×Nat):Nat→Nat
 | 0=>0
 | m+1=>cntB num len m+(5+cntR (len m) (num m))
theorem cntB_le (num:Nat→Nat) (len:Nat→Nat→Nat×Nat):∀ {m n:Nat},m≤n→cntB num len m≤cntB num len n
 | m,0,h=>by rw [show m=0 by omega];exact Nat.le_refl _
 | m,n+1,h=>by
  by_cases e:m=n+1
  ·rw [e];exact Nat.le_refl _
  ·have h1:=cntB_le num len (show m≤n by omega)
   have h2:cntB num len (n+1)=cntB num len n+(5+cntR (len n) (num n)):=rfl
   omega
theorem le_cntB (num:Nat→Nat) (len:Nat→Nat→Nat×Nat):∀ m,m≤cntB num len m
 | 0=>Nat.le_refl _
 | m+1=>by
  have h1:=le_cntB num len m
  have h2:cntB num len (m+1)=cntB num len m+(5+cntR (len m) (num m)):=rfl
  omega
set_option maxHeartbeats 8000000 in
theorem markBat_lk (P:Nat→Prop) (A:Option Addr) (n c:Nat) (num:Nat→Nat) (len:Nat→Nat→Nat×Nat) (a1:Int) (w:World) (h:BatRow P w A n num len) (h0 : 0≤a1) (h1:a1+cntB num len n≤9000000000000000000) :
    Calls Try.prog 9 #[.slice A n c,.int .i64 a1] w fun e w'=>e = .returned (.int .i64 (a1+cntB num len n))∧Lk P w w':=by
  have HR:=zzm h;have H0:=zzm h0;have H1:=zzm h1;clear h h0 h1;have hu:=Try.underlying39;go_enter Try.func9,Try.ntmps9;go_wp2;go_loopw [1,5] (fun v1 v5 W=>∃ m:Nat,m≤n∧v1 = .int .i64 (a1+cntB num len m)∧v5 = .int .i64 m∧Lk P w W) (fun _ v5 _=>n - (intOf v5).toNat)
  case atStart=>exact ⟨0,Nat.zero_le _,by simp [cntB],by go_num,Lk.refl _ _⟩
  case round=>
    obtain ⟨m,hm,rfl,rfl,hL⟩:=hrel;have HL:=zzm hL;clear hL;have h0:=H0.out;have h1:=H1.out;by_cases hlt:m < n
    · have hcl:=cntB_le num len (show m+1≤n from hlt)
      have hcs:cntB num len (m+1)=cntB num len m+(5+cntR (len m) (num m)):=rfl;have hmc:=le_cntB num len m;have e9:wrap64 ((m:Int)+1)=((m+1:Nat):Int):=by unfold wrap64;omega
      obtain ⟨kk,hkk⟩:∃ kk:Int,kk=a1+(cntB num len m:Int):=⟨_,rfl⟩;rw [← hkk];have k0 : 0≤kk:=by omega
      have k1:kk+5+((cntR (len m) (num m):Nat):Int)≤9000000000000000000:=by omega
      have hend:(kk+1+1+1+1+1+((cntR (len m) (num m):Nat):Int))=a1+(cntB num len (m+1):Int):=by omega
      have HE:=zzm hend;have b1 : 0≤kk+1+1+1+1+1:=by omega
      have b2:kk+1+1+1+1+1+((cntR (len m) (num m):Nat):Int)≤9000000000000000000:=by omega
      have B1:=zzm b1;have B2:=zzm b2;clear hkk hcl hcs h0 h1 hend hmc b1 b2;obtain ⟨g,cs,rfl,hP,hh,hc⟩:=HR.out.lk HL.out (Nat.lt_of_le_of_lt (Nat.zero_le m) hlt);obtain ⟨y0,y1,x2,x3,x4,A5,c5,⟨q0,q1,q2,q3,q4,q5⟩,r5⟩:=hc m hlt;rw [Nat.add_zero] at q0;have HP:=zzm hP;have HH:=zzm hh;have p0:=(zzk hh (m * 6)).trans q0;have z0:=zzl hh (m * 6);have p1:=(zzk hh (m * 6+1)).trans q1;have z1:=zzl hh (m * 6+1);have p2:=(zzk hh (m * 6+2)).trans q2;have z2:=zzl hh (m * 6+2);have p3:=(zzk hh (m * 6+3)).trans q3;have z3:=zzl hh (m * 6+3);have p4:=(zzk hh (m * 6+4)).trans q4;have z4:=zzl hh (m * 6+4);have p5:=(zzk hh (m * 6+5)).trans q5;have l1:Lk P wr (wr.setCell ⟨g,m * 6,none⟩ (.bool (kk % 3==0))):=Lk.set hh q0 (.bool _ _) hP;obtain ⟨cs1,u1,hh1,q1',s1,_,_⟩:=l1.at_ hh q1;have l2:=l1.trans (Lk.set hh1 q1' (v:=.bool ((kk+1) % 3==0)) (by obtain ⟨y,rfl⟩:=s1.of_bool;exact .bool _ _) hP);obtain ⟨cs2,u2,hh2,q2',s2,_,_⟩:=l2.at_ hh q2;have l3:=l2.trans (Lk.set hh2 q2' (v:=.int .i64 (kk+1+1)) (by obtain ⟨y,rfl⟩:=s2.of_int;exact .int _ _ _) hP);obtain ⟨cs3,u3,hh3,q3',s3,_,_⟩:=l3.at_ hh q3;have l4:=l3.trans (Lk.set hh3 q3' (v:=.int .i64 (kk+1+1+1)) (by obtain ⟨y,rfl⟩:=s3.of_int;exact .int _ _ _) hP);obtain ⟨cs4,u4,hh4,q4',s4,_,_⟩:=l4.at_ hh q4;have L5:=zzm (l4.trans (Lk.set hh4 q4' (v:=.int .i64 (kk+1+1+1+1)) (by obtain ⟨y,rfl⟩:=s4.of_int;exact .int _ _ _) hP));have hmi:((m:Nat):Int) < ((n:Nat):Int):=by omega
      have R5:=zzm r5;clear hP hh r5 hc l1 l2 l3 l4 hh1 hh2 hh3 hh4 q1' q2' q3' q4' s1 s2 s3 s4;go_wp2_with (first
        | (go_at_call 23;have hq:=markRec_lk P A5 (num m) c5 (len m) (kk+1+1+1+1+1) _ (R5.out.lk L5.out) B1.out B2.out;with_reducible refine hq.mono ?_;clear hq;rintro e W6 ⟨rfl,hL6⟩
           have L6:=zzm (L5.out.trans hL6);clear hL6))
      go_roundw
      case rel=>exact ⟨m+1,hlt,congrArg (Value.int .i64) HE.out,by first|exact congrArg (Value.int .i64) e9|exact congrArg (Value.int .i64) (by omega),HL.out.trans L6.out⟩
      case measure=>exact meas_lt (by first|exact congrArg (Value.int .i64) e9|rfl) hlt
    · obtain rfl:m=n:=by omega
      have hmi:¬ ((m:Nat):Int) < ((m:Nat):Int):=by omega
      go_wp2;go_ret;exact ⟨rfl,HL.out⟩
end
section
theorem putAB {w:World} {base:Nat} {P:Nat→Prop} {g n c:Nat} {xs:List S39} (h:Kd.S kAB 39 w base P (.slice (some ⟨g,0,none⟩) n c) xs) {m:Nat} {x:S39} (hx:xs[m]? = some x) :
  ∃ (cs:Array Value) (v5:Value) (okm:Nat→Prop),w.heap[g]? = some (.cells cs 39 (0,0))∧base≤g∧P g∧(cs[m * 6]? = some (.bool x.f0)∧cs[m * 6+1]? = some (.bool x.f1)∧cs[m * 6+2]? = some (.int .i64 x.f2)∧cs[m * 6+3]? = some (.int .i64 x.f3)∧cs[m * 6+4]? = some (.int .i64 x.f4)∧cs[m * 6+5]? = some v5) ∧
   Kd.S kA 47 w base okm v5 x.f5∧(∀ k,okm k→P k∧k≠g) ∧
   ∀ (w' : World) (cs' : Array Value) (z:S39),w'.heap[g]? = some (.cells cs' 39 (0,0))→cs'.size=cs.size→(∀ i,i≠m * 6→i≠m * 6+1→i≠m * 6+2→i≠m * 6+3→i≠m * 6+4→cs'[i]? = cs[i]?) →
    cs'[m * 6]? = some (.bool z.f0)→cs'[m * 6+1]? = some (.bool z.f1)→cs'[m * 6+2]? = some (.int .i64 z.f2)→cs'[m * 6+3]? = some (.int .i64 z.f3)→cs'[m * 6+4]? = some (.int .i64 z.f4) →
    Kd.S kA 47 w' base okm v5 z.f5→(∀ k,k < w.heap.size→k≠g→¬ okm k→w'.heap[k]? = w.heap[k]?) →
    Kd.S kAB 39 w' base P (.slice (some ⟨g,0,none⟩) n c) (xs.set m z):=by
 obtain ⟨f,h0,inner,⟨hlen,hrows⟩,hrep⟩:=h;rcases hrows with ⟨e,_⟩|⟨g',cap,cur,e,hbg,hh,hnc,hcm,hcs,ht⟩
 ·cases e
 injection e with ea en ec;injection ea with ea;injection ea with ea;subst ea;subst ec;have hmx:m < xs.length:=(List.getElem?_eq_some_iff.1 hx).1;have hlz:xs.zipIdx.length=xs.length:=List.length_zipIdx;have hM:=hrep.2 m (x,m) (Kd.zip_at hx);obtain ⟨v5,hc,r5⟩:=hM;have hsz:(Kd.tag f kAB).sz=6:=rfl;rw [hsz] at hc ht hcs;have hcell:∀ j u,[Value.bool x.f0,.bool x.f1,.int .i64 x.f2,.int .i64 x.f3,.int .i64 x.f4,v5][j]? = some u→cur[m * 6+j]? = some u:=fun j u hu=>mk_cell ht (by omega) hc rfl hu;refine ⟨cur,v5,_,hh,hbg,h0 g rfl,⟨hcell 0 _ rfl,hcell 1 _ rfl,hcell 2 _ rfl,hcell 3 _ rfl,hcell 4 _ rfl,hcell 5 _ rfl⟩,r5,fun k hk=>?_,?_⟩
 ·exact ⟨hk.1.1,fun e=>hk.1.2 (by rw [e];rfl)⟩
 intro w' cs' z hh' hcs' hsame z0 z1 z2 z3 z4 s5 hkeep;have hlset:(xs.set m z).zipIdx.length=xs.zipIdx.length:=by rw [List.length_zipIdx,List.length_set,hlz]
 have hcap:xs.length * 6≤cs'.size:=by rw [hcs',hcs,← hlz];exact Nat.mul_le_mul_right _ hnc
 have htl:(cs'.toList.take (xs.length * 6)).length=xs.length * 6:=by
  have e:cs'.toList.length=cs'.size:=Array.length_toList;rw [length_take,e,Nat.min_eq_left hcap]
 have hb6:∀ j,j < xs.length→j * 6+6≤xs.length * 6:=fun j hj=>by omega
 refine ⟨f,h0,cs'.toList.take (xs.length * 6),⟨?_,.inr ⟨g,c,cs',?_,hbg,hh',by rw [hlset];exact hnc,hcm,by rw [hcs',hcs];rfl,?_⟩⟩,?_,fun j p hj=>?_⟩
 ·rw [hlset,hlz];exact htl
 ·rw [hlset,← en]
 ·rw [hlset,hlz];rfl
 ·rw [hlset,hlz];exact htl
 ·rw [List.getElem?_zipIdx,Nat.zero_add] at hj
  obtain ⟨y,hy,rfl⟩:=Option.map_eq_some_iff.1 hj;rw [hsz];by_cases hjm:j=m
  ·subst hjm
   rw [List.getElem?_set_self hmx] at hy;obtain rfl:=Option.some.inj hy;refine ⟨v5,?_,s5⟩;have hn5:cs'[j * 6+5]? = some v5:=(hsame _ (by omega) (by omega) (by omega) (by omega) (by omega)).trans (hcell 5 _ rfl);rw [← Array.getElem?_toList] at z0 z1 z2 z3 z4 hn5;exact six_of (hb6 j hmx) z0 z1 z2 z3 z4 hn5
  ·rw [List.getElem?_set_ne (Ne.symm hjm)] at hy
   have hjl:j < xs.length:=(List.getElem?_eq_some_iff.1 hy).1;have hM:=hrep.2 j (y,j) (Kd.zip_at hy);rw [hsz,← ht,hlz] at hM;have he:((cs'.toList.take (xs.length * 6)).drop (j * 6)).take 6=((cur.toList.take (xs.length * 6)).drop (j * 6)).take 6:=part_eq (hb6 j hjl) (fun i hi=>by
    rw [Array.getElem?_toList,Array.getElem?_toList];exact hsame _ (by omega) (by omega) (by omega) (by omega) (by omega))
   rw [he];exact Kd.M_step (d:=kAB) hM (fun k hk hlt=>hkeep k hlt (fun e=>hk.1.2 (by rw [e];rfl)) (fun e=>hjm (hk.2.symm.trans e.2)))
theorem five_set (cs:Array Value) (b:Nat) {u0 u1 u2 u3 u4:Value} (z0 z1 z2 z3 z4:Value) (q0:cs[b]? = some u0) (q1:cs[b+1]? = some u1) (q2:cs[b+2]? = some u2) (q3:cs[b+3]? = some u3) (q4:cs[b+4]? = some u4) :
  ∀ cs',cs' = ((((cs.setIfInBounds b z0).setIfInBounds (b+1) z1).setIfInBounds (b+2) z2).setIfInBounds (b+3) z3).setIfInBounds (b+4) z4→cs'.size=cs.size∧(∀ i,i≠b→i≠b+1→i≠b+2→i≠b+3→i≠b+4→cs'[i]? = cs[i]?)∧cs'[b]? = some z0∧cs'[b+1]? = some z1∧cs'[b+2]? = some z2∧cs'[b+3]? = some z3∧cs'[b+4]? = some z4:=by
 rintro cs' rfl;have l0:=(Array.getElem?_eq_some_iff.1 q0).1;have l1:=(Array.getElem?_eq_some_iff.1 q1).1;have l2:=(Array.getElem?_eq_some_iff.1 q2).1;have l3:=(Array.getElem?_eq_some_iff.1 q3).1;have l4:=(Array.getElem?_eq_some_iff.1 q4).1;refine ⟨by simp,fun i h0 h1 h2 h3 h4=>?_,?_,?_,?_,?_,?_⟩
 ·rw [Array.getElem?_setIfInBounds_ne (Ne.symm h4),Array.getElem?_setIfInBounds_ne (Ne.symm h3),Array.getElem?_setIfInBounds_ne (Ne.symm h2),Array.getElem?_setIfInBounds_ne (Ne.symm h1),Array.getElem?_setIfInBounds_ne (Ne.symm h0)]
 ·rw [Array.getElem?_setIfInBounds_ne (by omega),Array.getElem?_setIfInBounds_ne (by omega),Array.getElem?_setIfInBounds_ne (by omega),Array.getElem?_setIfInBounds_ne (by omega),Array.getElem?_setIfInBounds_self_of_lt l0]
 ·rw [Array.getElem?_setIfInBounds_ne (by omega),Array.getElem?_setIfInBounds_ne (by omega),Array.getElem?_setIfInBounds_ne (by omega),Array.getElem?_setIfInBounds_self_of_lt (by simpa using l1)]
 ·rw [Array.getElem?_setIfInBounds_ne (by omega),Array.getElem?_setIfInBounds_ne (by omega),Array.getElem?_setIfInBounds_self_of_lt (by simpa using l2)]
 ·rw [Array.getElem?_setIfInBounds_ne (by omega),Array.getElem?_setIfInBounds_self_of_lt (by simpa using l3)]
 ·rw [Array.getElem?_setIfInBounds_self_of_lt (by simpa using l4)]
def cntBX (b:S39):Nat:=5+cntL b.f5
def cntBL:List S39→Nat
 | []=>0
 | x::t=>cntBX x+cntBL t
def mkBX (b:S39) (a:Int):S39:=⟨Int.tmod a 3==0,Int.tmod (a+1) 3==0,a+1+1,a+1+1+1,a+1+1+1+1,markL b.f5 (a+1+1+1+1+1)⟩
def markBL:List S39→Int→List S39
 | [],_=>[]
 | x::t,a=>mkBX x a::markBL t (a+(cntBX x:Int))
theorem cntBL_snoc (l:List S39) (x:S39):cntBL (l ++ [x])=cntBL l+cntBX x:=by
 induction l with
 | nil=>simp [cntBL]
 | cons y t ih=>simp only [List.cons_append,cntBL,ih];omega
theorem markBL_snoc (l:List S39) (x:S39) (a:Int):markBL (l ++ [x]) a=markBL l a ++ [mkBX x (a+(cntBL l:Int))]:=by
 induction l generalizing a with
 | nil=>simp [markBL,cntBL]
 | cons y t ih=>simp only [List.cons_append,markBL,ih,cntBL];rw [show a+(cntBX y:Int)+(cntBL t:Int)=a+((cntBX y+cntBL t:Nat):Int) by omega]
theorem markBL_len (l:List S39) (a:Int):(markBL l a).length=l.length:=by
 induction l generalizing a with
 | nil=>rfl
 | cons y t ih=>rw [markBL,List.length_cons,List.length_cons,ih]
theorem cntBL_take (l:List S39):∀ m,cntBL (l.take m)≤cntBL l:=by
 induction l with
 | nil=>intro m;simp [cntBL]
 | cons y t ih=>
  intro m;cases m with
  | zero=>simp [cntBL]
  | succ m=>simp only [List.take_succ_cons,cntBL];have:=ih m;omega
theorem le_cntBL (l:List S39):l.length≤cntBL l:=by
 induction l with
 | nil=>simp
 | cons y t ih=>simp only [List.length_cons,cntBL,cntBX];omega
theorem markB_at (l:List S39) (a:Int) {m:Nat} {x:S39} (hx:l[m]? = some x):(markBL (l.take m) a++l.drop m)[m]? = some x∧(markBL (l.take m) a++l.drop m).set m (mkBX x (a+(cntBL (l.take m):Int)))=markBL (l.take (m+1)) a++l.drop (m+1):=by
 have hm:m < l.length:=(List.getElem?_eq_some_iff.1 hx).1;have hl:(markBL (l.take m) a).length=m:=by rw [markBL_len,length_take];omega
 have hd:l.drop m=x::l.drop (m+1):=by rw [List.drop_eq_getElem_cons hm,(List.getElem?_eq_some_iff.1 hx).2]
 have ht:l.take (m+1)=l.take m ++ [x]:=by rw [List.take_succ_eq_append_getElem hm,(List.getElem?_eq_some_iff.1 hx).2]
 constructor
 ·rw [List.getElem?_append_right (by omega),hl,Nat.sub_self,hd];rfl
 ·rw [List.set_append_right _ _ (by omega),hl,Nat.sub_self,hd,zzr,ht,markBL_snoc,List.append_assoc];rfl
theorem cntB_at (l:List S39) {m:Nat} {x:S39} (hx:l[m]? = some x):cntBL (l.take (m+1))=cntBL (l.take m)+cntBX x:=by
 have hm:m < l.length:=(List.getElem?_eq_some_iff.1 hx).1;rw [List.take_succ_eq_append_getElem hm,(List.getElem?_eq_some_iff.1 hx).2,cntBL_snoc]
def Q3.f (l0:List S39) (a1:Int):Option (Int×List S39):=if 0≤a1∧a1+(cntBL l0:Int)≤9000000000000000000 then some (a1+(cntBL l0:Int),markBL l0 a1) else none
theorem markBatchS_at {l0:List S39} {a1 r1:Int} {r2:List S39} (h:Q3.f l0 a1=some (r1,r2)):(0≤a1∧a1+(cntBL l0:Int)≤9000000000000000000)∧r1=a1+(cntBL l0:Int)∧r2=markBL l0 a1:=by
 unfold Q3.f at h;by_cases h5 : 0≤a1∧a1+(cntBL l0:Int)≤9000000000000000000
 ·rw [if_pos h5] at h
  injection h with h;exact ⟨h5,(congrArg Prod.fst h).symm,(congrArg Prod.snd h).symm⟩
 ·rw [if_neg h5] at h;cases h
set_option maxHeartbeats 8000000 in
theorem Q3.calls (P0_:Nat→Prop) (u:Value) (l0:List S39) (a1 r1:Int) (r2:List S39) (w0 w:World) (hB:Below w0.heap.size w0 w) (ho:Kd.S kAB 39 w w0.heap.size P0_ u l0) (h:Q3.f l0 a1=some (r1,r2)) :
    Calls Try.prog 9 #[u,.int .i64 a1] w fun e w'=>e = .returned (.int .i64 r1)∧Kd.S kAB 39 w' w0.heap.size (fun k_=>P0_ k_) u r2∧Below w0.heap.size w0 w'∧Kept w w' (fun k_=>P0_ k_):=by
  obtain ⟨⟨h0,h1⟩,rfl,rfl⟩:=markBatchS_at h;obtain ⟨A,c,rfl⟩:=Kd.S_slice ho;have HB:=zzm hB;have HO:=zzm ho;have H0:=zzm h0;have H1:=zzm h1;obtain ⟨n,hn⟩:∃ n,n=l0.length:=⟨_,rfl⟩;rw [← hn];have HN:=zzm hn;clear hB ho h0 h1 h hn;have hu:=Try.underlying39;go_enter Try.func9,Try.ntmps9;go_wp2;go_loopw [1,5] (fun v1 v5 W=>∃ m:Nat,m≤n∧v1 = .int .i64 (a1+(cntBL (l0.take m):Int))∧v5 = .int .i64 m∧Kd.S kAB 39 W w0.heap.size P0_ (.slice A n c) (markBL (l0.take m) a1++l0.drop m)∧Below w0.heap.size w0 W∧Kept w W (fun k_=>P0_ k_)) (fun _ v5 _=>n - (intOf v5).toNat)
  case atStart=>exact ⟨0,Nat.zero_le _,by simp [cntBL],by go_num,by rw [HN.out];simpa [markBL] using HO.out,HB.out,Kept.refl _ _⟩
  case round=>
    obtain ⟨m,hm,rfl,rfl,hS,hB,hK⟩:=hrel;have HS:=zzm hS;have HB1:=zzm hB;have HK1:=zzm hK;clear hS hB hK HB HO;have h0:=H0.out;have h1:=H1.out;have hn:=HN.out;by_cases hlt:m < n
    · obtain ⟨x,hx⟩:∃ x,l0[m]? = some x:=⟨_,List.getElem?_eq_getElem (by omega)⟩
      obtain ⟨a2,hset⟩:=markB_at l0 a1 hx;have hcs:=cntB_at l0 hx;have hcl:=cntBL_take l0 (m+1);have hln:(markBL (l0.take m) a1++l0.drop m).length=n:=by rw [List.length_append,markBL_len,length_take,length_drop];omega
      have hmc:=le_cntBL l0;have e9:wrap64 ((m:Int)+1)=((m+1:Nat):Int):=by unfold wrap64;omega
      obtain ⟨kk,hkk⟩:∃ kk:Int,kk=a1+(cntBL (l0.take m):Int):=⟨_,rfl⟩;rw [← hkk] at hset;rw [← hkk];have hcx:cntBX x=5+cntL x.f5:=rfl;have hend:kk+1+1+1+1+1+(cntL x.f5:Int)=a1+(cntBL (l0.take (m+1)):Int):=by omega
      have b1 : 0≤kk+1+1+1+1+1:=by omega
      have b2:kk+1+1+1+1+1+(cntL x.f5:Int)≤9000000000000000000:=by omega
      have HE:=zzm hend;have F5:=zzm (show Rm.f x.f5 (kk+1+1+1+1+1)=some (kk+1+1+1+1+1+(cntL x.f5:Int),markL x.f5 (kk+1+1+1+1+1)) by unfold Rm.f;rw [if_pos ⟨b1,b2⟩]);have e1:wrap64 (kk+1)=kk+1:=by unfold wrap64;omega
      have e2:wrap64 (kk+1+1)=kk+1+1:=by unfold wrap64;omega
      have e3:wrap64 (kk+1+1+1)=kk+1+1+1:=by unfold wrap64;omega
      have e4:wrap64 (kk+1+1+1+1)=kk+1+1+1+1:=by unfold wrap64;omega
      have e5:wrap64 (kk+1+1+1+1+1)=kk+1+1+1+1+1:=by unfold wrap64;omega
      have hmi:((m:Nat):Int) < ((n:Nat):Int):=by omega
      obtain ⟨g,cap,he,_⟩:=Kd.S_form HS.out (by rw [hln];omega);injection he with he he2 he3;clear he2 he3;subst he;obtain ⟨cs,v5,okm,hh,hbg,hPg,⟨q0,q1,q2,q3,q4,q5⟩,r5,t5,hback⟩:=putAB HS.out a2;rw [show (mkBX x kk)=(⟨Int.tmod kk 3==0,Int.tmod (kk+1) 3==0,kk+1+1,kk+1+1+1,kk+1+1+1+1,markL x.f5 (kk+1+1+1+1+1)⟩:S39) from rfl] at hset;obtain ⟨A5,c5,rfl⟩:=Kd.S_slice r5;have p0:=(zzk hh (m * 6)).trans q0;have z0:=zzl hh (m * 6);have p1:=(zzk hh (m * 6+1)).trans q1;have z1:=zzl hh (m * 6+1);have p2:=(zzk hh (m * 6+2)).trans q2;have z2:=zzl hh (m * 6+2);have p3:=(zzk hh (m * 6+3)).trans q3;have z3:=zzl hh (m * 6+3);have p4:=(zzk hh (m * 6+4)).trans q4;have z4:=zzl hh (m * 6+4);have p5:=(zzk hh (m * 6+5)).trans q5;have hh5:=zzi (zzi (zzi (zzi (zzi hh (m * 6) (.bool (Int.tmod kk 3==0)) rfl) (m * 6+1) (.bool (Int.tmod (kk+1) 3==0)) rfl) (m * 6+2) (.int .i64 (kk+1+1)) rfl) (m * 6+3) (.int .i64 (kk+1+1+1)) rfl) (m * 6+4) (.int .i64 (kk+1+1+1+1)) rfl;have hB5:=zzd (j:=m * 6+4) (v:=.int .i64 (kk+1+1+1+1)) (zzd (j:=m * 6+3) (v:=.int .i64 (kk+1+1+1)) (zzd (j:=m * 6+2) (v:=.int .i64 (kk+1+1)) (zzd (j:=m * 6+1) (v:=.bool (Int.tmod (kk+1) 3==0)) (zzd (j:=m * 6) (v:=.bool (Int.tmod kk 3==0)) HB1.out hbg) hbg) hbg) hbg) hbg;have hK5:=Kept.setCell (p:=⟨g,m * 6+4,none⟩) (Kept.setCell (p:=⟨g,m * 6+3,none⟩) (Kept.setCell (p:=⟨g,m * 6+2,none⟩) (Kept.setCell (p:=⟨g,m * 6+1,none⟩) (Kept.setCell (p:=⟨g,m * 6,none⟩) (Kept.refl wr (fun k=>k=g∨okm k)) (.inl (.inl rfl)) (.bool (Int.tmod kk 3==0))) (.inl (.inl rfl)) (.bool (Int.tmod (kk+1) 3==0))) (.inl (.inl rfl)) (.int .i64 (kk+1+1))) (.inl (.inl rfl)) (.int .i64 (kk+1+1+1))) (.inl (.inl rfl)) (.int .i64 (kk+1+1+1+1));have h55:=Kd.S_far (p:=⟨g,m * 6+4,none⟩) (Kd.S_far (p:=⟨g,m * 6+3,none⟩) (Kd.S_far (p:=⟨g,m * 6+2,none⟩) (Kd.S_far (p:=⟨g,m * 6+1,none⟩) (Kd.S_far (p:=⟨g,m * 6,none⟩) r5 (fun k hk=>(t5 k hk).2) (.bool (Int.tmod kk 3==0))) (fun k hk=>(t5 k hk).2) (.bool (Int.tmod (kk+1) 3==0))) (fun k hk=>(t5 k hk).2) (.int .i64 (kk+1+1))) (fun k hk=>(t5 k hk).2) (.int .i64 (kk+1+1+1))) (fun k hk=>(t5 k hk).2) (.int .i64 (kk+1+1+1+1));have HH5:=zzm hh5;have HB5:=zzm hB5;have HK5:=zzm hK5;have H55:=zzm h55;have T5:=zzm t5;have HPG:=zzm hPg;have HBK:=zzm hback;have HSET:=zzm hset;have FS:=zzm (five_set cs (m * 6) (.bool (Int.tmod kk 3==0)) (.bool (Int.tmod (kk+1) 3==0)) (.int .i64 (kk+1+1)) (.int .i64 (kk+1+1+1)) (.int .i64 (kk+1+1+1+1)) q0 q1 q2 q3 q4 _ rfl);clear hh hh5 hB5 hK5 h55 t5 hbg hPg hback hset hkk hcs hcl hln hmc h0 h1 hn hend b1 b2 r5 hx a2 q4 q5 q0 q1 q2 q3;go_wp2_with (first
        | (go_at_call 23;with_reducible refine (Rm.calls okm (Value.slice A5 x.f5.length c5) x.f5 (kk+1+1+1+1+1) _ _ w0 _ HB5.out H55.out F5.out).mono ?_
           rintro e W6 ⟨rfl,hR6,hB6,hK6⟩;have HH6:=zzm ((hK6.2 g (blk_lt HH5.out) (fun e=>(T5.out g e).2 rfl)).trans HH5.out);have HB6:=zzm hB6;have HK6:=zzm (HK5.out.then_ hK6 (fun k h=>.inl (.inr h)));have H56:=zzm hR6;clear hR6 hB6 hK6))
      go_roundw
      case rel=>
        obtain ⟨s1,s2,s3,s4,s5,s6,s7⟩:=FS.out;have hS6:=HBK.out _ _ ⟨Int.tmod kk 3==0,Int.tmod (kk+1) 3==0,kk+1+1,kk+1+1+1,kk+1+1+1+1,markL x.f5 (kk+1+1+1+1+1)⟩ HH6.out s1 s2 s3 s4 s5 s6 s7 H56.out (fun k hk h1 h2=>HK6.out.2 k hk (fun h=>h.elim h1 h2));rw [HSET.out] at hS6;exact ⟨m+1,hlt,congrArg (Value.int .i64) HE.out,by first|exact congrArg (Value.int .i64) e9|exact congrArg (Value.int .i64) (by omega),hS6,HB6.out,HK1.out.then_ (HK6.out.mono (fun k hk=>hk.elim (fun e=>e ▸ HPG.out) (fun h=>(T5.out k h).1))) (fun k h=>.inl h)⟩
      case measure=>exact meas_lt (by first|exact congrArg (Value.int .i64) e9|rfl) hlt
    · obtain rfl:m=n:=by omega
      have hmi:¬ ((m:Nat):Int) < ((m:Nat):Int):=by omega
      have a0:l0.take m=l0:=by rw [hn,List.take_length]
      have a3:l0.drop m = []:=by rw [hn,List.drop_length]
      rw [a0];have a4:=zzm a0;have a5:=zzm a3;clear a0 a3 hn;go_wp2;go_ret;have hS:=HS.out;rw [a4.out,a5.out,List.append_nil] at hS;exact ⟨rfl,hS,HB1.out,HK1.out⟩
theorem cntR_eq (l:List S47):∀ n,n≤l.length→cntR (fun i=>((Qb l (i:Int)).f3.length,(Qb l (i:Int)).f5.length)) n=cntL (l.take n)
 | 0,_=>by simp [cntR,cntL]
 | n+1,h=>by
  have hn:n < l.length:=h
  have e:Qb l (n:Int)=l[n]:=by unfold Qb;rw [Int.toNat_natCast,List.getD_eq_getElem?_getD,List.getElem?_eq_getElem hn];rfl
  rw [cnt_at l (List.getElem?_eq_getElem hn),← cntR_eq l n (by omega)]
  show cntR _ n+(4+(Qb l (n:Int)).f3.length+(Qb l (n:Int)).f5.length) = _
  rw [e]
  rfl
theorem cntB_eq (l:List S39):∀ n,n≤l.length→cntB (fun i=>(Qa l (i:Int)).f5.length) (fun i j=>((Qb (Qa l (i:Int)).f5 (j:Int)).f3.length,(Qb (Qa l (i:Int)).f5 (j:Int)).f5.length)) n=cntBL (l.take n)
 | 0,_=>by simp [cntB,cntBL]
 | n+1,h=>by
  have hn:n < l.length:=h
  have e:Qa l (n:Int)=l[n]:=by unfold Qa;rw [Int.toNat_natCast,List.getD_eq_getElem?_getD,List.getElem?_eq_getElem hn];rfl
  have h2:=cntR_eq l[n].f5 l[n].f5.length (Nat.le_refl _)
  rw [List.take_length] at h2
  rw [cntB_at l (List.getElem?_eq_getElem hn),← cntB_eq l n (by omega)]
  show cntB _ _ n+(5+cntR (fun j=>((Qb (Qa l (n:Int)).f5 (j:Int)).f3.length,(Qb (Qa l (n:Int)).f5 (j:Int)).f5.length)) (Qa l (n:Int)).f5.length) = _
  unfold cntBX
  rw [e,h2]
set_option maxHeartbeats 4000000 in
theorem Q3.loose (P0_:Nat→Prop) (u:Value) (l0:List S39) (a1 r1:Int) (r2:List S39) (w0 w:World) (hB:Below w0.heap.size w0 w) (ho:Kd.R k39 39 w w0.heap.size P0_ u l0) (h:Q3.f l0 a1=some (r1,r2)) :
  Calls Try.prog 9 #[u,.int .i64 a1] w fun e w'=>e = .returned (.int .i64 r1)∧Below w0.heap.size w0 w'∧Kept w w' (fun k=>P0_ k):=by
 obtain ⟨⟨h0,h1⟩,rfl,rfl⟩:=markBatchS_at h;obtain ⟨A,c,hv,hrow⟩:=batRow_of (Kd.R_bound ho);subst hv;have hc:=cntB_eq l0 l0.length (Nat.le_refl _);rw [List.take_length] at hc;refine (markBat_lk _ A l0.length c _ _ a1 w hrow h0 (by rw [hc];exact h1)).mono ?_;rintro e w' ⟨rfl,hL⟩;exact ⟨by rw [hc],hB.trans (hL.low w0.heap.size (fun k hk=>hk.2.1)),hL.kept.mono (fun k hk=>hk.1)⟩
end

set_option linter.unusedVariables false
set_option linter.unusedSimpArgs false
mutual
def laws_FnExactCompactLog.j0:Nat→List (S34)→Bool→List (S39)→Bool→List (S39)→List (S39)→Bool→Bool→Option (Bool)
 | 0,_,_,_,_,_,_,_,_=>none
 | k+1,x0,x1,x6,x7,x8,x9,x10,x44=>if x44=true then (some false) else ((Qk.f k x0).bind fun t371=>((Qe.f k x8 t371).bind fun t374=>(if t374=true then ((Q3.f x8 1).bind fun bt375=>(if bt375.1 < 0 then (laws_FnExactCompactLog.j1 k x0 x1 x6 x7 x9 true) else ((Qe.f k x9 x6).bind fun t377=>(if t377=true then (laws_FnExactCompactLog.j1 k x0 x1 x6 x7 x9 (x10 != x7)) else (laws_FnExactCompactLog.j1 k x0 x1 x6 x7 x9 true))))) else (some false))))
def laws_FnExactCompactLog.j1:Nat→List (S34)→Bool→List (S39)→Bool→List (S39)→Bool→Option (Bool)
 | 0,_,_,_,_,_,_=>none
 | k+1,x0,x1,x6,x7,x9,x65=>if x65=true then (some false) else ((Q3.f x9 1).bind fun bt378=>((Qm.f k bt378.2 1).bind fun t380=>(if t380 < 0 then (some false) else (if t380=bt378.1 then ((Qk.f k x0).bind fun t381=>((Q1.f k t381 x1).bind fun bt384=>((Qe.f k bt384.1 x6).bind fun t388=>(if t388=true then (laws_FnExactCompactLog.j2 k bt378.2 bt378.1 (bt384.2 != x7)) else (laws_FnExactCompactLog.j2 k bt378.2 bt378.1 true))))) else (some false)))))
def laws_FnExactCompactLog.j2:Nat→List (S39)→Int→Bool→Option (Bool)
 | 0,_,_,_=>none
 | k+1,x9,x12,x92=>if x92=true then (some false) else ((Qm.f k x9 1).bind fun t389=>(if t389 < 0 then (some false) else (if t389=x12 then (some true) else (some false))))
end
def laws_FnExactCompactLog.f (k:Nat) (l0:List (S34)) (a1:Bool):Option (Bool):=(Q0.f k l0 1048576).bind fun t355=>(if t355 < 0 then (some true) else ((Qk.f k l0).bind fun t356=>((Ra.f k t356 a1).bind fun bt359=>((Qk.f k l0).bind fun t363=>((Q1.f k t363 a1).bind fun bt366=>((Qe.f k bt366.1 bt359.1).bind fun t370=>(if t370=true then (laws_FnExactCompactLog.j0 k l0 a1 bt359.1 bt359.2 t363 bt366.1 bt366.2 (bt366.2 != bt359.2)) else (laws_FnExactCompactLog.j0 k l0 a1 bt359.1 bt359.2 t363 bt366.1 bt366.2 true))))))))
set_option maxHeartbeats 8000000 in
theorem laws_FnExactCompactLog.calls (k:Nat) (A0:Option Addr) (c0:Nat) (l0:List (S34)) (a1:Bool) (r:Bool) (w:World) (m1:Kd.C k34 w A0 l0.length l0) (m2:l0.length≤c0) (h:laws_FnExactCompactLog.f k l0 a1=some r) :
  Calls Try.prog 3 #[.slice A0 l0.length c0,.bool a1] w fun e w'=>e = .returned (.bool r)∧Below w.heap.size w w':=by
 have g2:=zzm m1;have g3:=zzm m2;clear m1 m2;have HB:=zzm (Below.refl w.heap.size w);have H:((Q0.f k l0 1048576).bind fun d9=>(if d9 < 0 then (some true) else ((Qk.f k l0).bind fun g4=>((Ra.f k g4 a1).bind fun d8=>((Qk.f k l0).bind fun b7=>((Q1.f k b7 a1).bind fun d0=>((Qe.f k d0.1 d8.1).bind fun e0=>(if e0=true then (laws_FnExactCompactLog.j0 k l0 a1 d8.1 d8.2 b7 d0.1 d0.2 (d0.2 != d8.2)) else (laws_FnExactCompactLog.j0 k l0 a1 d8.1 d8.2 b7 d0.1 d0.2 true)))))))))=some r:=h;clear h;obtain ⟨d9,A3,H⟩:=zzG H;by_cases c4:d9 < 0
 ·
  rw [if_pos c4] at H;have h5:decide (d9 < 0)=true:=decide_eq_true c4;clear c4;obtain rfl:=Option.some.inj H;go_enter Try.func3,Try.ntmps3;go_wp2_with (first|((with_reducible refine gate_callee (f:=4) rfl ?_);refine goesL_ (some 18) rfl rfl Try.func4 (by kernel_rfl) rfl #[.slice A0 l0.length c0,.int .i64 1048576] rfl zzM2 ?_;(with_reducible refine (Q0.calls k _ _ l0 1048576 d9 _ ?side1 ?side2 A3.out).mono ?_);(case side1=>repeat (first|exact g2.out|(with_reducible refine Kd.C_alloc ?_ _)|(with_reducible refine Kd.C_drewN ?_ _)|(with_reducible refine Kd.C_drew ?_)));(case side2=>exact g3.out);rintro e w5 ⟨rfl,hb⟩;refine ⟨_,rfl,?_⟩;have a3:=zzm (zzp zzh1 hb);clear HB;have HB:=a3;clear a3;(try clear hb);(try clear hb2);(try clear hk);(try clear hi)));go_ret;exact ⟨zzR,zzh1⟩
 ·
  rw [if_neg c4] at H;have h5:decide (d9 < 0)=false:=decide_eq_false c4;clear c4;obtain ⟨g4,A6,H⟩:=zzG H;replace H:=zzH H;obtain ⟨⟨b2,b8⟩,m3,H⟩:=H;replace H:((Qk.f k l0).bind fun b7=>((Q1.f k b7 a1).bind fun d0=>((Qe.f k d0.1 b2).bind fun e0=>(if e0=true then (laws_FnExactCompactLog.j0 k l0 a1 b2 b8 b7 d0.1 d0.2 (d0.2 != b8)) else (laws_FnExactCompactLog.j0 k l0 a1 b2 b8 b7 d0.1 d0.2 true)))))=some r:=H;have A7:=zzm m3;clear m3;obtain ⟨b7,A8,H⟩:=zzG H;replace H:=zzH H;obtain ⟨⟨a6,d6⟩,m4,H⟩:=H;replace H:((Qe.f k a6 b2).bind fun e0=>(if e0=true then (laws_FnExactCompactLog.j0 k l0 a1 b2 b8 b7 a6 d6 (d6 != b8)) else (laws_FnExactCompactLog.j0 k l0 a1 b2 b8 b7 a6 d6 true)))=some r:=H;have A9:=zzm m4;clear m4;have j3:=zzm H;clear H;go_enter Try.func3,Try.ntmps3;go_upto_region 8 with (first|((with_reducible refine gate_callee (f:=4) rfl ?_);refine goesL_ (some 18) rfl rfl Try.func4 (by kernel_rfl) rfl #[.slice A0 l0.length c0,.int .i64 1048576] rfl zzM2 ?_;(with_reducible refine (Q0.calls k _ _ l0 1048576 d9 _ ?side1 ?side2 A3.out).mono ?_);(case side1=>repeat (first|exact g2.out|(with_reducible refine Kd.C_alloc ?_ _)|(with_reducible refine Kd.C_drewN ?_ _)|(with_reducible refine Kd.C_drew ?_)));(case side2=>exact g3.out);rintro e s1 ⟨rfl,hb⟩;refine ⟨_,rfl,?_⟩;have a3:=zzm (zzp zzh1 hb);clear HB;have HB:=a3;clear a3;(try clear hb);(try clear hb2);(try clear hk);(try clear hi))|((with_reducible refine gate_callee (f:=6) rfl ?_);refine goesL_ (some 23) rfl rfl Try.func6 (by kernel_rfl) rfl #[.slice A0 l0.length c0] rfl zzM2 ?_;(with_reducible refine (Qk.calls k _ _ l0 g4 _ ?side1 ?side2 A6.out).mono ?_);(case side1=>exact zzcb g2 HB);(case side2=>exact g3.out);rintro e s2 ⟨q9,rfl,ho0,hb⟩;refine ⟨_,rfl,?_⟩;have a3:=zzm (Kd.R_lower ho0 (zzo zzh1));have a4:=zzm (zzp zzh1 hb);clear HB;have b6:=a3;have HB:=a4;clear a3 a4;(try clear hb);(try clear hb2);(try clear hk);(try clear hi);(try clear ho0);obtain ⟨n5,n6,eo13⟩:=Kd.R_slice b6.out;subst eo13)|((with_reducible refine gate_callee (f:=5) rfl ?_);refine goesL_ (some 25) rfl rfl Try.func5 (by kernel_rfl) rfl #[.slice n5 g4.length n6,.bool a1] rfl zzM2 ?_;(with_reducible refine (Ra.calls k _ _ g4 a1 b2 b8 _ ?side1 ?side2 A7.out).mono ?_);(case side1=>repeat (first|exact (Kd.R_reads' b6.out).2.2|(with_reducible refine Kd.C_alloc ?_ _)|(with_reducible refine Kd.C_drewN ?_ _)|(with_reducible refine Kd.C_drew ?_)));(case side2=>exact (Kd.R_reads' b6.out).2.1);rintro e s3 ⟨k8,rfl,ho0,hb⟩;refine ⟨_,rfl,?_⟩;have a3:=zzm (Kd.R_elder' (by (with_reducible repeat (first|apply Kd.R_alloc|apply Kd.R_drewN|apply Kd.R_drew));exact b6.out) (Kd.R_base ho0) hb);have a4:=zzm (Kd.R_lower (Kd.R_new' ho0 (Kd.R_lt (by (with_reducible repeat (first|apply Kd.R_alloc|apply Kd.R_drewN|apply Kd.R_drew));exact b6.out))) (zzo zzh1));have a5:=zzm (zzp zzh1 hb);clear b6 HB;have b6:=a3;have a7:=a4;have HB:=a5;clear a3 a4 a5;(try clear hb);(try clear hb2);(try clear hk);(try clear hi);(try clear ho0))|((with_reducible refine gate_callee (f:=6) rfl ?_);refine goesL_ (some 29) rfl rfl Try.func6 (by kernel_rfl) rfl #[.slice A0 l0.length c0] rfl zzM2 ?_;(with_reducible refine (Qk.calls k _ _ l0 b7 _ ?side1 ?side2 A8.out).mono ?_);(case side1=>exact zzcb g2 HB);(case side2=>exact g3.out);rintro e s4 ⟨r0,rfl,ho0,hb⟩;refine ⟨_,rfl,?_⟩;obtain ⟨B1,m5,m6⟩:=two_oldR (by (with_reducible repeat (first|apply Kd.R_alloc|apply Kd.R_drewN|apply Kd.R_drew));exact a7.out) hb ho0 (zzo zzh1);have a3:=zzm (Kd.R_elder' (by (with_reducible repeat (first|apply Kd.R_alloc|apply Kd.R_drewN|apply Kd.R_drew));exact b6.out) (Kd.R_base ho0) hb);have a4:=zzm m5;have a5:=zzm m6;have a8:=zzm (zzp zzh1 hb);clear b6 a7 HB;have b6:=a3;have a7:=a4;have b4:=a5;have HB:=a8;clear a3 a4 a5 a8;(try clear hb);(try clear hb2);(try clear hk);(try clear hi);(try clear ho0 m5 m6);obtain ⟨e6,e7,eo16⟩:=Kd.R_slice b4.out;subst eo16)|((with_reducible refine gate_callee (f:=7) rfl ?_);refine goesL_ (some 33) rfl rfl Try.func7 (by kernel_rfl) rfl #[.slice e6 b7.length e7,.bool a1] rfl zzM2 ?_;(with_reducible refine (Q1.calls k _ _ b7 a1 a6 d6 _ ?side1 ?side2 A9.out).mono ?_);(case side1=>repeat (first|exact (Kd.R_reads' b4.out).2.2|(with_reducible refine Kd.C_alloc ?_ _)|(with_reducible refine Kd.C_drewN ?_ _)|(with_reducible refine Kd.C_drew ?_)));(case side2=>exact (Kd.R_reads' b4.out).2.1);rintro e s5 ⟨k9,rfl,ho0,hb⟩;refine ⟨_,rfl,?_⟩;obtain ⟨B2,m7,m8,hg2⟩:=three_oldR (by (with_reducible repeat (first|apply Kd.R_alloc|apply Kd.R_drewN|apply Kd.R_drew));exact a7.out) (by (with_reducible repeat (first|apply Kd.R_alloc|apply Kd.R_drewN|apply Kd.R_drew));exact b4.out) hb ho0 (zzo zzh1);have a3:=zzm (Kd.R_elder' (by (with_reducible repeat (first|apply Kd.R_alloc|apply Kd.R_drewN|apply Kd.R_drew));exact b6.out) (Kd.S_base ho0) hb);have a4:=zzm m7;have a5:=zzm m8;have a8:=zzm hg2;have b0:=zzm (zzp zzh1 hb);clear b6 a7 b4 HB;have b6:=a3;have a7:=a4;have b4:=a5;have b5:=a8;have HB:=b0;clear a3 a4 a5 a8 b0;(try clear hb);(try clear hb2);(try clear hk);(try clear hi);(try clear ho0 m7 m8 hg2)))
  (try simp only [Act.put,zzq,zzr,zzs]);go_cut [44] (fun q3 wc=>∃ (kq:Nat) (g1:Bool),q3 = .bool g1∧Aside0 (laws_FnExactCompactLog.j0 kq l0 a1 b2 b8 b7 a6 d6 g1=some r)∧Aside0 (kq≤k)∧Aside0 (Kd.R k39 39 wc w.heap.size (fun k_=>k_ < B1∧k_ < B2) k8 b2)∧Aside0 (Kd.R k39 39 wc w.heap.size (fun k_=>B1≤k_∧k_ < B2) (.slice e6 b7.length e7) b7)∧Aside0 (Kd.S kAB 39 wc w.heap.size (fun k_=>B2≤k_) k9 a6)∧Aside0 (Below w.heap.size w wc))
  case first=>
   have H:=j3.out;clear j3;obtain ⟨e0,m9,H⟩:=zzG H;by_cases g5:e0=true
   ·
    subst g5;replace H:=zzIt H;have H':=zzm H;clear H;obtain ⟨n7,n8,eo20⟩:=Kd.S_slice b5.out;subst eo20;obtain ⟨n9,o0,eo21⟩:=Kd.R_slice a7.out;subst eo21;go_wp2_with (first|((with_reducible refine gate_callee (f:=8) rfl ?_);refine goesL_ (some 38) rfl rfl Try.func8 (by kernel_rfl) rfl #[.slice n7 a6.length n8,.slice n9 b2.length o0] rfl zzM2 ?_;(with_reducible refine (Qe.calls k _ _ a6 _ _ b2 true _ ?side1 ?side2 ?side3 ?side4 m9.out).mono ?_);(case side1=>repeat (first|exact (AB_reads' b5.out).2.2|(with_reducible refine Kd.C_alloc ?_ _)|(with_reducible refine Kd.C_drewN ?_ _)|(with_reducible refine Kd.C_drew ?_)));(case side2=>exact (AB_reads' b5.out).2.1);(case side3=>repeat (first|exact (Kd.R_reads' a7.out).2.2|(with_reducible refine Kd.C_alloc ?_ _)|(with_reducible refine Kd.C_drewN ?_ _)|(with_reducible refine Kd.C_drew ?_)));(case side4=>exact (Kd.R_reads' a7.out).2.1);rintro e s6 ⟨rfl,hb⟩;refine ⟨_,rfl,?_⟩;have a3:=zzm (Kd.R_below (by (with_reducible repeat (first|apply Kd.R_alloc|apply Kd.R_drewN|apply Kd.R_drew));exact b6.out) hb);have a4:=zzm (Kd.R_below (by (with_reducible repeat (first|apply Kd.R_alloc|apply Kd.R_drewN|apply Kd.R_drew));exact a7.out) hb);have a5:=zzm (Kd.R_below (by (with_reducible repeat (first|apply Kd.R_alloc|apply Kd.R_drewN|apply Kd.R_drew));exact b4.out) hb);have a8:=zzm (Kd.S_below (zzS b5.out) hb);have b0:=zzm (zzp zzh1 hb);clear b6 a7 b4 b5 HB;have b6:=a3;have a7:=a4;have b4:=a5;have b5:=a8;have HB:=b0;clear a3 a4 a5 a8 b0;(try clear hb);(try clear hb2);(try clear hk);(try clear hi)));go_meet
    case rel=>exact ⟨_,((d6 != b8)),(by first|rfl|(simp;done)|(simp [*];done)),H',⟨by first|omega|exact Nat.le_refl _⟩,⟨by (with_reducible repeat (first|apply Kd.R_alloc|apply Kd.R_drewN|apply Kd.R_drew));exact (show Kd.R k39 39 _ w.heap.size (fun k_=>k_ < B1∧k_ < B2) _ _ from by first|exact a7.out|exact Kd.R_mono a7.out (fun _ hk=>hk.1)|exact Kd.R_mono a7.out (fun _ hk=>hk.1.1)|exact Kd.R_mono a7.out (fun _ hk=>hk.1.1.1))⟩,⟨by (with_reducible repeat (first|apply Kd.R_alloc|apply Kd.R_drewN|apply Kd.R_drew));exact (show Kd.R k39 39 _ w.heap.size (fun k_=>B1≤k_∧k_ < B2) _ _ from by first|exact b4.out|exact Kd.R_mono b4.out (fun _ hk=>hk.1)|exact Kd.R_mono b4.out (fun _ hk=>hk.1.1)|exact Kd.R_mono b4.out (fun _ hk=>hk.1.1.1))⟩,⟨by (with_reducible repeat (first|apply Kd.S_alloc|apply Kd.S_drewN|apply Kd.S_drew));exact (show Kd.S kAB 39 _ w.heap.size (fun k_=>B2≤k_) _ _ from by first|exact b5.out|exact Kd.S_mono b5.out (fun _ hk=>hk.1)|exact Kd.S_mono b5.out (fun _ hk=>hk.1.1)|exact Kd.S_mono b5.out (fun _ hk=>hk.1.1.1))⟩,⟨zzh1⟩⟩
   ·
    replace g5:=Bool.eq_false_iff.mpr g5;subst g5;replace H:=zzIf H;have H':=zzm H;clear H;obtain ⟨o1,o2,eo23⟩:=Kd.S_slice b5.out;subst eo23;obtain ⟨o3,o4,eo24⟩:=Kd.R_slice a7.out;subst eo24;go_wp2_with (first|((with_reducible refine gate_callee (f:=8) rfl ?_);refine goesL_ (some 38) rfl rfl Try.func8 (by kernel_rfl) rfl #[.slice o1 a6.length o2,.slice o3 b2.length o4] rfl zzM2 ?_;(with_reducible refine (Qe.calls k _ _ a6 _ _ b2 false _ ?side1 ?side2 ?side3 ?side4 m9.out).mono ?_);(case side1=>repeat (first|exact (AB_reads' b5.out).2.2|(with_reducible refine Kd.C_alloc ?_ _)|(with_reducible refine Kd.C_drewN ?_ _)|(with_reducible refine Kd.C_drew ?_)));(case side2=>exact (AB_reads' b5.out).2.1);(case side3=>repeat (first|exact (Kd.R_reads' a7.out).2.2|(with_reducible refine Kd.C_alloc ?_ _)|(with_reducible refine Kd.C_drewN ?_ _)|(with_reducible refine Kd.C_drew ?_)));(case side4=>exact (Kd.R_reads' a7.out).2.1);rintro e s7 ⟨rfl,hb⟩;refine ⟨_,rfl,?_⟩;have a3:=zzm (Kd.R_below (by (with_reducible repeat (first|apply Kd.R_alloc|apply Kd.R_drewN|apply Kd.R_drew));exact b6.out) hb);have a4:=zzm (Kd.R_below (by (with_reducible repeat (first|apply Kd.R_alloc|apply Kd.R_drewN|apply Kd.R_drew));exact a7.out) hb);have a5:=zzm (Kd.R_below (by (with_reducible repeat (first|apply Kd.R_alloc|apply Kd.R_drewN|apply Kd.R_drew));exact b4.out) hb);have a8:=zzm (Kd.S_below (zzS b5.out) hb);have b0:=zzm (zzp zzh1 hb);clear b6 a7 b4 b5 HB;have b6:=a3;have a7:=a4;have b4:=a5;have b5:=a8;have HB:=b0;clear a3 a4 a5 a8 b0;(try clear hb);(try clear hb2);(try clear hk);(try clear hi)));go_meet
    case rel=>exact ⟨_,(true),(by first|rfl|(simp;done)|(simp [*];done)),H',⟨by first|omega|exact Nat.le_refl _⟩,⟨by (with_reducible repeat (first|apply Kd.R_alloc|apply Kd.R_drewN|apply Kd.R_drew));exact (show Kd.R k39 39 _ w.heap.size (fun k_=>k_ < B1∧k_ < B2) _ _ from by first|exact a7.out|exact Kd.R_mono a7.out (fun _ hk=>hk.1)|exact Kd.R_mono a7.out (fun _ hk=>hk.1.1)|exact Kd.R_mono a7.out (fun _ hk=>hk.1.1.1))⟩,⟨by (with_reducible repeat (first|apply Kd.R_alloc|apply Kd.R_drewN|apply Kd.R_drew));exact (show Kd.R k39 39 _ w.heap.size (fun k_=>B1≤k_∧k_ < B2) _ _ from by first|exact b4.out|exact Kd.R_mono b4.out (fun _ hk=>hk.1)|exact Kd.R_mono b4.out (fun _ hk=>hk.1.1)|exact Kd.R_mono b4.out (fun _ hk=>hk.1.1.1))⟩,⟨by (with_reducible repeat (first|apply Kd.S_alloc|apply Kd.S_drewN|apply Kd.S_drew));exact (show Kd.S kAB 39 _ w.heap.size (fun k_=>B2≤k_) _ _ from by first|exact b5.out|exact Kd.S_mono b5.out (fun _ hk=>hk.1)|exact Kd.S_mono b5.out (fun _ hk=>hk.1.1)|exact Kd.S_mono b5.out (fun _ hk=>hk.1.1.1))⟩,⟨zzh1⟩⟩
  case rest=>
   clear j3;try clear c1
   try clear p2
   try clear c3
   try clear c4
   try clear h5
   try clear c5
   try clear c6
   try clear c7
   try clear c8
   try clear g5
   obtain ⟨kq,g1,rfl,HA,HJ9,a2,a9,a0,HB⟩:=hcut;cases kq with
   | zero=>exact absurd HA.out (by simp [laws_FnExactCompactLog.j0])
   | succ d7=>
    have H:=HA.out;clear HA;simp only [laws_FnExactCompactLog.j0] at H;by_cases h0:g1=true
    ·
     subst h0;replace H:=zzIt H;obtain rfl:=Option.some.inj H;go_wp2;go_ret;exact ⟨zzR,zzh1⟩
    ·
     replace h0:=Bool.eq_false_iff.mpr h0;subst h0;replace H:=zzIf H;obtain ⟨e8,n0,H⟩:=zzG H;obtain ⟨o5,n1,H⟩:=zzG H;by_cases h1:o5=true
     ·
      subst h1;replace H:=zzIt H;replace H:=zzH H;obtain ⟨⟨g6,o6⟩,l2,H⟩:=H;replace H:(if g6 < 0 then (laws_FnExactCompactLog.j1 d7 l0 a1 b2 b8 a6 true) else ((Qe.f d7 a6 b2).bind fun j4=>(if j4=true then (laws_FnExactCompactLog.j1 d7 l0 a1 b2 b8 a6 (d6 != b8)) else (laws_FnExactCompactLog.j1 d7 l0 a1 b2 b8 a6 true))))=some r:=H;have q4:=zzm l2;clear l2;have j5:=zzm H;clear H;go_upto_region 14 with (first|((with_reducible refine gate_callee (f:=6) rfl ?_);refine goesL_ (some 47) rfl rfl Try.func6 (by kernel_rfl) rfl #[.slice A0 l0.length c0] rfl zzM2 ?_;(with_reducible refine (Qk.calls d7 _ _ l0 e8 _ ?side1 ?side2 n0.out).mono ?_);(case side1=>exact zzcb g2 HB);(case side2=>exact g3.out);rintro e s8 ⟨o7,rfl,ho0,hb⟩;refine ⟨_,rfl,?_⟩;have a3:=zzm (Kd.R_elder' (by (with_reducible repeat (first|apply Kd.R_alloc|apply Kd.R_drewN|apply Kd.R_drew));exact a2.out) (Kd.R_base ho0) hb);have a4:=zzm (Kd.R_elder' (by (with_reducible repeat (first|apply Kd.R_alloc|apply Kd.R_drewN|apply Kd.R_drew));exact a9.out) (Kd.R_base ho0) hb);have a5:=zzm (Kd.S_elder' (zzS a0.out) (Kd.R_base ho0) hb);have a8:=zzm (Kd.R_lower (Kd.R_new' (Kd.R_new' (Kd.R_new' ho0 (Kd.R_lt (by (with_reducible repeat (first|apply Kd.R_alloc|apply Kd.R_drewN|apply Kd.R_drew));exact a2.out))) (Kd.R_lt (by (with_reducible repeat (first|apply Kd.R_alloc|apply Kd.R_drewN|apply Kd.R_drew));exact a9.out))) (Kd.S_lt (zzS a0.out))) (zzo zzh1));have b0:=zzm (zzp zzh1 hb);clear a2 a9 a0 HB;have a2:=a3;have a9:=a4;have a0:=a5;have b3:=a8;have HB:=b0;clear a3 a4 a5 a8 b0;(try clear hb);(try clear hb2);(try clear hk);(try clear hi);(try clear ho0);obtain ⟨o8,o9,eo33⟩:=Kd.R_slice b3.out;subst eo33)|((with_reducible refine gate_callee (f:=8) rfl ?_);refine goesL_ (some 48) rfl rfl Try.func8 (by kernel_rfl) rfl #[.slice e6 b7.length e7,.slice o8 e8.length o9] rfl zzM2 ?_;(with_reducible refine (Qe.calls d7 _ _ b7 _ _ e8 true _ ?side1 ?side2 ?side3 ?side4 n1.out).mono ?_);(case side1=>repeat (first|exact (Kd.R_reads' a9.out).2.2|(with_reducible refine Kd.C_alloc ?_ _)|(with_reducible refine Kd.C_drewN ?_ _)|(with_reducible refine Kd.C_drew ?_)));(case side2=>exact (Kd.R_reads' a9.out).2.1);(case side3=>repeat (first|exact (Kd.R_reads' b3.out).2.2|(with_reducible refine Kd.C_alloc ?_ _)|(with_reducible refine Kd.C_drewN ?_ _)|(with_reducible refine Kd.C_drew ?_)));(case side4=>exact (Kd.R_reads' b3.out).2.1);rintro e s9 ⟨rfl,hb⟩;refine ⟨_,rfl,?_⟩;have a3:=zzm (Kd.R_below (by (with_reducible repeat (first|apply Kd.R_alloc|apply Kd.R_drewN|apply Kd.R_drew));exact a2.out) hb);have a4:=zzm (Kd.R_below (by (with_reducible repeat (first|apply Kd.R_alloc|apply Kd.R_drewN|apply Kd.R_drew));exact a9.out) hb);have a5:=zzm (Kd.S_below (zzS a0.out) hb);have a8:=zzm (Kd.R_below (by (with_reducible repeat (first|apply Kd.R_alloc|apply Kd.R_drewN|apply Kd.R_drew));exact b3.out) hb);have b0:=zzm (zzp zzh1 hb);clear a2 a9 a0 b3 HB;have a2:=a3;have a9:=a4;have a0:=a5;have b3:=a8;have HB:=b0;clear a3 a4 a5 a8 b0;(try clear hb);(try clear hb2);(try clear hk);(try clear hi))|((with_reducible refine gate_callee (f:=9) rfl ?_);refine goesL_ (some 52) rfl rfl Try.func9 (by kernel_rfl) rfl #[.slice e6 b7.length e7,.int .i64 1] rfl zzM2 ?_;(with_reducible refine (Q3.loose (fun k_=>B1≤k_∧k_ < B2) (.slice e6 b7.length e7) b7 1 g6 o6 w _ ?side1 ?side2 q4.out).mono ?_);(case side1=>repeat (first|(with_reducible first|exact HB.out|apply zza|apply zzb|apply zzc)|exact HB.out));(case side2=>exact (show Kd.R k39 39 _ w.heap.size (fun k_=>B1≤k_∧k_ < B2) _ _ from by first|exact a9.out|exact Kd.R_mono a9.out (fun _ hk=>hk.1)|exact Kd.R_mono a9.out (fun _ hk=>hk.1.1)|exact Kd.R_mono a9.out (fun _ hk=>hk.1.1.1)));rintro e n2 ⟨rfl,hb,hkp⟩;refine ⟨_,rfl,?_⟩;have a3:=zzm (Kd.R_mono (Kd.R_keptB (show Kd.R k39 39 _ w.heap.size (fun k_=>k_ < B1∧k_ < B2) _ _ from by first|exact a2.out|exact Kd.R_mono a2.out (fun _ hk=>hk.1)|exact Kd.R_mono a2.out (fun _ hk=>hk.1.1)|exact Kd.R_mono a2.out (fun _ hk=>hk.1.1.1)) hkp (fun k_ hk_ hs_=>absurd hs_.1 (Nat.not_le.mpr hk_.1))) (fun k_ hk_=>hk_.1));have a4:=zzm (Kd.R_nil k39 39 n2 w.heap.size (fun _=>True));have a5:=zzm (Kd.S_mono (Kd.S_keptB (show Kd.S kAB 39 _ w.heap.size (fun k_=>B2≤k_) _ _ from by first|exact a0.out|exact Kd.S_mono a0.out (fun _ hk=>hk.1)|exact Kd.S_mono a0.out (fun _ hk=>hk.1.1)|exact Kd.S_mono a0.out (fun _ hk=>hk.1.1.1)) hkp (fun k_ hk_ hs_=>absurd hs_.2 (Nat.not_lt.mpr hk_))) (fun k_ hk_=>hk_.1));have a8:=zzm (Kd.R_nil k39 39 n2 w.heap.size (fun _=>True));have b0:=zzm (hb);clear a2 a9 a0 b3 HB;have a2:=a3;have a9:=a4;have a0:=a5;have b3:=a8;have HB:=b0;clear a3 a4 a5 a8 b0;(try clear hb);(try clear hkp);(try clear hy0)))
      (try simp only [Act.put,zzq,zzr,zzs]);go_cut [65] (fun q5 wc=>∃ (kq:Nat) (e4:Bool),q5 = .bool e4∧Aside0 (laws_FnExactCompactLog.j1 kq l0 a1 b2 b8 a6 e4=some r)∧Aside0 (kq≤d7)∧Aside0 (Kd.R k39 39 wc w.heap.size (fun k_=>k_ < B1∧k_ < B2) k8 b2)∧Aside0 (Kd.S kAB 39 wc w.heap.size (fun k_=>B2≤k_) k9 a6)∧Aside0 (Below w.heap.size w wc))
      case first=>
       have H:=j5.out;clear j5;by_cases g0:g6 < 0
       ·
        rw [if_pos g0] at H;have d5:decide (g6 < 0)=true:=decide_eq_true g0;clear g0
        (first|rw [d5]|(simp only [i64_w,i32_w];rw [d5])|skip);have H':=zzm H;clear H;go_wp2;go_meet
        case rel=>exact ⟨_,(true),(by first|rfl|(simp;done)|(simp [*];done)),H',⟨by have:=HJ9.out;first|omega|exact Nat.le_refl _⟩,⟨by (with_reducible repeat (first|apply Kd.R_alloc|apply Kd.R_drewN|apply Kd.R_drew));exact (show Kd.R k39 39 _ w.heap.size (fun k_=>k_ < B1∧k_ < B2) _ _ from by first|exact a2.out|exact Kd.R_mono a2.out (fun _ hk=>hk.1)|exact Kd.R_mono a2.out (fun _ hk=>hk.1.1)|exact Kd.R_mono a2.out (fun _ hk=>hk.1.1.1))⟩,⟨by (with_reducible repeat (first|apply Kd.S_alloc|apply Kd.S_drewN|apply Kd.S_drew));exact (show Kd.S kAB 39 _ w.heap.size (fun k_=>B2≤k_) _ _ from by first|exact a0.out|exact Kd.S_mono a0.out (fun _ hk=>hk.1)|exact Kd.S_mono a0.out (fun _ hk=>hk.1.1)|exact Kd.S_mono a0.out (fun _ hk=>hk.1.1.1))⟩,⟨zzh1⟩⟩
       ·
        rw [if_neg g0] at H;have d5:decide (g6 < 0)=false:=decide_eq_false g0;clear g0
        (first|rw [d5]|(simp only [i64_w,i32_w];rw [d5])|skip);obtain ⟨j4,n3,H⟩:=zzG H;by_cases h2:j4=true
        ·
         subst h2;replace H:=zzIt H;have H':=zzm H;clear H;obtain ⟨r1,r2,eo39⟩:=Kd.S_slice a0.out;subst eo39;obtain ⟨r3,r4,eo40⟩:=Kd.R_slice a2.out;subst eo40;go_wp2_with (first|(go_at_call 8;(with_reducible refine (Qe.calls d7 _ _ a6 _ _ b2 true _ ?side1 ?side2 ?side3 ?side4 n3.out).mono ?_);(case side1=>repeat (first|exact (AB_reads' a0.out).2.2|(with_reducible refine Kd.C_alloc ?_ _)|(with_reducible refine Kd.C_drewN ?_ _)|(with_reducible refine Kd.C_drew ?_)));(case side2=>exact (AB_reads' a0.out).2.1);(case side3=>repeat (first|exact (Kd.R_reads' a2.out).2.2|(with_reducible refine Kd.C_alloc ?_ _)|(with_reducible refine Kd.C_drewN ?_ _)|(with_reducible refine Kd.C_drew ?_)));(case side4=>exact (Kd.R_reads' a2.out).2.1);rintro e t0 ⟨rfl,hb⟩;have a3:=zzm (Kd.R_below (by (with_reducible repeat (first|apply Kd.R_alloc|apply Kd.R_drewN|apply Kd.R_drew));exact a2.out) hb);have a4:=zzm (Kd.R_below (by (with_reducible repeat (first|apply Kd.R_alloc|apply Kd.R_drewN|apply Kd.R_drew));exact a9.out) hb);have a5:=zzm (Kd.S_below (zzS a0.out) hb);have a8:=zzm (Kd.R_below (by (with_reducible repeat (first|apply Kd.R_alloc|apply Kd.R_drewN|apply Kd.R_drew));exact b3.out) hb);have b0:=zzm (zzp zzh1 hb);clear a2 a9 a0 b3 HB;have a2:=a3;have a9:=a4;have a0:=a5;have b3:=a8;have HB:=b0;clear a3 a4 a5 a8 b0;(try clear hb);(try clear hb2);(try clear hk);(try clear hi)));go_meet
         case rel=>exact ⟨_,((d6 != b8)),(by first|rfl|(simp;done)|(simp [*];done)),H',⟨by have:=HJ9.out;first|omega|exact Nat.le_refl _⟩,⟨by (with_reducible repeat (first|apply Kd.R_alloc|apply Kd.R_drewN|apply Kd.R_drew));exact (show Kd.R k39 39 _ w.heap.size (fun k_=>k_ < B1∧k_ < B2) _ _ from by first|exact a2.out|exact Kd.R_mono a2.out (fun _ hk=>hk.1)|exact Kd.R_mono a2.out (fun _ hk=>hk.1.1)|exact Kd.R_mono a2.out (fun _ hk=>hk.1.1.1))⟩,⟨by (with_reducible repeat (first|apply Kd.S_alloc|apply Kd.S_drewN|apply Kd.S_drew));exact (show Kd.S kAB 39 _ w.heap.size (fun k_=>B2≤k_) _ _ from by first|exact a0.out|exact Kd.S_mono a0.out (fun _ hk=>hk.1)|exact Kd.S_mono a0.out (fun _ hk=>hk.1.1)|exact Kd.S_mono a0.out (fun _ hk=>hk.1.1.1))⟩,⟨zzh1⟩⟩
        ·
         replace h2:=Bool.eq_false_iff.mpr h2;subst h2;replace H:=zzIf H;have H':=zzm H;clear H;obtain ⟨r5,r6,eo42⟩:=Kd.S_slice a0.out;subst eo42;obtain ⟨r7,r8,eo43⟩:=Kd.R_slice a2.out;subst eo43;go_wp2_with (first|(go_at_call 8;(with_reducible refine (Qe.calls d7 _ _ a6 _ _ b2 false _ ?side1 ?side2 ?side3 ?side4 n3.out).mono ?_);(case side1=>repeat (first|exact (AB_reads' a0.out).2.2|(with_reducible refine Kd.C_alloc ?_ _)|(with_reducible refine Kd.C_drewN ?_ _)|(with_reducible refine Kd.C_drew ?_)));(case side2=>exact (AB_reads' a0.out).2.1);(case side3=>repeat (first|exact (Kd.R_reads' a2.out).2.2|(with_reducible refine Kd.C_alloc ?_ _)|(with_reducible refine Kd.C_drewN ?_ _)|(with_reducible refine Kd.C_drew ?_)));(case side4=>exact (Kd.R_reads' a2.out).2.1);rintro e t1 ⟨rfl,hb⟩;have a3:=zzm (Kd.R_below (by (with_reducible repeat (first|apply Kd.R_alloc|apply Kd.R_drewN|apply Kd.R_drew));exact a2.out) hb);have a4:=zzm (Kd.R_below (by (with_reducible repeat (first|apply Kd.R_alloc|apply Kd.R_drewN|apply Kd.R_drew));exact a9.out) hb);have a5:=zzm (Kd.S_below (zzS a0.out) hb);have a8:=zzm (Kd.R_below (by (with_reducible repeat (first|apply Kd.R_alloc|apply Kd.R_drewN|apply Kd.R_drew));exact b3.out) hb);have b0:=zzm (zzp zzh1 hb);clear a2 a9 a0 b3 HB;have a2:=a3;have a9:=a4;have a0:=a5;have b3:=a8;have HB:=b0;clear a3 a4 a5 a8 b0;(try clear hb);(try clear hb2);(try clear hk);(try clear hi)));go_meet
         case rel=>exact ⟨_,(true),(by first|rfl|(simp;done)|(simp [*];done)),H',⟨by have:=HJ9.out;first|omega|exact Nat.le_refl _⟩,⟨by (with_reducible repeat (first|apply Kd.R_alloc|apply Kd.R_drewN|apply Kd.R_drew));exact (show Kd.R k39 39 _ w.heap.size (fun k_=>k_ < B1∧k_ < B2) _ _ from by first|exact a2.out|exact Kd.R_mono a2.out (fun _ hk=>hk.1)|exact Kd.R_mono a2.out (fun _ hk=>hk.1.1)|exact Kd.R_mono a2.out (fun _ hk=>hk.1.1.1))⟩,⟨by (with_reducible repeat (first|apply Kd.S_alloc|apply Kd.S_drewN|apply Kd.S_drew));exact (show Kd.S kAB 39 _ w.heap.size (fun k_=>B2≤k_) _ _ from by first|exact a0.out|exact Kd.S_mono a0.out (fun _ hk=>hk.1)|exact Kd.S_mono a0.out (fun _ hk=>hk.1.1)|exact Kd.S_mono a0.out (fun _ hk=>hk.1.1.1))⟩,⟨zzh1⟩⟩
      case rest=>
       clear j5;try clear c1
       try clear c2
       try clear p2
       try clear c3
       try clear c4
       try clear h5
       try clear c5
       try clear c6
       try clear c7
       try clear c8
       try clear c9
       try clear g5
       try clear h0
       try clear h1
       try clear g0
       try clear d5
       try clear h2
       try clear p2
       obtain ⟨kq,e4,rfl,HA,HJ30,a2,a0,HB⟩:=hcut;cases kq with
       | zero=>exact absurd HA.out (by simp [laws_FnExactCompactLog.j1])
       | succ b9=>
        have H:=HA.out;clear HA;simp only [laws_FnExactCompactLog.j1] at H;by_cases h6:e4=true
        ·
         subst h6;replace H:=zzIt H;obtain rfl:=Option.some.inj H;go_wp2;go_ret;exact ⟨zzR,zzh1⟩
        ·
         replace h6:=Bool.eq_false_iff.mpr h6;subst h6;replace H:=zzIf H;replace H:=zzH H;obtain ⟨⟨d3,b1⟩,l3,H⟩:=H;replace H:((Qm.f b9 b1 1).bind fun d4=>(if d4 < 0 then (some false) else (if d4=d3 then ((Qk.f b9 l0).bind fun g7=>((Q1.f b9 g7 a1).bind fun k3=>((Qe.f b9 k3.1 b2).bind fun g8=>(if g8=true then (laws_FnExactCompactLog.j2 b9 b1 d3 (k3.2 != b8)) else (laws_FnExactCompactLog.j2 b9 b1 d3 true))))) else (some false))))=some r:=H;have l4:=zzm l3;clear l3;obtain ⟨d4,l5,H⟩:=zzG H;by_cases g9:d4 < 0
         ·
          rw [if_pos g9] at H;have k4:decide (d4 < 0)=true:=decide_eq_true g9;clear g9;obtain rfl:=Option.some.inj H;obtain ⟨j6,j7,eo49⟩:=Kd.S_slice a0.out;subst eo49;go_wp2_with (first|((with_reducible refine gate_callee (f:=9) rfl ?_);refine goesL_ (some 68) rfl rfl Try.func9 (by kernel_rfl) rfl #[.slice j6 a6.length j7,.int .i64 1] rfl zzM2 ?_;(with_reducible refine (Q3.calls (fun k_=>B2≤k_) (.slice j6 a6.length j7) a6 1 d3 b1 w _ ?side1 ?side2 l4.out).mono ?_);(case side1=>repeat (first|(with_reducible first|exact HB.out|apply zza|apply zzb|apply zzc)|exact HB.out));(case side2=>exact (show Kd.S kAB 39 _ w.heap.size (fun k_=>B2≤k_) _ _ from by first|exact a0.out|exact Kd.S_mono a0.out (fun _ hk=>hk.1)|exact Kd.S_mono a0.out (fun _ hk=>hk.1.1)|exact Kd.S_mono a0.out (fun _ hk=>hk.1.1.1)));rintro e t2 ⟨rfl,hy0,hb,hkp⟩;refine ⟨_,rfl,?_⟩;have a3:=zzm (Kd.R_mono (Kd.R_keptB (show Kd.R k39 39 _ w.heap.size (fun k_=>k_ < B1∧k_ < B2) _ _ from by first|exact a2.out|exact Kd.R_mono a2.out (fun _ hk=>hk.1)|exact Kd.R_mono a2.out (fun _ hk=>hk.1.1)|exact Kd.R_mono a2.out (fun _ hk=>hk.1.1.1)) hkp (fun k_ hk_ hs_=>absurd hs_ (Nat.not_le.mpr hk_.2))) (fun k_ hk_=>hk_.1));have a4:=zzm hy0;have a5:=zzm (hb);clear a2 a0 HB;have a2:=a3;have a0:=a4;have HB:=a5;clear a3 a4 a5;(try clear hb);(try clear hkp);(try clear hy0))|((with_reducible refine gate_callee (f:=10) rfl ?_);refine goesL_ (some 71) rfl rfl Try.func10 (by kernel_rfl) rfl #[.slice j6 b1.length j7,.int .i64 1] rfl (by (try simp only [map_toArray,map_cons,map_nil]);first|done|(rw [show b1.length=a6.length from (AB_reads' a0.out).1.symm] <;> rfl)|rfl|(simp only [length_drop,length_take];rfl)) ?_;(with_reducible refine (Qm.calls b9 _ _ b1 1 d4 _ ?side1 ?side2 l5.out).mono ?_);(case side1=>repeat (first|exact (AB_reads' a0.out).2.2|(with_reducible refine Kd.C_alloc ?_ _)|(with_reducible refine Kd.C_drewN ?_ _)|(with_reducible refine Kd.C_drew ?_)));(case side2=>rw [show b1.length=a6.length from (AB_reads' a0.out).1.symm];exact (AB_reads' a0.out).2.1);rintro e w' ⟨rfl,⟨nd,rfl⟩⟩;refine ⟨_,rfl,?_⟩));go_ret;exact ⟨zzR,zzh1⟩
         ·
          rw [if_neg g9] at H;have k4:decide (d4 < 0)=false:=decide_eq_false g9;clear g9;by_cases h3:d4=d3
          ·
           rw [if_pos h3] at H;obtain ⟨k5,k6⟩:=zzQ h3;clear h3;obtain ⟨g7,q6,H⟩:=zzG H;replace H:=zzH H;obtain ⟨⟨e9,j8⟩,l6,H⟩:=H;replace H:((Qe.f b9 e9 b2).bind fun g8=>(if g8=true then (laws_FnExactCompactLog.j2 b9 b1 d3 (j8 != b8)) else (laws_FnExactCompactLog.j2 b9 b1 d3 true)))=some r:=H;have q7:=zzm l6;clear l6;have j9:=zzm H;clear H;obtain ⟨e1,e2,eo55⟩:=Kd.S_slice a0.out;subst eo55;go_upto_region 25 with (first|((with_reducible refine gate_callee (f:=9) rfl ?_);refine goesL_ (some 68) rfl rfl Try.func9 (by kernel_rfl) rfl #[.slice e1 a6.length e2,.int .i64 1] rfl zzM2 ?_;(with_reducible refine (Q3.calls (fun k_=>B2≤k_) (.slice e1 a6.length e2) a6 1 d3 b1 w _ ?side1 ?side2 l4.out).mono ?_);(case side1=>repeat (first|(with_reducible first|exact HB.out|apply zza|apply zzb|apply zzc)|exact HB.out));(case side2=>exact (show Kd.S kAB 39 _ w.heap.size (fun k_=>B2≤k_) _ _ from by first|exact a0.out|exact Kd.S_mono a0.out (fun _ hk=>hk.1)|exact Kd.S_mono a0.out (fun _ hk=>hk.1.1)|exact Kd.S_mono a0.out (fun _ hk=>hk.1.1.1)));rintro e t3 ⟨rfl,hy0,hb,hkp⟩;refine ⟨_,rfl,?_⟩;have a3:=zzm (Kd.R_mono (Kd.R_keptB (show Kd.R k39 39 _ w.heap.size (fun k_=>k_ < B1∧k_ < B2) _ _ from by first|exact a2.out|exact Kd.R_mono a2.out (fun _ hk=>hk.1)|exact Kd.R_mono a2.out (fun _ hk=>hk.1.1)|exact Kd.R_mono a2.out (fun _ hk=>hk.1.1.1)) hkp (fun k_ hk_ hs_=>absurd hs_ (Nat.not_le.mpr hk_.2))) (fun k_ hk_=>hk_.1));have a4:=zzm hy0;have a5:=zzm (hb);clear a2 a0 HB;have a2:=a3;have a0:=a4;have HB:=a5;clear a3 a4 a5;(try clear hb);(try clear hkp);(try clear hy0))|((with_reducible refine gate_callee (f:=10) rfl ?_);refine goesL_ (some 71) rfl rfl Try.func10 (by kernel_rfl) rfl #[.slice e1 b1.length e2,.int .i64 1] rfl (by (try simp only [map_toArray,map_cons,map_nil]);first|done|(rw [show b1.length=a6.length from (AB_reads' a0.out).1.symm] <;> rfl)|rfl|(simp only [length_drop,length_take];rfl)) ?_;(with_reducible refine (Qm.calls b9 _ _ b1 1 d4 _ ?side1 ?side2 l5.out).mono ?_);(case side1=>repeat (first|exact (AB_reads' a0.out).2.2|(with_reducible refine Kd.C_alloc ?_ _)|(with_reducible refine Kd.C_drewN ?_ _)|(with_reducible refine Kd.C_drew ?_)));(case side2=>rw [show b1.length=a6.length from (AB_reads' a0.out).1.symm];exact (AB_reads' a0.out).2.1);rintro e w' ⟨rfl,⟨nd,rfl⟩⟩;refine ⟨_,rfl,?_⟩)|((with_reducible refine gate_callee (f:=6) rfl ?_);refine goesL_ (some 79) rfl rfl Try.func6 (by kernel_rfl) rfl #[.slice A0 l0.length c0] rfl zzM2 ?_;(with_reducible refine (Qk.calls b9 _ _ l0 g7 _ ?side1 ?side2 q6.out).mono ?_);(case side1=>repeat (first|exact (Kd.C_below g2.out zzh1)|(with_reducible refine Kd.C_alloc ?_ _)|(with_reducible refine Kd.C_drewN ?_ _)|(with_reducible refine Kd.C_drew ?_)));(case side2=>exact g3.out);rintro e t4 ⟨r9,rfl,ho0,hb⟩;refine ⟨_,rfl,?_⟩;have a3:=zzm (Kd.R_elder' (by (with_reducible repeat (first|apply Kd.R_alloc|apply Kd.R_drewN|apply Kd.R_drew));exact a2.out) (Kd.R_base ho0) hb);have a4:=zzm (Kd.S_elder' (zzS a0.out) (Kd.R_base ho0) hb);have a5:=zzm (Kd.R_lower (Kd.R_new' (Kd.R_new' ho0 (Kd.R_lt (by (with_reducible repeat (first|apply Kd.R_alloc|apply Kd.R_drewN|apply Kd.R_drew));exact a2.out))) (Kd.S_lt (zzS a0.out))) (zzo zzh1));have a8:=zzm (zzp zzh1 hb);clear a2 a0 HB;have a2:=a3;have a0:=a4;have d1:=a5;have HB:=a8;clear a3 a4 a5 a8;(try clear hb);(try clear hb2);(try clear hk);(try clear hi);(try clear ho0);obtain ⟨p0,p1,eo58⟩:=Kd.R_slice d1.out;subst eo58)|((with_reducible refine gate_callee (f:=7) rfl ?_);refine goesL_ (some 81) rfl rfl Try.func7 (by kernel_rfl) rfl #[.slice p0 g7.length p1,.bool a1] rfl zzM2 ?_;(with_reducible refine (Q1.calls b9 _ _ g7 a1 e9 j8 _ ?side1 ?side2 q7.out).mono ?_);(case side1=>repeat (first|exact (Kd.R_reads' d1.out).2.2|(with_reducible refine Kd.C_alloc ?_ _)|(with_reducible refine Kd.C_drewN ?_ _)|(with_reducible refine Kd.C_drew ?_)));(case side2=>exact (Kd.R_reads' d1.out).2.1);rintro e t5 ⟨s0,rfl,ho0,hb⟩;replace ho0:=Kd.S_R (S_weakAB ho0);refine ⟨_,rfl,?_⟩;have a3:=zzm (Kd.R_elder' (by (with_reducible repeat (first|apply Kd.R_alloc|apply Kd.R_drewN|apply Kd.R_drew));exact a2.out) (Kd.R_base ho0) hb);have a4:=zzm (Kd.S_elder' (zzS a0.out) (Kd.R_base ho0) hb);have a5:=zzm (Kd.R_elder' (by (with_reducible repeat (first|apply Kd.R_alloc|apply Kd.R_drewN|apply Kd.R_drew));exact d1.out) (Kd.R_base ho0) hb);have a8:=zzm (Kd.R_lower (Kd.R_new' (Kd.R_new' (Kd.R_new' ho0 (Kd.R_lt (by (with_reducible repeat (first|apply Kd.R_alloc|apply Kd.R_drewN|apply Kd.R_drew));exact a2.out))) (Kd.S_lt (zzS a0.out))) (Kd.R_lt (by (with_reducible repeat (first|apply Kd.R_alloc|apply Kd.R_drewN|apply Kd.R_drew));exact d1.out))) (zzo zzh1));have b0:=zzm (zzp zzh1 hb);clear a2 a0 d1 HB;have a2:=a3;have a0:=a4;have d1:=a5;have d2:=a8;have HB:=b0;clear a3 a4 a5 a8 b0;(try clear hb);(try clear hb2);(try clear hk);(try clear hi);(try clear ho0)))
           (try simp only [Act.put,zzq,zzr,zzs]);go_cut [92] (fun q8 wc=>∃ (kq:Nat) (e5:Bool),q8 = .bool e5∧Aside0 (laws_FnExactCompactLog.j2 kq b1 d3 e5=some r)∧Aside0 (kq≤b9)∧Aside0 (Kd.S kAB 39 wc w.heap.size (fun k_=>B2≤k_) (.slice e1 a6.length e2) b1)∧Aside0 (Below w.heap.size w wc))
           case first=>
            have H:=j9.out;clear j9;obtain ⟨g8,n4,H⟩:=zzG H;by_cases h7:g8=true
            ·
             subst h7;replace H:=zzIt H;have H':=zzm H;clear H;obtain ⟨p3,p4,eo62⟩:=Kd.R_slice d2.out;subst eo62;obtain ⟨p5,p6,eo63⟩:=Kd.R_slice a2.out;subst eo63;go_wp2_with (first|((with_reducible refine gate_callee (f:=8) rfl ?_);refine goesL_ (some 86) rfl rfl Try.func8 (by kernel_rfl) rfl #[.slice p3 e9.length p4,.slice p5 b2.length p6] rfl zzM2 ?_;(with_reducible refine (Qe.calls b9 _ _ e9 _ _ b2 true _ ?side1 ?side2 ?side3 ?side4 n4.out).mono ?_);(case side1=>repeat (first|exact (Kd.R_reads' d2.out).2.2|(with_reducible refine Kd.C_alloc ?_ _)|(with_reducible refine Kd.C_drewN ?_ _)|(with_reducible refine Kd.C_drew ?_)));(case side2=>exact (Kd.R_reads' d2.out).2.1);(case side3=>repeat (first|exact (Kd.R_reads' a2.out).2.2|(with_reducible refine Kd.C_alloc ?_ _)|(with_reducible refine Kd.C_drewN ?_ _)|(with_reducible refine Kd.C_drew ?_)));(case side4=>exact (Kd.R_reads' a2.out).2.1);rintro e t6 ⟨rfl,hb⟩;refine ⟨_,rfl,?_⟩;have a3:=zzm (Kd.R_below (by (with_reducible repeat (first|apply Kd.R_alloc|apply Kd.R_drewN|apply Kd.R_drew));exact a2.out) hb);have a4:=zzm (Kd.S_below (zzS a0.out) hb);have a5:=zzm (Kd.R_below (by (with_reducible repeat (first|apply Kd.R_alloc|apply Kd.R_drewN|apply Kd.R_drew));exact d1.out) hb);have a8:=zzm (Kd.R_below (by (with_reducible repeat (first|apply Kd.R_alloc|apply Kd.R_drewN|apply Kd.R_drew));exact d2.out) hb);have b0:=zzm (zzp zzh1 hb);clear a2 a0 d1 d2 HB;have a2:=a3;have a0:=a4;have d1:=a5;have d2:=a8;have HB:=b0;clear a3 a4 a5 a8 b0;(try clear hb);(try clear hb2);(try clear hk);(try clear hi)));go_meet
             case rel=>exact ⟨_,((j8 != b8)),(by first|rfl|(simp;done)|(simp [*];done)),H',⟨by have:=HJ9.out;have:=HJ30.out;first|omega|exact Nat.le_refl _⟩,⟨by (with_reducible repeat (first|apply Kd.S_alloc|apply Kd.S_drewN|apply Kd.S_drew));exact (show Kd.S kAB 39 _ w.heap.size (fun k_=>B2≤k_) _ _ from by first|exact a0.out|exact Kd.S_mono a0.out (fun _ hk=>hk.1)|exact Kd.S_mono a0.out (fun _ hk=>hk.1.1)|exact Kd.S_mono a0.out (fun _ hk=>hk.1.1.1))⟩,⟨zzh1⟩⟩
            ·
             replace h7:=Bool.eq_false_iff.mpr h7;subst h7;replace H:=zzIf H;have H':=zzm H;clear H;obtain ⟨p7,p8,eo65⟩:=Kd.R_slice d2.out;subst eo65;obtain ⟨p9,q0,eo66⟩:=Kd.R_slice a2.out;subst eo66;go_wp2_with (first|((with_reducible refine gate_callee (f:=8) rfl ?_);refine goesL_ (some 86) rfl rfl Try.func8 (by kernel_rfl) rfl #[.slice p7 e9.length p8,.slice p9 b2.length q0] rfl zzM2 ?_;(with_reducible refine (Qe.calls b9 _ _ e9 _ _ b2 false _ ?side1 ?side2 ?side3 ?side4 n4.out).mono ?_);(case side1=>repeat (first|exact (Kd.R_reads' d2.out).2.2|(with_reducible refine Kd.C_alloc ?_ _)|(with_reducible refine Kd.C_drewN ?_ _)|(with_reducible refine Kd.C_drew ?_)));(case side2=>exact (Kd.R_reads' d2.out).2.1);(case side3=>repeat (first|exact (Kd.R_reads' a2.out).2.2|(with_reducible refine Kd.C_alloc ?_ _)|(with_reducible refine Kd.C_drewN ?_ _)|(with_reducible refine Kd.C_drew ?_)));(case side4=>exact (Kd.R_reads' a2.out).2.1);rintro e t7 ⟨rfl,hb⟩;refine ⟨_,rfl,?_⟩;have a3:=zzm (Kd.R_below (by (with_reducible repeat (first|apply Kd.R_alloc|apply Kd.R_drewN|apply Kd.R_drew));exact a2.out) hb);have a4:=zzm (Kd.S_below (zzS a0.out) hb);have a5:=zzm (Kd.R_below (by (with_reducible repeat (first|apply Kd.R_alloc|apply Kd.R_drewN|apply Kd.R_drew));exact d1.out) hb);have a8:=zzm (Kd.R_below (by (with_reducible repeat (first|apply Kd.R_alloc|apply Kd.R_drewN|apply Kd.R_drew));exact d2.out) hb);have b0:=zzm (zzp zzh1 hb);clear a2 a0 d1 d2 HB;have a2:=a3;have a0:=a4;have d1:=a5;have d2:=a8;have HB:=b0;clear a3 a4 a5 a8 b0;(try clear hb);(try clear hb2);(try clear hk);(try clear hi)));go_meet
             case rel=>exact ⟨_,(true),(by first|rfl|(simp;done)|(simp [*];done)),H',⟨by have:=HJ9.out;have:=HJ30.out;first|omega|exact Nat.le_refl _⟩,⟨by (with_reducible repeat (first|apply Kd.S_alloc|apply Kd.S_drewN|apply Kd.S_drew));exact (show Kd.S kAB 39 _ w.heap.size (fun k_=>B2≤k_) _ _ from by first|exact a0.out|exact Kd.S_mono a0.out (fun _ hk=>hk.1)|exact Kd.S_mono a0.out (fun _ hk=>hk.1.1)|exact Kd.S_mono a0.out (fun _ hk=>hk.1.1.1))⟩,⟨zzh1⟩⟩
           case rest=>
            clear j9;try clear c1
            try clear c2
            try clear p2
            try clear c3
            try clear c4
            try clear h5
            try clear c5
            try clear c6
            try clear c7
            try clear c8
            try clear c9
            try clear t8
            try clear g5
            try clear h0
            try clear h1
            try clear g0
            try clear d5
            try clear h2
            try clear h6
            try clear g9
            try clear k4
            try clear h3
            try clear k5
            try clear k6
            try clear h7
            try clear p2
            obtain ⟨kq,e5,rfl,HA,HJ53,a0,HB⟩:=hcut;have h8:=(AB_reads' a0.out).1;rw [h8] at a0
            (try simp only [h8]);cases kq with
            | zero=>exact absurd HA.out (by simp [laws_FnExactCompactLog.j2])
            | succ k0=>
             have H:=HA.out;clear HA;simp only [laws_FnExactCompactLog.j2] at H;by_cases k7:e5=true
             ·
              subst k7;replace H:=zzIt H;obtain rfl:=Option.some.inj H;go_wp2;go_ret;exact ⟨zzR,zzh1⟩
             ·
              replace k7:=Bool.eq_false_iff.mpr k7;subst k7;replace H:=zzIf H;obtain ⟨e3,l7,H⟩:=zzG H;by_cases h4:e3 < 0
              ·
               rw [if_pos h4] at H;have l8:decide (e3 < 0)=true:=decide_eq_true h4;clear h4;obtain rfl:=Option.some.inj H;go_wp2_with (first|((with_reducible refine gate_callee (f:=10) rfl ?_);refine goesL_ (some 95) rfl rfl Try.func10 (by kernel_rfl) rfl #[.slice e1 b1.length e2,.int .i64 1] rfl zzM2 ?_;(with_reducible refine (Qm.calls k0 _ _ b1 1 e3 _ ?side1 ?side2 l7.out).mono ?_);(case side1=>repeat (first|exact (AB_reads' a0.out).2.2|(with_reducible refine Kd.C_alloc ?_ _)|(with_reducible refine Kd.C_drewN ?_ _)|(with_reducible refine Kd.C_drew ?_)));(case side2=>exact (AB_reads' a0.out).2.1);rintro e w' ⟨rfl,⟨nd,rfl⟩⟩;refine ⟨_,rfl,?_⟩));go_ret;exact ⟨zzR,zzh1⟩
              ·
               rw [if_neg h4] at H;have l8:decide (e3 < 0)=false:=decide_eq_false h4;clear h4;by_cases h9:e3=d3
               ·
                rw [if_pos h9] at H;obtain ⟨l9,m0⟩:=zzQ h9;clear h9;obtain rfl:=Option.some.inj H;go_wp2_with (first|((with_reducible refine gate_callee (f:=10) rfl ?_);refine goesL_ (some 95) rfl rfl Try.func10 (by kernel_rfl) rfl #[.slice e1 b1.length e2,.int .i64 1] rfl zzM2 ?_;(with_reducible refine (Qm.calls k0 _ _ b1 1 e3 _ ?side1 ?side2 l7.out).mono ?_);(case side1=>repeat (first|exact (AB_reads' a0.out).2.2|(with_reducible refine Kd.C_alloc ?_ _)|(with_reducible refine Kd.C_drewN ?_ _)|(with_reducible refine Kd.C_drew ?_)));(case side2=>exact (AB_reads' a0.out).2.1);rintro e w' ⟨rfl,⟨nd,rfl⟩⟩;refine ⟨_,rfl,?_⟩));go_ret;exact ⟨zzR,zzh1⟩
               ·
                rw [if_neg h9] at H;obtain ⟨l9,m0⟩:=zzY h9;obtain rfl:=Option.some.inj H;go_wp2_with (first|((with_reducible refine gate_callee (f:=10) rfl ?_);refine goesL_ (some 95) rfl rfl Try.func10 (by kernel_rfl) rfl #[.slice e1 b1.length e2,.int .i64 1] rfl zzM2 ?_;(with_reducible refine (Qm.calls k0 _ _ b1 1 e3 _ ?side1 ?side2 l7.out).mono ?_);(case side1=>repeat (first|exact (AB_reads' a0.out).2.2|(with_reducible refine Kd.C_alloc ?_ _)|(with_reducible refine Kd.C_drewN ?_ _)|(with_reducible refine Kd.C_drew ?_)));(case side2=>exact (AB_reads' a0.out).2.1);rintro e w' ⟨rfl,⟨nd,rfl⟩⟩;refine ⟨_,rfl,?_⟩));go_ret;exact ⟨zzR,zzh1⟩
          ·
           rw [if_neg h3] at H;obtain ⟨k5,k6⟩:=zzY h3;obtain rfl:=Option.some.inj H;obtain ⟨k1,k2,eo72⟩:=Kd.S_slice a0.out;subst eo72;go_wp2_with (first|((with_reducible refine gate_callee (f:=9) rfl ?_);refine goesL_ (some 68) rfl rfl Try.func9 (by kernel_rfl) rfl #[.slice k1 a6.length k2,.int .i64 1] rfl zzM2 ?_;(with_reducible refine (Q3.calls (fun k_=>B2≤k_) (.slice k1 a6.length k2) a6 1 d3 b1 w _ ?side1 ?side2 l4.out).mono ?_);(case side1=>repeat (first|(with_reducible first|exact HB.out|apply zza|apply zzb|apply zzc)|exact HB.out));(case side2=>exact (show Kd.S kAB 39 _ w.heap.size (fun k_=>B2≤k_) _ _ from by first|exact a0.out|exact Kd.S_mono a0.out (fun _ hk=>hk.1)|exact Kd.S_mono a0.out (fun _ hk=>hk.1.1)|exact Kd.S_mono a0.out (fun _ hk=>hk.1.1.1)));rintro e t9 ⟨rfl,hy0,hb,hkp⟩;refine ⟨_,rfl,?_⟩;have a3:=zzm (Kd.R_mono (Kd.R_keptB (show Kd.R k39 39 _ w.heap.size (fun k_=>k_ < B1∧k_ < B2) _ _ from by first|exact a2.out|exact Kd.R_mono a2.out (fun _ hk=>hk.1)|exact Kd.R_mono a2.out (fun _ hk=>hk.1.1)|exact Kd.R_mono a2.out (fun _ hk=>hk.1.1.1)) hkp (fun k_ hk_ hs_=>absurd hs_ (Nat.not_le.mpr hk_.2))) (fun k_ hk_=>hk_.1));have a4:=zzm hy0;have a5:=zzm (hb);clear a2 a0 HB;have a2:=a3;have a0:=a4;have HB:=a5;clear a3 a4 a5;(try clear hb);(try clear hkp);(try clear hy0))|((with_reducible refine gate_callee (f:=10) rfl ?_);refine goesL_ (some 71) rfl rfl Try.func10 (by kernel_rfl) rfl #[.slice k1 b1.length k2,.int .i64 1] rfl (by (try simp only [map_toArray,map_cons,map_nil]);first|done|(rw [show b1.length=a6.length from (AB_reads' a0.out).1.symm] <;> rfl)|rfl|(simp only [length_drop,length_take];rfl)) ?_;(with_reducible refine (Qm.calls b9 _ _ b1 1 d4 _ ?side1 ?side2 l5.out).mono ?_);(case side1=>repeat (first|exact (AB_reads' a0.out).2.2|(with_reducible refine Kd.C_alloc ?_ _)|(with_reducible refine Kd.C_drewN ?_ _)|(with_reducible refine Kd.C_drew ?_)));(case side2=>rw [show b1.length=a6.length from (AB_reads' a0.out).1.symm];exact (AB_reads' a0.out).2.1);rintro e w' ⟨rfl,⟨nd,rfl⟩⟩;refine ⟨_,rfl,?_⟩));go_ret;exact ⟨zzR,zzh1⟩
     ·
      replace h1:=Bool.eq_false_iff.mpr h1;subst h1;replace H:=zzIf H;obtain rfl:=Option.some.inj H;go_wp2_with (first|((with_reducible refine gate_callee (f:=6) rfl ?_);refine goesL_ (some 47) rfl rfl Try.func6 (by kernel_rfl) rfl #[.slice A0 l0.length c0] rfl zzM2 ?_;(with_reducible refine (Qk.calls d7 _ _ l0 e8 _ ?side1 ?side2 n0.out).mono ?_);(case side1=>exact zzcb g2 HB);(case side2=>exact g3.out);rintro e v0 ⟨o7,rfl,ho0,hb⟩;refine ⟨_,rfl,?_⟩;have a3:=zzm (Kd.R_elder' (by (with_reducible repeat (first|apply Kd.R_alloc|apply Kd.R_drewN|apply Kd.R_drew));exact a2.out) (Kd.R_base ho0) hb);have a4:=zzm (Kd.R_elder' (by (with_reducible repeat (first|apply Kd.R_alloc|apply Kd.R_drewN|apply Kd.R_drew));exact a9.out) (Kd.R_base ho0) hb);have a5:=zzm (Kd.S_elder' (zzS a0.out) (Kd.R_base ho0) hb);have a8:=zzm (Kd.R_lower (Kd.R_new' (Kd.R_new' (Kd.R_new' ho0 (Kd.R_lt (by (with_reducible repeat (first|apply Kd.R_alloc|apply Kd.R_drewN|apply Kd.R_drew));exact a2.out))) (Kd.R_lt (by (with_reducible repeat (first|apply Kd.R_alloc|apply Kd.R_drewN|apply Kd.R_drew));exact a9.out))) (Kd.S_lt (zzS a0.out))) (zzo zzh1));have b0:=zzm (zzp zzh1 hb);clear a2 a9 a0 HB;have a2:=a3;have a9:=a4;have a0:=a5;have b3:=a8;have HB:=b0;clear a3 a4 a5 a8 b0;(try clear hb);(try clear hb2);(try clear hk);(try clear hi);(try clear ho0);obtain ⟨q1,q2,eo75⟩:=Kd.R_slice b3.out;subst eo75)|((with_reducible refine gate_callee (f:=8) rfl ?_);refine goesL_ (some 48) rfl rfl Try.func8 (by kernel_rfl) rfl #[.slice e6 b7.length e7,.slice q1 e8.length q2] rfl zzM2 ?_;(with_reducible refine (Qe.calls d7 _ _ b7 _ _ e8 false _ ?side1 ?side2 ?side3 ?side4 n1.out).mono ?_);(case side1=>repeat (first|exact (Kd.R_reads' a9.out).2.2|(with_reducible refine Kd.C_alloc ?_ _)|(with_reducible refine Kd.C_drewN ?_ _)|(with_reducible refine Kd.C_drew ?_)));(case side2=>exact (Kd.R_reads' a9.out).2.1);(case side3=>repeat (first|exact (Kd.R_reads' b3.out).2.2|(with_reducible refine Kd.C_alloc ?_ _)|(with_reducible refine Kd.C_drewN ?_ _)|(with_reducible refine Kd.C_drew ?_)));(case side4=>exact (Kd.R_reads' b3.out).2.1);rintro e v1 ⟨rfl,hb⟩;refine ⟨_,rfl,?_⟩;have a3:=zzm (Kd.R_below (by (with_reducible repeat (first|apply Kd.R_alloc|apply Kd.R_drewN|apply Kd.R_drew));exact a2.out) hb);have a4:=zzm (Kd.R_below (by (with_reducible repeat (first|apply Kd.R_alloc|apply Kd.R_drewN|apply Kd.R_drew));exact a9.out) hb);have a5:=zzm (Kd.S_below (zzS a0.out) hb);have a8:=zzm (Kd.R_below (by (with_reducible repeat (first|apply Kd.R_alloc|apply Kd.R_drewN|apply Kd.R_drew));exact b3.out) hb);have b0:=zzm (zzp zzh1 hb);clear a2 a9 a0 b3 HB;have a2:=a3;have a9:=a4;have a0:=a5;have b3:=a8;have HB:=b0;clear a3 a4 a5 a8 b0;(try clear hb);(try clear hb2);(try clear hk);(try clear hi)));go_ret;exact ⟨zzR,zzh1⟩
end Go.Proofs.Ytnjalgheihiagaa.T
namespace Go.Proofs.Ytnjalgheihiagaa.Q
open Go.RowKit Go.Proofs.Ytnjalgheihiagaa.T Go.Proofs.YtnjalgheihiagaaW.PrintWords Go.Proofs.YtnjalgheihiagaaW.PrintLast
set_option linter.unusedVariables false
set_option linter.unusedSimpArgs false
theorem markBL_get (l:List Bt):∀ (m:Nat) (a:Int) (x:Bt),l[m]? = some x→(markBL l a)[m]? = some (mkBX x (a+(cntBL (l.take m):Int))):=by
 induction l with
 | nil=>intro m a x h;simp at h
 | cons y t ih=>
  intro m a x h
  cases m with
  | zero=>
   have:y=x:=by simpa using h
   subst this
   simp [markBL,cntBL]
  | succ m=>
   have h' : t[m]? = some x:=by simpa using h
   show (markBL t (a+(cntBX y:Int)))[m]? = _
   rw [ih m _ x h',List.take_succ_cons,cntBL]
   congr 2
   omega
theorem rb_mark (l:List Bt) (a:Int) (m:Nat) (h:m < l.length):rb (markBL l a) (m:Int)=mkBX l[m] (a+(cntBL (l.take m):Int)):=by
 have h1:=markBL_get l m a _ (List.getElem?_eq_getElem h)
 have h2:m < (markBL l a).length:=by rw [markBL_len];exact h
 rw [rb_nat _ m h2]
 exact (List.getElem?_eq_some_iff.1 h1).2
theorem heldBats (l:List Bt) (a:Int) (h0 : 0≤a) (h1:a+(cntBL l:Int)≤9000000000000000000):Ev (fun k=>Qm.f k (markBL l a) a) (a+(cntBL l:Int)):=by
 have loop:∀ (d i:Nat),l.length - i=d→i≤l.length→Ev (fun k=>Qm.l0 k (markBL l a) (a+(cntBL (l.take i):Int)) (i:Int)) (a+(cntBL l:Int)):=by
  intro d
  induction d with
  | zero=>
   intro i hd hi
   obtain rfl:i=l.length:=by omega
   rw [List.take_length]
   refine ev_succ ?_
   simp only [Qm.l0,markBL_len,if_neg (show ¬ (l.length:Int) < (l.length:Int) by omega)]
   exact ev_some _
  | succ d ih=>
   intro i hd hi
   have hlt:i < l.length:=by omega
   have hle:=le_cntBL l
   have e1:wrap64 ((i:Int)+1)=((i+1:Nat):Int):=by rw [wrap_id (by omega) (by omega)];omega
   have hr:=rb_mark l a i hlt
   have hc:=cntB_at l (List.getElem?_eq_getElem hlt)
   have ht:=cntBL_take l (i+1)
   generalize l[i]=x at hr hc
   obtain ⟨kk,hkk⟩:∃ kk:Int,kk=a+(cntBL (l.take i):Int):=⟨_,rfl⟩
   rw [← hkk] at hr
   rw [← hkk]
   have hcx:cntBX x=5+cntL x.f5:=rfl
   have w1:wrap64 (kk+1)=kk+1:=wrap_id (by omega) (by omega)
   have w2:wrap64 (kk+1+1)=kk+1+1:=wrap_id (by omega) (by omega)
   have w3:wrap64 (kk+1+1+1)=kk+1+1+1:=wrap_id (by omega) (by omega)
   have w4:wrap64 (kk+1+1+1+1)=kk+1+1+1+1:=wrap_id (by omega) (by omega)
   have w5:wrap64 (kk+1+1+1+1+1)=kk+1+1+1+1+1:=wrap_id (by omega) (by omega)
   have hi1:=heldRecs x.f5 (kk+1+1+1+1+1) (by omega) (by omega)
   have ih':=ih (i+1) (by omega) (by omega)
   have hend:a+(cntBL (l.take (i+1)):Int)=kk+1+1+1+1+1+(cntL x.f5:Int):=by omega
   rw [hend] at ih'
   have hn1:¬ kk+1+1+1+1+1+(cntL x.f5:Int) < 0:=by omega
   have hr' : Qa (markBL l a) (i:Int)=mkBX x kk:=hr
   refine ev_succ ?_
   simp only [Qm.l0,markBL_len,if_pos (show (i:Int) < (l.length:Int) by omega),if_pos (show (0:Int)≤(i:Int) by omega),hr',mkBX,if_true,w1,w2,w3,w4,w5,bne_self_eq_false,Bool.false_eq_true,if_false,e1]
   refine Ev.bind hi1 ?_
   simp only [if_neg hn1]
   exact ih'
 unfold Qm.f
 have h:=loop l.length 0 rfl (by omega)
 rw [show a+(cntBL (l.take 0):Int)=a by simp [cntBL]] at h
 exact h
theorem cntBL_bound (l:List Bt) (hl:l.length≤1048576) (hx:∀ x∈l,okBt x):cntBL l≤2305847407265447936:=by
 have:∀ l:List Bt,(∀ x∈l,okBt x)→cntBL l≤l.length * 2199027449861:=by
  intro l
  induction l with
  | nil=>intro _;simp [cntBL]
  | cons y t ih=>
   intro hx
   have h1:=hx y List.mem_cons_self
   have h2:=ih (fun x hx'=>hx x (List.mem_cons_of_mem _ hx'))
   have h3:cntBX y=5+cntL y.f5:=rfl
   have h4:=cntL_bound y.f5 h1.1 h1.2
   simp only [cntBL,List.length_cons]
   omega
 have:=this l hx
 omega
theorem markBats (l:List Bt) (hl:l.length≤1048576) (hx:∀ x∈l,okBt x):Q3.f l 1=some (1+(cntBL l:Int),markBL l 1)∧Ev (fun k=>Qm.f k (markBL l 1) 1) (1+(cntBL l:Int)):=by
 have hb:=cntBL_bound l hl hx
 refine ⟨?_,heldBats l 1 (by omega) (by omega)⟩
 unfold Q3.f
 rw [if_pos ⟨by omega,by omega⟩]
end Go.Proofs.Ytnjalgheihiagaa.Q
namespace Go.Proofs.Ytnjalgheihiagaa.Q
open Go.RowKit Go.Proofs.Ytnjalgheihiagaa.T Go.Proofs.YtnjalgheihiagaaW.PrintWords Go.Proofs.YtnjalgheihiagaaW.PrintLast
def stayB (l:List S39) (gone:Bool) (x:Nat×Nat):Bool:=mkOf l x||((rcOf l x).f2&&((lastOff l (pts l) (hexOf (rcOf l x).f3)==(rcOf l x).f0)&&((rcOf l x).f4||gone)))
end Go.Proofs.Ytnjalgheihiagaa.Q
namespace Go.Proofs.Ytnjalgheihiagaa.Q
open Go.RowKit Go.Proofs.Ytnjalgheihiagaa.T Go.Proofs.YtnjalgheihiagaaW.PrintWords Go.Proofs.YtnjalgheihiagaaW.PrintLast
set_option linter.unusedVariables false
set_option linter.unusedSimpArgs false
theorem vl_true {l:List Bt} (h:VL l):vl l=true:=(vl_iff l).2 h
theorem vl_false {l:List Bt} (h:¬ VL l):vl l=false:=by rw [← Bool.not_eq_true,vl_iff];exact h
theorem wstep (j:Nat) (h:j < 4000000000000000):wrap64 ((j:Int)+1)=((j+1:Nat):Int):=by rw [wrap_id (by omega) (by omega)];omega
def okc (r:Rc):Prop:=r.f3.length≤1048576∧r.f5.length≤1048576
theorem pv_len {has:Bool} {l:List Int} (h:pv has l=true):l.length≤12:=by
 unfold pv at h
 split at h
 ·rw [Bool.and_eq_true,decide_eq_true_eq] at h
  exact h.1
 ·rw [decide_eq_true_eq] at h
  omega
theorem rv_okc {r:Rc} (h:rv r=true):r.f3.length≤12∧r.f5.length≤12:=by
 unfold rv at h
 rw [Bool.and_eq_true,Bool.and_eq_true] at h
 exact ⟨pv_len h.2.1,pv_len h.2.2⟩
theorem rv_range {r:Rc} (h:rv r=true) : 0≤r.f0∧r.f0≤99999:=by
 unfold rv at h
 rw [Bool.and_eq_true,decide_eq_true_eq] at h
 exact h.1.1
theorem rv_key {r:Rc} (h:rv r=true) (h2:r.f2=true):ab r.f3=true:=by
 unfold rv pv at h
 rw [Bool.and_eq_true,Bool.and_eq_true,if_pos h2,Bool.and_eq_true] at h
 exact h.2.1.2
theorem mem_pts {l:List Bt} {x:Nat×Nat} : x∈pts l↔x.1 < l.length∧x.2 < (rb l (x.1:Int)).f5.length:=by
 unfold pts ptsTo ptsRow
 rw [List.mem_flatMap]
 constructor
 ·rintro ⟨i,hi,hx⟩
  obtain ⟨j,hj,rfl⟩:=List.mem_map.1 hx
  exact ⟨List.mem_range.1 hi,List.mem_range.1 hj⟩
 ·rintro ⟨h1,h2⟩
  exact ⟨x.1,List.mem_range.2 h1,List.mem_map.2 ⟨x.2,List.mem_range.2 h2,rfl⟩⟩
def offP (l:List Bt) (x:Nat×Nat):Int:=(rcOf l x).f0
theorem rv_at {l:List Bt} (h:VL l) {x:Nat×Nat} (hx:x∈pts l):rv (rcOf l x)=true:=by
 obtain ⟨h1,h2⟩:=mem_pts.1 hx
 exact ((VL_at h x.1 h1).2.2.2 x.2 (Nat.zero_le _) h2).1
theorem RF_le {r:List Rc} (h:RF r 0) {i j:Nat} (hij:i≤j) (hj:j < r.length):(rr r (i:Int)).f0≤(rr r (j:Int)).f0:=by
 rcases Nat.lt_or_ge i j with h1|h1
 ·have:=RF_lt h (j - i - 1) i (by omega)
  rw [show i+(j - i - 1)+1=j by omega] at this
  omega
 ·rw [show i=j by omega];exact Int.le_refl _
theorem fOff_le_at {l:List Bt} (h:VL l) {x:Nat×Nat} (hx:x∈pts l):fOff (rb l (x.1:Int))≤offP l x:=by
 obtain ⟨h1,h2⟩:=mem_pts.1 hx
 exact RF_le (VL_at h x.1 h1).2.2.2 (Nat.zero_le x.2) h2
theorem lOff_ge_at {l:List Bt} (h:VL l) {x:Nat×Nat} (hx:x∈pts l):offP l x≤lOff (rb l (x.1:Int)):=by
 obtain ⟨h1,h2⟩:=mem_pts.1 hx
 have:=RF_le (VL_at h x.1 h1).2.2.2 (show x.2≤(rb l (x.1:Int)).f5.length - 1 by omega) (by omega)
 unfold lOff
 rw [show ((rb l (x.1:Int)).f5.length:Int) - 1=(((rb l (x.1:Int)).f5.length - 1:Nat):Int) by omega]
 exact this
theorem VL_cross {l:List Bt} (h:VL l) {i j:Nat} (hij:i < j) (hj:j < l.length):lOff (rb l (i:Int)) < fOff (rb l (j:Int)):=by
 have h1:=(h.2 (i+1) (Nat.zero_le _) (by omega)).2 (by omega)
 rw [show ((i+1:Nat):Int) - 1=(i:Int) by omega] at h1
 rcases Nat.lt_or_ge (i+1) j with h2|h2
 ·have:=VL_lt' h h2 hj
  omega
 ·rw [show j=i+1 by omega];exact h1
theorem off_lt {l:List Bt} (h:VL l) {x y:Nat×Nat} (hx:x∈pts l) (hy:y∈pts l) (hlt:x.1 < y.1∨(x.1=y.1∧x.2 < y.2)):offP l x < offP l y:=by
 rcases hlt with h1|⟨h1,h2⟩
 ·have a:=lOff_ge_at h hx
  have b:=fOff_le_at h hy
  have c:=VL_cross h h1 (mem_pts.1 hy).1
  omega
 ·obtain ⟨y1,y2⟩:=mem_pts.1 hy
  have:=RF_lt (VL_at h y.1 y1).2.2.2 (y.2 - x.2 - 1) x.2 (by omega)
  rw [show x.2+(y.2 - x.2 - 1)+1=y.2 by omega] at this
  show (rr (rb l (x.1:Int)).f5 (x.2:Int)).f0 < (rr (rb l (y.1:Int)).f5 (y.2:Int)).f0
  rw [h1]
  exact this
theorem pts_lex (l:List Bt):(pts l).Pairwise (fun x y=>x.1 < y.1∨(x.1=y.1∧x.2 < y.2)):=by
 unfold pts ptsTo
 rw [List.pairwise_flatMap]
 refine ⟨fun i hi=>?_,?_⟩
 ·unfold ptsRow
  rw [List.pairwise_map]
  exact List.pairwise_lt_range.imp (fun hab=>.inr ⟨rfl,hab⟩)
 ·refine List.pairwise_lt_range.imp (fun {i j} hij x hx y hy=>?_)
  unfold ptsRow at hx hy
  obtain ⟨a,_,rfl⟩:=List.mem_map.1 hx
  obtain ⟨b,_,rfl⟩:=List.mem_map.1 hy
  exact .inl hij
theorem pts_sorted {l:List Bt} (h:VL l):(pts l).Pairwise (fun x y=>offP l x < offP l y):=
 (pts_lex l).imp_of_mem (fun hx hy hlt=>off_lt h hx hy hlt)
theorem ptsTo_len {l:List Bt} (h:VL l):∀ i,i≤l.length→(ptsTo l i).length≤6 * i
 | 0,_=>by simp [ptsTo]
 | i+1,hi=>by
  have ih:=ptsTo_len h i (by omega)
  have h1:=(vB_pos (VL_at h i (by omega))).2
  rw [ptsTo_succ,List.length_append]
  have h2:(ptsRow l i).length=(rb l (i:Int)).f5.length:=by unfold ptsRow;rw [List.length_map,List.length_range]
  omega
theorem pts_len {l:List Bt} (h:VL l):(pts l).length≤48:=by
 have:=ptsTo_len h l.length (Nat.le_refl _)
 have:=h.1
 show (ptsTo l l.length).length≤48
 omega
theorem rv_mem {l:List Bt} (h:VL l) {b:Bt} (hb:b∈l) {r:Rc} (hr:r∈b.f5):rv r=true:=by
 obtain ⟨j,hj,rfl⟩:=List.getElem_of_mem hb
 obtain ⟨q,hq,rfl⟩:=List.getElem_of_mem hr
 have:=((VL_at h j hj).2.2.2 q (Nat.zero_le _) (by rw [rb_nat l j hj];exact hq)).1
 rw [rb_nat l j hj,rr_nat _ q hq] at this
 exact this
theorem okLog_of {l:List Bt} (h:VL l):okLog l=true:=by
 unfold okLog
 have h1:=pts_len h
 rw [Bool.and_eq_true,decide_eq_true_eq,List.all_eq_true]
 refine ⟨by omega,fun b hb=>?_⟩
 rw [List.all_eq_true]
 intro r hr
 have hv:=rv_mem h hb hr
 have h2:=rv_range hv
 have h3:=rv_okc hv
 rw [Bool.and_eq_true,Bool.and_eq_true,Bool.and_eq_true,decide_eq_true_eq,decide_eq_true_eq,decide_eq_true_eq]
 refine ⟨⟨h2,by omega⟩,by omega,?_⟩
 rw [Bool.or_eq_true]
 cases hk:r.f2 with
 | false=>exact .inl rfl
 | true=>
  right
  have h4:=rv_key hv hk
  unfold ab at h4
  rw [decide_eq_true_eq] at h4
  unfold keyOk
  rw [Bool.and_eq_true,decide_eq_true_eq,List.all_eq_true]
  exact ⟨by omega,fun x hx=>by rw [decide_eq_true_eq];exact h4 x hx⟩
theorem hexDig_inj:∀ a b:Fin 16,hexDig ((a.1:Nat):Int)=hexDig ((b.1:Nat):Int)→a=b:=by decide +kernel
theorem hexDig_eq {x y:Int} (h0 : 0≤x) (h1:x < 16) (h2 : 0≤y) (h3:y < 16) (h:hexDig x=hexDig y):x=y:=by
 have:=hexDig_inj ⟨x.toNat,by omega⟩ ⟨y.toNat,by omega⟩ (by
  show hexDig ((x.toNat:Nat):Int)=hexDig ((y.toNat:Nat):Int)
  rw [Int.toNat_of_nonneg h0,Int.toNat_of_nonneg h2]
  exact h)
 have:=congrArg Fin.val this
 dsimp only at this
 omega
theorem hexOf_inj:∀ {a b:List Int},ab a=true→ab b=true→hexOf a=hexOf b→a=b
 | [],[],_,_,_=>rfl
 | [],y::b,_,_,h=>by simp [hexOf] at h
 | x::a,[],_,_,h=>by simp [hexOf] at h
 | x::a,y::b,ha,hb,h=>by
  rw [ab_cons,Bool.and_eq_true,decide_eq_true_eq] at ha hb
  have h1:hexDig (x / 16)=hexDig (y / 16)∧hexDig (x % 16)=hexDig (y % 16)∧hexOf a=hexOf b:=by
   have h2 : [hexDig (x / 16),hexDig (x % 16)]++hexOf a = [hexDig (y / 16),hexDig (y % 16)]++hexOf b:=h
   simp only [List.cons_append,List.nil_append,List.cons.injEq] at h2
   exact h2
  have e1:=hexDig_eq (by omega) (by omega) (by omega) (by omega) h1.1
  have e2:=hexDig_eq (by omega) (by omega) (by omega) (by omega) h1.2.1
  rw [hexOf_inj ha.2 hb.2 h1.2.2,show x=y by omega]
def cnd (l:List Bt) (kk:List UInt8) (x:Nat×Nat):Bool:=!mkOf l x&&((rcOf l x).f2&&decide (hexOf (rcOf l x).f3=kk))
theorem offStep_eq (l:List Bt) (kk:List UInt8) (a:Int) (x:Nat×Nat):offStep l kk a x=if cnd l kk x=true then offP l x else a:=rfl
theorem fold_none (l:List Bt) (kk:List UInt8):∀ (xs:List (Nat×Nat)) (a:Int),(∀ x∈xs,cnd l kk x=false)→xs.foldl (offStep l kk) a=a
 | [],a,_=>rfl
 | x::xs,a,h=>by
  rw [List.foldl_cons,offStep_eq,h x (List.mem_cons_self ..),if_neg (by simp)]
  exact fold_none l kk xs a (fun y hy=>h y (List.mem_cons_of_mem _ hy))
theorem fold_last (l:List Bt) (kk:List UInt8):∀ (xs:List (Nat×Nat)) (a:Int),xs.Pairwise (fun x y=>offP l x < offP l y)→(∃ x∈xs,cnd l kk x=true) →
  ∃ y∈xs,cnd l kk y=true∧xs.foldl (offStep l kk) a=offP l y∧∀ z∈xs,cnd l kk z=true→offP l z≤offP l y
 | [],a,_,h=>by obtain ⟨x,hx,_⟩:=h;cases hx
 | x::xs,a,hp,h=>by
  rw [List.pairwise_cons] at hp
  by_cases h1:∃ y∈xs,cnd l kk y=true
  ·obtain ⟨y,hy,hc,he,hm⟩:=fold_last l kk xs (offStep l kk a x) hp.2 h1
   refine ⟨y,List.mem_cons_of_mem _ hy,hc,he,fun z hz hzc=>?_⟩
   rcases List.mem_cons.1 hz with rfl|hz
   ·have:=hp.1 y hy;omega
   ·exact hm z hz hzc
  ·have h2:∀ y∈xs,cnd l kk y=false:=fun y hy=>by
    cases hc:cnd l kk y with
    | false=>rfl
    | true=>exact absurd ⟨y,hy,hc⟩ h1
   obtain ⟨y,hy,hc⟩:=h
   have hxc:cnd l kk x=true:=by
    rcases List.mem_cons.1 hy with rfl|hy
    ·exact hc
    ·rw [h2 y hy] at hc;cases hc
   refine ⟨x,List.mem_cons_self ..,hxc,?_,fun z hz hzc=>?_⟩
   ·rw [List.foldl_cons,fold_none l kk xs _ h2,offStep_eq,if_pos hxc]
   ·rcases List.mem_cons.1 hz with rfl|hz
    ·exact Int.le_refl _
    ·rw [h2 z hz] at hzc;cases hzc
def LatAt (l:List Bt) (r:Rc) (x:Nat×Nat):Prop:=mkOf l x=false∧(rcOf l x).f2=true∧r.f0 < (rcOf l x).f0∧(rcOf l x).f3=r.f3
def LaterP (l:List Bt) (r:Rc):Prop:=∃ x∈pts l,LatAt l r x
theorem cnd_key {l:List Bt} (h:VL l) {x y:Nat×Nat} (hx:x∈pts l) (hy:y∈pts l) (h2:(rcOf l x).f2=true):cnd l (hexOf (rcOf l x).f3) y=true↔mkOf l y=false∧(rcOf l y).f2=true∧(rcOf l y).f3=(rcOf l x).f3:=by
 unfold cnd
 rw [Bool.and_eq_true,Bool.and_eq_true,decide_eq_true_eq]
 constructor
 ·rintro ⟨a,b,c⟩
  exact ⟨by simpa using a,b,hexOf_inj (rv_key (rv_at h hy) b) (rv_key (rv_at h hx) h2) c⟩
 ·rintro ⟨a,b,c⟩
  exact ⟨by simpa using a,b,by rw [c]⟩
theorem last_iff {l:List Bt} (h:VL l) {x:Nat×Nat} (hx:x∈pts l) (hm:mkOf l x=false) (h2:(rcOf l x).f2=true):lastOff l (pts l) (hexOf (rcOf l x).f3)=(rcOf l x).f0↔¬ LaterP l (rcOf l x):=by
 obtain ⟨y,hy,hc,he,hmax⟩:=fold_last l (hexOf (rcOf l x).f3) (pts l) 0 (pts_sorted h) ⟨x,hx,(cnd_key h hx hx h2).2 ⟨hm,h2,rfl⟩⟩
 obtain ⟨y1,y2,y3⟩:=(cnd_key h hx hy h2).1 hc
 have hxy:=hmax x hx ((cnd_key h hx hx h2).2 ⟨hm,h2,rfl⟩)
 unfold lastOff
 rw [he]
 constructor
 ·rintro e ⟨z,hz,z1,z2,z3,z4⟩
  have:=hmax z hz ((cnd_key h hx hz h2).2 ⟨z1,z2,z4⟩)
  have e1:offP l z=(rcOf l z).f0:=rfl
  omega
 ·intro hn
  have:¬ (rcOf l x).f0 < (rcOf l y).f0:=fun hlt=>hn ⟨y,hy,y1,y2,hlt,y3⟩
  have e1:offP l y=(rcOf l y).f0:=rfl
  have e2:offP l x=(rcOf l x).f0:=rfl
  omega
theorem keep_iff {l:List Bt} (h:VL l) {x:Nat×Nat} (hx:x∈pts l) (gone:Bool):stayB l gone x=true↔mkOf l x=true∨((rcOf l x).f2=true∧((rcOf l x).f4=true∨gone=true)∧¬ LaterP l (rcOf l x)):=by
 unfold stayB
 rw [Bool.or_eq_true,Bool.and_eq_true,Bool.and_eq_true,Bool.or_eq_true,beq_iff_eq]
 cases hm:mkOf l x with
 | true=>simp
 | false=>
  constructor
  ·rintro (h1|⟨h1,h2,h3⟩)
   ·cases h1
   ·exact .inr ⟨h1,h3,(last_iff h hx hm h1).1 h2⟩
  ·rintro (h1|⟨h1,h2,h3⟩)
   ·cases h1
   ·exact .inr ⟨h1,(last_iff h hx hm h1).2 h3,h2⟩
theorem l3Same_loop (a b:List Int) (hl:a.length=b.length) (hs:a.length≤1000000000000000):∀ (d i:Nat),a.length - i=d→i≤a.length→Ev (fun k=>Q7.l0 k a 0 b (i:Int)) (decide (a.drop i=b.drop i)):=by
 intro d
 induction d with
 | zero=>
  intro i hd hi
  rw [show a.drop i = [] from List.drop_eq_nil_of_le (by omega),show b.drop i = [] from List.drop_eq_nil_of_le (by omega)]
  refine ev_succ ?_
  simp only [Q7.l0,if_neg (show ¬ (i:Int) < (b.length:Int) by omega),decide_true]
  exact ev_some _
 | succ d ih=>
  intro i hd hi
  have e1:wrap64 ((i:Int)+1)=((i+1:Nat):Int):=by rw [wrap_id (by omega) (by omega)];omega
  have e0:wrap64 (0+(i:Int))=(i:Int):=by rw [wrap_id (by omega) (by omega)];omega
  rw [drop_int (show i < a.length by omega),drop_int (show i < b.length by omega)]
  refine ev_succ ?_
  simp only [Q7.l0,if_pos (show (i:Int) < (b.length:Int) by omega),e0,if_pos (show (0:Int)≤i by omega),if_pos (show (i:Int) < (a.length:Int) by omega),e1]
  by_cases h0:rd a i=rd b i
  ·simp only [if_pos h0]
   have:=ih (i+1) (by omega) (by omega)
   simpa [h0] using this
  ·simp only [if_neg h0]
   rw [decide_eq_false (by simp [h0])]
   exact ev_some _
theorem l16Same (a b:List Int) (hs:a.length≤1000000000000000):Ev (fun k=>Rl.f k a b) (decide (a=b)):=by
 unfold Rl.f
 by_cases hl:a.length=b.length
 ·simp only [if_pos (show (a.length:Int)=(b.length:Int) by omega)]
  have h:=l3Same_loop a b hl hs a.length 0 (by omega) (by omega)
  have e0:wrap64 (0+(b.length:Int))=(b.length:Int):=by rw [wrap_id (by omega) (by omega)];omega
  refine Ev.bind (g:=fun k=>Q7.f k a 0 b) (a:=decide (a=b)) ?_ (ev_some _)
  unfold Q7.f
  simp only [e0,if_neg (show ¬ (b.length:Int) > (a.length:Int) by omega)]
  simpa using h
 ·simp only [if_neg (show ¬ (a.length:Int)=(b.length:Int) by omega)]
  rw [decide_eq_false (fun e=>hl (by rw [e]))]
  exact ev_some _
def LatFrom (l:List Bt) (r:Rc) (i j:Nat):Prop:=∃ x∈pts l,(i < x.1∨(i=x.1∧j≤x.2))∧LatAt l r x
theorem LatFrom_step {l:List Bt} {r:Rc} {i j:Nat} (hi:i < l.length) (hj:j < (rb l (i:Int)).f5.length) (h:¬ LatAt l r (i,j)):LatFrom l r i j↔LatFrom l r i (j+1):=by
 constructor
 ·rintro ⟨x,hx,h1,h2⟩
  refine ⟨x,hx,?_,h2⟩
  rcases h1 with h1|⟨h1,h3⟩
  ·exact .inl h1
  ·rcases Nat.lt_or_ge j x.2 with h4|h4
   ·exact .inr ⟨h1,h4⟩
   ·have:x=(i,j):=Prod.ext h1.symm (by show x.2=j;omega)
    exact absurd (this ▸ h2) h
 ·rintro ⟨x,hx,h1,h2⟩
  exact ⟨x,hx,by omega,h2⟩
theorem LatFrom_next {l:List Bt} {r:Rc} {i j:Nat} (hj:¬ j < (rb l (i:Int)).f5.length):LatFrom l r i j↔LatFrom l r (i+1) 0:=by
 constructor
 ·rintro ⟨x,hx,h1,h2⟩
  refine ⟨x,hx,?_,h2⟩
  have h3:=(mem_pts.1 hx).2
  rcases h1 with h1|⟨h1,h4⟩
  ·omega
  ·rw [← h1] at h3
   omega
 ·rintro ⟨x,hx,h1,h2⟩
  exact ⟨x,hx,by omega,h2⟩
theorem later_loop (l:List Bt) (hl:smallBs l) (r:Rc):∀ (d i:Nat),l.length - i=d→i≤l.length→Evs (fun k=>Qg.l0 k l (i:Int) r.f0 r.f1 r.f2 r.f3 r.f4 r.f5) (fun b=>b=true↔LatFrom l r i 0):=by
 intro d
 induction d with
 | zero=>
  intro i hd hi
  refine Evs.succ ?_
  simp only [Qg.l0,if_neg (show ¬ (i:Int) < (l.length:Int) by omega)]
  refine Evs.done ⟨(fun h=>by cases h),?_⟩
  rintro ⟨x,hx,h1,_⟩
  have:=(mem_pts.1 hx).1
  omega
 | succ d ih=>
  intro i hd hi
  have hil:i < l.length:=by omega
  have hll:=hl.1
  have hsm:=smallBs_at hl i hil
  have e1:=wstep i (by omega)
  refine Evs.succ ?_
  simp only [Qg.l0,if_pos (show (i:Int) < (l.length:Int) by omega)]
  have inner:∀ (e j:Nat),(rb l (i:Int)).f5.length - j=e→j≤(rb l (i:Int)).f5.length→Evs (fun k=>Qg.l1 k l (i:Int) (j:Int) r.f0 r.f1 r.f2 r.f3 r.f4 r.f5) (fun b=>b=true↔LatFrom l r i j):=by
   intro e
   induction e with
   | zero=>
    intro j he hj
    refine Evs.succ ?_
    simp only [Qg.l1,if_pos (show 0≤(i:Int) by omega),if_pos (show (i:Int) < (l.length:Int) by omega),if_neg (show ¬ (j:Int) < ((rb l (i:Int)).f5.length:Int) by omega),e1]
    refine (ih (i+1) (by omega) (by omega)).mono (fun b hb=>hb.trans (LatFrom_next (by omega)).symm)
   | succ e ihe=>
    intro j he hj
    have hjl:j < (rb l (i:Int)).f5.length:=by omega
    have hls:=hsm.1
    have e2:=wstep j (by omega)
    have hnext:=ihe (j+1) (by omega) (by omega)
    refine Evs.succ ?_
    simp only [Qg.l1,if_pos (show 0≤(i:Int) by omega),if_pos (show (i:Int) < (l.length:Int) by omega),if_pos (show (j:Int) < ((rb l (i:Int)).f5.length:Int) by omega),if_pos (show 0≤(j:Int) by omega),e2]
    have hf1:(Qa l (i:Int)).f1=mkOf l (i,j):=rfl
    have hrc:Qb (Qa l (i:Int)).f5 (j:Int)=rcOf l (i,j):=rfl
    rw [hf1,hrc]
    by_cases c1:mkOf l (i,j)=true
    ·simp only [if_pos c1]
     exact hnext.mono (fun b hb=>hb.trans (LatFrom_step hil hjl (fun h=>by rw [h.1] at c1;cases c1)).symm)
    ·simp only [if_neg c1]
     by_cases c2:(rcOf l (i,j)).f2=true
     ·simp only [if_pos c2]
      by_cases c3:(rcOf l (i,j)).f0 > r.f0
      ·simp only [if_pos c3]
       refine Evs.bind (Evs.of (Q:=fun x=>x=decide ((rcOf l (i,j)).f3=r.f3)) (l16Same _ _ (smallRs_at hsm j hjl).1) rfl) ?_
       rintro _ rfl
       by_cases c4:(rcOf l (i,j)).f3=r.f3
       ·simp only [decide_eq_true c4,if_true]
        exact Evs.done ⟨fun _=>⟨(i,j),mem_pts.2 ⟨hil,hjl⟩,.inr ⟨rfl,Nat.le_refl _⟩,by simpa using c1,c2,c3,c4⟩,fun _=>rfl⟩
       ·simp only [decide_eq_false c4,Bool.false_eq_true,if_false]
        exact hnext.mono (fun b hb=>hb.trans (LatFrom_step hil hjl (fun h=>c4 h.2.2.2)).symm)
      ·simp only [if_neg c3]
       exact hnext.mono (fun b hb=>hb.trans (LatFrom_step hil hjl (fun h=>c3 h.2.2.1)).symm)
     ·simp only [if_neg c2]
      exact hnext.mono (fun b hb=>hb.trans (LatFrom_step hil hjl (fun h=>c2 h.2.1)).symm)
  exact inner (rb l (i:Int)).f5.length 0 (by omega) (by omega)
theorem specLater (l:List Bt) (hl:smallBs l) (r:Rc):Evs (fun k=>Qg.f k l r.f0 r.f1 r.f2 r.f3 r.f4 r.f5) (fun b=>b=true↔LaterP l r):=by
 unfold Qg.f
 refine (later_loop l hl r l.length 0 (by omega) (by omega)).mono (fun b hb=>hb.trans ⟨?_,?_⟩)
 ·rintro ⟨x,hx,_,h⟩;exact ⟨x,hx,h⟩
 ·rintro ⟨x,hx,h⟩;exact ⟨x,hx,by omega,h⟩
theorem specKeep (l:List Bt) (hl:smallBs l) (h:VL l) (i j:Nat) (hi:i < l.length) (hj:j < (rb l (i:Int)).f5.length) (gone:Bool) :
  Ev (fun k=>Rw.f k l (rb l (i:Int)).f0 (rb l (i:Int)).f1 (rb l (i:Int)).f2 (rb l (i:Int)).f3 (rb l (i:Int)).f4 (rb l (i:Int)).f5 (rcOf l (i,j)).f0 (rcOf l (i,j)).f1 (rcOf l (i,j)).f2 (rcOf l (i,j)).f3 (rcOf l (i,j)).f4 (rcOf l (i,j)).f5 gone) (stayB l gone (i,j)):=by
 have hx:(i,j)∈pts l:=mem_pts.2 ⟨hi,hj⟩
 have hk:=keep_iff h hx gone
 have hb:∀ {b:Bool},(b=true↔(mkOf l (i,j)=true∨((rcOf l (i,j)).f2=true∧((rcOf l (i,j)).f4=true∨gone=true)∧¬ LaterP l (rcOf l (i,j)))))→stayB l gone (i,j)=b:=fun {b} hb=>by
  rw [Bool.eq_iff_iff,hk,hb]
 unfold Rw.f
 have hf1:(rb l (i:Int)).f1=mkOf l (i,j):=rfl
 rw [hf1]
 by_cases c1:mkOf l (i,j)=true
 ·simp only [if_pos c1]
  rw [hb (b:=true) (by simp [c1])]
  exact ev_some _
 ·simp only [if_neg c1]
  obtain ⟨b,he,hbl⟩:=specLater l hl (rcOf l (i,j))
  have hnb:(!b)=true↔¬ LaterP l (rcOf l (i,j)):=by rw [← hbl];simp
  by_cases c2:(rcOf l (i,j)).f2=true
  ·simp only [if_pos c2]
   by_cases c3:(rcOf l (i,j)).f4=true
   ·simp only [if_pos c3]
    rw [hb (b:=!b) (by rw [hnb];simp [c1,c2,c3])]
    exact Ev.bind he (ev_some _)
   ·simp only [if_neg c3]
    by_cases c4:gone=true
    ·simp only [if_pos c4]
     rw [hb (b:=!b) (by rw [hnb];simp [c1,c2,c4])]
     exact Ev.bind he (ev_some _)
    ·simp only [if_neg c4]
     rw [hb (b:=false) (by simp [c1,c3,c4])]
     exact ev_some _
  ·simp only [if_neg c2]
   rw [hb (b:=false) (by simp [c1,c2])]
   exact ev_some _
theorem l12Copy_eq (r:Rc) (h:okc r):R0.f r.f0 r.f1 r.f2 r.f3 r.f4 r.f5=some (r.f0,r.f1,r.f2,r.f3,r.f4,r.f5):=by
 have h1:=h.1
 have h2:=h.2
 unfold R0.f
 simp only [bsome,List.length_nil,Nat.zero_add,List.nil_append]
 rw [if_pos (by omega),if_pos (by omega)]
theorem full_of {l:List Bt} (h:VL l):full l=true:=by
 unfold full
 rw [List.all_eq_true]
 intro b hb
 obtain ⟨j,hj,rfl⟩:=List.getElem_of_mem hb
 have:=(vB_pos (VL_at h j hj)).1
 rw [rb_nat l j hj] at this
 rw [decide_eq_true_eq]
 exact this
theorem implCompact (l:List Bt) (g:Bool) (hl:smallBs l) (h:VL l):Ev (fun k=>Q1.f k l g) (cmpOut l g,true):=by
 unfold Q1.f
 refine Ev.bind (implLog l hl) ?_
 rw [vl_true h]
 simp only [if_true,okLog_of h,full_of h,and_self]
 exact ev_some _
theorem implCompact_not (l:List Bt) (g:Bool) (hl:smallBs l) (h:¬ VL l):Ev (fun k=>Q1.f k l g) ([],false):=by
 unfold Q1.f
 refine Ev.bind (implLog l hl) ?_
 rw [vl_false h]
 simp only [Bool.false_eq_true,if_false]
 exact ev_some _
theorem stay_at (l:List Bt) (g:Bool) (i j:Nat):stayR l (rb l (i:Int)).f1 g (rcOf l (i,j))=stayB l g (i,j):=rfl
def cmpTo (l:List Bt) (g:Bool) (i:Nat):List Bt:=((l.take i).map (stB l g)).filter (fun b=>!decide (b.f5.length=0))
theorem cmpTo_len (l:List Bt) (g:Bool) (i:Nat):(cmpTo l g i).length≤i:=by
 unfold cmpTo
 refine Nat.le_trans (List.length_filter_le _ _) ?_
 rw [List.length_map,length_take]
 omega
theorem cmpTo_succ (l:List Bt) (g:Bool) (i:Nat) (hi:i < l.length):cmpTo l g (i+1)=if (stB l g l[i]).f5.length=0 then cmpTo l g i else cmpTo l g i ++ [stB l g l[i]]:=by
 unfold cmpTo
 rw [List.take_succ_eq_append_getElem hi,List.map_append,List.filter_append]
 by_cases h:(stB l g l[i]).f5.length=0
 ·rw [if_pos h,map_cons,map_nil,List.filter_cons,List.filter_nil,decide_eq_true h]
  simp
 ·rw [if_neg h,map_cons,map_nil,List.filter_cons,List.filter_nil,decide_eq_false h]
  rfl
theorem filter_take_succ {α:Type} (p : α→Bool) (xs:List α) (j:Nat) (hj:j < xs.length):(xs.take (j+1)).filter p=if p xs[j]=true then (xs.take j).filter p ++ [xs[j]] else (xs.take j).filter p:=by
 rw [List.take_succ_eq_append_getElem hj,List.filter_append]
 by_cases h:p xs[j]=true
 ·rw [if_pos h];simp [h]
 ·rw [if_neg h];simp [h]
theorem compact_inner (l:List Bt) (hl:smallBs l) (h:VL l) (g:Bool) (i n:Nat) (hi:i < l.length) (b:Bt) (hb:b=rb l (i:Int)) (hn:n=b.f5.length) (hn6:n≤6) (R:List Bt)
  (next:Ev (fun k=>Qd.l0 k l g (cmpTo l g (i+1)) ((i+1:Nat):Int)) R) :
  ∀ (e j:Nat),n - j=e→j≤n→Ev (fun k=>Qd.l1 k l g (cmpTo l g i) (i:Int) ((b.f5.take j).filter (stayR l b.f1 g)) (j:Int) b.f0 b.f1 b.f2 b.f3 b.f4 b.f5) R:=by
 have hll:=h.1
 have hlc:=cmpTo_len l g i
 have e1:=wstep i (by omega)
 intro e
 induction e with
 | zero=>
  intro j he hj
  have hjn:j=b.f5.length:=by omega
  rw [hjn,List.take_length]
  have hst:(stB l g l[i]).f5=b.f5.filter (stayR l b.f1 g):=by rw [hb,rb_nat l i hi];rfl
  have hst2:stB l g l[i]=⟨b.f0,b.f1,b.f2,b.f3,b.f4,b.f5.filter (stayR l b.f1 g)⟩:=by rw [hb,rb_nat l i hi];rfl
  have hcs:=cmpTo_succ l g i hi
  rw [hst] at hcs
  have HST:=Aside0.mk hst2
  clear hst hst2
  refine ev_succ ?_
  simp only [Qd.l1,if_neg (show ¬ (b.f5.length:Int) < (b.f5.length:Int) by omega),e1]
  by_cases h0:(b.f5.filter (stayR l b.f1 g)).length=0
  ·rw [if_pos h0] at hcs
   simp only [if_neg (show ¬ ((b.f5.filter (stayR l b.f1 g)).length:Int) > 0 by omega)]
   rw [← hcs]
   exact next
  ·rw [if_neg h0] at hcs
   simp only [if_pos (show ((b.f5.filter (stayR l b.f1 g)).length:Int) > 0 by omega),if_pos (show (cmpTo l g i).length < 2513169434916 by omega)]
   rw [← HST.out,← hcs]
   exact next
 | succ e ih=>
  intro j he hj
  have hjl:j < b.f5.length:=by omega
  have e2:=wstep j (by omega)
  have hnext:=ih (j+1) (by omega) (by omega)
  rw [filter_take_succ _ _ j hjl] at hnext
  have hsk:=specKeep l hl h i j hi (by rw [← hb];exact hjl) g
  have hrc:rcOf l (i,j)=b.f5[j]:=by subst hb;exact rr_nat _ j hjl
  have hsb:stayB l g (i,j)=stayR l b.f1 g b.f5[j]:=by rw [← hrc,hb];exact (stay_at l g i j).symm
  have hrd:Qb b.f5 (j:Int)=b.f5[j]:=rr_nat _ j hjl
  have hx:(i,j)∈pts l:=mem_pts.2 ⟨hi,by rw [← hb];exact hjl⟩
  have hok:okc b.f5[j]:=by have:=rv_okc (rv_at h hx);rw [hrc] at this;exact ⟨by omega,by omega⟩
  have hfl:((b.f5.take j).filter (stayR l b.f1 g)).length≤6:=Nat.le_trans (List.length_filter_le _ _) (by rw [length_take];omega)
  rw [hrc,hsb,← hb] at hsk
  refine ev_succ ?_
  simp only [Qd.l1,if_pos (show (j:Int) < (b.f5.length:Int) by omega),if_pos (show 0≤(j:Int) by omega),hrd,e2]
  refine Ev.bind hsk ?_
  by_cases hs:stayR l b.f1 g b.f5[j]=true
  ·rw [if_pos hs] at hnext
   simp only [if_pos hs,l12Copy_eq _ hok,bsome,if_pos (show ((b.f5.take j).filter (stayR l b.f1 g)).length < 1759218604441 by omega)]
   exact hnext
  ·rw [if_neg hs] at hnext
   simp only [if_neg hs]
   exact hnext
theorem compact_loop (l:List Bt) (hl:smallBs l) (h:VL l) (g:Bool):∀ (d i:Nat),l.length - i=d→i≤l.length→Ev (fun k=>Qd.l0 k l g (cmpTo l g i) (i:Int)) (cmpOut l g):=by
 intro d
 induction d with
 | zero=>
  intro i hd hi
  obtain rfl:i=l.length:=by omega
  refine ev_succ ?_
  simp only [Qd.l0,if_neg (show ¬ (l.length:Int) < (l.length:Int) by omega)]
  rw [show cmpTo l g l.length=cmpOut l g by unfold cmpTo cmpOut;rw [List.take_length]]
  exact ev_some _
 | succ d ih=>
  intro i hd hi
  have hil:i < l.length:=by omega
  have h6:=(vB_pos (VL_at h i hil)).2
  have hn:=ih (i+1) (by omega) (by omega)
  refine ev_succ ?_
  simp only [Qd.l0,if_pos (show (i:Int) < (l.length:Int) by omega),if_pos (show 0≤(i:Int) by omega)]
  exact compact_inner l hl h g i _ hil (rb l (i:Int)) rfl rfl h6 _ hn _ 0 rfl (Nat.zero_le _)
theorem cmpOut_mem {l:List Bt} {g:Bool} {b:Bt} (hb:b∈cmpOut l g):∃ a∈l,b=stB l g a∧0 < b.f5.length:=by
 unfold cmpOut at hb
 obtain ⟨h1,h2⟩:=List.mem_filter.1 hb
 obtain ⟨a,ha,rfl⟩:=List.mem_map.1 h1
 refine ⟨a,ha,rfl,?_⟩
 have:¬ (stB l g a).f5.length=0:=by simpa using h2
 omega
theorem cmpTo_full (l:List Bt) (g:Bool):cmpTo l g l.length=cmpOut l g:=by unfold cmpTo cmpOut;rw [List.take_length]
theorem cmp_len (l:List Bt) (g:Bool):(cmpOut l g).length≤l.length:=by
 have h1:=cmpTo_len l g l.length
 rw [cmpTo_full] at h1
 exact h1
theorem specCompact (l:List Bt) (g:Bool) (hl:smallBs l) (h:VL l):Ev (fun k=>Ra.f k l g) (cmpOut l g,true):=by
 unfold Ra.f
 refine Ev.bind (specLog l hl) ?_
 rw [vl_true h]
 simp only [if_true]
 refine Ev.bind (g:=fun k=>Qd.f k l g) (a:=cmpOut l g) ?_ (ev_some _)
 unfold Qd.f
 exact compact_loop l hl h g l.length 0 (by omega) (by omega)
theorem specCompact_not (l:List Bt) (g:Bool) (hl:smallBs l) (h:¬ VL l):Ev (fun k=>Ra.f k l g) ([],false):=by
 unfold Ra.f
 refine Ev.bind (specLog l hl) ?_
 rw [vl_false h]
 simp only [Bool.false_eq_true,if_false]
 exact ev_some _
end Go.Proofs.Ytnjalgheihiagaa.Q
namespace Go.Proofs.Ytnjalgheihiagaa.Pure
open Go.RowKit Go.Proofs.Ytnjalgheihiagaa.T Go.Proofs.YtnjalgheihiagaaW.PrintWords Go.Proofs.YtnjalgheihiagaaW.PrintLast Go.Proofs.Ytnjalgheihiagaa.Q
set_option linter.unusedVariables false
set_option linter.unusedSimpArgs false
theorem compact_out (l:List Bt) (g:Bool) (hs:smallBs l) (hl:l.length≤1048576) (hk:∀ b∈l,okBt b):∃ (x:List Bt) (p:Bool),x.length≤1048576∧(∀ b∈x,okBt b)∧Ev (fun k=>Q1.f k l g) (x,p)∧Ev (fun k=>Ra.f k l g) (x,p):=by
 by_cases hv:VL l
 ·have h1:=cmp_len l g
  refine ⟨cmpOut l g,true,by omega,fun b hb=>?_,implCompact l g hs hv,specCompact l g hs hv⟩
  obtain ⟨a,ha,rfl,_⟩:=cmpOut_mem hb
  have h2:=hk a ha
  have h3:(stB l g a).f5.Sublist a.f5:=List.filter_sublist
  exact ⟨Nat.le_trans h3.length_le h2.1,fun y hy=>h2.2 y (h3.subset hy)⟩
 ·exact ⟨[],false,by simp,fun b hb=>by simp at hb,implCompact_not l g hs hv,specCompact_not l g hs hv⟩
theorem FnExactCompactLog:∀ (l0:List (S34)) (a1:Bool),l0.length≤maxLen→(∀ v∈l0,WF34 v)→∃ k,laws_FnExactCompactLog.f k l0 a1=some true:=by
 intro l0 g hl hw
 refine Ev.rounds ?_
 unfold laws_FnExactCompactLog.f
 obtain ⟨r,h1,p1⟩:=szBats l0 (Nat.le_trans hl maxLen_le) (fun x hx=>bigB_of (hw x hx)) 1048576 (by omega) (by omega)
 refine Ev.bind h1 ?_
 rcases p1 with rfl|⟨s0,s1,s2,s3⟩
 ·simp only [if_pos (show (-1:Int) < 0 by omega)]
  exact ev_some _
 ·simp only [if_neg (show ¬ r < 0 by omega)]
  have ht:=toBats l0 s2 s3
  have hml:(l0.map toB).length=l0.length:=List.length_map ..
  have hs:smallBs (l0.map toB):=by
   refine ⟨by omega,fun b hb=>?_⟩
   obtain ⟨x,hx,rfl⟩:=List.mem_map.1 hb
   exact smallRs_of x (s3 x hx)
  have hk:∀ b∈l0.map toB,okBt b:=fun b hb=>by
   obtain ⟨x,hx,rfl⟩:=List.mem_map.1 hb
   exact okBt_of x (s3 x hx)
  obtain ⟨x,p,hxl,hxo,e1,e2⟩:=compact_out (l0.map toB) g hs (by omega) hk
  have eu:=eqBats_self x hxl hxo
  have eb:=eqBats_self (l0.map toB) (by omega) hk
  obtain ⟨hm0,_⟩:=markBats (l0.map toB) (by omega) hk
  obtain ⟨hmk,hheld⟩:=markBats x hxl hxo
  have hn0:¬ (1+(cntBL (l0.map toB):Int)) < 0:=by omega
  have hn:¬ (1+(cntBL x:Int)) < 0:=by omega
  refine Ev.bind ht ?_
  refine Ev.bind e2 ?_
  refine Ev.bind ht ?_
  refine Ev.bind e1 ?_
  refine Ev.bind eu ?_
  simp only [if_true,bne_self_eq_false]
  refine ev_succ ?_
  simp only [laws_FnExactCompactLog.j0,Bool.false_eq_true,if_false]
  refine Ev.bind ht ?_
  refine Ev.bind eb ?_
  simp only [if_true,hm0,bsome,if_neg hn0]
  refine Ev.bind eu ?_
  simp only [if_true,bne_self_eq_false]
  refine ev_succ ?_
  simp only [laws_FnExactCompactLog.j1,Bool.false_eq_true,if_false,hmk,bsome]
  refine Ev.bind hheld ?_
  simp only [if_neg hn,if_true]
  refine Ev.bind ht ?_
  refine Ev.bind e1 ?_
  refine Ev.bind eu ?_
  simp only [if_true,bne_self_eq_false]
  refine ev_succ ?_
  simp only [laws_FnExactCompactLog.j2,Bool.false_eq_true,if_false]
  refine Ev.bind hheld ?_
  simp only [if_neg hn,if_true]
  exact ev_some _
end Go.Proofs.Ytnjalgheihiagaa.Pure
namespace Go.Proofs.Ytnjalgheihiagaa.fnExactCompactLog
open Go.ChangeShapes Go.WideShapes Go.ChangeAt Go.RowKit
open Go.ChangeMaps (open_string shut_string)
open Go.Proofs.YtnjalgheihiagaaW.PrintWords
set_option linter.unusedVariables false
theorem own:ownKnob Try.prog.godebug=none:=by kernel_rfl
theorem laidOut:laidOutB Try.prog=true:=by kernel_rfl
theorem lifted (os:Os) (started:os.Started) (H:Type) (enc:TypeId×Value→H) :
  ReturnsInHanded {} Try.checked os 3 .any (Rows.fnExactCompactLogSpec.pre6 enc Try.prog Try.f3 Rows.fnExactCompactLogRow.domain false) (Rows.fnExactCompactLogSpec.post enc Try.prog Try.f3 false true false false):=by
 refine returnsInHanded_of_change_sized (C:=Try.checked) own started (by kernel_rfl) Try.func3
  (ChangeSpec.witness6 (enc:=enc) (C:=Try.checked) false ⟨#[],#[.slice none 0 0,.bool false],[]⟩ 8 (by kernel_rfl) (by kernel_rfl) (by kernel_rfl) (by kernel_rfl)) ?_
 intro W base args ds gs before hval0 hW hcnd hsz0 _
 have hval:∀ (j:Nat) t v,Try.f3.params[j]? = some t→args[j]? = some v→Value.okWide Try.prog W .any base t v:=hval0
 have hW':=hW
 obtain ⟨p,q,hA0,hV,rfl,hfz,hnd⟩:=hW
 have hA:DataW.TrodAll enc Try.prog W 0 (fun _=>true) true Try.f3.params.toList args.toList ds p:=hA0
 rw [Try.params3] at hA hval
 obtain ⟨v0,vs0,d0,ds0,p0,q0,hargs,rfl,rfl,h0,r0⟩:=trodAll_cons hA
 obtain ⟨v1,vs1,d1,ds1,p1,q1,rfl,rfl,rfl,h1,r1⟩:=trodAll_cons r0
 obtain ⟨rfl,rfl,rfl⟩:=trodAll_nil r1
 obtain rfl:args = #[v0,v1]:=by cases args;simp_all
 obtain ⟨rfl,rfl⟩:=trodVars_none hV
 obtain ⟨a0,len0,cap0,rfl⟩:=okWide_slice Try.underlying22 (hval 0 22 v0 rfl rfl)
 have k0:=h0
 have lt0:∀ x∈p0,x.block < W.heap.size:=by obtain ⟨m,hm⟩:=k0;exact DataW.trod_lt m _ _ _ hm
 obtain ⟨fu0,hf0⟩:=h0
 obtain ⟨l0,⟨A0,c0,hE0,hc0,hC0⟩,hm0,hw0⟩:=(Q.Opens.slice Try.underlying22 T.opens34 (by kernel_rfl)) _ enc W _ _ _ _ _ _ hf0
 replace hE0:([.slice a0 len0 cap0]:List Value) = [.slice A0 l0.length c0]:=hE0
 simp only [List.cons.injEq,Value.slice.injEq,and_true] at hE0
 obtain ⟨rfl,rfl,rfl⟩:=hE0
 obtain ⟨a1,rfl,rfl,rfl⟩:=open_bool Try.underlying4 (hval 1 4 v1 rfl rfl) h1
 clear hA0 hval0 hsz0
 obtain ⟨k,h⟩:=Pure.FnExactCompactLog l0 a1 hm0 hw0
 refine (T.laws_FnExactCompactLog.calls k _ _ l0 a1 true W hC0 hc0 h).mono ?_
 rintro e W' ⟨rfl,bel⟩
 exact ⟨_,rfl,_,_,_,[],_,[],hW',trodAll_mk1 (shut_bool Try.underlying4 _),(trodAll_cons_mk (Below.trod laidOut (by kernel_rfl) (of_decide_eq_true (by kernel_rfl)) k0 bel lt0) (trodAll_cons_mk (shut_bool Try.underlying4 _) trodAll_mk0)),rfl,bel.frame _,fun h=>by cases h⟩
theorem closed:joinedFacts Try.prog 3 Try.f3 Rows.fnExactCompactLogSpec Rows.fnExactCompactLogRow=true:=
 Head.closed_of _ _ _ _ _ (by kernel_rfl) (by kernel_rfl) (by kernel_rfl) (by kernel_rfl) (by kernel_rfl) (by kernel_rfl) (by kernel_rfl) (by kernel_rfl) (by kernel_rfl) (by kernel_rfl) (by kernel_rfl) (by kernel_rfl) (by kernel_rfl) (by kernel_rfl) (by kernel_rfl) (by kernel_rfl) (by kernel_rfl) (by kernel_rfl) (by kernel_rfl) (by kernel_rfl) (by kernel_rfl) (by kernel_rfl) (by kernel_rfl) (by kernel_rfl) (by kernel_rfl) Head.may_enter (by rw [Head.lifts_final];kernel_rfl) (by rw [Head.make_is];kernel_rfl) (by kernel_rfl) (by kernel_rfl) (by kernel_rfl) (by kernel_rfl)
theorem over:Rows.fnExactCompactLogRow.holds Try.pinned (OpenSpec.ofChange Rows.fnExactCompactLogSpec):=
 OpenClaim.holds_of_wide 3 Try.f3 rfl rfl rfl rfl rfl rfl rfl ⟨rfl,rfl,rfl,rfl,rfl⟩ rfl rfl rfl rfl rfl (by kernel_rfl) Try.func3 closed
  (of_decide_eq_true (by kernel_rfl)) (by unfold Func.isWrapper;first|(rw [if_pos (by decide +kernel)];kernel_rfl)|(rw [if_neg (by decide +kernel)];exact ⟨rfl,rfl⟩))
  (fun os started H enc _=>lifted os started H enc)
theorem proved:Rows.FnExactCompactLogSaid:=over
end Go.Proofs.Ytnjalgheihiagaa.fnExactCompactLog
namespace Go.Proofs.Ytnjalgheihiagaa
theorem fnExactCompactLog_holds:Rows.FnExactCompactLogSaid:=fnExactCompactLog.proved
end Go.Proofs.Ytnjalgheihiagaa
