/- The law FnStableRecordsRead holds (part 7 of 7; merged by pack2.py). -/
import Derived.RangeFuncNested
import Derived.RangeFuncBound
import Derived.RangeFuncCalls
import Derived.RangeFuncLeaves
import Derived.Shelf.Abstract
import Derived.Shelf.RegionOpen
import Derived.OwnWalkIn
import Derived.TacticsInMore
import Derived.LoopNIn
import Derived.LoopIn
import Derived.ProofKit
import Derived.OpenShut
import Derived.ShutString
import Derived.ChangeOld
import Derived.Test.YticpnjhkdfdkkaaFnStableRecordsReadK5
open List (setIfInBounds_toArray set_cons_zero set_cons_succ map_toArray map_cons map_nil length_drop length_take)
namespace Go.Proofs.Yticpnjhkdfdkkaa.U
open Go.RowKit Go.Proofs.YticpnjhkdfdkkaaW.PrintWords Go.Proofs.YticpnjhkdfdkkaaW.PrintLast Go.Proofs.YticpnjhkdfdkkaaW.PrintMore
attribute [local go_sem] max2_int max_two
set_option linter.unusedVariables false
set_option linter.unusedSimpArgs false
section
open Go.Shelf
attribute [local go_sem] Oper.semAt_some
def KeepT (t:TypeId) (W W' : World):Prop:=∀ (k:Nat) (cs:Array Value) (f:Nat×Nat),W.heap[k]? = some (.cells cs t f)→W'.heap[k]? = some (.cells cs t f)
theorem KeepT.refl (t:TypeId) (W:World):KeepT t W W:=fun _ _ _ h=>h
theorem KeepT.trans {t:TypeId} {X Y Z:World} (h:KeepT t X Y) (k:KeepT t Y Z):KeepT t X Z:=fun i cs f hi=>k i cs f (h i cs f hi)
theorem KeepT.of_below {t:TypeId} {W W' : World} (h:Below W.heap.size W W'):KeepT t W W':=fun k cs f hk=>(h.block k (Array.getElem?_eq_some_iff.1 hk).1).trans hk
theorem KeepT.of_grownBy {t:TypeId} {W W' : World} {row:Option Nat} (h:W.grownBy W' row) (hr:∀ k,row=some k→∀ cs f,W.heap[k]? ≠ some (.cells cs t f)):KeepT t W W':=fun k cs f hk=>(h.block k (Array.getElem?_eq_some_iff.1 hk).1 (fun e=>hr k e.symm cs f hk)).trans hk
theorem KeepT.putObj {t:TypeId} (W:World) (l:Nat) (o o' : Obj) (h:W.heap[l]? = some o) (ho:o.isCells=false):KeepT t W (W.putObj l o'):=
 KeepT.of_grownBy (grownBy_putObj' W l o') (fun k e cs f hk=>by cases e;rw [h] at hk;cases hk;cases ho)
theorem KeepT.alloc {t:TypeId} (W:World) (o:Obj):KeepT t W (W.alloc o):=KeepT.of_grownBy (World.grownBy_alloc W o none) (fun k e=>by cases e)
theorem KeepT.setCell {t u:TypeId} {W:World} {p:Addr} {cs:Array Value} {f:Nat×Nat} (h:W.heap[p.block]? = some (.cells cs u f)) (hu:u≠t) (v:Value):KeepT t W (W.setCell p v):=fun k cs' f' hk=>by
 by_cases e:k=p.block
 ·
  subst e
  rw [h] at hk
  cases hk
  exact absurd rfl hu
 ·
  exact (Below.heap_setCell W p v k e).trans hk
structure Places (w:World) (A:Option Addr) (l:List S27) (AB:Nat→Option Addr) (CB:Nat→Nat) (AK:Nat→Nat→Option Addr) (CK:Nat→Nat→Nat) (AV:Nat→Nat→Option Addr) (CV:Nat→Nat→Nat):Prop where
 out:∀ i:Nat,i < l.length→∃ ad,A=some ad∧w.cell? (ad.add (i * 6))=some (.bool (rd_T27 l i).f0)∧w.cell? ⟨(ad.add (i * 6)).block,(ad.add (i * 6)).off+1,none⟩=some (.bool (rd_T27 l i).f1)∧w.cell? ⟨(ad.add (i * 6)).block,(ad.add (i * 6)).off+2,none⟩=some (.int .i64 (rd_T27 l i).f2)∧w.cell? ⟨(ad.add (i * 6)).block,(ad.add (i * 6)).off+3,none⟩=some (.int .i64 (rd_T27 l i).f3)∧w.cell? ⟨(ad.add (i * 6)).block,(ad.add (i * 6)).off+4,none⟩=some (.int .i64 (rd_T27 l i).f4)∧w.cell? ⟨(ad.add (i * 6)).block,(ad.add (i * 6)).off+5,none⟩=some (.slice (AB i) (rd_T27 l i).f5.length (CB i))
 row:∀ i:Nat,(rd_T27 l i).f5.length≤CB i∧Kd.C k34 w (AB i) (rd_T27 l i).f5.length (rd_T27 l i).f5
 item:∀ i j:Nat,j < (rd_T27 l i).f5.length→∃ ad,AB i=some ad∧w.cell? (ad.add (j * 6))=some (.int .i64 (rd_T34 (rd_T27 l i).f5 j).f0)∧w.cell? ⟨(ad.add (j * 6)).block,(ad.add (j * 6)).off+1,none⟩=some (.int .i64 (rd_T34 (rd_T27 l i).f5 j).f1)∧w.cell? ⟨(ad.add (j * 6)).block,(ad.add (j * 6)).off+2,none⟩=some (.bool (rd_T34 (rd_T27 l i).f5 j).f2)∧w.cell? ⟨(ad.add (j * 6)).block,(ad.add (j * 6)).off+3,none⟩=some (.slice (AK i j) (rd_T34 (rd_T27 l i).f5 j).f3.length (CK i j))∧w.cell? ⟨(ad.add (j * 6)).block,(ad.add (j * 6)).off+4,none⟩=some (.bool (rd_T34 (rd_T27 l i).f5 j).f4)∧w.cell? ⟨(ad.add (j * 6)).block,(ad.add (j * 6)).off+5,none⟩=some (.slice (AV i j) (rd_T34 (rd_T27 l i).f5 j).f5.length (CV i j))
 key:∀ i j:Nat,(rd_T34 (rd_T27 l i).f5 j).f3.length≤CK i j∧(Kd.int .i64).C w (AK i j) (rd_T34 (rd_T27 l i).f5 j).f3.length (rd_T34 (rd_T27 l i).f5 j).f3
 val:∀ i j:Nat,(rd_T34 (rd_T27 l i).f5 j).f5.length≤CV i j∧(Kd.int .i64).C w (AV i j) (rd_T34 (rd_T27 l i).f5 j).f5.length (rd_T34 (rd_T27 l i).f5 j).f5
theorem rd_none_B {l:List S27} {i:Nat} (h:¬ i < l.length):rd_T27 l i=z27:=by
 unfold rd_T27;rw [Int.toNat_natCast,List.getD_eq_getElem?_getD,List.getElem?_eq_none (by omega)];rfl
theorem rd_none_R {l:List S34} {i:Nat} (h:¬ i < l.length):rd_T34 l i=z34:=by
 unfold rd_T34;rw [Int.toNat_natCast,List.getD_eq_getElem?_getD,List.getElem?_eq_none (by omega)];rfl
theorem places_of {w:World} {A:Option Addr} {l:List S27} (h:Kd.C k27 w A l.length l):∃ AB CB AK CK AV CV,Places w A l AB CB AK CK AV CV:=by
 have h1:∀ i:Nat,∃ (p:Option Addr×Nat),(i < l.length→∃ ad,A=some ad∧w.cell? (ad.add (i * 6))=some (.bool (rd_T27 l i).f0)∧w.cell? ⟨(ad.add (i * 6)).block,(ad.add (i * 6)).off+1,none⟩=some (.bool (rd_T27 l i).f1)∧w.cell? ⟨(ad.add (i * 6)).block,(ad.add (i * 6)).off+2,none⟩=some (.int .i64 (rd_T27 l i).f2)∧w.cell? ⟨(ad.add (i * 6)).block,(ad.add (i * 6)).off+3,none⟩=some (.int .i64 (rd_T27 l i).f3)∧w.cell? ⟨(ad.add (i * 6)).block,(ad.add (i * 6)).off+4,none⟩=some (.int .i64 (rd_T27 l i).f4)∧w.cell? ⟨(ad.add (i * 6)).block,(ad.add (i * 6)).off+5,none⟩=some (.slice p.1 (rd_T27 l i).f5.length p.2)) ∧
   (rd_T27 l i).f5.length≤p.2∧Kd.C k34 w p.1 (rd_T27 l i).f5.length (rd_T27 l i).f5:=by
  intro i;by_cases hi:i < l.length
  ·
   obtain ⟨ad,A5,c5,e,e0,e1,e2,e3,e4,e5,hl,hc⟩:=at_T27 h (i:Int) (by omega) (by omega);simp only [Int.toNat_natCast] at e0 e1 e2 e3 e4 e5;exact ⟨(A5,c5),fun _=>⟨ad,e,e0,e1,e2,e3,e4,e5⟩,hl,hc⟩
  ·
   refine ⟨(none,0),fun hi'=>absurd hi' hi,?_,?_⟩
   ·
    rw [rd_none_B hi];exact Nat.le_refl _
   ·
    rw [rd_none_B hi];exact Kd.C_nil k34 w
 obtain ⟨p,hp⟩:=Classical.axiomOfChoice h1;have h2:∀ x:Nat×Nat,∃ (q:(Option Addr×Nat)×(Option Addr×Nat)),(x.2 < (rd_T27 l x.1).f5.length→∃ ad,(p x.1).1=some ad∧w.cell? (ad.add (x.2 * 6))=some (.int .i64 (rd_T34 (rd_T27 l x.1).f5 x.2).f0)∧w.cell? ⟨(ad.add (x.2 * 6)).block,(ad.add (x.2 * 6)).off+1,none⟩=some (.int .i64 (rd_T34 (rd_T27 l x.1).f5 x.2).f1)∧w.cell? ⟨(ad.add (x.2 * 6)).block,(ad.add (x.2 * 6)).off+2,none⟩=some (.bool (rd_T34 (rd_T27 l x.1).f5 x.2).f2)∧w.cell? ⟨(ad.add (x.2 * 6)).block,(ad.add (x.2 * 6)).off+3,none⟩=some (.slice q.1.1 (rd_T34 (rd_T27 l x.1).f5 x.2).f3.length q.1.2)∧w.cell? ⟨(ad.add (x.2 * 6)).block,(ad.add (x.2 * 6)).off+4,none⟩=some (.bool (rd_T34 (rd_T27 l x.1).f5 x.2).f4)∧w.cell? ⟨(ad.add (x.2 * 6)).block,(ad.add (x.2 * 6)).off+5,none⟩=some (.slice q.2.1 (rd_T34 (rd_T27 l x.1).f5 x.2).f5.length q.2.2)) ∧
   ((rd_T34 (rd_T27 l x.1).f5 x.2).f3.length≤q.1.2∧(Kd.int .i64).C w q.1.1 (rd_T34 (rd_T27 l x.1).f5 x.2).f3.length (rd_T34 (rd_T27 l x.1).f5 x.2).f3) ∧
   ((rd_T34 (rd_T27 l x.1).f5 x.2).f5.length≤q.2.2∧(Kd.int .i64).C w q.2.1 (rd_T34 (rd_T27 l x.1).f5 x.2).f5.length (rd_T34 (rd_T27 l x.1).f5 x.2).f5):=by
  rintro ⟨i,j⟩;dsimp only;by_cases hj:j < (rd_T27 l i).f5.length
  ·
   obtain ⟨ad,A3,c3,A5,c5,e,e0,e1,e2,e3,e4,e5,hl3,hc3,hl5,hc5⟩:=at_T34 (hp i).2.2 (j:Int) (by omega) (by omega);simp only [Int.toNat_natCast] at e0 e1 e2 e3 e4 e5;exact ⟨((A3,c3),(A5,c5)),fun _=>⟨ad,e,e0,e1,e2,e3,e4,e5⟩,⟨hl3,hc3⟩,⟨hl5,hc5⟩⟩
  ·
   refine ⟨((none,0),(none,0)),fun hj'=>absurd hj' hj,?_,?_⟩
   ·
    rw [rd_none_R hj];exact ⟨Nat.le_refl _,Kd.C_nil _ w⟩
   ·
    rw [rd_none_R hj];exact ⟨Nat.le_refl _,Kd.C_nil _ w⟩
 obtain ⟨q,hq⟩:=Classical.axiomOfChoice h2;exact ⟨fun i=>(p i).1,fun i=>(p i).2,fun i j=>(q (i,j)).1.1,fun i j=>(q (i,j)).1.2,fun i j=>(q (i,j)).2.1,fun i j=>(q (i,j)).2.2,fun i hi=>(hp i).1 hi,fun i=>(hp i).2,fun i j hj=>(hq (i,j)).1 hj,fun i j=>(hq (i,j)).2.1,fun i j=>(hq (i,j)).2.2⟩
def ptsRow (l:List S27) (i:Nat):List (Nat×Nat):=(List.range (rd_T27 l i).f5.length).map fun j=>(i,j)
def ptsTo (l:List S27) (i:Nat):List (Nat×Nat):=(List.range i).flatMap (ptsRow l)
def pts (l:List S27):List (Nat×Nat):=ptsTo l l.length
theorem ptsTo_succ (l:List S27) (i:Nat):ptsTo l (i+1)=ptsTo l i++ptsRow l i:=by
 unfold ptsTo;rw [List.range_succ,List.flatMap_append];simp
theorem ptsTo_prefix (l:List S27):∀ (d i:Nat),ptsTo l i <+: ptsTo l (i+d)
 | 0,i=>List.prefix_refl _
 | d+1,i=>by
  refine (ptsTo_prefix l d i).trans ?_
  rw [← Nat.add_assoc,ptsTo_succ]
  exact List.prefix_append _ _
def ptsAt (l:List S27) (i j:Nat):List (Nat×Nat):=ptsTo l i++(List.range j).map fun j=>(i,j)
theorem ptsAt_zero (l:List S27) (i:Nat):ptsAt l i 0=ptsTo l i:=by simp [ptsAt]
theorem ptsAt_succ (l:List S27) (i j:Nat):ptsAt l i (j+1)=ptsAt l i j ++ [(i,j)]:=by simp [ptsAt,List.range_succ]
theorem ptsAt_full (l:List S27) (i:Nat):ptsAt l i (rd_T27 l i).f5.length=ptsTo l (i+1):=by rw [ptsTo_succ];rfl
theorem ptsAt_prefix {l:List S27} {i j:Nat} (hi:i < l.length) (hj:j≤(rd_T27 l i).f5.length):ptsAt l i j <+: pts l:=by
 have h1:ptsAt l i j <+: ptsTo l (i+1):=by
  obtain ⟨d,hd⟩:∃ d,(rd_T27 l i).f5.length=j+d:=⟨_,(Nat.add_sub_of_le hj).symm⟩;rw [← ptsAt_full,hd];unfold ptsAt;rw [List.range_add,List.map_append,← List.append_assoc];exact List.prefix_append _ _
 have h2:=ptsTo_prefix l (l.length - (i+1)) (i+1);rw [show i+1+(l.length - (i+1))=l.length by omega] at h2;exact h1.trans h2
theorem ptsAt_lt {l:List S27} {i j:Nat} (hi:i < l.length) (hj:j < (rd_T27 l i).f5.length):(ptsAt l i j).length < (pts l).length:=by
 have:=(ptsAt_prefix hi (show j+1≤_ by omega)).length_le;rw [ptsAt_succ,List.length_append,List.length_singleton] at this;omega
def encB (l:List S27) (AB:Nat→Option Addr) (CB:Nat→Nat) (i:Nat):Value:=.agg #[.bool (rd_T27 l i).f0,.bool (rd_T27 l i).f1,.int .i64 (rd_T27 l i).f2,.int .i64 (rd_T27 l i).f3,.int .i64 (rd_T27 l i).f4,.slice (AB i) (rd_T27 l i).f5.length (CB i)]
def encR (l:List S27) (AK:Nat→Nat→Option Addr) (CK:Nat→Nat→Nat) (AV:Nat→Nat→Option Addr) (CV:Nat→Nat→Nat) (i j:Nat):Value:=.agg #[.int .i64 (rd_T34 (rd_T27 l i).f5 j).f0,.int .i64 (rd_T34 (rd_T27 l i).f5 j).f1,.bool (rd_T34 (rd_T27 l i).f5 j).f2,.slice (AK i j) (rd_T34 (rd_T27 l i).f5 j).f3.length (CK i j),.bool (rd_T34 (rd_T27 l i).f5 j).f4,.slice (AV i j) (rd_T34 (rd_T27 l i).f5 j).f5.length (CV i j)]
def KpR (n₀:Nat) (W W' : World):Prop:=Below n₀ W W'∧KeepT 27 W W'
theorem KpR.t {n₀:Nat} {A B C:World} (h:KpR n₀ A B) (k:KpR n₀ B C):KpR n₀ A C:=⟨h.1.trans k.1,h.2.trans k.2⟩
theorem KpR.b {n₀:Nat} {w:World} (hn:n₀≤w.heap.size) (W:World) (l:Nat) (o o' : Obj) (hl:w.heap.size≤l) (h:W.heap[l]? = some o) (hc:o.isCells=false) (hw:o.isWalk=false):KpR n₀ W (W.putObj l o'):=
 ⟨belowK_b hn W l o o' hl h hc hw,KeepT.putObj W l o o' h hc⟩
set_option maxRecDepth 100000 in
set_option maxHeartbeats 4000000 in
theorem recs1_in (F:Fence) (n:Nat) (h1:F.fn 96) (hro:F.round=none) (hn : 1≤n) (l Bs n₀:Nat) (A0:Option Addr) (c0:Nat) (l0:List S27) {AB:Nat→Option Addr} {CB:Nat→Nat} {AK:Nat→Nat→Option Addr} {CK:Nat→Nat→Nat} {AV:Nat→Nat→Option Addr} {CV:Nat→Nat→Nat}
  (w W:World) (hP:Places w A0 l0 AB CB AK CK AV CV) (hmax:l0.length≤9223372036854775807) (hn₀:n₀=w.heap.size) (J Jx:List (Nat×Nat)→World→Prop) (hJ:AbidesFrom W.heap.size J)
  (hY:∀ pre (x:Nat×Nat) W1,J pre W1→pre.length < (pts l0).length→YieldAt F (n - 1) Try.prog l #[encB l0 AB CB x.1,encR l0 AK CK AV CV x.1 x.2] W1 fun e W'=>
   (e = .returned (.bool true)∧J (pre ++ [x]) W'∧KpR n₀ W1 W')∨(e = .returned (.bool false)∧Jx (pre ++ [x]) W'))
  (hBs:W.cell? ⟨Bs,0,none⟩=some (.slice A0 l0.length c0)) (hWB:Below n₀ w W) (h0:J [] W) :
  CallsIn F n Try.prog 96 #[.func (.yield l) #[] #[],.pointer (some ⟨Bs,0,none⟩)] W fun e W'=>(∃ v,e = .returned v) ∧
   ((∃ ys,ys=pts l0∧J ys W')∨(∃ pre,pre <+: pts l0∧Jx pre W')):=by
 have HP:=zzm hP;have HJ:=zzm hJ;have HY:=zzm hY;clear hP hJ hY;refine callsIn_of_wp Try.func96 rfl h1 ?_ hro;simp only [Try.ntmps96,List.size_toArray,List.length_cons,List.length_nil,Nat.reduceAdd,Nat.reduceSub,Array.replicate_succ,Array.replicate_zero,List.push_toArray,List.append_toArray,List.nil_append,List.cons_append];gi_wp2;gi_loopw [9] (fun i wr=>∃ m:Nat,m≤l0.length∧i = .int .i64 (m:Int)∧J (ptsTo l0 m) wr∧Below n₀ W wr)
  (fun i _=>l0.length - (intOf i).toNat)
 case atStart=>exact ⟨0,Nat.zero_le _,by go_num,by simpa [ptsTo] using h0,Below.refl _ _⟩
 case round=>
  obtain ⟨m,hm,rfl,hJs,hnx⟩:=hrel;by_cases hlt:m < l0.length
  ·
   have hmi:((m:Nat):Int) < (l0.length:Int):=by omega
   obtain ⟨ad,he,hx0,hx1,hx2,hx3,hx4,hx5⟩:=HP.out.out m hlt;subst he;have hwb:=hWB.trans hnx;have hc0:=(hwb.cell (by rw [hn₀];exact zzn w _ hx0)).trans hx0;have hc1:=(hwb.cell (by rw [hn₀];exact zzn w _ hx1)).trans hx1;have hc2:=(hwb.cell (by rw [hn₀];exact zzn w _ hx2)).trans hx2;have hc3:=(hwb.cell (by rw [hn₀];exact zzn w _ hx3)).trans hx3;have hc4:=(hwb.cell (by rw [hn₀];exact zzn w _ hx4)).trans hx4;have hc5:=(hwb.cell (by rw [hn₀];exact zzn w _ hx5)).trans hx5;clear hx0 hx1 hx2 hx3 hx4 hx5;have HWB:=zzm hwb;clear hwb;gi_wp2;obtain ⟨B0,hB0⟩:∃ B0,wr.heap.size=B0:=⟨_,rfl⟩;rw [hB0];gi_loopw [16] (fun i w2=>∃ j:Nat,j≤(rd_T27 l0 (m:Int)).f5.length∧i = .int .i64 (j:Int)∧J (ptsAt l0 m j) w2∧Below n₀ W w2∧w2.heap[B0]? = some (.cells #[.bool (rd_T27 l0 (m:Int)).f0,.bool (rd_T27 l0 (m:Int)).f1,.int .i64 (rd_T27 l0 (m:Int)).f2,.int .i64 (rd_T27 l0 (m:Int)).f3,.int .i64 (rd_T27 l0 (m:Int)).f4,.slice (AB m) (rd_T27 l0 (m:Int)).f5.length (CB m)] 27 (0,0)))
    (fun i _=>(rd_T27 l0 (m:Int)).f5.length - (intOf i).toNat)
   case atStart=>exact ⟨0,Nat.zero_le _,by go_num,by rw [ptsAt_zero];exact HJ.out _ _ _ none hJs (World.grownBy_alloc wr _ none) (fun r e=>by cases e),hnx.trans ((Below.refl _ wr).alloc (by have:=hnx.size;have:=hWB.size;omega) _),hB0 ▸ World.alloc_heap_new wr _⟩
   case round=>
    obtain ⟨j,hj,rfl,hJ2,hn2,hbx⟩:=hrel;have hmx:(rd_T27 l0 (m:Int)).f5.length≤9223372036854775807:=(HP.out.row m).2.2.1;by_cases hltj:j < (rd_T27 l0 (m:Int)).f5.length
    ·
     have hji:((j:Nat):Int) < ((rd_T27 l0 (m:Int)).f5.length:Int):=by omega
     obtain ⟨ad2,he2,hx0,hx1,hx2,hx3,hx4,hx5⟩:=HP.out.item m j hltj;rw [he2];rw [he2] at hbx;have hwb:=hWB.trans hn2;have hd0:=(hwb.cell (by rw [hn₀];exact zzn w _ hx0)).trans hx0;have hd1:=(hwb.cell (by rw [hn₀];exact zzn w _ hx1)).trans hx1;have hd2:=(hwb.cell (by rw [hn₀];exact zzn w _ hx2)).trans hx2;have hd3:=(hwb.cell (by rw [hn₀];exact zzn w _ hx3)).trans hx3;have hd4:=(hwb.cell (by rw [hn₀];exact zzn w _ hx4)).trans hx4;have hd5:=(hwb.cell (by rw [hn₀];exact zzn w _ hx5)).trans hx5;clear hx0 hx1 hx2 hx3 hx4 hx5 hc0 hc1 hc2 hc3 hc4 hc5;have hbx2:=(Below.heap_alloc wr (.cells #[.int .i64 (rd_T34 (rd_T27 l0 (m:Int)).f5 (j:Int)).f0,.int .i64 (rd_T34 (rd_T27 l0 (m:Int)).f5 (j:Int)).f1,.bool (rd_T34 (rd_T27 l0 (m:Int)).f5 (j:Int)).f2,.slice (AK m j) (rd_T34 (rd_T27 l0 (m:Int)).f5 (j:Int)).f3.length (CK m j),.bool (rd_T34 (rd_T27 l0 (m:Int)).f5 (j:Int)).f4,.slice (AV m j) (rd_T34 (rd_T27 l0 (m:Int)).f5 (j:Int)).f5.length (CV m j)] 34) B0 (Array.getElem?_eq_some_iff.1 hbx).1).trans hbx;have hb0:(wr.alloc (.cells #[.int .i64 (rd_T34 (rd_T27 l0 (m:Int)).f5 (j:Int)).f0,.int .i64 (rd_T34 (rd_T27 l0 (m:Int)).f5 (j:Int)).f1,.bool (rd_T34 (rd_T27 l0 (m:Int)).f5 (j:Int)).f2,.slice (AK m j) (rd_T34 (rd_T27 l0 (m:Int)).f5 (j:Int)).f3.length (CK m j),.bool (rd_T34 (rd_T27 l0 (m:Int)).f5 (j:Int)).f4,.slice (AV m j) (rd_T34 (rd_T27 l0 (m:Int)).f5 (j:Int)).f5.length (CV m j)] 34)).cell? ⟨B0,0,none⟩=some (.bool (rd_T27 l0 (m:Int)).f0):=by simp [World.cell?,hbx2]
     have hb1:(wr.alloc (.cells #[.int .i64 (rd_T34 (rd_T27 l0 (m:Int)).f5 (j:Int)).f0,.int .i64 (rd_T34 (rd_T27 l0 (m:Int)).f5 (j:Int)).f1,.bool (rd_T34 (rd_T27 l0 (m:Int)).f5 (j:Int)).f2,.slice (AK m j) (rd_T34 (rd_T27 l0 (m:Int)).f5 (j:Int)).f3.length (CK m j),.bool (rd_T34 (rd_T27 l0 (m:Int)).f5 (j:Int)).f4,.slice (AV m j) (rd_T34 (rd_T27 l0 (m:Int)).f5 (j:Int)).f5.length (CV m j)] 34)).cell? ⟨B0,1,none⟩=some (.bool (rd_T27 l0 (m:Int)).f1):=by simp [World.cell?,hbx2]
     have hb2:(wr.alloc (.cells #[.int .i64 (rd_T34 (rd_T27 l0 (m:Int)).f5 (j:Int)).f0,.int .i64 (rd_T34 (rd_T27 l0 (m:Int)).f5 (j:Int)).f1,.bool (rd_T34 (rd_T27 l0 (m:Int)).f5 (j:Int)).f2,.slice (AK m j) (rd_T34 (rd_T27 l0 (m:Int)).f5 (j:Int)).f3.length (CK m j),.bool (rd_T34 (rd_T27 l0 (m:Int)).f5 (j:Int)).f4,.slice (AV m j) (rd_T34 (rd_T27 l0 (m:Int)).f5 (j:Int)).f5.length (CV m j)] 34)).cell? ⟨B0,2,none⟩=some (.int .i64 (rd_T27 l0 (m:Int)).f2):=by simp [World.cell?,hbx2]
     have hb3:(wr.alloc (.cells #[.int .i64 (rd_T34 (rd_T27 l0 (m:Int)).f5 (j:Int)).f0,.int .i64 (rd_T34 (rd_T27 l0 (m:Int)).f5 (j:Int)).f1,.bool (rd_T34 (rd_T27 l0 (m:Int)).f5 (j:Int)).f2,.slice (AK m j) (rd_T34 (rd_T27 l0 (m:Int)).f5 (j:Int)).f3.length (CK m j),.bool (rd_T34 (rd_T27 l0 (m:Int)).f5 (j:Int)).f4,.slice (AV m j) (rd_T34 (rd_T27 l0 (m:Int)).f5 (j:Int)).f5.length (CV m j)] 34)).cell? ⟨B0,3,none⟩=some (.int .i64 (rd_T27 l0 (m:Int)).f3):=by simp [World.cell?,hbx2]
     have hb4:(wr.alloc (.cells #[.int .i64 (rd_T34 (rd_T27 l0 (m:Int)).f5 (j:Int)).f0,.int .i64 (rd_T34 (rd_T27 l0 (m:Int)).f5 (j:Int)).f1,.bool (rd_T34 (rd_T27 l0 (m:Int)).f5 (j:Int)).f2,.slice (AK m j) (rd_T34 (rd_T27 l0 (m:Int)).f5 (j:Int)).f3.length (CK m j),.bool (rd_T34 (rd_T27 l0 (m:Int)).f5 (j:Int)).f4,.slice (AV m j) (rd_T34 (rd_T27 l0 (m:Int)).f5 (j:Int)).f5.length (CV m j)] 34)).cell? ⟨B0,4,none⟩=some (.int .i64 (rd_T27 l0 (m:Int)).f4):=by simp [World.cell?,hbx2]
     have hb5:(wr.alloc (.cells #[.int .i64 (rd_T34 (rd_T27 l0 (m:Int)).f5 (j:Int)).f0,.int .i64 (rd_T34 (rd_T27 l0 (m:Int)).f5 (j:Int)).f1,.bool (rd_T34 (rd_T27 l0 (m:Int)).f5 (j:Int)).f2,.slice (AK m j) (rd_T34 (rd_T27 l0 (m:Int)).f5 (j:Int)).f3.length (CK m j),.bool (rd_T34 (rd_T27 l0 (m:Int)).f5 (j:Int)).f4,.slice (AV m j) (rd_T34 (rd_T27 l0 (m:Int)).f5 (j:Int)).f5.length (CV m j)] 34)).cell? ⟨B0,5,none⟩=some (.slice (some ad2) (rd_T27 l0 (m:Int)).f5.length (CB m)):=by simp [World.cell?,hbx2]
     obtain ⟨fn,tmps,assign,body,hy,hR⟩:=HY.out _ (m,j) (wr.alloc (.cells #[.int .i64 (rd_T34 (rd_T27 l0 (m:Int)).f5 (j:Int)).f0,.int .i64 (rd_T34 (rd_T27 l0 (m:Int)).f5 (j:Int)).f1,.bool (rd_T34 (rd_T27 l0 (m:Int)).f5 (j:Int)).f2,.slice (AK m j) (rd_T34 (rd_T27 l0 (m:Int)).f5 (j:Int)).f3.length (CK m j),.bool (rd_T34 (rd_T27 l0 (m:Int)).f5 (j:Int)).f4,.slice (AV m j) (rd_T34 (rd_T27 l0 (m:Int)).f5 (j:Int)).f5.length (CV m j)] 34)) (HJ.out _ _ _ none hJ2 (World.grownBy_alloc wr _ none) (fun r e=>by cases e)) (ptsAt_lt hlt hltj);dsimp only [encB,encR] at hy;rw [he2] at hy;gi_wp2;have hn3:=hn2.trans ((Below.refl n₀ wr).alloc (by have:=hn2.size;have:=hWB.size;omega) (.cells #[.int .i64 (rd_T34 (rd_T27 l0 (m:Int)).f5 (j:Int)).f0,.int .i64 (rd_T34 (rd_T27 l0 (m:Int)).f5 (j:Int)).f1,.bool (rd_T34 (rd_T27 l0 (m:Int)).f5 (j:Int)).f2,.slice (AK m j) (rd_T34 (rd_T27 l0 (m:Int)).f5 (j:Int)).f3.length (CK m j),.bool (rd_T34 (rd_T27 l0 (m:Int)).f5 (j:Int)).f4,.slice (AV m j) (rd_T34 (rd_T27 l0 (m:Int)).f5 (j:Int)).f5.length (CV m j)] 34));refine hR.mono ?_;rintro e W3 (⟨rfl,hJ3,hk3⟩|⟨rfl,hJx3⟩)
     ·
      gi_wp2;go_roundw
      case rel=>exact ⟨j+1,by omega,by go_num,by rw [ptsAt_succ];exact hJ3,hn3.trans hk3.1,hk3.2 _ _ _ hbx2⟩
      case measure=>simp [intOf] <;> omega
     ·
      gi_wp2;refine bodyPost_ret (results_none rfl _ _ _) rfl ?_;exact ⟨⟨_,rfl⟩,.inr ⟨ptsAt l0 m j ++ [(m,j)],by rw [← ptsAt_succ];exact ptsAt_prefix hlt (by omega),hJx3⟩⟩
    ·
     have hje:j=(rd_T27 l0 (m:Int)).f5.length:=by omega
     have hji:¬ ((j:Nat):Int) < ((rd_T27 l0 (m:Int)).f5.length:Int):=by omega
     gi_wp2;go_roundw
     case rel=>exact ⟨m+1,by omega,by go_num,by rw [← ptsAt_full,← hje];exact hJ2,hn2⟩
     case measure=>simp [intOf] <;> omega
  ·
   have hme:m=l0.length:=by omega
   have hmi:¬ ((m:Nat):Int) < (l0.length:Int):=by omega
   gi_wp2;go_end0;exact ⟨⟨_,rfl⟩,.inl (by have h:=hJs;rw [hme] at h;exact h)⟩
theorem recs_stops (F:Fence) (n:Nat) (h1:F.fn 96) (hro:F.round=none) (hn : 1≤n) (Bs:Nat) (A0:Option Addr) (c0:Nat) (l0:List S27) {AB:Nat→Option Addr} {CB:Nat→Nat} {AK:Nat→Nat→Option Addr} {CK:Nat→Nat→Nat} {AV:Nat→Nat→Option Addr} {CV:Nat→Nat→Nat}
  (w W0:World) (hP:Places w A0 l0 AB CB AK CK AV CV) (hmax:l0.length≤9223372036854775807) (hWB:Below w.heap.size w W0) (hc:W0.cell? ⟨Bs,0,none⟩=some (.slice A0 l0.length c0)) :
  SeqStopsK F n Try.prog 96 #[.pointer (some ⟨Bs,0,none⟩)] (fun x:Nat×Nat=>#[encB l0 AB CB x.1,encR l0 AK CK AV CV x.1 x.2]) (KpR w.heap.size) (fun ys=>ys=pts l0) (fun pre=>pre <+: pts l0) (pts l0).length W0:=
 fun l J Jx W hW hJ _ hY h0=>recs1_in F n h1 hro hn l Bs w.heap.size A0 c0 l0 w W hP hmax rfl J Jx hJ hY ((hW.cell (zzn W0 _ hc)).trans hc) (hWB.trans (hW.mono hWB.size)) h0
set_option maxHeartbeats 1000000 in
theorem recs_in (F:Fence) (n:Nat) (h6:F.fn 77) (hro:F.round=none) (A0:Option Addr) (len cap:Nat) (w:World) :
  CallsIn F n Try.prog 77 #[.slice A0 len cap] w fun e w'=>e = .returned (.func (.func 96) #[] #[.pointer (some ⟨w.heap.size,0,none⟩)])∧w' = w.alloc (.cells #[.slice A0 len cap] 39):=by
 refine callsIn_of_wp Try.func77 rfl h6 ?_ hro;simp only [Try.ntmps77,List.size_toArray,List.length_cons,List.length_nil,Nat.reduceAdd,Nat.reduceSub,Array.replicate_succ,Array.replicate_zero,List.push_toArray,List.append_toArray,List.nil_append,List.cons_append];gi_wp2;go_ret;exact ⟨rfl,rfl⟩
end
section
open Go.Shelf
variable {F:Fence} {n:Nat} {P:Program} {ops:Array Oper} {Q:Exit→Act→World→Prop}
theorem wpAnyIn_inv' {md:Region.Mode} (Inv:Array Bool→Act→World→Prop) (todo:Array Bool→Nat)
  (h:∀ listed a w,Inv listed a w→(Region.ready md ops listed = []→Q .normal a w)∧∀ i∈Region.ready md ops listed,wpOpIn F n P ops Q i (fun a' w'=>Inv (listed.setIfInBounds i true) a' w') a w)
  (h0:∀ listed a w,Inv listed a w→todo listed=0→Region.ready md ops listed = [])
  (hdec:∀ listed i a w,Inv listed a w→i∈Region.ready md ops listed→todo (listed.setIfInBounds i true) < todo listed) :
  ∀ (fuel:Nat) (listed:Array Bool) (a:Act) (w:World),Inv listed a w→todo listed≤fuel→wpAnyIn F n P md ops Q fuel listed a w
 | 0,listed,a,w,hi,ht=>by
  have hr:=h0 listed a w hi (by omega)
  exact ⟨hr,(h listed a w hi).1 hr⟩
 | fuel+1,listed,a,w,hi,ht=>by
  refine ⟨(h listed a w hi).1,fun i hm=>?_⟩
  have hd:=hdec listed i a w hi hm
  refine wpOpIn_mono ?_ ((h listed a w hi).2 i hm)
  intro a' w' hi'
  exact wpAnyIn_inv' Inv todo h h0 hdec fuel _ a' w' hi' (by omega)
def appSt (b:Bool) (s:Nat):Array Bool:=#[b,decide (1≤s),decide (2≤s),decide (3≤s),decide (4≤s),decide (5≤s)]
def appRd (b:Bool) (s:Nat):List Nat:=(if b=true then [] else [0])++(match s with
 | 0=>[1]
 | 1=>[2]
 | 2=>[3]
 | 3=>if b=true then [4] else []
 | 4=>[5]
 | _=>[])
def appAll:List (Bool×Nat):=[(false,0),(false,1),(false,2),(false,3),(true,0),(true,1),(true,2),(true,3),(true,4),(true,5)]
def appTab (ops:Array Oper):Bool:=appAll.all fun p=>Region.ready .any ops (appSt p.1 p.2)==appRd p.1 p.2
theorem wpAnyIn_app6 (htab:appTab ops=true) (I:Bool→Nat→Act→World→Prop)
  (hdone:∀ a w,I true 5 a w→Q .normal a w)
  (s0:∀ s a w,s≤3→I false s a w→wpOpIn F n P ops Q 0 (fun a' w'=>I true s a' w') a w)
  (s1:∀ b a w,I b 0 a w→wpOpIn F n P ops Q 1 (fun a' w'=>I b 1 a' w') a w)
  (s2:∀ b a w,I b 1 a w→wpOpIn F n P ops Q 2 (fun a' w'=>I b 2 a' w') a w)
  (s3:∀ b a w,I b 2 a w→wpOpIn F n P ops Q 3 (fun a' w'=>I b 3 a' w') a w)
  (s4:∀ a w,I true 3 a w→wpOpIn F n P ops Q 4 (fun a' w'=>I true 4 a' w') a w)
  (s5:∀ a w,I true 4 a w→wpOpIn F n P ops Q 5 (fun a' w'=>I true 5 a' w') a w)
  {a:Act} {w:World} (hi:I false 0 a w):wpAnyIn F n P .any ops Q 6 (zzB 6 0) a w:=by
 have htab' : ∀ p∈appAll,Region.ready .any ops (appSt p.1 p.2)=appRd p.1 p.2:=fun p hp=>eq_of_beq (List.all_eq_true.mp htab p hp);refine wpAnyIn_inv' (fun l a w=>∃ p∈appAll,l=appSt p.1 p.2∧I p.1 p.2 a w) (fun l=>l.toList.count false) ?_ ?_ ?_ _ _ _ _ ⟨(false,0),by decide,rfl,hi⟩ (by decide)
 ·
  rintro listed a w ⟨p,hp,rfl,hI⟩;rw [htab' p hp];simp only [appAll,List.mem_cons,List.not_mem_nil,or_false] at hp;have put:∀ {i:Nat} {b:Bool} {s:Nat} {b' : Bool} {s' : Nat},(b',s')∈appAll→(appSt b s).setIfInBounds i true=appSt b' s'→wpOpIn F n P ops Q i (fun a' w'=>I b' s' a' w') a w→wpOpIn F n P ops Q i (fun a' w'=>∃ p∈appAll,(appSt b s).setIfInBounds i true=appSt p.1 p.2∧I p.1 p.2 a' w') a w:=
   fun h1 h2 h3=>wpOpIn_mono (fun a' w' h=>⟨_,h1,h2,h⟩) h3
  rcases hp with rfl|rfl|rfl|rfl|rfl|rfl|rfl|rfl|rfl|rfl
  ·
   refine ⟨fun e=>by simp [appRd] at e,fun i hi=>?_⟩;simp [appRd] at hi;rcases hi with rfl|rfl
   ·
    exact put (by decide) rfl (s0 _ _ _ (by decide) hI)
   ·
    exact put (by decide) rfl (s1 _ _ _ hI)
  ·
   refine ⟨fun e=>by simp [appRd] at e,fun i hi=>?_⟩;simp [appRd] at hi;rcases hi with rfl|rfl
   ·
    exact put (by decide) rfl (s0 _ _ _ (by decide) hI)
   ·
    exact put (by decide) rfl (s2 _ _ _ hI)
  ·
   refine ⟨fun e=>by simp [appRd] at e,fun i hi=>?_⟩;simp [appRd] at hi;rcases hi with rfl|rfl
   ·
    exact put (by decide) rfl (s0 _ _ _ (by decide) hI)
   ·
    exact put (by decide) rfl (s3 _ _ _ hI)
  ·
   refine ⟨fun e=>by simp [appRd] at e,fun i hi=>?_⟩;simp [appRd] at hi;rcases hi with rfl;exact put (by decide) rfl (s0 _ _ _ (by decide) hI)
  ·
   refine ⟨fun e=>by simp [appRd] at e,fun i hi=>?_⟩;simp [appRd] at hi;rcases hi with rfl;exact put (by decide) rfl (s1 _ _ _ hI)
  ·
   refine ⟨fun e=>by simp [appRd] at e,fun i hi=>?_⟩;simp [appRd] at hi;rcases hi with rfl;exact put (by decide) rfl (s2 _ _ _ hI)
  ·
   refine ⟨fun e=>by simp [appRd] at e,fun i hi=>?_⟩;simp [appRd] at hi;rcases hi with rfl;exact put (by decide) rfl (s3 _ _ _ hI)
  ·
   refine ⟨fun e=>by simp [appRd] at e,fun i hi=>?_⟩;simp [appRd] at hi;rcases hi with rfl;exact put (by decide) rfl (s4 _ _ hI)
  ·
   refine ⟨fun e=>by simp [appRd] at e,fun i hi=>?_⟩;simp [appRd] at hi;rcases hi with rfl;exact put (by decide) rfl (s5 _ _ hI)
  ·
   exact ⟨fun _=>hdone _ _ hI,fun i hi=>by simp [appRd] at hi⟩
 ·
  rintro listed a w ⟨p,hp,rfl,hI⟩ h0;rw [htab' p hp];simp only [appAll,List.mem_cons,List.not_mem_nil,or_false] at hp;rcases hp with rfl|rfl|rfl|rfl|rfl|rfl|rfl|rfl|rfl|rfl <;> first|rfl|exact absurd h0 (by decide)
 ·
  rintro listed i a w ⟨p,hp,rfl,hI⟩ hi;rw [htab' p hp] at hi;simp only [appAll,List.mem_cons,List.not_mem_nil,or_false] at hp;rcases hp with rfl|rfl|rfl|rfl|rfl|rfl|rfl|rfl|rfl|rfl <;> (simp [appRd] at hi) <;> first|(rcases hi with rfl|rfl <;> decide)|(subst hi;decide)
section
variable {o:Oper} {a:Act} {W:World} {K:Act→World→Prop} {α:Type}
theorem S_append_in (d:Kd α) (base:Nat) (s x:Operand) (t e:TypeId) (z:Value) (bytes:Nat)
  (ho:o.op = .call { callee:=.builtin .append,args:=#[s,x],argTypes:=#[t,t] })
  (ht:P.underlying t=some (.slice e)) (hinfo:(P.info? e).map (fun i=>(i.zero,i.size,i.bytes))=some (some z,d.sz,bytes)) (hz:z.cells.size=d.sz) (hs0 : 0 < d.sz) (hb0 : 0 < bytes)
  (v:Value) (xs:List α) (p : α) (cs:List Value) (ok okp:Nat→Prop) (hs:a.eval s=v) (ad:Addr) (c:Nat) (hx:a.eval x = .slice (some ad) 1 c) (hcs:∀ j u,cs[j]? = some u→W.cell? (ad.add j)=some u) (hp:d.M W base okp p cs) (hokp:∀ k,okp k→ok k∧some k≠v.ownBlock) (hfresh:∀ k,W.heap.size≤k→ok k)
  (HO:Kd.S d e W base (fun k=>ok k∧¬ okp k) v xs) (hbase:base≤W.heap.size) (hl:(xs.length+1) * bytes≤140737488355328)
  (h:∀ v1 w1,Kd.S d e w1 base ok v1 (xs ++ [p])→W.grownBy w1 v.ownBlock→(v1.ownBlock=v.ownBlock∨∃ b,v1.ownBlock=some b∧W.heap.size≤b)→K (a.put o.dst v1) w1) :
  Oper.wpIn F n P o a W K Q:=by
 obtain ⟨f,hf,hR⟩:=Kd.S_tag HO xs.length okp (fun _ hk h2=>h2.2 hk);obtain ⟨h0,inner,hown,hr⟩:=Kd.R_mono hR (fun _ hk=>hk.1);obtain ⟨i0,hi,hzz⟩:=Option.map_eq_some_iff.1 hinfo;simp only [Prod.mk.injEq] at hzz;obtain ⟨hz0,hz1,hz2⟩:=hzz;have hlen:xs.length+1≤140737488355328:=Nat.le_trans (Nat.le_mul_of_pos_right _ hb0) hl;have hM:(Kd.tag f d).M W base okp (p,xs.length) cs:=d.M_mono (fun k hk=>⟨hk,hf k hk⟩) hp;obtain ⟨v1,w1,hrun,hown1,hg,_,hat⟩:=run_append_own_at (P:=P) W base t o.type e i0 z d.sz bytes ht hi hz0 hz1 hz2 hz hs0 v xs.zipIdx.length inner hown ad 1 c cs (by rw [d.K_len (d.K_of_M hp),Nat.one_mul]) hcs (d.K_one (d.K_of_M hp)) (by rw [List.length_zipIdx];simp only [maxLen];omega) (by rw [List.length_zipIdx];exact hl) hbase;have hat' : v1.ownBlock=v.ownBlock∨∃ b,v1.ownBlock=some b∧W.heap.size≤b:=hat.imp id (fun h=>⟨_,h,Nat.le_refl _⟩);have hS:Kd.S d e w1 base ok v1 (xs ++ [p]):=⟨f,by rw [Kd.zip_snoc];exact Kd.R_appended h0 hr hM hokp hfresh hown1 hg hat'⟩;unfold Oper.wpIn;refine ⟨by simp [Oper.about,ho,resolve,Target.leads,Sem.run_pure],?_⟩;rw [Oper.semAt_plain F _ _ (by rw [ho];intro c hc';cases hc')];simp only [ho,execOp,resolve,invoke,builtin,Sem.run_bind,Sem.run_pure,Result.andThen_ok,map_toArray,map_cons,map_nil,hs,hx,hrun];exact h v1 w1 hS hg hat'
end
end
section
open Go.Shelf
attribute [local go_sem] Oper.semAt_some
theorem S_lit0 {α:Type} (d:Kd α) (e:Nat) (W:World) (base:Nat) (ok:Nat→Prop) (hok:ok W.heap.size) (hbase:base≤W.heap.size):Kd.S d e (W.alloc (.cells #[] e)) base ok (.slice (some ⟨W.heap.size,0,none⟩) 0 0) []:=by
 refine ⟨fun _=>0,fun k hk=>?_,[],?_,by simp [Reps]⟩
 ·
  have:W.heap.size=k:=by simpa [Value.ownBlock] using hk
  rw [← this];exact hok
 ·
  exact World.ownsRow_lit (base:=base) (e:=e) (size:=d.sz) W #[] 0 hbase (by simp [maxLen]) (by simp)
theorem S_own {α:Type} {d:Kd α} {e base:Nat} {ok:Nat→Prop} {v:Value} {xs:List α} {X Y:World} {row:Option Nat} (h:Kd.S d e X base ok v xs) (hg:X.grownBy Y row) (hr:∀ r,row=some r→∃ o:Obj,X.heap[r]? = some o∧o.isCells=false):Kd.S d e Y base ok v xs:=by
 refine Kd.S_mono (Kd.S_move (Kd.S_bound h) (fun k hk=>hg.block k hk.2.2.1 (fun e=>?_))) (fun k hk=>hk.1);obtain ⟨_,_,_,q,_,cs,hc⟩:=hk;obtain ⟨o,ho,hoc⟩:=hr k e.symm;rw [hc] at ho;cases ho;cases hoc
theorem keeps_below {B:Nat} {W W' : World} (h:Below W.heap.size W W'):KeepsFrom B W W':=⟨h.size,fun k _ _ hk _=>(h.block k (Array.getElem?_eq_some_iff.1 hk).1).trans hk⟩
theorem keeps_row {B:Nat} {W W' : World} {row:Option Nat} {t:TypeId} (hg:W.grownBy W' row) (hr:∀ k,row=some k→∃ cs,W.heap[k]? = some (.cells cs t (0,0))):KeepsFrom B W W':=
 ⟨hg.size,fun k o _ hk ho=>(hg.block k (Array.getElem?_eq_some_iff.1 hk).1 (fun e=>by obtain ⟨cs,hc⟩:=hr k e.symm;rw [hc] at hk;cases hk;cases ho)).trans hk⟩
theorem len_step {n:Nat} {a:Int} (h:(n:Int)≤a) (h2:¬ (n:Int)=a):((n+1:Nat):Int)≤a:=by omega
def okRd (n:Nat) (k:Nat):Prop:=k≠n∧k≠n+1∧k≠n+1+1+1
def rcAt (l:List S27) (x:Nat×Nat):S34:=rd_T34 (rd_T27 l (x.1:Int)).f5 (x.2:Int)
def okRecs (l:List S27):Bool:=l.all fun b=>b.f5.all fun r=>decide (r.f3.length < 8796093022208)&&decide (r.f5.length < 8796093022208)
theorem okRecs_at {l:List S27} (h:okRecs l=true) (i j:Nat):(rcAt l (i,j)).f3.length < 8796093022208∧(rcAt l (i,j)).f5.length < 8796093022208:=by
 unfold rcAt;dsimp only;by_cases hi:i < l.length
 ·
  by_cases hj:j < (rd_T27 l i).f5.length
  ·
   have h1:rd_T27 l i=l[i]:=by unfold rd_T27;rw [Int.toNat_natCast,List.getD_eq_getElem?_getD,List.getElem?_eq_getElem hi];rfl
   have h2:rd_T34 (rd_T27 l i).f5 j=(rd_T27 l i).f5[j]:=by unfold rd_T34;rw [Int.toNat_natCast,List.getD_eq_getElem?_getD,List.getElem?_eq_getElem hj];rfl
   have h3:=List.all_eq_true.1 (List.all_eq_true.1 h (rd_T27 l i) (by rw [h1];exact List.getElem_mem hi)) _ (List.getElem_mem hj);rw [h2];simpa using h3
  ·
   rw [rd_none_R hj];exact ⟨by decide,by decide⟩
 ·
  rw [rd_none_B hi];rw [rd_none_R (by simp [z27])];exact ⟨by decide,by decide⟩
theorem copyOf_at {l:List S27} (h:okRecs l=true) (x:Nat×Nat):impl_Record_copyOf.f (rcAt l x).f0 (rcAt l x).f1 (rcAt l x).f2 (rcAt l x).f3 (rcAt l x).f4 (rcAt l x).f5=some ((rcAt l x).f0,(rcAt l x).f1,(rcAt l x).f2,(rcAt l x).f3,(rcAt l x).f4,(rcAt l x).f5):=by
 have:=okRecs_at h x.1 x.2;unfold impl_Record_copyOf.f slices_Clone_int_int.f;rw [if_pos this.1,if_pos this.2];rfl
def rdKeep (l:List S27) (a1:Int) (x:Nat×Nat):Bool:=!(rd_T27 l (x.1:Int)).f1&&decide ((rcAt l x).f0 ≥ a1)
def rdOut (l:List S27) (a1:Int) (pre:List (Nat×Nat)):List S34:=(pre.filter (rdKeep l a1)).map (rcAt l)
theorem rdOut_take {l:List S27} {a1 a2:Int} {ini ys:List (Nat×Nat)} (h:ini <+: ys) (hq:((rdOut l a1 ini).length:Int)=a2):(rdOut l a1 ys).take a2.toNat=rdOut l a1 ini:=by
 obtain ⟨zs,rfl⟩:=h;have:rdOut l a1 (ini++zs)=rdOut l a1 ini++rdOut l a1 zs:=by simp [rdOut]
 rw [this,← hq,Int.toNat_natCast,List.take_left]
def impl_ReadRecords.f (k:Nat) (l0:List S27) (a1:Int) (a2:Int):Option (List S34):=(impl_LogValid.f k l0).bind fun t=>if t=true then (if 0≤a2∧a2≤99 then (if okRecs l0=true then some ((rdOut l0 a1 (pts l0)).take a2.toNat) else none) else some []) else some []
set_option maxRecDepth 100000 in
set_option maxHeartbeats 4000000 in
theorem impl_ReadRecords.calls (k:Nat) (A0:Option Addr) (c0:Nat) (l0:List (S27)) (a1:Int) (a2:Int) (r:List (S34)) (w:World) (hr0:Kd.C k27 w A0 l0.length l0) (hc0:l0.length≤c0) (h:impl_ReadRecords.f k l0 a1 a2=some r) :
  Calls Try.prog 45 #[.slice A0 l0.length c0,.int .i64 a1,.int .i64 a2] w fun e w'=>∃ v0_:Value,e = .returned (v0_)∧Kd.S k34 34 w' w.heap.size (fun _=>True) v0_ r∧Below w.heap.size w w':=by
 have hm0:l0.length≤9223372036854775807:=hr0.2.1;obtain ⟨AB,CB,AK,CK,AV,CV,hP⟩:=places_of hr0;unfold impl_ReadRecords.f at h;replace h:=Option.bind_eq_some_iff.mp h;obtain ⟨t0,hv0,h⟩:=h;have HV0:=zzm hv0;have HP:=zzm hP;have HR0:=zzm hr0;have HC0:=zzm hc0;have H:=zzm h;clear hr0 hc0 h hv0 hP;refine callsIn_wide (n:=8).1 ?_;have hro:(Fence.wide).round=none:=rfl;refine callsIn_of_wp_marks Try.func45 rfl trivial ?_ hro;simp only [Try.ntmps45,List.size_toArray,List.length_cons,List.length_nil,Nat.reduceAdd,Nat.reduceSub,Array.replicate_succ,Array.replicate_zero,List.push_toArray,List.append_toArray,List.nil_append,List.cons_append];gi_wp2;refine ⟨trivial,?_⟩;obtain ⟨W4,hW4⟩:∃ W4,W4=((((w.alloc (.cells #[.int .i64 a1] 3)).alloc (.cells #[.int .i64 a2] 3)).alloc (.cells #[] 34)).alloc (.cells #[.slice (some ⟨w.heap.size+1+1,0,none⟩) 0 0] 25)):=⟨_,rfl⟩;have hB4:Below w.heap.size w W4:=by rw [hW4];exact ((((Below.refl _ w).alloc (Nat.le_refl _) _).alloc (by simp) _).alloc (by simp;omega) _).alloc (by simp;omega) _
 have hsz4:W4.heap.size=w.heap.size+4:=by rw [hW4];simp
 have hb1:Boxed W4 w.heap.size 3 (.int .i64 a1):=by rw [hW4];exact (((Boxed.new w 3 _).alloc _).alloc _).alloc _
 have hb2:Boxed W4 (w.heap.size+1) 3 (.int .i64 a2):=by
  have:=((Boxed.new (w.alloc (.cells #[.int .i64 a1] 3)) 3 (.int .i64 a2)).alloc (.cells #[] 34)).alloc (.cells #[.slice (some ⟨w.heap.size+1+1,0,none⟩) 0 0] 25);rw [World.size_alloc] at this;rw [hW4];exact this
 have hb3:Boxed W4 (w.heap.size+1+1+1) 25 (.slice (some ⟨w.heap.size+1+1,0,none⟩) 0 0):=by
  have:=Boxed.new (((w.alloc (.cells #[.int .i64 a1] 3)).alloc (.cells #[.int .i64 a2] 3)).alloc (.cells #[] 34)) 25 (.slice (some ⟨w.heap.size+1+1,0,none⟩) 0 0);simp only [World.size_alloc] at this;rw [hW4];exact this
 have hS:Kd.S k34 34 W4 w.heap.size (okRd w.heap.size) (.slice (some ⟨w.heap.size+1+1,0,none⟩) 0 0) []:=by
  have h0:=S_lit0 k34 34 ((w.alloc (.cells #[.int .i64 a1] 3)).alloc (.cells #[.int .i64 a2] 3)) w.heap.size (okRd w.heap.size) (by simp [okRd];omega) (by simp;omega);simp only [World.size_alloc] at h0;rw [hW4];exact Kd.S_alloc h0 _
 rw [← hW4];clear hW4;have HR4:=zzm (Kd.C_below HR0.out hB4);refine (callsIn_wide.2 (impl_LogValid.calls k _ _ l0 _ _ HR4.out HC0.out HV0.out)).mono ?_;rintro e w1 ⟨rfl,hbl⟩;dsimp only;have hB1:Below w.heap.size w w1:=hB4.trans (hbl.mono (by omega));replace hb1:Boxed w1 w.heap.size 3 (.int .i64 a1):=(hbl.block _ hb1.lt).trans hb1;replace hb2:Boxed w1 (w.heap.size+1) 3 (.int .i64 a2):=(hbl.block _ hb2.lt).trans hb2;replace hb3:Boxed w1 (w.heap.size+1+1+1) 25 (.slice (some ⟨w.heap.size+1+1,0,none⟩) 0 0):=(hbl.block _ hb3.lt).trans hb3;replace hS:=Kd.S_below hS hbl;have hsz1:w.heap.size+4≤w1.heap.size:=by have:=hbl.size;omega
 clear hbl hB4 hsz4 HR4;have c2:=hb2.cell;have c3:=hb3.cell;cases t0 with
 | false=>
  have hr:r = []:=by have:=H.out;simpa using this.symm
  gi_wp2;refine ⟨trivial,?_⟩;gi_wp2;subst hr;exact ⟨_,results_tmp rfl _ _ _,_,rfl,Kd.S_mono hS (fun _ _=>trivial),hB1⟩
 | true=>
  have H2:=zzm ((if_pos rfl).symm.trans H.out:(if 0≤a2∧a2≤99 then if okRecs l0=true then some (List.take a2.toNat (rdOut l0 a1 (pts l0))) else none else some [])=some r);clear H;by_cases hw : 0≤a2∧a2≤99
  ·
   have hok:okRecs l0=true∧r=(rdOut l0 a1 (pts l0)).take a2.toNat:=by
    have h:=H2.out;rw [if_pos hw] at h;by_cases h1:okRecs l0=true
    ·
     rw [if_pos h1] at h;exact ⟨h1,(Option.some.inj h).symm⟩
    ·
     rw [if_neg h1] at h;cases h
   obtain ⟨hok,hr⟩:=hok;have HOK:=zzm hok;have HRR:=zzm hr;clear hok hr H2;have HWI:=zzm (show impl_within.f a2 0 99=some true by unfold impl_within.f;rw [if_pos (by omega)];simp [hw.2]);gi_wp2_with (refine ⟨trivial,?_⟩;gi_at_call 57;refine (callsIn_wide.2 (impl_within.calls _ _ _ _ _ HWI.out)).mono ?_;rintro e w2 ⟨rfl,⟨n2,rfl⟩⟩;dsimp only);refine ⟨trivial,?_⟩;refine (recs_in Fence.wide 7 trivial hro A0 _ _ _).mono ?_;rintro e w3 ⟨rfl,rfl⟩;dsimp only;obtain ⟨W0,hW0⟩:∃ W0,W0=(w1.drewN n2).alloc (.cells #[.slice A0 l0.length c0] 39):=⟨_,rfl⟩;obtain ⟨Bs,hBs⟩:∃ Bs,Bs=(w1.drewN n2).heap.size:=⟨_,rfl⟩;have hsb:Boxed W0 Bs 39 (.slice A0 l0.length c0):=by rw [hW0,hBs];exact Boxed.new _ _ _
   have hB0:Below w.heap.size w W0:=by rw [hW0];exact (zzb hB1 n2).alloc (by have:=hB1.size;exact this) _
   have hB10:Below w1.heap.size w1 W0:=by rw [hW0];exact (zzb (Below.refl _ w1) n2).alloc (Nat.le_refl _) _
   have hd1:Boxed W0 w.heap.size 3 (.int .i64 a1):=(hB10.block _ hb1.lt).trans hb1;have hd2:Boxed W0 (w.heap.size+1) 3 (.int .i64 a2):=(hB10.block _ hb2.lt).trans hb2;have hd3:Boxed W0 (w.heap.size+1+1+1) 25 (.slice (some ⟨w.heap.size+1+1,0,none⟩) 0 0):=(hB10.block _ hb3.lt).trans hb3;have hSd:=Kd.S_below hS hB10;have hsz0:w.heap.size+4≤W0.heap.size:=by have:=hB10.size;omega
   rw [← hW0,← hBs];clear hW0 hBs hB10 hb1 hb2 hb3 hS c2 c3 hB1 hsz1;gi_wp2;refine wpIn_rangeFunc_ownH rfl (by omega) (gf:=96) (lb:=#[.pointer (some ⟨Bs,0,none⟩)]) rfl trivial (enters_of Try.func96 (by kernel_rfl) rfl)
    (recs_stops Fence.wide _ trivial rfl (by omega) Bs A0 c0 l0 w W0 HP.out hm0 hB0 hsb.cell) KpR.t (KpR.b hB0.size) (Below.refl _ _) (fun _=>rfl)
    (fun pre W=>(∃ v,Boxed W (w.heap.size+1+1+1) 25 v∧Kd.S k34 34 W w.heap.size (okRd w.heap.size) v (rdOut l0 a1 pre)∧((rdOut l0 a1 pre).length:Int)≤a2)∧Boxed W w.heap.size 3 (.int .i64 a1)∧Boxed W (w.heap.size+1) 3 (.int .i64 a2)∧Below w.heap.size w W)
    (fun c pre W=>(c = .exit 0∧∃ ini last,pre=ini ++ [last]∧((rdOut l0 a1 ini).length:Int)=a2∧∃ v,Boxed W (w.heap.size+1+1+1) 25 v∧Kd.S k34 34 W w.heap.size (okRd w.heap.size) v (rdOut l0 a1 ini))∧Below w.heap.size w W)
    (fun s X Y row hs hg hr=>by
     obtain ⟨⟨v,e1,e2,e3⟩,e4,e5,e6⟩:=hs;have hc:∀ r,row=some r→∃ o:Obj,X.heap[r]? = some o∧o.isCells=false:=fun r e=>(hr r e).2;exact ⟨⟨v,boxed_own _ _ (fun _:Unit=>v) () X Y row e1 hg hc,S_own e2 hg hc,e3⟩,boxed_own _ _ (fun _:Unit=>_) () X Y row e4 hg hc,boxed_own _ _ (fun _:Unit=>_) () X Y row e5 hg hc,ownFrom_below (Nat.le_refl _) hB0.size () X Y row e6 hg hr⟩)
    (fun c s X Y row hs hg hr=>by
     obtain ⟨⟨h0,ini,last,e0,e1,v,e2,e3⟩,e4⟩:=hs;have hc:∀ r,row=some r→∃ o:Obj,X.heap[r]? = some o∧o.isCells=false:=fun r e=>(hr r e).2;exact ⟨⟨h0,ini,last,e0,e1,v,boxed_own _ _ (fun _:Unit=>v) () X Y row e2 hg hc,S_own e3 hg hc⟩,ownFrom_below (Nat.le_refl _) hB0.size () X Y row e4 hg hr⟩)
    ⟨⟨_,hd3,hSd,by simp [rdOut];omega⟩,hd1,hd2,hB0⟩
    (fun x a' W=>∃ Bx,W.heap[Bx]? = some (.cells #[.bool (rd_T27 l0 (x.1:Int)).f0,.bool (rd_T27 l0 (x.1:Int)).f1,.int .i64 (rd_T27 l0 (x.1:Int)).f2,.int .i64 (rd_T27 l0 (x.1:Int)).f3,.int .i64 (rd_T27 l0 (x.1:Int)).f4,.slice (AB x.1) (rd_T27 l0 (x.1:Int)).f5.length (CB x.1)] 27 (0,0))∧W.heap[Bx+1]? = some (.cells #[.int .i64 (rcAt l0 x).f0,.int .i64 (rcAt l0 x).f1,.bool (rcAt l0 x).f2,.slice (AK x.1 x.2) (rcAt l0 x).f3.length (CK x.1 x.2),.bool (rcAt l0 x).f4,.slice (AV x.1 x.2) (rcAt l0 x).f5.length (CV x.1 x.2)] 34 (0,0))∧a' = { tmps:=#[.slice A0 l0.length c0,.int .i64 a1,.int .i64 a2,undef,.pointer (some ⟨w.heap.size,0,none⟩),.pointer (some ⟨w.heap.size+1,0,none⟩),.slice none 0 0,.pointer (some ⟨w.heap.size+1+1+1,0,none⟩),.pointer (some ⟨Bx,0,none⟩),.pointer (some ⟨Bx+1,0,none⟩),.slice (some ⟨w.heap.size+1+1,0,none⟩) 0 0,.slice A0 l0.length c0,.bool true,.bool false,.bool false,.int .i64 a2,.bool true,.bool false,.bool false,undef,.slice A0 l0.length c0,.func (.func 96) #[] #[.pointer (some ⟨Bs,0,none⟩)],encB l0 AB CB x.1,encR l0 AK CK AV CV x.1 x.2,undef,undef,undef,undef,undef,undef,undef,undef,undef,undef,undef,undef,undef,undef,undef,undef,undef,undef,undef],defers:=[] })
    (fun x a' _ X Y row hs hg hr=>by
     obtain ⟨Bx,e1,e2,e3⟩:=hs;have hne:∀ k cs t f,X.heap[k]? = some (.cells cs t f)→some k≠row:=fun k cs t f h e=>by obtain ⟨o,ho,hoc⟩:=(hr k e.symm).2;rw [h] at ho;cases ho;cases hoc
     exact ⟨Bx,(hg.block _ (Array.getElem?_eq_some_iff.1 e1).1 (hne _ _ _ _ e1)).trans e1,(hg.block _ (Array.getElem?_eq_some_iff.1 e2).1 (hne _ _ _ _ e2)).trans e2,e3⟩)
    ?assign ?body ?done ?stop
   case assign=>
    rintro l pre x W K ⟨⟨v,e1,e2,e3⟩,e4,e5,e6⟩ hK;unfold encB encR;gi_wp2;have hs1:=World.alloc_heap_new W (.cells #[.bool (rd_T27 l0 (x.1:Int)).f0,.bool (rd_T27 l0 (x.1:Int)).f1,.int .i64 (rd_T27 l0 (x.1:Int)).f2,.int .i64 (rd_T27 l0 (x.1:Int)).f3,.int .i64 (rd_T27 l0 (x.1:Int)).f4,.slice (AB x.1) (rd_T27 l0 (x.1:Int)).f5.length (CB x.1)] 27);have hs2:=World.alloc_heap_new (W.alloc (.cells #[.bool (rd_T27 l0 (x.1:Int)).f0,.bool (rd_T27 l0 (x.1:Int)).f1,.int .i64 (rd_T27 l0 (x.1:Int)).f2,.int .i64 (rd_T27 l0 (x.1:Int)).f3,.int .i64 (rd_T27 l0 (x.1:Int)).f4,.slice (AB x.1) (rd_T27 l0 (x.1:Int)).f5.length (CB x.1)] 27)) (.cells #[.int .i64 (rcAt l0 x).f0,.int .i64 (rcAt l0 x).f1,.bool (rcAt l0 x).f2,.slice (AK x.1 x.2) (rcAt l0 x).f3.length (CK x.1 x.2),.bool (rcAt l0 x).f4,.slice (AV x.1 x.2) (rcAt l0 x).f5.length (CV x.1 x.2)] 34);refine hK _ _ (((KeepsOthers.alloc _ _).trans (KeepsOthers.alloc _ _)).from _) ⟨((Below.refl _ W).alloc e6.size _).alloc (by simp;have:=e6.size;omega) _,(KeepT.alloc _ _).trans (KeepT.alloc _ _)⟩ ?_ ?_
    ·
     exact ⟨⟨v,(e1.alloc _).alloc _,Kd.S_alloc (Kd.S_alloc e2 _) _,e3⟩,(e4.alloc _).alloc _,(e5.alloc _).alloc _,(e6.alloc e6.size _).alloc (by simp;have:=e6.size;omega) _⟩
    ·
     exact ⟨W.heap.size,(Below.heap_alloc _ _ _ (by simp)).trans hs1,by have h:=hs2;simp only [World.size_alloc] at h;exact h,rfl⟩
   case body=>
    rintro l pre x a' W hl ⟨lr,hlr⟩ ⟨⟨v,e1,e2,e3⟩,e4,e5,e6⟩ ⟨Bx,cB,cR,rfl⟩ hlt;obtain ⟨Av,cv,rfl⟩:=Kd.S_slice e2;have ev:=e1.cell;have ea:=e4.cell;have eb:=e5.cell;have m1:W.cell? ⟨Bx,1,none⟩=some (.bool (rd_T27 l0 (x.1:Int)).f1):=by simp [World.cell?,cB]
    have r0:W.cell? ⟨Bx+1,0,none⟩=some (.int .i64 (rcAt l0 x).f0):=by simp [World.cell?,cR]
    by_cases hq:((rdOut l0 a1 pre).length:Int)=a2
    ·
     have hq' : (((rdOut l0 a1 pre).length:Int)==a2)=true:=by rw [hq];simp
     gi_wp2;exact ⟨KeepsFrom.refl _ _,⟨rfl,pre,x,rfl,hq,_,e1,e2⟩,e6⟩
    ·
     have hq' : (((rdOut l0 a1 pre).length:Int)==a2)=false:=by simpa using hq
     cases hm:(rd_T27 l0 (x.1:Int)).f1 with
     | true=>
      rw [hm] at m1;have hk:rdOut l0 a1 (pre ++ [x])=rdOut l0 a1 pre:=by simp [rdOut,rdKeep,hm]
      gi_wp2;exact ⟨KeepsFrom.refl _ _,⟨Below.refl _ _,KeepT.refl _ _⟩,⟨_,e1,by rw [hk];exact e2,by rw [hk];exact e3⟩,e4,e5,e6⟩
     | false=>
      rw [hm] at m1;by_cases hge:(rcAt l0 x).f0 ≥ a1
      ·
       have hk:rdOut l0 a1 (pre ++ [x])=rdOut l0 a1 pre ++ [rcAt l0 x]:=by
        have:rdKeep l0 a1 x=true:=by simp [rdKeep,hm];exact hge
        simp [rdOut,this]
       gi_wp2;have HCO:=zzm (copyOf_at HOK.out x);have hmx:Try.prog.follows .mixedOrders=true:=by kernel_rfl
       obtain ⟨mk,hmk⟩:∃ mk:Value→Value→Value→Value→Value→Act,mk=fun u0 u1 u2 u3 u4=>{ tmps:=#[.slice A0 l0.length c0,.int .i64 a1,.int .i64 a2,undef,.pointer (some ⟨w.heap.size,0,none⟩),.pointer (some ⟨w.heap.size+1,0,none⟩),.slice none 0 0,.pointer (some ⟨w.heap.size+1+1+1,0,none⟩),.pointer (some ⟨Bx,0,none⟩),.pointer (some ⟨Bx+1,0,none⟩),.slice (some ⟨w.heap.size+1+1,0,none⟩) 0 0,.slice A0 l0.length c0,.bool true,.bool false,.bool false,.int .i64 a2,.bool true,.bool false,.bool false,undef,.slice A0 l0.length c0,.func (.func 96) #[] #[.pointer (some ⟨Bs,0,none⟩)],encB l0 AB CB x.1,encR l0 AK CK AV CV x.1 x.2,.slice Av (rdOut l0 a1 pre).length cv,.int .i64 ((rdOut l0 a1 pre).length:Int),.int .i64 a2,.bool false,.pointer (some ⟨Bx,1,none⟩),.bool false,.bool true,.bool true,.pointer (some ⟨Bx+1,0,none⟩),.int .i64 (rcAt l0 x).f0,.int .i64 a1,.bool true,.bool true,u0,u1,u2,u3,u4,undef],defers:=[] }:=⟨_,rfl⟩;have H0:Below W.heap.size W W∧True:=⟨Below.refl _ _,trivial⟩;refine wpIn_region_any hmx (wpAnyIn_app6 (by kernel_rfl) (fun b s a' W'=>∃ u0 u1 u2 u3 u4,a' = mk u0 u1 u2 u3 u4∧(b=true→u0 = .slice Av (rdOut l0 a1 pre).length cv)∧(1≤s→u1=encR l0 AK CK AV CV x.1 x.2) ∧
        (s≤3→Below W.heap.size W W') ∧
        (s=2∨s=3→∃ v3 v5,u2 = .agg #[.int .i64 (rcAt l0 x).f0,.int .i64 (rcAt l0 x).f1,.bool (rcAt l0 x).f2,v3,.bool (rcAt l0 x).f4,v5]∧Kd.R (Kd.int .i64) 3 W' W.heap.size (fun k_=>some k_≠(v5:Value).ownBlock) v3 (rcAt l0 x).f3∧Kd.R (Kd.int .i64) 3 W' W.heap.size (fun k_=>some k_≠(v3:Value).ownBlock) v5 (rcAt l0 x).f5 ∧
         (s=3→∃ g,W.heap.size≤g∧u3 = .slice (some ⟨g,0,none⟩) 1 1∧W'.heap[g]? = some (.cells #[.int .i64 (rcAt l0 x).f0,.int .i64 (rcAt l0 x).f1,.bool (rcAt l0 x).f2,v3,.bool (rcAt l0 x).f4,v5] 34 (0,0)))) ∧
        (4≤s→KeepsFrom W0.heap.size W W'∧KpR w.heap.size W W'∧Boxed W' w.heap.size 3 (.int .i64 a1)∧Boxed W' (w.heap.size+1) 3 (.int .i64 a2)∧Below w.heap.size w W'∧Kd.S k34 34 W' w.heap.size (okRd w.heap.size) u4 (rdOut l0 a1 (pre ++ [x])) ∧
         (s=4→Boxed W' (w.heap.size+1+1+1) 25 (.slice Av (rdOut l0 a1 pre).length cv))∧(s=5→Boxed W' (w.heap.size+1+1+1) 25 u4)))
        ?hdone ?s0 ?s1 ?s2 ?s3 ?s4 ?s5 ⟨_,_,_,_,_,by rw [hmk],by simp,by simp,fun _=>?hini,by simp,by simp⟩)
       case hini=>exact zzb (Below.refl _ W) 1
       case hdone=>
        rintro a' W' ⟨u0,u1,u2,u3,u4,rfl,h0,h1,h2,h3,h4⟩;rw [hmk];obtain ⟨k1,k2,k3,k4,k5,k6,-,k7⟩:=h4 (by decide);refine ⟨k1,k2,⟨u4,k7 rfl,k6,?_⟩,k3,k4,k5⟩;rw [hk,List.length_append,List.length_singleton];exact len_step e3 hq
       case s0=>
        rintro s a' W' hs ⟨u0,u1,u2,u3,u4,rfl,h0,h1,h2,h3,h4⟩;rw [hmk];refine wpOpIn_step rfl (fun K hK=>?_);have HK:=zzm hK;have evn:=((h2 hs).cell (zzn W _ ev)).trans ev;clear hK;go_simp;exact HK.out _ _ ⟨_,u1,u2,u3,u4,rfl,fun _=>rfl,h1,h2,h3,h4⟩
       case s1=>
        rintro b a' W' ⟨u0,u1,u2,u3,u4,rfl,h0,h1,h2,h3,h4⟩;rw [hmk];refine wpOpIn_step rfl (fun K hK=>?_);have HK:=zzm hK;have hcR:=((h2 (by decide)).block _ (Array.getElem?_eq_some_iff.1 cR).1).trans cR;have q0:W'.cell? ⟨Bx+1,0,none⟩=some (.int .i64 (rcAt l0 x).f0):=by simp [World.cell?,hcR]
        have q1:W'.cell? ⟨Bx+1,1,none⟩=some (.int .i64 (rcAt l0 x).f1):=by simp [World.cell?,hcR]
        have q2:W'.cell? ⟨Bx+1,2,none⟩=some (.bool (rcAt l0 x).f2):=by simp [World.cell?,hcR]
        have q3:W'.cell? ⟨Bx+1,3,none⟩=some (.slice (AK x.1 x.2) (rcAt l0 x).f3.length (CK x.1 x.2)):=by simp [World.cell?,hcR]
        have q4:W'.cell? ⟨Bx+1,4,none⟩=some (.bool (rcAt l0 x).f4):=by simp [World.cell?,hcR]
        have q5:W'.cell? ⟨Bx+1,5,none⟩=some (.slice (AV x.1 x.2) (rcAt l0 x).f5.length (CV x.1 x.2)):=by simp [World.cell?,hcR]
        clear hK cR cB hcR;go_simp;exact HK.out _ _ ⟨u0,_,u2,u3,u4,rfl,h0,fun _=>rfl,fun _=>h2 (by decide),by simp,by simp⟩
       case s2=>
        rintro b a' W' ⟨u0,u1,u2,u3,u4,rfl,h0,h1,h2,h3,h4⟩;obtain rfl:=h1 (by decide);rw [hmk];refine wpOpIn_step rfl (fun K hK=>?_);have HK:=zzm hK;have hbw:=e6.trans ((h2 (by decide)).mono e6.size);have HKy:=zzm (Kd.C_below (HP.out.key x.1 x.2).2 hbw);have HVy:=zzm (Kd.C_below (HP.out.val x.1 x.2).2 hbw);clear hK cR cB;unfold encR;go_simp;gi_wp2_with (refine ⟨trivial,?_⟩;gi_at_call 78;refine (CallsIn.inRound l (callsIn_wide.2 (impl_Record_copyOf.calls _ _ _ _ _ _ _ _ _ _ _ _ _ _ _ _ _ HKy.out (HP.out.key x.1 x.2).1 HVy.out (HP.out.val x.1 x.2).1 HCO.out))).mono ?_;rintro e w7 ⟨v3,v5,rfl,hv3,hv5,hb7⟩;dsimp only);exact HK.out _ _ ⟨u0,_,_,u3,u4,rfl,h0,fun _=>rfl,fun _=>zzp (h2 (by decide)) hb7,fun _=>⟨v3,v5,rfl,Kd.R_lower hv3 (h2 (by decide)).size,Kd.R_lower hv5 (h2 (by decide)).size,by simp⟩,by simp⟩
       case s3=>
        rintro b a' W' ⟨u0,u1,u2,u3,u4,rfl,h0,h1,h2,h3,h4⟩;rw [hmk];obtain ⟨v3,v5,rfl,hv3,hv5,-⟩:=h3 (.inl rfl);obtain rfl:=h1 (by decide);refine wpOpIn_step rfl (fun K hK=>?_);have HK:=zzm hK;clear hK cR cB;obtain ⟨A3,c3,rfl⟩:=Kd.R_slice hv3;obtain ⟨A5,c5,rfl⟩:=Kd.R_slice hv5;go_simp;refine HK.out _ _ ⟨u0,encR l0 AK CK AV CV x.1 x.2,.agg #[.int .i64 (rcAt l0 x).f0,.int .i64 (rcAt l0 x).f1,.bool (rcAt l0 x).f2,.slice A3 (rcAt l0 x).f3.length c3,.bool (rcAt l0 x).f4,.slice A5 (rcAt l0 x).f5.length c5],.slice (some ⟨W'.heap.size,0,none⟩) 1 1,u4,rfl,h0,fun _=>rfl,fun _=>(h2 (by decide)).alloc (h2 (by decide)).size _,fun _=>⟨_,_,rfl,Kd.R_alloc hv3 _,Kd.R_alloc hv5 _,fun _=>⟨W'.heap.size,(h2 (by decide)).size,rfl,World.alloc_heap_new W' _⟩⟩,by simp⟩
       case s4=>
        rintro a' W' ⟨u0,u1,u2,u3,u4,rfl,h0,h1,h2,h3,h4⟩;rw [hmk];obtain rfl:=h0 rfl;obtain ⟨v3,v5,rfl,hv3,hv5,h5⟩:=h3 (.inr rfl);obtain ⟨g,hg,rfl,hgc⟩:=h5 rfl;have hbW:=h2 (by decide);have hlt:=Kd.R_lt (Kd.S_R e2);have hty:=Kd.R_typed (Kd.S_R e2);have hown:=(Kd.S_R e2).1;have hl1:=e1.lt;refine wpOpIn_step rfl (fun K hK=>?_);rw [if_pos (by rfl)];refine S_append_in k34 w.heap.size (.tmp 37) (.tmp 40) 25 34 (.agg #[(.int .i64 0),(.int .i64 0),(.bool false),(.slice none 0 0),(.bool false),(.slice none 0 0)]) 80 rfl Try.underlying25 info34 rfl (by decide) (by omega) _ _ (rcAt l0 x) _ (okRd w.heap.size) (fun k_=>W.heap.size≤k_) rfl ⟨g,0,none⟩ 1 rfl (by simpa using World.news_of_block hgc)
         (k34_mkM W' w.heap.size _ (rcAt l0 x) (Kd.R_mono (Kd.R_lower (Kd.R_bound hv3) e6.size) (fun _ hk=>hk.2.1)) (Kd.R_mono (Kd.R_lower (Kd.R_bound hv5) e6.size) (fun _ hk=>hk.2.1)))
         (fun k hk=>⟨by simp only [okRd];omega,fun e=>by have:=hlt k e.symm;omega⟩) (fun k hk=>by have:=hbW.size;simp only [okRd];omega)
         (Kd.S_mono (Kd.S_below (Kd.S_bound e2) hbW) (fun k hk=>⟨hk.1,by omega⟩)) (Nat.le_trans e6.size hbW.size) (by omega) ?_
        intro v1 w1 hS1 hg1 hat;have hrow:∀ k,(Value.slice Av (rdOut l0 a1 pre).length cv).ownBlock=some k→∃ cs,W'.heap[k]? = some (.cells cs 34 (0,0)):=fun k hk=>by
         obtain ⟨cs,hc⟩:=hty k hk;exact ⟨cs,(hbW.block k (hlt k hk)).trans hc⟩
        have hbe:∀ {b:Nat} {t:TypeId} {u:Value},Boxed W b t u→(∀ k,okRd w.heap.size k→k≠b)→Boxed w1 b t u:=fun h hne=>(show Boxed W' _ _ _ from (hbW.block _ h.lt).trans h).kept hg1 (fun e=>hne _ (hown _ e.symm) rfl);have hB1:Below w.heap.size W w1:=(hbW.mono e6.size).grown hg1 (Nat.le_trans e6.size hbW.size) (fun k e=>Kd.R_base (Kd.S_R e2) k e);refine hK _ _ ⟨_,_,_,_,_,rfl,fun _=>rfl,fun _=>h1 (by decide),by simp,by simp,fun _=>⟨(keeps_below hbW).trans (keeps_row hg1 hrow),⟨hB1,(KeepT.of_below hbW).trans (KeepT.of_grownBy hg1 (fun k e cs f hc=>?_))⟩,hbe e4 (fun k hk=>hk.1),hbe e5 (fun k hk=>hk.2.1),e6.trans hB1,by rw [hk];exact hS1,fun _=>hbe e1 (fun k hk=>hk.2.2),by simp⟩⟩;obtain ⟨cs',hc'⟩:=hrow k e;rw [hc'] at hc;cases hc
       case s5=>
        rintro a' W' ⟨u0,u1,u2,u3,u4,rfl,h0,h1,h2,h3,h4⟩;rw [hmk];obtain ⟨k1,k2,k3,k4,k5,k6,k7,-⟩:=h4 (by decide);obtain rfl:=h0 rfl;obtain rfl:=h1 (by decide);have hbo:=k7 rfl;have cbo:=hbo.cell;have fbo:=hbo.frozen;rw [hk] at k6;obtain ⟨A1,c1,he1⟩:=Kd.S_slice k6;rw [List.length_append,List.length_singleton] at he1;subst he1;refine wpOpIn_step rfl (fun K hK=>?_);have HK:=zzm hK;clear hK cR cB;go_simp;refine HK.out _ _ ⟨_,_,u2,u3,_,rfl,fun _=>rfl,fun _=>rfl,by simp,by simp,fun _=>⟨k1.trans ((KeepsOthers.setCell _ _ _).from _),⟨k2.1.setCell (p:=⟨w.heap.size+1+1+1,0,none⟩) (by simp;omega) _,k2.2.trans (KeepT.setCell (p:=⟨w.heap.size+1+1+1,0,none⟩) hbo (by decide) _)⟩,k3.other (by omega) _,k4.other (by omega) _,k5.setCell (p:=⟨w.heap.size+1+1+1,0,none⟩) (by simp;omega) _,(by rw [hk];exact Kd.S_far (p:=⟨w.heap.size+1+1+1,0,none⟩) k6 (fun k hk=>hk.2.2) _),by simp,fun _=>hbo.set _⟩⟩
      ·
       have hk:rdOut l0 a1 (pre ++ [x])=rdOut l0 a1 pre:=by simp [rdOut,rdKeep,hm];omega
       gi_wp2;exact ⟨KeepsFrom.refl _ _,⟨Below.refl _ _,KeepT.refl _ _⟩,⟨_,e1,by rw [hk];exact e2,by rw [hk];exact e3⟩,e4,e5,e6⟩
   case done=>
    rintro D ys W hD rfl ⟨⟨v,e1,e2,e3⟩,e4,e5,e6⟩ hK;have ev:=e1.cell;gi_wp2;refine ⟨by simp,.inl ⟨_,_,rfl,run_takeDeferred hK,?_⟩⟩;have hB2:Below w.heap.size w (W.putObj D (.deferred none)):=e6.trans (belowK_b (w:=w) (Nat.le_refl _) W D _ _ (by omega) hK rfl rfl);have hS2:=S_own e2 (grownBy_putObj' W D (.deferred none)) (fun r e=>by cases e;exact ⟨_,hK,rfl⟩);refine ⟨_,results_tmp rfl _ _ _,v,rfl,?_,hB2⟩;have hr2:r=rdOut l0 a1 (pts l0):=by rw [HRR.out];exact List.take_of_length_le (by omega)
    rw [hr2];exact Kd.S_mono hS2 (fun _ _=>trivial)
   case stop=>
    rintro D c pre W hD hp ⟨⟨rfl,ini,last,rfl,hq,v,e1,e2⟩,e6⟩ hK;have ev:=e1.cell;gi_wp2;refine ⟨by simp,.inl ⟨_,_,rfl,run_takeDeferred hK,?_⟩⟩;have hB2:Below w.heap.size w (W.putObj D (.deferred none)):=e6.trans (belowK_b (w:=w) (Nat.le_refl _) W D _ _ (by omega) hK rfl rfl);have hS2:=S_own e2 (grownBy_putObj' W D (.deferred none)) (fun r e=>by cases e;exact ⟨_,hK,rfl⟩);refine ⟨_,results_tmp rfl _ _ _,v,rfl,?_,hB2⟩;have hr2:r=rdOut l0 a1 ini:=by rw [HRR.out];exact rdOut_take (((List.prefix_append ini [last]).trans hp)) hq
    rw [hr2];exact Kd.S_mono hS2 (fun _ _=>trivial)
  ·
   have hr:r = []:=by have h:=H2.out;rw [if_neg hw] at h;exact (Option.some.inj h).symm
   have HWI:=zzm (show impl_within.f a2 0 99=some false by unfold impl_within.f;by_cases h:a2 ≥ 0 <;> simp [h] <;> omega);gi_wp2_with (refine ⟨trivial,?_⟩;gi_at_call 57;refine (callsIn_wide.2 (impl_within.calls _ _ _ _ _ HWI.out)).mono ?_;rintro e w2 ⟨rfl,⟨n2,rfl⟩⟩;dsimp only;have c4:=c3);subst hr;exact ⟨_,results_tmp rfl _ _ _,_,rfl,Kd.S_mono (Kd.S_drewN hS n2) (fun _ _=>trivial),zzb hB1 n2⟩
end
mutual
def laws_FnStableRecordsRead.j0:Nat→List (S27)→List (S34)→List (S34)→Bool→Option (Bool)
 | 0,_,_,_,_=>none
 | k+1,x3,x4,x5,x26=>if x26=true then ((laws_sameRecords.f k x4 x5).bind fun t448=>(some t448)) else ((impl_ReadRecords.f k x3 0 99).bind fun t449=>(laws_FnStableRecordsRead.l0 k x4 t449 0 0))
def laws_FnStableRecordsRead.l0:Nat→List (S34)→List (S34)→Int→Int→Option (Bool)
 | 0,_,_,_,_=>none
 | k+1,x4,x6,x7,x8=>if x8 < (x6.length:Int) then (laws_FnStableRecordsRead.j2 k x4 x6 x7 x8 (decide (x7 < (x4.length:Int)))) else (laws_FnStableRecordsRead.j2 k x4 x6 x7 x8 false)
def laws_FnStableRecordsRead.j2:Nat→List (S34)→List (S34)→Int→Int→Bool→Option (Bool)
 | 0,_,_,_,_,_=>none
 | k+1,x4,x6,x7,x8,x41=>if x41=true then (if 0≤x8 then (if x8 < (x6.length:Int) then (if 0≤x7 then (if x7 < (x4.length:Int) then ((laws_sameRecord.f k ((rd_T34 x6 x8).f0) ((rd_T34 x6 x8).f1) ((rd_T34 x6 x8).f2) ((rd_T34 x6 x8).f3) ((rd_T34 x6 x8).f4) ((rd_T34 x6 x8).f5) ((rd_T34 x4 x7).f0) ((rd_T34 x4 x7).f1) ((rd_T34 x4 x7).f2) ((rd_T34 x4 x7).f3) ((rd_T34 x4 x7).f4) ((rd_T34 x4 x7).f5)).bind fun t454=>(if t454=true then (laws_FnStableRecordsRead.l0 k x4 x6 (wrap64 (x7+1)) (wrap64 (x8+1))) else (laws_FnStableRecordsRead.l0 k x4 x6 x7 (wrap64 (x8+1))))) else (none)) else (none)) else (none)) else (none)) else (some (x7==(x4.length:Int)))
end
def laws_FnStableRecordsRead.f (k:Nat) (l0:List Int):Option (Bool):=if (l0.length:Int) > 1048576 then (some true) else ((spec_DrawStableRecords.f k l0).bind fun t437=>((impl_StableRecords.f k t437).bind fun t440=>((spec_StableRecords.f k t437).bind fun t443=>((laws_sameRecords.f k t440 t443).bind fun t446=>(if t446=true then ((spec_LogValid.f k t437).bind fun t447=>(laws_FnStableRecordsRead.j0 k t437 t440 t443 (!t447))) else (laws_FnStableRecordsRead.j0 k t437 t440 t443 true))))))
def laws_FnStableRecordsRead.T13:Bool×List (List Nat×List Nat):=(true,[([],[]),([],[]),([0,1],[0,1]),([2],[2]),([],[]),([],[]),([4,5],[4,5]),([6],[6]),([3,7],[3,7])])
def laws_FnStableRecordsRead.B13:List Nat:=[0,0,3,7,0,0,48,112,255]
theorem laws_FnStableRecordsRead.tab13:rtab .any (opsOf Try.f14 13)=laws_FnStableRecordsRead.T13:=by kernel_rfl
theorem laws_FnStableRecordsRead.bits13:waitsOk laws_FnStableRecordsRead.T13.2 laws_FnStableRecordsRead.B13=true:=by kernel_rfl
set_option maxHeartbeats 8000000 in
set_option maxRecDepth 100000 in
theorem laws_FnStableRecordsRead.calls (k:Nat) (A0:Option Addr) (c0:Nat) (l0:List Int) (r:Bool) (w:World) (hr0:Kd.C (Kd.int .u8) w A0 l0.length l0) (hc0:l0.length≤c0) (h:laws_FnStableRecordsRead.f k l0=some r) :
  Calls Try.prog 14 #[.slice A0 l0.length c0] w fun e w'=>e = .returned (.bool r)∧Below w.heap.size w w':=by
 have hu34:=Try.underlying34;have HR0:=zzm hr0;have HC0:=zzm hc0;clear hr0 hc0;have HB:=zzm (Below.refl w.heap.size w);have H:(if (l0.length:Int) > 1048576 then (some true) else ((spec_DrawStableRecords.f k l0).bind fun t437=>((impl_StableRecords.f k t437).bind fun t440=>((spec_StableRecords.f k t437).bind fun t443=>((laws_sameRecords.f k t440 t443).bind fun t446=>(if t446=true then ((spec_LogValid.f k t437).bind fun t447=>(laws_FnStableRecordsRead.j0 k t437 t440 t443 (!t447))) else (laws_FnStableRecordsRead.j0 k t437 t440 t443 true)))))))=some r:=h;clear h;by_cases c2:(l0.length:Int) > 1048576
 ·
  rw [if_pos c2] at H;have c2b0:decide (1048576 < (l0.length:Int))=true:=decide_eq_true c2;have c2b1:decide (1048576 < l0.length)=true:=decide_eq_true (by omega);clear c2;obtain rfl:=Option.some.inj H;go_enter Try.func14,Try.ntmps14;go_wp2;go_ret;exact ⟨by first|rfl|(simp [errW_none,errW_some] <;> rfl)|(simp [*,errW_none,errW_some] <;> rfl),zzh1⟩
 ·
  rw [if_neg c2] at H;have c2b0:decide (1048576 < (l0.length:Int))=false:=decide_eq_false c2;have c2b1:decide (1048576 < l0.length)=false:=decide_eq_false (by omega);clear c2;replace H:=Option.bind_eq_some_iff.mp H;obtain ⟨t437,A30,H⟩:=H;replace H:((impl_StableRecords.f k t437).bind fun t440=>((spec_StableRecords.f k t437).bind fun t443=>((laws_sameRecords.f k t440 t443).bind fun t446=>(if t446=true then ((spec_LogValid.f k t437).bind fun t447=>(laws_FnStableRecordsRead.j0 k t437 t440 t443 (!t447))) else (laws_FnStableRecordsRead.j0 k t437 t440 t443 true)))))=some r:=H;have A3:=zzm A30;clear A30;replace H:=Option.bind_eq_some_iff.mp H;obtain ⟨t440,A40,H⟩:=H;replace H:((spec_StableRecords.f k t437).bind fun t443=>((laws_sameRecords.f k t440 t443).bind fun t446=>(if t446=true then ((spec_LogValid.f k t437).bind fun t447=>(laws_FnStableRecordsRead.j0 k t437 t440 t443 (!t447))) else (laws_FnStableRecordsRead.j0 k t437 t440 t443 true))))=some r:=H;have A4:=zzm A40;clear A40;replace H:=Option.bind_eq_some_iff.mp H;obtain ⟨t443,A50,H⟩:=H;replace H:((laws_sameRecords.f k t440 t443).bind fun t446=>(if t446=true then ((spec_LogValid.f k t437).bind fun t447=>(laws_FnStableRecordsRead.j0 k t437 t440 t443 (!t447))) else (laws_FnStableRecordsRead.j0 k t437 t440 t443 true)))=some r:=H;have A5:=zzm A50;clear A50;have HC6:=zzm H;clear H;go_enter Try.func14,Try.ntmps14;go_upto_region 6 with (first|((with_reducible refine gate_callee (f:=42) rfl ?_);refine goesL_ (some 13) rfl rfl Try.func42 (by kernel_rfl) rfl #[.slice A0 l0.length c0] rfl zzM2 ?_;(with_reducible refine (spec_DrawStableRecords.calls k _ _ l0 t437 _ ?side1 ?side2 A3.out).mono ?_);(case side1=>repeat (first|exact HR0.out|(with_reducible refine Kd.C_alloc ?_ _)|(with_reducible refine Kd.C_drewN ?_ _)|(with_reducible refine Kd.C_drew ?_)));(case side2=>exact HC0.out);rintro e w7 ⟨v438,rfl,ho0,hb⟩;refine ⟨_,rfl,?_⟩;have n0_:=zzm (Kd.N_lower (Kd.N_mono (ok':=fun k_=>True) ho0 (fun k_ hk_=>trivial)) (zzo zzh1));have n1_:=zzm (zzp zzh1 hb);clear HB;have HO439:=n0_;have HB:=n1_;clear n0_ n1_;(try clear hb);(try clear hb2);(try clear hk);(try clear hi);(try clear ho0);obtain ⟨Ao8,co8,eo8⟩:=Kd.N_slice HO439.out;subst eo8)|((with_reducible refine gate_callee (f:=37) rfl ?_);refine goesL_ (some 15) rfl rfl Try.func37 (by kernel_rfl) rfl #[.slice Ao8 t437.length co8] rfl zzM2 ?_;(with_reducible refine (impl_StableRecords.calls k _ _ t437 t440 _ ?side1 ?side2 A4.out).mono ?_);(case side1=>repeat (first|exact (Kd.N_reads' HO439.out).2.2|(with_reducible refine Kd.C_alloc ?_ _)|(with_reducible refine Kd.C_drewN ?_ _)|(with_reducible refine Kd.C_drew ?_)));(case side2=>exact (Kd.N_reads' HO439.out).2.1);rintro e w9 ⟨v441,rfl,ho0,hb⟩;refine ⟨_,rfl,?_⟩;have n0_:=zzm (Kd.N_elder' (zzN HO439.out) (by first|exact Kd.N_base ho0|exact Kd.S_base ho0|exact Kd.R_base ho0) hb);have n1_:=zzm (Kd.N_lower (Kd.N_mono (ok':=fun k_=>some k_≠(.slice Ao8 t437.length co8:Value).ownBlock) ho0 (fun k_ hk_=>(Kd.fresh' (Kd.N_lt (zzN HO439.out)) k_ hk_))) (zzo zzh1));have n2_:=zzm (zzp zzh1 hb);clear HO439 HB;have HO439:=n0_;have HO442:=n1_;have HB:=n2_;clear n0_ n1_ n2_;(try clear hb);(try clear hb2);(try clear hk);(try clear hi);(try clear ho0))|((with_reducible refine gate_callee (f:=43) rfl ?_);refine goesL_ (some 17) rfl rfl Try.func43 (by kernel_rfl) rfl #[.slice Ao8 t437.length co8] rfl zzM2 ?_;(with_reducible refine (spec_StableRecords.calls k _ _ t437 t443 _ ?side1 ?side2 A5.out).mono ?_);(case side1=>repeat (first|exact (Kd.N_reads' HO439.out).2.2|(with_reducible refine Kd.C_alloc ?_ _)|(with_reducible refine Kd.C_drewN ?_ _)|(with_reducible refine Kd.C_drew ?_)));(case side2=>exact (Kd.N_reads' HO439.out).2.1);rintro e w10 ⟨v444,rfl,ho0,hb⟩;refine ⟨_,rfl,?_⟩;have n0_:=zzm (Kd.N_elder' (zzN HO439.out) (by first|exact Kd.N_base ho0|exact Kd.S_base ho0|exact Kd.R_base ho0) hb);have n1_:=zzm (Kd.N_elder' (zzN HO442.out) (by first|exact Kd.N_base ho0|exact Kd.S_base ho0|exact Kd.R_base ho0) hb);have n2_:=zzm (Kd.N_lower (Kd.N_mono (ok':=fun k_=>some k_≠(.slice Ao8 t437.length co8:Value).ownBlock∧some k_≠(v441:Value).ownBlock) (Kd.S_N (Kd.S_bound ho0)) (fun k_ hk_=>⟨(Kd.fresh' (Kd.N_lt (zzN HO439.out)) k_ hk_.2.1),(Kd.fresh' (Kd.N_lt (zzN HO442.out)) k_ hk_.2.1)⟩)) (zzo zzh1));have n3_:=zzm (zzp zzh1 hb);clear HO439 HO442 HB;have HO439:=n0_;have HO442:=n1_;have HO445:=n2_;have HB:=n3_;clear n0_ n1_ n2_ n3_;(try clear hb);(try clear hb2);(try clear hk);(try clear hi);(try clear ho0)))
  (try simp only [Act.put,zzq,zzr,zzs]);go_cut [26] (fun v26 wc=>∃ (kq:Nat) (x26_5:Bool),v26 = .bool x26_5∧Aside0 (laws_FnStableRecordsRead.j0 kq t437 t440 t443 x26_5=some r)∧Aside0 (kq≤k)∧Aside0 (Kd.N k27 27 wc w.heap.size (fun k_=>some k_≠(v441:Value).ownBlock∧some k_≠(v444:Value).ownBlock) (.slice Ao8 t437.length co8) t437)∧Aside0 (Kd.N k34 34 wc w.heap.size (fun k_=>some k_≠((.slice Ao8 t437.length co8):Value).ownBlock∧some k_≠(v444:Value).ownBlock) v441 t440)∧Aside0 (Kd.N k34 34 wc w.heap.size (fun k_=>some k_≠((.slice Ao8 t437.length co8):Value).ownBlock∧some k_≠(v441:Value).ownBlock) v444 t443)∧Aside0 (Below w.heap.size w wc))
  case first=>
   have H:=HC6.out;clear HC6;replace H:=Option.bind_eq_some_iff.mp H;obtain ⟨t446,A110,H⟩:=H;replace H:(if t446=true then ((spec_LogValid.f k t437).bind fun t447=>(laws_FnStableRecordsRead.j0 k t437 t440 t443 (!t447))) else (laws_FnStableRecordsRead.j0 k t437 t440 t443 true))=some r:=H;have A11:=zzm A110;clear A110;by_cases c12:t446=true
   ·
    subst c12;have H1:((spec_LogValid.f k t437).bind fun t447=>(laws_FnStableRecordsRead.j0 k t437 t440 t443 (!t447)))=some r:=by rw [if_pos rfl] at H;exact H
    clear H;have H:=H1;clear H1;replace H:=Option.bind_eq_some_iff.mp H;obtain ⟨t447,A130,H⟩:=H;replace H:(laws_FnStableRecordsRead.j0 k t437 t440 t443 (!t447))=some r:=H;have A13:=zzm A130;clear A130;have H':=zzm H;clear H;obtain ⟨Ao14,co14,eo14⟩:=Kd.N_slice HO442.out;subst eo14;obtain ⟨Ao15,co15,eo15⟩:=Kd.N_slice HO445.out;subst eo15;go_wp2_with (first|((with_reducible refine gate_callee (f:=36) rfl ?_);refine goesL_ (some 20) rfl rfl Try.func36 (by kernel_rfl) rfl #[.slice Ao14 t440.length co14,.slice Ao15 t443.length co15] rfl zzM2 ?_;(with_reducible refine (laws_sameRecords.calls k _ _ t440 _ _ t443 true _ ?side1 ?side2 ?side3 ?side4 A11.out).mono ?_);(case side1=>repeat (first|exact (Kd.N_reads' HO442.out).2.2|(with_reducible refine Kd.C_alloc ?_ _)|(with_reducible refine Kd.C_drewN ?_ _)|(with_reducible refine Kd.C_drew ?_)));(case side2=>exact (Kd.N_reads' HO442.out).2.1);(case side3=>repeat (first|exact (Kd.N_reads' HO445.out).2.2|(with_reducible refine Kd.C_alloc ?_ _)|(with_reducible refine Kd.C_drewN ?_ _)|(with_reducible refine Kd.C_drew ?_)));(case side4=>exact (Kd.N_reads' HO445.out).2.1);rintro e w16 ⟨rfl,hb⟩;refine ⟨_,rfl,?_⟩;have n0_:=zzm (Kd.N_below (zzN HO439.out) hb);have n1_:=zzm (Kd.N_below (zzN HO442.out) hb);have n2_:=zzm (Kd.N_below (zzN HO445.out) hb);have n3_:=zzm (zzp zzh1 hb);clear HO439 HO442 HO445 HB;have HO439:=n0_;have HO442:=n1_;have HO445:=n2_;have HB:=n3_;clear n0_ n1_ n2_ n3_;(try clear hb);(try clear hb2);(try clear hk);(try clear hi))|(go_at_call 44;(with_reducible refine (spec_LogValid.calls k _ _ t437 t447 _ ?side1 ?side2 A13.out).mono ?_);(case side1=>repeat (first|exact (Kd.N_reads' HO439.out).2.2|(with_reducible refine Kd.C_alloc ?_ _)|(with_reducible refine Kd.C_drewN ?_ _)|(with_reducible refine Kd.C_drew ?_)));(case side2=>exact (Kd.N_reads' HO439.out).2.1);rintro e w17 ⟨rfl,hb⟩;have n0_:=zzm (Kd.N_below (zzN HO439.out) hb);have n1_:=zzm (Kd.N_below (zzN HO442.out) hb);have n2_:=zzm (Kd.N_below (zzN HO445.out) hb);have n3_:=zzm (zzp zzh1 hb);clear HO439 HO442 HO445 HB;have HO439:=n0_;have HO442:=n1_;have HO445:=n2_;have HB:=n3_;clear n0_ n1_ n2_ n3_;(try clear hb);(try clear hb2);(try clear hk);(try clear hi)));go_meet
    case rel=>exact ⟨_,(!t447),(by first|rfl|(simp;done)|(simp [*];done)),H',⟨by first|omega|exact Nat.le_refl _⟩,⟨by (with_reducible repeat (first|apply Kd.N_alloc|apply Kd.N_drewN|apply Kd.N_drew));exact Kd.N_mono HO439.out (fun _ hk=>⟨hk.1.2,hk.2⟩)⟩,⟨by (with_reducible repeat (first|apply Kd.N_alloc|apply Kd.N_drewN|apply Kd.N_drew));exact HO442.out⟩,⟨by (with_reducible repeat (first|apply Kd.N_alloc|apply Kd.N_drewN|apply Kd.N_drew));exact HO445.out⟩,⟨zzh1⟩⟩
   ·
    replace c12:=Bool.eq_false_iff.mpr c12;subst c12;have H1:(laws_FnStableRecordsRead.j0 k t437 t440 t443 true)=some r:=by rw [if_neg (show ¬ (false=true) by decide)] at H;exact H
    clear H;have H:=H1;clear H1;have H':=zzm H;clear H;obtain ⟨Ao18,co18,eo18⟩:=Kd.N_slice HO442.out;subst eo18;obtain ⟨Ao19,co19,eo19⟩:=Kd.N_slice HO445.out;subst eo19;go_wp2_with (first|((with_reducible refine gate_callee (f:=36) rfl ?_);refine goesL_ (some 20) rfl rfl Try.func36 (by kernel_rfl) rfl #[.slice Ao18 t440.length co18,.slice Ao19 t443.length co19] rfl zzM2 ?_;(with_reducible refine (laws_sameRecords.calls k _ _ t440 _ _ t443 false _ ?side1 ?side2 ?side3 ?side4 A11.out).mono ?_);(case side1=>repeat (first|exact (Kd.N_reads' HO442.out).2.2|(with_reducible refine Kd.C_alloc ?_ _)|(with_reducible refine Kd.C_drewN ?_ _)|(with_reducible refine Kd.C_drew ?_)));(case side2=>exact (Kd.N_reads' HO442.out).2.1);(case side3=>repeat (first|exact (Kd.N_reads' HO445.out).2.2|(with_reducible refine Kd.C_alloc ?_ _)|(with_reducible refine Kd.C_drewN ?_ _)|(with_reducible refine Kd.C_drew ?_)));(case side4=>exact (Kd.N_reads' HO445.out).2.1);rintro e w20 ⟨rfl,hb⟩;refine ⟨_,rfl,?_⟩;have n0_:=zzm (Kd.N_below (zzN HO439.out) hb);have n1_:=zzm (Kd.N_below (zzN HO442.out) hb);have n2_:=zzm (Kd.N_below (zzN HO445.out) hb);have n3_:=zzm (zzp zzh1 hb);clear HO439 HO442 HO445 HB;have HO439:=n0_;have HO442:=n1_;have HO445:=n2_;have HB:=n3_;clear n0_ n1_ n2_ n3_;(try clear hb);(try clear hb2);(try clear hk);(try clear hi)));go_meet
    case rel=>exact ⟨_,(true),(by first|rfl|(simp;done)|(simp [*];done)),H',⟨by first|omega|exact Nat.le_refl _⟩,⟨by (with_reducible repeat (first|apply Kd.N_alloc|apply Kd.N_drewN|apply Kd.N_drew));exact Kd.N_mono HO439.out (fun _ hk=>⟨hk.1.2,hk.2⟩)⟩,⟨by (with_reducible repeat (first|apply Kd.N_alloc|apply Kd.N_drewN|apply Kd.N_drew));exact HO442.out⟩,⟨by (with_reducible repeat (first|apply Kd.N_alloc|apply Kd.N_drewN|apply Kd.N_drew));exact HO445.out⟩,⟨zzh1⟩⟩
  case rest=>
   clear HC6;try clear c1
   try clear c2
   try clear c2b0
   try clear c2b1
   try clear p2
   try clear c3
   try clear c4
   try clear c12
   try clear c14
   obtain ⟨kq,x26_5,rfl,HA,HJ5,HO_3,HO_4,HO_5,HB⟩:=hcut;cases kq with
   | zero=>exact absurd HA.out (by simp [laws_FnStableRecordsRead.j0])
   | succ kj5=>
    have H:=HA.out;clear HA;simp only [laws_FnStableRecordsRead.j0] at H;by_cases c21:x26_5=true
    ·
     subst c21;have H1:((laws_sameRecords.f kj5 t440 t443).bind fun t448=>(some t448))=some r:=by rw [if_pos rfl] at H;exact H
     clear H;have H:=H1;clear H1;replace H:=Option.bind_eq_some_iff.mp H;obtain ⟨t448,A220,H⟩:=H;replace H:(some t448)=some r:=H;have A22:=zzm A220;clear A220;obtain rfl:=Option.some.inj H;obtain ⟨Ao23,co23,eo23⟩:=Kd.N_slice HO_4.out;subst eo23;obtain ⟨Ao24,co24,eo24⟩:=Kd.N_slice HO_5.out;subst eo24;go_wp2_with (first|((with_reducible refine gate_callee (f:=36) rfl ?_);refine goesL_ (some 29) rfl rfl Try.func36 (by kernel_rfl) rfl #[.slice Ao23 t440.length co23,.slice Ao24 t443.length co24] rfl zzM2 ?_;(with_reducible refine (laws_sameRecords.calls kj5 _ _ t440 _ _ t443 t448 _ ?side1 ?side2 ?side3 ?side4 A22.out).mono ?_);(case side1=>repeat (first|exact (Kd.N_reads' HO_4.out).2.2|(with_reducible refine Kd.C_alloc ?_ _)|(with_reducible refine Kd.C_drewN ?_ _)|(with_reducible refine Kd.C_drew ?_)));(case side2=>exact (Kd.N_reads' HO_4.out).2.1);(case side3=>repeat (first|exact (Kd.N_reads' HO_5.out).2.2|(with_reducible refine Kd.C_alloc ?_ _)|(with_reducible refine Kd.C_drewN ?_ _)|(with_reducible refine Kd.C_drew ?_)));(case side4=>exact (Kd.N_reads' HO_5.out).2.1);rintro e w25 ⟨rfl,hb⟩;refine ⟨_,rfl,?_⟩;have n0_:=zzm (Kd.N_below (zzN HO_3.out) hb);have n1_:=zzm (Kd.N_below (zzN HO_4.out) hb);have n2_:=zzm (Kd.N_below (zzN HO_5.out) hb);have n3_:=zzm (zzp zzh1 hb);clear HO_3 HO_4 HO_5 HB;have HO_3:=n0_;have HO_4:=n1_;have HO_5:=n2_;have HB:=n3_;clear n0_ n1_ n2_ n3_;(try clear hb);(try clear hb2);(try clear hk);(try clear hi)));go_ret;exact ⟨by first|rfl|(simp [errW_none,errW_some] <;> rfl)|(simp [*,errW_none,errW_some] <;> rfl),zzh1⟩
    ·
     replace c21:=Bool.eq_false_iff.mpr c21;subst c21;have H1:((impl_ReadRecords.f kj5 t437 0 99).bind fun t449=>(laws_FnStableRecordsRead.l0 kj5 t440 t449 0 0))=some r:=by rw [if_neg (show ¬ (false=true) by decide)] at H;exact H
     clear H;have H:=H1;clear H1;replace H:=Option.bind_eq_some_iff.mp H;obtain ⟨t449,A260,H⟩:=H;replace H:(laws_FnStableRecordsRead.l0 kj5 t440 t449 0 0)=some r:=H;have A26:=zzm A260;clear A260;have H':=zzm H;clear H;go_wp2_with (first|((with_reducible refine gate_callee (f:=45) rfl ?_);refine goesL_ (some 31) rfl rfl Try.func45 (by kernel_rfl) rfl #[.slice Ao8 t437.length co8,.int .i64 0,.int .i64 99] rfl zzM2 ?_;(with_reducible refine (impl_ReadRecords.calls kj5 _ _ t437 0 99 t449 _ ?side1 ?side2 A26.out).mono ?_);(case side1=>repeat (first|exact (Kd.N_reads' HO_3.out).2.2|(with_reducible refine Kd.C_alloc ?_ _)|(with_reducible refine Kd.C_drewN ?_ _)|(with_reducible refine Kd.C_drew ?_)));(case side2=>exact (Kd.N_reads' HO_3.out).2.1);rintro e w27 ⟨v450,rfl,ho0,hb⟩;refine ⟨_,rfl,?_⟩;have n0_:=zzm (Kd.N_elder' (zzN HO_3.out) (by first|exact Kd.N_base ho0|exact Kd.S_base ho0|exact Kd.R_base ho0) hb);have n1_:=zzm (Kd.N_elder' (zzN HO_4.out) (by first|exact Kd.N_base ho0|exact Kd.S_base ho0|exact Kd.R_base ho0) hb);have n2_:=zzm (Kd.N_elder' (zzN HO_5.out) (by first|exact Kd.N_base ho0|exact Kd.S_base ho0|exact Kd.R_base ho0) hb);have n3_:=zzm (Kd.N_lower (Kd.N_mono (ok':=fun k_=>some k_≠(.slice Ao8 t437.length co8:Value).ownBlock∧some k_≠(v441:Value).ownBlock∧some k_≠(v444:Value).ownBlock) (Kd.S_N (Kd.S_bound ho0)) (fun k_ hk_=>⟨(Kd.fresh' (Kd.N_lt (zzN HO_3.out)) k_ hk_.2.1),(Kd.fresh' (Kd.N_lt (zzN HO_4.out)) k_ hk_.2.1),(Kd.fresh' (Kd.N_lt (zzN HO_5.out)) k_ hk_.2.1)⟩)) (zzo zzh1));have n4_:=zzm (zzp zzh1 hb);clear HO_3 HO_4 HO_5 HB;have HO_3:=n0_;have HO_4:=n1_;have HO_5:=n2_;have HO451:=n3_;have HB:=n4_;clear n0_ n1_ n2_ n3_ n4_;(try clear hb);(try clear hb2);(try clear hk);(try clear hi);(try clear ho0)));go_loopg [7,8] kj5 (fun kq v7 v8 w'=>∃ (x7_2:Int) (x8_2:Int),v7 = .int .i64 x7_2∧v8 = .int .i64 x8_2∧Aside0 (laws_FnStableRecordsRead.l0 kq t440 t449 x7_2 x8_2=some r)∧Aside0 (kq≤kj5)∧Aside0 (Kd.N k34 34 w' w.heap.size (fun k_=>some k_≠(v450:Value).ownBlock) v441 t440)∧Aside0 (Kd.N k34 34 w' w.heap.size (fun k_=>some k_≠(v441:Value).ownBlock) v450 t449)∧Aside0 (Below w.heap.size w w'))
     case atStart=>exact ⟨(0),(0),(by first|rfl|(simp;done)|(simp [*];done)),(by first|rfl|(simp;done)|(simp [*];done)),H',⟨Nat.le_refl _⟩,⟨by (with_reducible repeat (first|apply Kd.N_alloc|apply Kd.N_drewN|apply Kd.N_drew));exact Kd.N_mono HO_4.out (fun _ hk=>hk.2)⟩,⟨by (with_reducible repeat (first|apply Kd.N_alloc|apply Kd.N_drewN|apply Kd.N_drew));exact Kd.N_mono HO451.out (fun _ hk=>hk.2.1)⟩,⟨zzh1⟩⟩
     case round=>
      clear H';try clear c1
      try clear c2
      try clear c2b0
      try clear c2b1
      try clear p2
      try clear c3
      try clear c4
      try clear c12
      try clear c14
      try clear c21
      try clear p2
      obtain ⟨x7_2,x8_2,rfl,rfl,HA,HK2,HO_4,HO_6,HB⟩:=hrel;cases gk with
      | zero=>exact absurd HA.out (by simp [laws_FnStableRecordsRead.l0])
      | succ k2=>
       have H:=HA.out;clear HA;simp only [laws_FnStableRecordsRead.l0] at H;have HC28:=zzm H;clear H;go_upto_region 11 with (fail);go_cut [41] (fun v41 wc=>∃ (kq:Nat) (x41_27:Bool),v41 = .bool x41_27∧Aside0 (laws_FnStableRecordsRead.j2 kq t440 t449 x7_2 x8_2 x41_27=some r)∧Aside0 (kq≤k2)∧Aside0 (Kd.N k34 34 wc w.heap.size (fun k_=>some k_≠(v450:Value).ownBlock) v441 t440)∧Aside0 (Kd.N k34 34 wc w.heap.size (fun k_=>some k_≠(v441:Value).ownBlock) v450 t449)∧Aside0 (Below w.heap.size w wc))
       case first=>
        have H:=HC28.out;clear HC28;by_cases c29:x8_2 < (t449.length:Int)
        ·
         rw [if_pos c29] at H;have c29b0:decide (x8_2 < (t449.length:Int))=true:=decide_eq_true c29;clear c29
         (first|rw [c29b0]|(simp only [i64_w,i32_w];rw [c29b0])|skip);have H':=zzm H;clear H;obtain ⟨Ao30,co30,eo30⟩:=Kd.N_slice HO_6.out;subst eo30;obtain ⟨Ao31,co31,eo31⟩:=Kd.N_slice HO_4.out;subst eo31;go_wp2;go_meet
         case rel=>exact ⟨_,(decide (x7_2 < (t440.length:Int))),(by first|rfl|(simp;done)|(simp [*];done)),H',⟨by have:=HJ5.out;have:=HK2.out;first|omega|exact Nat.le_refl _⟩,⟨by (with_reducible repeat (first|apply Kd.N_alloc|apply Kd.N_drewN|apply Kd.N_drew));exact HO_4.out⟩,⟨by (with_reducible repeat (first|apply Kd.N_alloc|apply Kd.N_drewN|apply Kd.N_drew));exact HO_6.out⟩,⟨zzh1⟩⟩
        ·
         rw [if_neg c29] at H;have c29b0:decide (x8_2 < (t449.length:Int))=false:=decide_eq_false c29;clear c29
         (first|rw [c29b0]|(simp only [i64_w,i32_w];rw [c29b0])|skip);have H':=zzm H;clear H;obtain ⟨Ao32,co32,eo32⟩:=Kd.N_slice HO_6.out;subst eo32;go_wp2;go_meet
         case rel=>exact ⟨_,(false),(by first|rfl|(simp;done)|(simp [*];done)),H',⟨by have:=HJ5.out;have:=HK2.out;first|omega|exact Nat.le_refl _⟩,⟨by (with_reducible repeat (first|apply Kd.N_alloc|apply Kd.N_drewN|apply Kd.N_drew));exact HO_4.out⟩,⟨by (with_reducible repeat (first|apply Kd.N_alloc|apply Kd.N_drewN|apply Kd.N_drew));exact HO_6.out⟩,⟨zzh1⟩⟩
       case rest=>
        clear HC28;try clear c1
        try clear c2
        try clear c2b0
        try clear c2b1
        try clear p2
        try clear c3
        try clear c4
        try clear c12
        try clear c14
        try clear c21
        try clear c29
        try clear c29b0
        try clear p2
        obtain ⟨kq,x41_27,rfl,HA,HJ27,HO_4,HO_6,HB⟩:=hcut;cases kq with
        | zero=>exact absurd HA.out (by simp [laws_FnStableRecordsRead.j2])
        | succ kj27=>
         have H:=HA.out;clear HA;simp only [laws_FnStableRecordsRead.j2] at H;by_cases c33:x41_27=true
         ·
          subst c33;have H1:(if 0≤x8_2 then (if x8_2 < (t449.length:Int) then (if 0≤x7_2 then (if x7_2 < (t440.length:Int) then ((laws_sameRecord.f kj27 ((rd_T34 t449 x8_2).f0) ((rd_T34 t449 x8_2).f1) ((rd_T34 t449 x8_2).f2) ((rd_T34 t449 x8_2).f3) ((rd_T34 t449 x8_2).f4) ((rd_T34 t449 x8_2).f5) ((rd_T34 t440 x7_2).f0) ((rd_T34 t440 x7_2).f1) ((rd_T34 t440 x7_2).f2) ((rd_T34 t440 x7_2).f3) ((rd_T34 t440 x7_2).f4) ((rd_T34 t440 x7_2).f5)).bind fun t454=>(if t454=true then (laws_FnStableRecordsRead.l0 kj27 t440 t449 (wrap64 (x7_2+1)) (wrap64 (x8_2+1))) else (laws_FnStableRecordsRead.l0 kj27 t440 t449 x7_2 (wrap64 (x8_2+1))))) else (none)) else (none)) else (none)) else (none))=some r:=by rw [if_pos rfl] at H;exact H
          clear H;have H:=H1;clear H1;by_cases c34 : 0≤x8_2
          ·
           rw [if_pos c34] at H;have c34b0:decide (0≤x8_2)=true:=decide_eq_true c34;clear c34;by_cases c35:x8_2 < (t449.length:Int)
           ·
            rw [if_pos c35] at H;have c35b0:decide (x8_2 < (t449.length:Int))=true:=decide_eq_true c35;clear c35;by_cases c36 : 0≤x7_2
            ·
             rw [if_pos c36] at H;have c36b0:decide (0≤x7_2)=true:=decide_eq_true c36;clear c36;by_cases c37:x7_2 < (t440.length:Int)
             ·
              rw [if_pos c37] at H;have c37b0:decide (x7_2 < (t440.length:Int))=true:=decide_eq_true c37;clear c37;replace H:=Option.bind_eq_some_iff.mp H;obtain ⟨t454,A380,H⟩:=H;replace H:(if t454=true then (laws_FnStableRecordsRead.l0 kj27 t440 t449 (wrap64 (x7_2+1)) (wrap64 (x8_2+1))) else (laws_FnStableRecordsRead.l0 kj27 t440 t449 x7_2 (wrap64 (x8_2+1))))=some r:=H;have A38:=zzm A380;clear A380;by_cases c39:t454=true
              ·
               subst c39;have H1:(laws_FnStableRecordsRead.l0 kj27 t440 t449 (wrap64 (x7_2+1)) (wrap64 (x8_2+1)))=some r:=by rw [if_pos rfl] at H;exact H
               clear H;have H:=H1;clear H1;have H':=zzm H;clear H;try go_wp2
               have n0_:=zzm (Kd.N_drew HO_4.out);have n1_:=zzm (Kd.N_drew HO_6.out);have n2_:=zzm (zzc HB.out);clear HO_4 HO_6 HB;have HO_4:=n0_;have HO_6:=n1_;have HB:=n2_;clear n0_ n1_ n2_;obtain ⟨Ao41,co41,eo41⟩:=Kd.N_slice HO_6.out
               (first|subst eo41|(injection eo41 with f1_ f2_ f3_;have f4_:=f1_.symm;have f5_:=f3_.symm;clear f1_ f2_ f3_;subst f4_;subst f5_));have p452 : 0≤(x8_2:Int):=zzt;have q452:x8_2 < (t449.length:Int):=zzt;obtain ⟨ad452,A452_3,c452_3,A452_5,c452_5,e452,hx452_0,hx452_1,hx452_2,hx452_3,hx452_4,hx452_5,hl452_3,hi452_3,hl452_5,hi452_5⟩:=at_T34 (Kd.N_reads' HO_6.out).2.2 x8_2 p452 q452;cases e452;obtain ⟨ce452,hce452,hMe452,hcc452⟩:=Kd.N_get HO_6.out z34 x8_2 p452 (by first|exact q452|exact zzt|(have e_:=(Kd.N_reads' HO_6.out).1;omega));obtain ⟨ua452_3,uc452_3,ua452_5,uc452_5,rfl,ul452_3,ge452_3,ul452_5,ge452_5⟩:=k34_openF hMe452;have hv452_3:=hcc452 3 _ rfl;rw [add_field _ _ 3 (by omega)] at hv452_3;replace hv452_3:=Option.some.inj (hv452_3.symm.trans hx452_3);injection hv452_3 with hva_ hvn_ hvc_;rw [hva_] at ge452_3;rw [hvc_] at ul452_3;have HL452_3:=zzm (show Kd.V (Kd.int .i64) 3 _ w.heap.size _ _ ((rd_T34 t449 x8_2).f3) from Kd.V_mk ul452_3 ge452_3);clear hva_ hvn_ hvc_ ge452_3 ul452_3;have hv452_5:=hcc452 5 _ rfl;rw [add_field _ _ 5 (by omega)] at hv452_5;replace hv452_5:=Option.some.inj (hv452_5.symm.trans hx452_5);injection hv452_5 with hva_ hvn_ hvc_;rw [hva_] at ge452_5;rw [hvc_] at ul452_5;have HL452_5:=zzm (show Kd.V (Kd.int .i64) 3 _ w.heap.size _ _ ((rd_T34 t449 x8_2).f5) from Kd.V_mk ul452_5 ge452_5);clear hva_ hvn_ hvc_ ge452_5 ul452_5;clear hcc452 hce452;have HR452_3:=zzm hi452_3;have HC452_3:=zzm hl452_3;clear hi452_3 hl452_3;have HR452_5:=zzm hi452_5;have HC452_5:=zzm hl452_5;clear hi452_5 hl452_5;replace p452:=eq_true p452;replace q452:=eq_true q452;obtain ⟨Ao42,co42,eo42⟩:=Kd.N_slice HO_4.out
               (first|subst eo42|(injection eo42 with f1_ f2_ f3_;have f4_:=f1_.symm;have f5_:=f3_.symm;clear f1_ f2_ f3_;subst f4_;subst f5_));have p453 : 0≤(x7_2:Int):=zzt;have q453:x7_2 < (t440.length:Int):=zzt;obtain ⟨ad453,A453_3,c453_3,A453_5,c453_5,e453,hx453_0,hx453_1,hx453_2,hx453_3,hx453_4,hx453_5,hl453_3,hi453_3,hl453_5,hi453_5⟩:=at_T34 (Kd.N_reads' HO_4.out).2.2 x7_2 p453 q453;cases e453;obtain ⟨ce453,hce453,hMe453,hcc453⟩:=Kd.N_get HO_4.out z34 x7_2 p453 (by first|exact q453|exact zzt|(have e_:=(Kd.N_reads' HO_4.out).1;omega));obtain ⟨ua453_3,uc453_3,ua453_5,uc453_5,rfl,ul453_3,ge453_3,ul453_5,ge453_5⟩:=k34_openF hMe453;have hv453_3:=hcc453 3 _ rfl;rw [add_field _ _ 3 (by omega)] at hv453_3;replace hv453_3:=Option.some.inj (hv453_3.symm.trans hx453_3);injection hv453_3 with hva_ hvn_ hvc_;rw [hva_] at ge453_3;rw [hvc_] at ul453_3;have HL453_3:=zzm (show Kd.V (Kd.int .i64) 3 _ w.heap.size _ _ ((rd_T34 t440 x7_2).f3) from Kd.V_mk ul453_3 ge453_3);clear hva_ hvn_ hvc_ ge453_3 ul453_3;have hv453_5:=hcc453 5 _ rfl;rw [add_field _ _ 5 (by omega)] at hv453_5;replace hv453_5:=Option.some.inj (hv453_5.symm.trans hx453_5);injection hv453_5 with hva_ hvn_ hvc_;rw [hva_] at ge453_5;rw [hvc_] at ul453_5;have HL453_5:=zzm (show Kd.V (Kd.int .i64) 3 _ w.heap.size _ _ ((rd_T34 t440 x7_2).f5) from Kd.V_mk ul453_5 ge453_5);clear hva_ hvn_ hvc_ ge453_5 ul453_5;clear hcc453 hce453;have HR453_3:=zzm hi453_3;have HC453_3:=zzm hl453_3;clear hi453_3 hl453_3;have HR453_5:=zzm hi453_5;have HC453_5:=zzm hl453_5;clear hi453_5 hl453_5;replace p453:=eq_true p453;replace q453:=eq_true q453;refine start_ (n:=9) (S:=fun w'=>w'.cell? (ad452.add ((x8_2).toNat * 6))=some (.int .i64 ((rd_T34 t449 x8_2).f0))∧w'.cell? ⟨(ad452.add ((x8_2).toNat * 6)).block,(ad452.add ((x8_2).toNat * 6)).off+1,none⟩=some (.int .i64 ((rd_T34 t449 x8_2).f1))∧w'.cell? ⟨(ad452.add ((x8_2).toNat * 6)).block,(ad452.add ((x8_2).toNat * 6)).off+2,none⟩=some (.bool ((rd_T34 t449 x8_2).f2))∧w'.cell? ⟨(ad452.add ((x8_2).toNat * 6)).block,(ad452.add ((x8_2).toNat * 6)).off+3,none⟩=some (.slice A452_3 ((rd_T34 t449 x8_2).f3).length c452_3)∧w'.cell? ⟨(ad452.add ((x8_2).toNat * 6)).block,(ad452.add ((x8_2).toNat * 6)).off+4,none⟩=some (.bool ((rd_T34 t449 x8_2).f4))∧w'.cell? ⟨(ad452.add ((x8_2).toNat * 6)).block,(ad452.add ((x8_2).toNat * 6)).off+5,none⟩=some (.slice A452_5 ((rd_T34 t449 x8_2).f5).length c452_5)∧w'.cell? (ad453.add ((x7_2).toNat * 6))=some (.int .i64 ((rd_T34 t440 x7_2).f0))∧w'.cell? ⟨(ad453.add ((x7_2).toNat * 6)).block,(ad453.add ((x7_2).toNat * 6)).off+1,none⟩=some (.int .i64 ((rd_T34 t440 x7_2).f1))∧w'.cell? ⟨(ad453.add ((x7_2).toNat * 6)).block,(ad453.add ((x7_2).toNat * 6)).off+2,none⟩=some (.bool ((rd_T34 t440 x7_2).f2))∧w'.cell? ⟨(ad453.add ((x7_2).toNat * 6)).block,(ad453.add ((x7_2).toNat * 6)).off+3,none⟩=some (.slice A453_3 ((rd_T34 t440 x7_2).f3).length c453_3)∧w'.cell? ⟨(ad453.add ((x7_2).toNat * 6)).block,(ad453.add ((x7_2).toNat * 6)).off+4,none⟩=some (.bool ((rd_T34 t440 x7_2).f4))∧w'.cell? ⟨(ad453.add ((x7_2).toNat * 6)).block,(ad453.add ((x7_2).toNat * 6)).off+5,none⟩=some (.slice A453_5 ((rd_T34 t440 x7_2).f5).length c453_5)) (ds:=[]) (zzB 9 0) (by kernel_rfl) rfl rfl ⟨hx452_0,hx452_1,hx452_2,hx452_3,hx452_4,hx452_5,hx453_0,hx453_1,hx453_2,hx453_3,hx453_4,hx453_5⟩ (fun hHeld=>?_);refine with_tabW laws_FnStableRecordsRead.tab13 laws_FnStableRecordsRead.bits13 (fun HT_ HW_=>?_);generalize wc.drew=w40 at HO_4 HO_6 HB HL452_3 HL452_5 HL453_3 HL453_5 HR452_3 HR452_5 HR453_3 HR453_5 hx452_0 hx452_1 hx452_2 hx452_3 hx452_4 hx452_5 hx453_0 hx453_1 hx453_2 hx453_3 hx453_4 hx453_5 hHeld ⊢;refine pure_ (i:=0) (N:=some 44) (v:=?_) (a':=?_) (zzB 9 1) rfl rfl (zzA2 HT_.out) (fun _ _ _ h=>h) (Or.inl ⟨by rfl,?_⟩) ?_ ?_;rotate_left
               ·
                intro w';go_simp;with_reducible rfl
               rotate_left
               ·
                simp only [Act.put,zzq,zzr,zzs,i64_w,i32_w];rfl
               refine pure_ (i:=1) (N:=some 45) (v:=?_) (a':=?_) (zzB 9 3) rfl rfl (zzA2 HT_.out) (fun _ _ _ h=>h) (Or.inl ⟨by rfl,?_⟩) ?_ ?_;rotate_left
               ·
                intro w';go_simp;with_reducible rfl
               rotate_left
               ·
                simp only [Act.put,zzq,zzr,zzs,i64_w,i32_w];rfl
               refine pure_ (i:=2) (N:=some 46) (v:=?_) (a':=?_) (zzB 9 7) rfl rfl (zzA2 HT_.out) (fun _ _ _ h=>h) (Or.inl ⟨by rfl,?_⟩) ?_ ?_;rotate_left
               ·
                intro w';go_simp;with_reducible rfl
               rotate_left
               ·
                simp only [Act.put,zzq,zzr,zzs,i64_w,i32_w];rfl
               refine pure_ (i:=4) (N:=some 48) (v:=?_) (a':=?_) (zzB 9 23) rfl rfl (zzA2 HT_.out) (fun _ _ _ h=>h) (Or.inl ⟨by rfl,?_⟩) ?_ ?_;rotate_left
               ·
                intro w';go_simp;with_reducible rfl
               rotate_left
               ·
                simp only [Act.put,zzq,zzr,zzs,i64_w,i32_w];rfl
               refine pure_ (i:=5) (N:=some 49) (v:=?_) (a':=?_) (zzB 9 55) rfl rfl (zzA2 HT_.out) (fun _ _ _ h=>h) (Or.inl ⟨by rfl,?_⟩) ?_ ?_;rotate_left
               ·
                intro w';go_simp;with_reducible rfl
               rotate_left
               ·
                simp only [Act.put,zzq,zzr,zzs,i64_w,i32_w];rfl
               refine pure_ (i:=6) (N:=some 50) (v:=?_) (a':=?_) (zzB 9 119) rfl rfl (zzA2 HT_.out) (fun _ _ _ h=>h) (Or.inl ⟨by rfl,?_⟩) ?_ ?_;rotate_left
               ·
                intro w';go_simp;with_reducible rfl
               rotate_left
               ·
                simp only [Act.put,zzq,zzr,zzs,i64_w,i32_w];rfl
               refine take_ (i:=3) (N:=some 47) (v:=?_) (a':=?_) (zzB 9 127) rfl rfl (take_ofW HT_.out HW_.out (by kernel_rfl)) (fun _ _ _ h=>h) (Or.inl ⟨by rfl,?_⟩) hHeld ?_ ?_;rotate_left
               ·
                rintro w' ⟨s0,s1,s2,s3,s4,s5,s6,s7,s8,s9,s10,s11⟩;go_simp;with_reducible rfl
               rotate_left
               ·
                simp only [Act.put,zzq,zzr,zzs,i64_w,i32_w];rfl
               refine take_ (i:=7) (N:=some 51) (v:=?_) (a':=?_) (zzB 9 255) rfl rfl (take_ofW HT_.out HW_.out (by kernel_rfl)) (fun _ _ _ h=>h) (Or.inl ⟨by rfl,?_⟩) hHeld ?_ ?_;rotate_left
               ·
                rintro w' ⟨s0,s1,s2,s3,s4,s5,s6,s7,s8,s9,s10,s11⟩;go_simp;with_reducible rfl
               rotate_left
               ·
                simp only [Act.put,zzq,zzr,zzs,i64_w,i32_w];rfl
               refine one_ (i:=8) (N:=some 52) (zzB 9 511) rfl rfl (one_of HT_.out (by kernel_rfl)) (by decide) (fun K hK=>?_);refine goes_ Try.func23 (by kernel_rfl) rfl #[.agg #[.int .i64 ((rd_T34 t449 x8_2).f0),.int .i64 ((rd_T34 t449 x8_2).f1),.bool ((rd_T34 t449 x8_2).f2),.slice A452_3 ((rd_T34 t449 x8_2).f3).length c452_3,.bool ((rd_T34 t449 x8_2).f4),.slice A452_5 ((rd_T34 t449 x8_2).f5).length c452_5],.agg #[.int .i64 ((rd_T34 t440 x7_2).f0),.int .i64 ((rd_T34 t440 x7_2).f1),.bool ((rd_T34 t440 x7_2).f2),.slice A453_3 ((rd_T34 t440 x7_2).f3).length c453_3,.bool ((rd_T34 t440 x7_2).f4),.slice A453_5 ((rd_T34 t440 x7_2).f5).length c453_5]] (by rfl) rfl rfl zzM2 ?_;with_reducible refine (laws_sameRecord.calls kj27 ((rd_T34 t449 x8_2).f0) ((rd_T34 t449 x8_2).f1) ((rd_T34 t449 x8_2).f2) _ _ ((rd_T34 t449 x8_2).f3) ((rd_T34 t449 x8_2).f4) _ _ ((rd_T34 t449 x8_2).f5) ((rd_T34 t440 x7_2).f0) ((rd_T34 t440 x7_2).f1) ((rd_T34 t440 x7_2).f2) _ _ ((rd_T34 t440 x7_2).f3) ((rd_T34 t440 x7_2).f4) _ _ ((rd_T34 t440 x7_2).f5) true _ ?side1 ?side2 ?side3 ?side4 ?side5 ?side6 ?side7 ?side8 A38.out).mono ?_
               (case side1=>repeat (first|exact (zzC HR452_3.out)|(with_reducible refine Kd.C_alloc ?_ _)|(with_reducible refine Kd.C_drewN ?_ _)|(with_reducible refine Kd.C_drew ?_)))
               (case side2=>exact HC452_3.out)
               (case side3=>repeat (first|exact (zzC HR452_5.out)|(with_reducible refine Kd.C_alloc ?_ _)|(with_reducible refine Kd.C_drewN ?_ _)|(with_reducible refine Kd.C_drew ?_)))
               (case side4=>exact HC452_5.out)
               (case side5=>repeat (first|exact (zzC HR453_3.out)|(with_reducible refine Kd.C_alloc ?_ _)|(with_reducible refine Kd.C_drewN ?_ _)|(with_reducible refine Kd.C_drew ?_)))
               (case side6=>exact HC453_3.out)
               (case side7=>repeat (first|exact (zzC HR453_5.out)|(with_reducible refine Kd.C_alloc ?_ _)|(with_reducible refine Kd.C_drewN ?_ _)|(with_reducible refine Kd.C_drew ?_)))
               (case side8=>exact HC453_5.out);rintro e w43 ⟨rfl,hb⟩;have HS0_:=(hb.cell (zzn _ _ (hHeld.1))).trans (hHeld.1);have HS1_:=(hb.cell (zzn _ _ (hHeld.2.1))).trans (hHeld.2.1);have HS2_:=(hb.cell (zzn _ _ (hHeld.2.2.1))).trans (hHeld.2.2.1);have HS3_:=(hb.cell (zzn _ _ (hHeld.2.2.2.1))).trans (hHeld.2.2.2.1);have HS4_:=(hb.cell (zzn _ _ (hHeld.2.2.2.2.1))).trans (hHeld.2.2.2.2.1);have HS5_:=(hb.cell (zzn _ _ (hHeld.2.2.2.2.2.1))).trans (hHeld.2.2.2.2.2.1);have HS6_:=(hb.cell (zzn _ _ (hHeld.2.2.2.2.2.2.1))).trans (hHeld.2.2.2.2.2.2.1);have HS7_:=(hb.cell (zzn _ _ (hHeld.2.2.2.2.2.2.2.1))).trans (hHeld.2.2.2.2.2.2.2.1);have HS8_:=(hb.cell (zzn _ _ (hHeld.2.2.2.2.2.2.2.2.1))).trans (hHeld.2.2.2.2.2.2.2.2.1);have HS9_:=(hb.cell (zzn _ _ (hHeld.2.2.2.2.2.2.2.2.2.1))).trans (hHeld.2.2.2.2.2.2.2.2.2.1);have HS10_:=(hb.cell (zzn _ _ (hHeld.2.2.2.2.2.2.2.2.2.2.1))).trans (hHeld.2.2.2.2.2.2.2.2.2.2.1);have HS11_:=(hb.cell (zzn _ _ (hHeld.2.2.2.2.2.2.2.2.2.2.2))).trans (hHeld.2.2.2.2.2.2.2.2.2.2.2);refine ⟨_,rfl,?_⟩;have n0_:=zzm (Kd.N_below (zzN HO_4.out) hb);have n1_:=zzm (Kd.N_below (zzN HO_6.out) hb);have n2_:=zzm (Kd.V_below (zzV HL452_3.out) hb);have n3_:=zzm (Kd.V_below (zzV HL452_5.out) hb);have n4_:=zzm (Kd.V_below (zzV HL453_3.out) hb);have n5_:=zzm (Kd.V_below (zzV HL453_5.out) hb);have n6_:=zzm (Kd.C_below (zzC HR452_3.out) hb);have n7_:=zzm (Kd.C_below (zzC HR452_5.out) hb);have n8_:=zzm (Kd.C_below (zzC HR453_3.out) hb);have n9_:=zzm (Kd.C_below (zzC HR453_5.out) hb);have n10_:=zzm (zzp zzh1 hb);clear HO_4 HO_6 HL452_3 HL452_5 HL453_3 HL453_5 HR452_3 HR452_5 HR453_3 HR453_5 HB;have HO_4:=n0_;have HO_6:=n1_;have HL452_3:=n2_;have HL452_5:=n3_;have HL453_3:=n4_;have HL453_5:=n5_;have HR452_3:=n6_;have HR452_5:=n7_;have HR453_3:=n8_;have HR453_5:=n9_;have HB:=n10_;clear n0_ n1_ n2_ n3_ n4_ n5_ n6_ n7_ n8_ n9_ n10_
               (try clear hb)
               (try clear hb2)
               (try clear hk)
               (try clear hi);refine hK.out _ _ ⟨HS0_,HS1_,HS2_,HS3_,HS4_,HS5_,HS6_,HS7_,HS8_,HS9_,HS10_,HS11_⟩ (fun hHeld=>?_);clear hK K;refine norm_ (a':=?_) ?_ ?_;rotate_left
               ·
                show Act.put _ (some 52) _ = _;simp only [Act.put,zzq,zzr,zzs,i64_w,i32_w];rfl
               refine done_ (done_of HT_.out (by kernel_rfl)) ?_;try go_wp2
               go_roundg kj27
               case measure=>have:=HJ5.out;have:=HK2.out;have:=HJ27.out;omega
               case rel=>exact ⟨(wrap64 (x7_2+1)),(wrap64 (x8_2+1)),(by first|rfl|(simp;done)|(simp [*];done)),(by first|rfl|(simp;done)|(simp [*];done)),H',⟨by have:=HJ5.out;have:=HK2.out;have:=HJ27.out;omega⟩,⟨by (with_reducible repeat (first|apply Kd.N_alloc|apply Kd.N_drewN|apply Kd.N_drew));exact HO_4.out⟩,⟨by (with_reducible repeat (first|apply Kd.N_alloc|apply Kd.N_drewN|apply Kd.N_drew));exact HO_6.out⟩,⟨zzh1⟩⟩
              ·
               replace c39:=Bool.eq_false_iff.mpr c39;subst c39;have H1:(laws_FnStableRecordsRead.l0 kj27 t440 t449 x7_2 (wrap64 (x8_2+1)))=some r:=by rw [if_neg (show ¬ (false=true) by decide)] at H;exact H
               clear H;have H:=H1;clear H1;have H':=zzm H;clear H;try go_wp2
               have n0_:=zzm (Kd.N_drew HO_4.out);have n1_:=zzm (Kd.N_drew HO_6.out);have n2_:=zzm (zzc HB.out);clear HO_4 HO_6 HB;have HO_4:=n0_;have HO_6:=n1_;have HB:=n2_;clear n0_ n1_ n2_;obtain ⟨Ao45,co45,eo45⟩:=Kd.N_slice HO_6.out
               (first|subst eo45|(injection eo45 with f1_ f2_ f3_;have f4_:=f1_.symm;have f5_:=f3_.symm;clear f1_ f2_ f3_;subst f4_;subst f5_));have p452 : 0≤(x8_2:Int):=zzt;have q452:x8_2 < (t449.length:Int):=zzt;obtain ⟨ad452,A452_3,c452_3,A452_5,c452_5,e452,hx452_0,hx452_1,hx452_2,hx452_3,hx452_4,hx452_5,hl452_3,hi452_3,hl452_5,hi452_5⟩:=at_T34 (Kd.N_reads' HO_6.out).2.2 x8_2 p452 q452;cases e452;obtain ⟨ce452,hce452,hMe452,hcc452⟩:=Kd.N_get HO_6.out z34 x8_2 p452 (by first|exact q452|exact zzt|(have e_:=(Kd.N_reads' HO_6.out).1;omega));obtain ⟨ua452_3,uc452_3,ua452_5,uc452_5,rfl,ul452_3,ge452_3,ul452_5,ge452_5⟩:=k34_openF hMe452;have hv452_3:=hcc452 3 _ rfl;rw [add_field _ _ 3 (by omega)] at hv452_3;replace hv452_3:=Option.some.inj (hv452_3.symm.trans hx452_3);injection hv452_3 with hva_ hvn_ hvc_;rw [hva_] at ge452_3;rw [hvc_] at ul452_3;have HL452_3:=zzm (show Kd.V (Kd.int .i64) 3 _ w.heap.size _ _ ((rd_T34 t449 x8_2).f3) from Kd.V_mk ul452_3 ge452_3);clear hva_ hvn_ hvc_ ge452_3 ul452_3;have hv452_5:=hcc452 5 _ rfl;rw [add_field _ _ 5 (by omega)] at hv452_5;replace hv452_5:=Option.some.inj (hv452_5.symm.trans hx452_5);injection hv452_5 with hva_ hvn_ hvc_;rw [hva_] at ge452_5;rw [hvc_] at ul452_5;have HL452_5:=zzm (show Kd.V (Kd.int .i64) 3 _ w.heap.size _ _ ((rd_T34 t449 x8_2).f5) from Kd.V_mk ul452_5 ge452_5);clear hva_ hvn_ hvc_ ge452_5 ul452_5;clear hcc452 hce452;have HR452_3:=zzm hi452_3;have HC452_3:=zzm hl452_3;clear hi452_3 hl452_3;have HR452_5:=zzm hi452_5;have HC452_5:=zzm hl452_5;clear hi452_5 hl452_5;replace p452:=eq_true p452;replace q452:=eq_true q452;obtain ⟨Ao46,co46,eo46⟩:=Kd.N_slice HO_4.out
               (first|subst eo46|(injection eo46 with f1_ f2_ f3_;have f4_:=f1_.symm;have f5_:=f3_.symm;clear f1_ f2_ f3_;subst f4_;subst f5_));have p453 : 0≤(x7_2:Int):=zzt;have q453:x7_2 < (t440.length:Int):=zzt;obtain ⟨ad453,A453_3,c453_3,A453_5,c453_5,e453,hx453_0,hx453_1,hx453_2,hx453_3,hx453_4,hx453_5,hl453_3,hi453_3,hl453_5,hi453_5⟩:=at_T34 (Kd.N_reads' HO_4.out).2.2 x7_2 p453 q453;cases e453;obtain ⟨ce453,hce453,hMe453,hcc453⟩:=Kd.N_get HO_4.out z34 x7_2 p453 (by first|exact q453|exact zzt|(have e_:=(Kd.N_reads' HO_4.out).1;omega));obtain ⟨ua453_3,uc453_3,ua453_5,uc453_5,rfl,ul453_3,ge453_3,ul453_5,ge453_5⟩:=k34_openF hMe453;have hv453_3:=hcc453 3 _ rfl;rw [add_field _ _ 3 (by omega)] at hv453_3;replace hv453_3:=Option.some.inj (hv453_3.symm.trans hx453_3);injection hv453_3 with hva_ hvn_ hvc_;rw [hva_] at ge453_3;rw [hvc_] at ul453_3;have HL453_3:=zzm (show Kd.V (Kd.int .i64) 3 _ w.heap.size _ _ ((rd_T34 t440 x7_2).f3) from Kd.V_mk ul453_3 ge453_3);clear hva_ hvn_ hvc_ ge453_3 ul453_3;have hv453_5:=hcc453 5 _ rfl;rw [add_field _ _ 5 (by omega)] at hv453_5;replace hv453_5:=Option.some.inj (hv453_5.symm.trans hx453_5);injection hv453_5 with hva_ hvn_ hvc_;rw [hva_] at ge453_5;rw [hvc_] at ul453_5;have HL453_5:=zzm (show Kd.V (Kd.int .i64) 3 _ w.heap.size _ _ ((rd_T34 t440 x7_2).f5) from Kd.V_mk ul453_5 ge453_5);clear hva_ hvn_ hvc_ ge453_5 ul453_5;clear hcc453 hce453;have HR453_3:=zzm hi453_3;have HC453_3:=zzm hl453_3;clear hi453_3 hl453_3;have HR453_5:=zzm hi453_5;have HC453_5:=zzm hl453_5;clear hi453_5 hl453_5;replace p453:=eq_true p453;replace q453:=eq_true q453;refine start_ (n:=9) (S:=fun w'=>w'.cell? (ad452.add ((x8_2).toNat * 6))=some (.int .i64 ((rd_T34 t449 x8_2).f0))∧w'.cell? ⟨(ad452.add ((x8_2).toNat * 6)).block,(ad452.add ((x8_2).toNat * 6)).off+1,none⟩=some (.int .i64 ((rd_T34 t449 x8_2).f1))∧w'.cell? ⟨(ad452.add ((x8_2).toNat * 6)).block,(ad452.add ((x8_2).toNat * 6)).off+2,none⟩=some (.bool ((rd_T34 t449 x8_2).f2))∧w'.cell? ⟨(ad452.add ((x8_2).toNat * 6)).block,(ad452.add ((x8_2).toNat * 6)).off+3,none⟩=some (.slice A452_3 ((rd_T34 t449 x8_2).f3).length c452_3)∧w'.cell? ⟨(ad452.add ((x8_2).toNat * 6)).block,(ad452.add ((x8_2).toNat * 6)).off+4,none⟩=some (.bool ((rd_T34 t449 x8_2).f4))∧w'.cell? ⟨(ad452.add ((x8_2).toNat * 6)).block,(ad452.add ((x8_2).toNat * 6)).off+5,none⟩=some (.slice A452_5 ((rd_T34 t449 x8_2).f5).length c452_5)∧w'.cell? (ad453.add ((x7_2).toNat * 6))=some (.int .i64 ((rd_T34 t440 x7_2).f0))∧w'.cell? ⟨(ad453.add ((x7_2).toNat * 6)).block,(ad453.add ((x7_2).toNat * 6)).off+1,none⟩=some (.int .i64 ((rd_T34 t440 x7_2).f1))∧w'.cell? ⟨(ad453.add ((x7_2).toNat * 6)).block,(ad453.add ((x7_2).toNat * 6)).off+2,none⟩=some (.bool ((rd_T34 t440 x7_2).f2))∧w'.cell? ⟨(ad453.add ((x7_2).toNat * 6)).block,(ad453.add ((x7_2).toNat * 6)).off+3,none⟩=some (.slice A453_3 ((rd_T34 t440 x7_2).f3).length c453_3)∧w'.cell? ⟨(ad453.add ((x7_2).toNat * 6)).block,(ad453.add ((x7_2).toNat * 6)).off+4,none⟩=some (.bool ((rd_T34 t440 x7_2).f4))∧w'.cell? ⟨(ad453.add ((x7_2).toNat * 6)).block,(ad453.add ((x7_2).toNat * 6)).off+5,none⟩=some (.slice A453_5 ((rd_T34 t440 x7_2).f5).length c453_5)) (ds:=[]) (zzB 9 0) (by kernel_rfl) rfl rfl ⟨hx452_0,hx452_1,hx452_2,hx452_3,hx452_4,hx452_5,hx453_0,hx453_1,hx453_2,hx453_3,hx453_4,hx453_5⟩ (fun hHeld=>?_);refine with_tabW laws_FnStableRecordsRead.tab13 laws_FnStableRecordsRead.bits13 (fun HT_ HW_=>?_);generalize wc.drew=w44 at HO_4 HO_6 HB HL452_3 HL452_5 HL453_3 HL453_5 HR452_3 HR452_5 HR453_3 HR453_5 hx452_0 hx452_1 hx452_2 hx452_3 hx452_4 hx452_5 hx453_0 hx453_1 hx453_2 hx453_3 hx453_4 hx453_5 hHeld ⊢;refine pure_ (i:=0) (N:=some 44) (v:=?_) (a':=?_) (zzB 9 1) rfl rfl (zzA2 HT_.out) (fun _ _ _ h=>h) (Or.inl ⟨by rfl,?_⟩) ?_ ?_;rotate_left
               ·
                intro w';go_simp;with_reducible rfl
               rotate_left
               ·
                simp only [Act.put,zzq,zzr,zzs,i64_w,i32_w];rfl
               refine pure_ (i:=1) (N:=some 45) (v:=?_) (a':=?_) (zzB 9 3) rfl rfl (zzA2 HT_.out) (fun _ _ _ h=>h) (Or.inl ⟨by rfl,?_⟩) ?_ ?_;rotate_left
               ·
                intro w';go_simp;with_reducible rfl
               rotate_left
               ·
                simp only [Act.put,zzq,zzr,zzs,i64_w,i32_w];rfl
               refine pure_ (i:=2) (N:=some 46) (v:=?_) (a':=?_) (zzB 9 7) rfl rfl (zzA2 HT_.out) (fun _ _ _ h=>h) (Or.inl ⟨by rfl,?_⟩) ?_ ?_;rotate_left
               ·
                intro w';go_simp;with_reducible rfl
               rotate_left
               ·
                simp only [Act.put,zzq,zzr,zzs,i64_w,i32_w];rfl
               refine pure_ (i:=4) (N:=some 48) (v:=?_) (a':=?_) (zzB 9 23) rfl rfl (zzA2 HT_.out) (fun _ _ _ h=>h) (Or.inl ⟨by rfl,?_⟩) ?_ ?_;rotate_left
               ·
                intro w';go_simp;with_reducible rfl
               rotate_left
               ·
                simp only [Act.put,zzq,zzr,zzs,i64_w,i32_w];rfl
               refine pure_ (i:=5) (N:=some 49) (v:=?_) (a':=?_) (zzB 9 55) rfl rfl (zzA2 HT_.out) (fun _ _ _ h=>h) (Or.inl ⟨by rfl,?_⟩) ?_ ?_;rotate_left
               ·
                intro w';go_simp;with_reducible rfl
               rotate_left
               ·
                simp only [Act.put,zzq,zzr,zzs,i64_w,i32_w];rfl
               refine pure_ (i:=6) (N:=some 50) (v:=?_) (a':=?_) (zzB 9 119) rfl rfl (zzA2 HT_.out) (fun _ _ _ h=>h) (Or.inl ⟨by rfl,?_⟩) ?_ ?_;rotate_left
               ·
                intro w';go_simp;with_reducible rfl
               rotate_left
               ·
                simp only [Act.put,zzq,zzr,zzs,i64_w,i32_w];rfl
               refine take_ (i:=3) (N:=some 47) (v:=?_) (a':=?_) (zzB 9 127) rfl rfl (take_ofW HT_.out HW_.out (by kernel_rfl)) (fun _ _ _ h=>h) (Or.inl ⟨by rfl,?_⟩) hHeld ?_ ?_;rotate_left
               ·
                rintro w' ⟨s0,s1,s2,s3,s4,s5,s6,s7,s8,s9,s10,s11⟩;go_simp;with_reducible rfl
               rotate_left
               ·
                simp only [Act.put,zzq,zzr,zzs,i64_w,i32_w];rfl
               refine take_ (i:=7) (N:=some 51) (v:=?_) (a':=?_) (zzB 9 255) rfl rfl (take_ofW HT_.out HW_.out (by kernel_rfl)) (fun _ _ _ h=>h) (Or.inl ⟨by rfl,?_⟩) hHeld ?_ ?_;rotate_left
               ·
                rintro w' ⟨s0,s1,s2,s3,s4,s5,s6,s7,s8,s9,s10,s11⟩;go_simp;with_reducible rfl
               rotate_left
               ·
                simp only [Act.put,zzq,zzr,zzs,i64_w,i32_w];rfl
               refine one_ (i:=8) (N:=some 52) (zzB 9 511) rfl rfl (one_of HT_.out (by kernel_rfl)) (by decide) (fun K hK=>?_);refine goes_ Try.func23 (by kernel_rfl) rfl #[.agg #[.int .i64 ((rd_T34 t449 x8_2).f0),.int .i64 ((rd_T34 t449 x8_2).f1),.bool ((rd_T34 t449 x8_2).f2),.slice A452_3 ((rd_T34 t449 x8_2).f3).length c452_3,.bool ((rd_T34 t449 x8_2).f4),.slice A452_5 ((rd_T34 t449 x8_2).f5).length c452_5],.agg #[.int .i64 ((rd_T34 t440 x7_2).f0),.int .i64 ((rd_T34 t440 x7_2).f1),.bool ((rd_T34 t440 x7_2).f2),.slice A453_3 ((rd_T34 t440 x7_2).f3).length c453_3,.bool ((rd_T34 t440 x7_2).f4),.slice A453_5 ((rd_T34 t440 x7_2).f5).length c453_5]] (by rfl) rfl rfl zzM2 ?_;with_reducible refine (laws_sameRecord.calls kj27 ((rd_T34 t449 x8_2).f0) ((rd_T34 t449 x8_2).f1) ((rd_T34 t449 x8_2).f2) _ _ ((rd_T34 t449 x8_2).f3) ((rd_T34 t449 x8_2).f4) _ _ ((rd_T34 t449 x8_2).f5) ((rd_T34 t440 x7_2).f0) ((rd_T34 t440 x7_2).f1) ((rd_T34 t440 x7_2).f2) _ _ ((rd_T34 t440 x7_2).f3) ((rd_T34 t440 x7_2).f4) _ _ ((rd_T34 t440 x7_2).f5) false _ ?side1 ?side2 ?side3 ?side4 ?side5 ?side6 ?side7 ?side8 A38.out).mono ?_
               (case side1=>repeat (first|exact (zzC HR452_3.out)|(with_reducible refine Kd.C_alloc ?_ _)|(with_reducible refine Kd.C_drewN ?_ _)|(with_reducible refine Kd.C_drew ?_)))
               (case side2=>exact HC452_3.out)
               (case side3=>repeat (first|exact (zzC HR452_5.out)|(with_reducible refine Kd.C_alloc ?_ _)|(with_reducible refine Kd.C_drewN ?_ _)|(with_reducible refine Kd.C_drew ?_)))
               (case side4=>exact HC452_5.out)
               (case side5=>repeat (first|exact (zzC HR453_3.out)|(with_reducible refine Kd.C_alloc ?_ _)|(with_reducible refine Kd.C_drewN ?_ _)|(with_reducible refine Kd.C_drew ?_)))
               (case side6=>exact HC453_3.out)
               (case side7=>repeat (first|exact (zzC HR453_5.out)|(with_reducible refine Kd.C_alloc ?_ _)|(with_reducible refine Kd.C_drewN ?_ _)|(with_reducible refine Kd.C_drew ?_)))
               (case side8=>exact HC453_5.out);rintro e w47 ⟨rfl,hb⟩;have HS0_:=(hb.cell (zzn _ _ (hHeld.1))).trans (hHeld.1);have HS1_:=(hb.cell (zzn _ _ (hHeld.2.1))).trans (hHeld.2.1);have HS2_:=(hb.cell (zzn _ _ (hHeld.2.2.1))).trans (hHeld.2.2.1);have HS3_:=(hb.cell (zzn _ _ (hHeld.2.2.2.1))).trans (hHeld.2.2.2.1);have HS4_:=(hb.cell (zzn _ _ (hHeld.2.2.2.2.1))).trans (hHeld.2.2.2.2.1);have HS5_:=(hb.cell (zzn _ _ (hHeld.2.2.2.2.2.1))).trans (hHeld.2.2.2.2.2.1);have HS6_:=(hb.cell (zzn _ _ (hHeld.2.2.2.2.2.2.1))).trans (hHeld.2.2.2.2.2.2.1);have HS7_:=(hb.cell (zzn _ _ (hHeld.2.2.2.2.2.2.2.1))).trans (hHeld.2.2.2.2.2.2.2.1);have HS8_:=(hb.cell (zzn _ _ (hHeld.2.2.2.2.2.2.2.2.1))).trans (hHeld.2.2.2.2.2.2.2.2.1);have HS9_:=(hb.cell (zzn _ _ (hHeld.2.2.2.2.2.2.2.2.2.1))).trans (hHeld.2.2.2.2.2.2.2.2.2.1);have HS10_:=(hb.cell (zzn _ _ (hHeld.2.2.2.2.2.2.2.2.2.2.1))).trans (hHeld.2.2.2.2.2.2.2.2.2.2.1);have HS11_:=(hb.cell (zzn _ _ (hHeld.2.2.2.2.2.2.2.2.2.2.2))).trans (hHeld.2.2.2.2.2.2.2.2.2.2.2);refine ⟨_,rfl,?_⟩;have n0_:=zzm (Kd.N_below (zzN HO_4.out) hb);have n1_:=zzm (Kd.N_below (zzN HO_6.out) hb);have n2_:=zzm (Kd.V_below (zzV HL452_3.out) hb);have n3_:=zzm (Kd.V_below (zzV HL452_5.out) hb);have n4_:=zzm (Kd.V_below (zzV HL453_3.out) hb);have n5_:=zzm (Kd.V_below (zzV HL453_5.out) hb);have n6_:=zzm (Kd.C_below (zzC HR452_3.out) hb);have n7_:=zzm (Kd.C_below (zzC HR452_5.out) hb);have n8_:=zzm (Kd.C_below (zzC HR453_3.out) hb);have n9_:=zzm (Kd.C_below (zzC HR453_5.out) hb);have n10_:=zzm (zzp zzh1 hb);clear HO_4 HO_6 HL452_3 HL452_5 HL453_3 HL453_5 HR452_3 HR452_5 HR453_3 HR453_5 HB;have HO_4:=n0_;have HO_6:=n1_;have HL452_3:=n2_;have HL452_5:=n3_;have HL453_3:=n4_;have HL453_5:=n5_;have HR452_3:=n6_;have HR452_5:=n7_;have HR453_3:=n8_;have HR453_5:=n9_;have HB:=n10_;clear n0_ n1_ n2_ n3_ n4_ n5_ n6_ n7_ n8_ n9_ n10_
               (try clear hb)
               (try clear hb2)
               (try clear hk)
               (try clear hi);refine hK.out _ _ ⟨HS0_,HS1_,HS2_,HS3_,HS4_,HS5_,HS6_,HS7_,HS8_,HS9_,HS10_,HS11_⟩ (fun hHeld=>?_);clear hK K;refine norm_ (a':=?_) ?_ ?_;rotate_left
               ·
                show Act.put _ (some 52) _ = _;simp only [Act.put,zzq,zzr,zzs,i64_w,i32_w];rfl
               refine done_ (done_of HT_.out (by kernel_rfl)) ?_;try go_wp2
               go_roundg kj27
               case measure=>have:=HJ5.out;have:=HK2.out;have:=HJ27.out;omega
               case rel=>exact ⟨(x7_2),(wrap64 (x8_2+1)),(by first|rfl|(simp;done)|(simp [*];done)),(by first|rfl|(simp;done)|(simp [*];done)),H',⟨by have:=HJ5.out;have:=HK2.out;have:=HJ27.out;omega⟩,⟨by (with_reducible repeat (first|apply Kd.N_alloc|apply Kd.N_drewN|apply Kd.N_drew));exact HO_4.out⟩,⟨by (with_reducible repeat (first|apply Kd.N_alloc|apply Kd.N_drewN|apply Kd.N_drew));exact HO_6.out⟩,⟨zzh1⟩⟩
             ·
              rw [if_neg c37] at H;exact absurd H (by simp)
            ·
             rw [if_neg c36] at H;exact absurd H (by simp)
           ·
            rw [if_neg c35] at H;exact absurd H (by simp)
          ·
           rw [if_neg c34] at H;exact absurd H (by simp)
         ·
          replace c33:=Bool.eq_false_iff.mpr c33;subst c33;have H1:(some (x7_2==(t440.length:Int)))=some r:=by rw [if_neg (show ¬ (false=true) by decide)] at H;exact H
          clear H;have H:=H1;clear H1;obtain rfl:=Option.some.inj H;obtain ⟨Ao48,co48,eo48⟩:=Kd.N_slice HO_4.out;subst eo48;go_wp2;go_ret;exact ⟨by first|rfl|(simp [errW_none,errW_some] <;> rfl)|(simp [*,errW_none,errW_some] <;> rfl),zzh1⟩
def laws_FnStableRecordsRead.Pure:Prop:=∀ (l0:List Int),l0.length≤maxLen→l0.length * 1≤140737488351232→(∀ x∈l0,(Lit.int .u8 x).wf=true)→∃ k,laws_FnStableRecordsRead.f k l0=some true
theorem laws_FnStableRecordsRead.walk (P:laws_FnStableRecordsRead.Pure) (a0:Option Addr) (len0 cap0:Nat) (z0:List Int) (w:World) (w0:(a0=none∧len0=0∧cap0=0∧z0 = [])∨∃ x,a0=some x∧len0≤cap0∧cap0≤maxLen∧z0.length=cap0∧(∀ i,i < z0.length→w.cell? (x.add i)=some (.int .u8 (z0.getD i 0)))∧∀ n∈z0,(Lit.int .u8 n).wf=true) (y0:len0 * 1≤140737488351232) :
  Calls Try.prog 14 #[.slice a0 len0 cap0] w fun e w'=>e = .returned (.bool true)∧Below w.heap.size w w':=by
 obtain ⟨l0,rfl,hr0,hm0,hw0,hc0⟩:=ReadsInt.ofRowC w0;obtain ⟨k,h⟩:=P l0 hm0 y0 hw0;refine (laws_FnStableRecordsRead.calls k _ _ l0 true w (Kd.C_of_reads (d:=(0:Int)) (h1:=fun _=>rfl) hr0) hc0 h).mono ?_;rintro e w' ⟨rfl,hd⟩;exact ⟨rfl,hd⟩
end Go.Proofs.Yticpnjhkdfdkkaa.U
namespace Go.Proofs.Yticpnjhkdfdkkaa.UQ
open Go.RowKit Go.Proofs.Yticpnjhkdfdkkaa.U Go.Proofs.YticpnjhkdfdkkaaW.PrintWords Go.Proofs.YticpnjhkdfdkkaaW.PrintLast
set_option linter.unusedVariables false
set_option linter.unusedSimpArgs false
def nAt (l:List Bt) (i:Nat):List Rc:=if mk l i=true then [] else (rb l (i:Int)).f5
def nonTo (l:List Bt) (i:Nat):List Rc:=((List.range i).map (nAt l)).flatten
theorem nonTo_succ (l:List Bt) (i:Nat):nonTo l (i+1)=nonTo l i++nAt l i:=by
 unfold nonTo
 rw [List.range_succ,List.map_append,List.flatten_append]
 simp
theorem nAt_len {l:List Bt} (h:VL l) (i:Nat) (hi:i < l.length):(nAt l i).length≤6:=by
 unfold nAt
 split
 ·simp
 ·exact (vB_pos (VL_at h i hi)).2
theorem nonTo_len {l:List Bt} (h:VL l):∀ i,i≤l.length→(nonTo l i).length≤6 * i
 | 0,_=>by simp [nonTo]
 | i+1,hi=>by
  rw [nonTo_succ,List.length_append]
  have h1:=nonTo_len h i (by omega)
  have h2:=nAt_len h i (by omega)
  omega
theorem rAt_nAt {l:List Bt} (h:VL l) (i:Nat) (hi:i < l.length):(rAt l i).Sublist (nAt l i):=by
 unfold rAt
 by_cases hw:wAt l l.length i=1
 ·rw [if_pos hw]
  have hm:mk l i=false:=by
   have hv:=VL_at h i hi
   by_cases h5:pr l i=255
   ·have h1:=hv.1
    rw [if_pos h5] at h1
    exact h1.2.2
   ·cases hm:mk l i with
    | false=>rfl
    | true=>
     unfold wAt at hw
     rw [if_neg h5,if_pos hm] at hw
     omega
  unfold nAt
  rw [hm]
  simp
 ·rw [if_neg hw]
  exact List.nil_sublist _
theorem recTo_sub {l:List Bt} (h:VL l):∀ i,i≤l.length→(recTo l i).Sublist (nonTo l i)
 | 0,_=>by simp [recTo]
 | i+1,hi=>by
  rw [recTo_succ,nonTo_succ]
  exact (recTo_sub h i (by omega)).append (rAt_nAt h i (by omega))
theorem nonTo_mono (l:List Bt) (i:Nat):∀ d,(nonTo l i).Sublist (nonTo l (i+d))
 | 0=>List.Sublist.refl _
 | d+1=>by
  rw [show i+(d+1)=(i+d)+1 by omega,nonTo_succ]
  exact (nonTo_mono l i d).trans (List.sublist_append_left _ _)
theorem range_rd (l:List Rc):(List.range l.length).map (fun j:Nat=>rr l (j:Int))=l:=by
 apply List.ext_getElem
 ·simp
 ·intro i h1 h2
  rw [List.getElem_map,List.getElem_range,rr_nat l i h2]
theorem rdOut_row {l:List Bt} (h:VL l) (i:Nat) (hi:i < l.length):rdOut l 0 (ptsRow l i)=nAt l i:=by
 have hv:=VL_at h i hi
 unfold nAt
 cases hm:mk l i with
 | true=>
  rw [if_pos rfl]
  have:(ptsRow l i).filter (rdKeep l 0) = []:=by
   rw [List.filter_eq_nil_iff]
   intro x hx
   unfold ptsRow at hx
   obtain ⟨j,_,rfl⟩:=List.mem_map.1 hx
   have h2:(rd_T27 l ((i:Nat):Int)).f1=true:=hm
   simp [rdKeep,h2]
  unfold rdOut
  rw [this]
  rfl
 | false=>
  have:(ptsRow l i).filter (rdKeep l 0)=ptsRow l i:=by
   rw [List.filter_eq_self]
   intro x hx
   unfold ptsRow at hx
   obtain ⟨j,hj,rfl⟩:=List.mem_map.1 hx
   have hj2:j < (rb l (i:Int)).f5.length:=List.mem_range.1 hj
   have h2:(rd_T27 l ((i:Nat):Int)).f1=false:=hm
   have h3:=(hv.2.2.2 j (Nat.zero_le _) hj2).1
   unfold rv at h3
   rw [Bool.and_eq_true,decide_eq_true_eq] at h3
   have h4:(rcAt l (i,j)).f0 ≥ 0:=h3.1.1.1
   simp only [rdKeep,h2,Bool.not_false,Bool.true_and,decide_eq_true_eq]
   exact h4
  unfold rdOut
  rw [this]
  simp only [Bool.false_eq_true,if_false]
  unfold ptsRow
  rw [List.map_map]
  exact range_rd (rb l (i:Int)).f5
theorem rdOut_to {l:List Bt} (h:VL l):∀ i,i≤l.length→rdOut l 0 (ptsTo l i)=nonTo l i
 | 0,_=>by simp [ptsTo,rdOut,nonTo]
 | i+1,hi=>by
  rw [ptsTo_succ,nonTo_succ,← rdOut_to h i (by omega),← rdOut_row h i (by omega)]
  simp [rdOut]
theorem okRecs_of {l:List Bt} (h:VL l):okRecs l=true:=by
 unfold okRecs
 rw [List.all_eq_true]
 intro b hb
 obtain ⟨j,hj,rfl⟩:=List.getElem_of_mem hb
 rw [List.all_eq_true]
 intro r hr
 have hv:=VL_at h j hj
 rw [rb_nat l j hj] at hv
 have:=vB_okc hv r hr
 have h1:=this.1
 have h2:=this.2
 rw [Bool.and_eq_true,decide_eq_true_eq,decide_eq_true_eq]
 exact ⟨by omega,by omega⟩
theorem implRead (l:List Bt) (hl:smallBs l) (h:VL l):Ev (fun k=>impl_ReadRecords.f k l 0 99) (nonTo l l.length):=by
 unfold impl_ReadRecords.f
 refine Ev.bind (implLog l hl) ?_
 rw [vl_true h]
 simp only [if_true,if_pos (show (0:Int)≤99∧(99:Int)≤99 by omega),okRecs_of h]
 have h1:=rdOut_to h l.length (Nat.le_refl _)
 have h2:=nonTo_len h l.length (Nat.le_refl _)
 have h3:=h.1
 rw [show pts l=ptsTo l l.length from rfl,h1,List.take_of_length_le (by show _≤(99:Int).toNat;omega)]
 exact ev_some _
end Go.Proofs.Yticpnjhkdfdkkaa.UQ
namespace Go.Proofs.Yticpnjhkdfdkkaa.Pure
open Go.RowKit Go.Proofs.Yticpnjhkdfdkkaa.U Go.Proofs.YticpnjhkdfdkkaaW.PrintWords Go.Proofs.YticpnjhkdfdkkaaW.PrintLast Go.Proofs.Yticpnjhkdfdkkaa.UQ
set_option linter.unusedVariables false
set_option linter.unusedSimpArgs false
theorem drawStabR {l0:List Int} (hb:Bytes l0):Evs (fun k=>spec_DrawStableRecords.f k l0) (fun r=>drawnBs 10 r):=by
 obtain ⟨b,ho,hb2,hbl⟩:=open_ev l0 hb
 unfold spec_DrawStableRecords.f
 simp only [ho,bsome]
 refine Evs.bind (decided_evs b hb2 hbl) ?_
 rintro ⟨r,p⟩ h
 exact Evs.done h
theorem wsucc (j:Nat) (h:j < 1000000):wrap64 ((j:Int)+1)=((j+1:Nat):Int):=by rw [wrap_id (by omega) (by omega)];omega
theorem sub_ne {α:Type} {a b : α} {l m:List α} (h:(a::l).Sublist (b::m)) (hne:¬ b=a):(a::l).Sublist m:=by
 cases h with
 | cons _ h=>exact h
 | cons_cons _ h=>exact absurd rfl hne
theorem greedy (x y:List Rc) (hx:x.length≤1000) (hy:y.length≤1000) (hs:∀ r∈y,smallR r):∀ (d i n:Nat),y.length - i=d→i≤y.length→n≤x.length→(x.drop n).Sublist (y.drop i)→Ev (fun k=>laws_FnStableRecordsRead.l0 k x y (n:Int) (i:Int)) true:=by
 intro d
 induction d with
 | zero=>
  intro i n hd hi hn hsub
  have:x.drop n = []:=by
   rw [List.drop_eq_nil_of_le (show y.length≤i by omega)] at hsub
   exact List.sublist_nil.1 hsub
  have hnx:n=x.length:=by rw [List.drop_eq_nil_iff] at this;omega
  refine ev_succ ?_
  simp only [laws_FnStableRecordsRead.l0,if_neg (show ¬ (i:Int) < (y.length:Int) by omega)]
  refine ev_succ ?_
  simp only [laws_FnStableRecordsRead.j2,Bool.false_eq_true,if_false,hnx]
  rw [show ((x.length:Int)==(x.length:Int))=true by simp]
  exact ev_some _
 | succ d ih=>
  intro i n hd hi hn hsub
  have hiy:i < y.length:=by omega
  have e1:=wsucc i (by omega)
  have e2:=wsucc n (by omega)
  refine ev_succ ?_
  simp only [laws_FnStableRecordsRead.l0,if_pos (show (i:Int) < (y.length:Int) by omega)]
  refine ev_succ ?_
  by_cases hnx:n < x.length
  ·have hry:rd_T34 y (i:Int)=y[i]:=rr_nat y i hiy
   have hrx:rd_T34 x (n:Int)=x[n]:=rr_nat x n hnx
   simp only [laws_FnStableRecordsRead.j2,decide_eq_true (show (n:Int) < (x.length:Int) by omega),if_true,if_pos (show (0:Int)≤(i:Int) by omega),if_pos (show (i:Int) < (y.length:Int) by omega),if_pos (show (0:Int)≤(n:Int) by omega),if_pos (show (n:Int) < (x.length:Int) by omega),hry,hrx,e1,e2]
   refine Ev.bind (sameRec y[i] x[n] (hs _ (List.getElem_mem hiy))) ?_
   rw [List.drop_eq_getElem_cons hnx,List.drop_eq_getElem_cons hiy] at hsub
   by_cases he:y[i]=x[n]
   ·simp only [he,decide_true,if_true]
    refine ih (i+1) (n+1) (by omega) (by omega) (by omega) ?_
    rw [he] at hsub
    exact List.cons_sublist_cons.1 hsub
   ·simp only [decide_eq_false he,Bool.false_eq_true,if_false]
    refine ih (i+1) n (by omega) (by omega) hn ?_
    rw [List.drop_eq_getElem_cons hnx]
    exact sub_ne hsub he
  ·obtain rfl:n=x.length:=by omega
   simp only [laws_FnStableRecordsRead.j2,decide_eq_false (show ¬ (x.length:Int) < (x.length:Int) by omega),Bool.false_eq_true,if_false]
   rw [show ((x.length:Int)==(x.length:Int))=true by simp]
   exact ev_some _
theorem FnStableRecordsRead:laws_FnStableRecordsRead.Pure:=by
 intro l0 _ _ hb0
 refine Ev.rounds ?_
 have hb:=bytes_of hb0
 unfold laws_FnStableRecordsRead.f
 by_cases h:(l0.length:Int) > 1048576
 ·simp only [if_pos h]
  exact ev_some _
 ·simp only [if_neg h]
  obtain ⟨l,hd,hdr⟩:=drawStabR hb
  have hs:=drawnBs_small hdr
  refine Ev.bind hd ?_
  by_cases hv:VL l
  ·obtain ⟨x,hx,hxp⟩:=implStab l hs hv
   obtain ⟨y,hy,hyp⟩:=specStab l hs hv
   obtain rfl:=StR_unique hxp hyp
   refine Ev.bind hx ?_
   refine Ev.bind hy ?_
   have hsame:=sameRecs x x (StR_small hv hxp)
   rw [decide_eq_true rfl] at hsame
   refine Ev.bind hsame ?_
   simp only [if_true]
   refine Ev.bind (specLog l hs) ?_
   rw [vl_true hv]
   refine ev_succ ?_
   simp only [laws_FnStableRecordsRead.j0,Bool.not_true,Bool.false_eq_true,if_false]
   refine Ev.bind (implRead l hs hv) ?_
   have hl:=StR_len hv hxp
   have hn:=nonTo_len hv l.length (Nat.le_refl _)
   have h8:=hv.1
   obtain ⟨e,he,_,_,rfl⟩:=hxp
   have hsub:=(recTo_sub hv e he).trans (nonTo_mono l e (l.length - e))
   rw [show e+(l.length - e)=l.length by omega] at hsub
   have hsm:∀ r∈nonTo l l.length,smallR r:=by
    intro r hr
    unfold nonTo at hr
    obtain ⟨q,hq,hr2⟩:=List.mem_flatten.1 hr
    obtain ⟨j,hj,rfl⟩:=List.mem_map.1 hq
    have hj2:=List.mem_range.1 hj
    unfold nAt at hr2
    split at hr2
    ·simp at hr2
    ·exact (smallBs_at hs j hj2).2 r hr2
   exact greedy _ _ (by omega) (by omega) hsm (nonTo l l.length).length 0 0 (by omega) (by omega) (by omega) (by simpa using hsub)
  ·refine Ev.bind (implStab_not l hs hv) ?_
   refine Ev.bind (specStab_not l hs hv) ?_
   have hsame:=sameRecs ([]:List Rc) [] ⟨by simp,fun r hr=>by simp at hr⟩
   rw [decide_eq_true rfl] at hsame
   refine Ev.bind hsame ?_
   simp only [if_true]
   refine Ev.bind (specLog l hs) ?_
   rw [vl_false hv]
   refine ev_succ ?_
   simp only [laws_FnStableRecordsRead.j0,Bool.not_false,if_true]
   refine Ev.bind hsame ?_
   exact ev_some _
end Go.Proofs.Yticpnjhkdfdkkaa.Pure
namespace Go.Proofs.Yticpnjhkdfdkkaa.fnStableRecordsRead
open Go.ChangeShapes Go.WideShapes Go.ChangeAt Go.RowKit
open Go.ChangeMaps (open_string shut_string)
set_option linter.unusedVariables false
theorem own:ownKnob Try.prog.godebug=none:=by kernel_rfl
theorem laidOut:laidOutB Try.prog=true:=by kernel_rfl
def IsRow (k:IntKind) (w:World) (a:Option Addr) (len cap:Nat) (zs:List Int):Prop:=
 (a=none∧len=0∧cap=0∧zs = []) ∨
 ∃ x,a=some x∧len≤cap∧cap≤maxLen∧zs.length=cap∧(∀ i,i < zs.length→w.cell? (x.add i)=some (.int k (zs.getD i 0)))∧∀ n∈zs,(Lit.int k n).wf=true
set_option maxRecDepth 100000 in
theorem lifted (os:Os) (started:os.Started) (H:Type) (enc:TypeId×Value→H) :
  ReturnsInHanded {} Try.checked os 14 .any (Rows.fnStableRecordsReadSpec.pre6 enc Try.prog Try.f14 Rows.fnStableRecordsReadRow.domain false) (Rows.fnStableRecordsReadSpec.post enc Try.prog Try.f14 false true false false):=by
 refine returnsInHanded_of_change_sized (C:=Try.checked) own started (by kernel_rfl) Try.func14
  (ChangeSpec.witness6 (enc:=enc) (C:=Try.checked) false ⟨#[],#[.slice none 0 0],[]⟩ 8 (by kernel_rfl) (by kernel_rfl) (by kernel_rfl) (by kernel_rfl)) ?_
 intro W base args ds gs before hval0 hW hcnd hsz0 _
 have hsz:(DataW.weightsEach Try.prog (Try.f14.params.toList++Rows.fnStableRecordsReadSpec.plain.varTypes Try.prog) (ds++gs)).all (· ≤ reachBytes)=true:=hsz0
 have hval:∀ (j:Nat) t v,Try.f14.params[j]? = some t→args[j]? = some v→Value.okWide Try.prog W .any base t v:=hval0
 have hW':=hW
 obtain ⟨p,q,hA0,hV,rfl,hfz,hnd⟩:=hW
 have hA:DataW.TrodAll enc Try.prog W 0 (fun _=>true) true Try.f14.params.toList args.toList ds p:=hA0
 rw [Try.params14] at hA hval hsz
 obtain ⟨v0,vs0,d0,ds0,p0,q0,hargs,rfl,rfl,h0,r0⟩:=trodAll_cons hA
 obtain ⟨rfl,rfl,rfl⟩:=trodAll_nil r0
 obtain rfl:args = #[v0]:=by cases args;simp_all
 obtain ⟨rfl,rfl⟩:=trodVars_none hV
 obtain ⟨a0,len0,cap0,rfl⟩:=okWide_slice Try.underlying22 (hval 0 22 v0 rfl rfl)
 have k0:=h0
 have lt0:∀ x∈p0,x.block < W.heap.size:=by obtain ⟨m,hm⟩:=k0;exact DataW.trod_lt m _ _ _ hm
 obtain ⟨z0,w0⟩:∃ zs,IsRow .u8 W a0 len0 cap0 zs:=by
  obtain ⟨fuel,hf⟩:=h0
  rcases open_ints Try.underlying22 Try.underlying5 (by kernel_rfl) hf with ⟨hcs,_⟩|⟨x,l,c,zs,hcs,_,hl,hm,hz,_,hcell,hwz⟩
  ·simp [Value.cells] at hcs
   obtain ⟨rfl,rfl,rfl⟩:=hcs
   exact ⟨[],.inl ⟨rfl,rfl,rfl,rfl⟩⟩
  ·simp [Value.cells] at hcs
   obtain ⟨rfl,rfl,rfl⟩:=hcs
   exact ⟨zs,.inr ⟨_,rfl,hl,hm,by simpa using hz,hcell,hwz⟩⟩
 have y0:len0 * 1≤140737488351232:=Go.Proofs.YticpnjhkdfdkkaaW.PrintWords.sized_ints hsz (j:=0) (t:=22) rfl rfl Try.underlying22 Try.underlying5 (by kernel_rfl) (by kernel_rfl) h0
 clear hA0 hval0 hsz0 hsz
 refine (U.laws_FnStableRecordsRead.walk Pure.FnStableRecordsRead a0 len0 cap0 z0 W w0 y0).mono fun e W' ⟨he,bel⟩=>?_
 subst he
 exact ⟨_,rfl,_,_,_,[],_,[],hW',trodAll_mk1 (shut_bool Try.underlying4 _),(trodAll_cons_mk (Below.trod laidOut (by kernel_rfl) (of_decide_eq_true (by kernel_rfl)) k0 bel lt0) trodAll_mk0),rfl,bel.frame _,fun h=>by cases h⟩
theorem closed:joinedFacts Try.prog 14 Try.f14 Rows.fnStableRecordsReadSpec Rows.fnStableRecordsReadRow=true:=
 Head.closed_of _ _ _ _ _ (by kernel_rfl) (by kernel_rfl) (by kernel_rfl) (by kernel_rfl) (by kernel_rfl) (by kernel_rfl) (by kernel_rfl) (by kernel_rfl) (by kernel_rfl) (by kernel_rfl) (by kernel_rfl) (by kernel_rfl) (by kernel_rfl) (by kernel_rfl) (by kernel_rfl) (by kernel_rfl) (by kernel_rfl) (by kernel_rfl) (by kernel_rfl) (by kernel_rfl) (by kernel_rfl) (by kernel_rfl) (by kernel_rfl) (by kernel_rfl) (by kernel_rfl) Head.may_enter (by rw [Head.lifts_final];kernel_rfl) (by rw [Head.make_is];kernel_rfl) (by kernel_rfl) (by kernel_rfl) (by kernel_rfl) (by kernel_rfl)
theorem over:Rows.fnStableRecordsReadRow.holds Try.pinned (OpenSpec.ofChange Rows.fnStableRecordsReadSpec):=
 OpenClaim.holds_of_wide 14 Try.f14 rfl rfl rfl rfl rfl rfl rfl ⟨rfl,rfl,rfl,rfl,rfl⟩ rfl rfl rfl rfl rfl (by kernel_rfl) Try.func14 closed
  (of_decide_eq_true (by kernel_rfl)) (by unfold Func.isWrapper;first|(rw [if_pos (by decide +kernel)];kernel_rfl)|(rw [if_neg (by decide +kernel)];exact ⟨rfl,rfl⟩))
  (fun os started H enc _=>lifted os started H enc)
theorem proved:Rows.FnStableRecordsReadSaid:=over
end Go.Proofs.Yticpnjhkdfdkkaa.fnStableRecordsRead
namespace Go.Proofs.Yticpnjhkdfdkkaa
theorem fnStableRecordsRead_holds:Rows.FnStableRecordsReadSaid:=fnStableRecordsRead.proved
end Go.Proofs.Yticpnjhkdfdkkaa
