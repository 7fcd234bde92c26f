/- The law FnCompact holds (part 6 of 6; merged by pack2.py). -/
import Derived.RangeFuncNested
import Derived.RangeFuncBound
import Derived.RangeFuncCalls
import Derived.RangeFuncLeaves
import Derived.Shelf.Abstract
import Derived.Shelf.RegionOpen
import Derived.OwnWalkIn
import Derived.TacticsInMore
import Derived.LoopNIn
import Derived.LoopIn
import Derived.Maps.OwnIn
import Derived.Maps.Views
import Derived.StringKeys
import Derived.ProofKit
import Derived.OpenShut
import Derived.ShutString
import Derived.ChangeOld
import Derived.Test.YtkhjmhdgcmffaaaFnCompactK4
set_option maxRecDepth 1000000
open List (setIfInBounds_toArray set_cons_zero set_cons_succ map_toArray map_cons map_nil length_drop length_take)
namespace Go.Proofs.Ytkhjmhdgcmffaaa.V
open Go.RowKit Go.Proofs.YtkhjmhdgcmffaaaW.PrintWords Go.Proofs.YtkhjmhdgcmffaaaW.PrintLast Go.Proofs.YtkhjmhdgcmffaaaW.PrintMore
attribute [local go_sem] max2_int max_two
set_option linter.unusedVariables false
set_option linter.unusedSimpArgs false
section
open Go.Shelf
attribute [local go_sem] Oper.semAt_some
def KeepT (t:TypeId) (W W' : World):Prop:=∀ (k:Nat) (cs:Array Value) (f:Nat×Nat),W.heap[k]? = some (.cells cs t f)→W'.heap[k]? = some (.cells cs t f)
theorem KeepT.refl (t:TypeId) (W:World):KeepT t W W:=fun _ _ _ h=>h
theorem KeepT.trans {t:TypeId} {X Y Z:World} (h:KeepT t X Y) (k:KeepT t Y Z):KeepT t X Z:=fun i cs f hi=>k i cs f (h i cs f hi)
theorem KeepT.of_below {t:TypeId} {W W' : World} (h:Below W.heap.size W W'):KeepT t W W':=fun k cs f hk=>(h.block k (Array.getElem?_eq_some_iff.1 hk).1).trans hk
theorem KeepT.of_grownBy {t:TypeId} {W W' : World} {row:Option Nat} (h:W.grownBy W' row) (hr:∀ k,row=some k→∀ cs f,W.heap[k]? ≠ some (.cells cs t f)):KeepT t W W':=fun k cs f hk=>(h.block k (Array.getElem?_eq_some_iff.1 hk).1 (fun e=>hr k e.symm cs f hk)).trans hk
theorem KeepT.putObj {t:TypeId} (W:World) (l:Nat) (o o' : Obj) (h:W.heap[l]? = some o) (ho:o.isCells=false):KeepT t W (W.putObj l o'):=
 KeepT.of_grownBy (grownBy_putObj' W l o') (fun k e cs f hk=>by cases e;rw [h] at hk;cases hk;cases ho)
theorem KeepT.alloc {t:TypeId} (W:World) (o:Obj):KeepT t W (W.alloc o):=KeepT.of_grownBy (World.grownBy_alloc W o none) (fun k e=>by cases e)
theorem KeepT.setCell {t u:TypeId} {W:World} {p:Addr} {cs:Array Value} {f:Nat×Nat} (h:W.heap[p.block]? = some (.cells cs u f)) (hu:u≠t) (v:Value):KeepT t W (W.setCell p v):=fun k cs' f' hk=>by
 by_cases e:k=p.block
 ·
  subst e
  rw [h] at hk
  cases hk
  exact absurd rfl hu
 ·
  exact (Below.heap_setCell W p v k e).trans hk
structure Places (w:World) (A:Option Addr) (l:List S34) (AB:Nat→Option Addr) (CB:Nat→Nat) (AK:Nat→Nat→Option Addr) (CK:Nat→Nat→Nat) (AV:Nat→Nat→Option Addr) (CV:Nat→Nat→Nat):Prop where
 out:∀ i:Nat,i < l.length→∃ ad,A=some ad∧w.cell? (ad.add (i * 6))=some (.bool (Qa l i).f0)∧w.cell? ⟨(ad.add (i * 6)).block,(ad.add (i * 6)).off+1,none⟩=some (.bool (Qa l i).f1)∧w.cell? ⟨(ad.add (i * 6)).block,(ad.add (i * 6)).off+2,none⟩=some (.int .i64 (Qa l i).f2)∧w.cell? ⟨(ad.add (i * 6)).block,(ad.add (i * 6)).off+3,none⟩=some (.int .i64 (Qa l i).f3)∧w.cell? ⟨(ad.add (i * 6)).block,(ad.add (i * 6)).off+4,none⟩=some (.int .i64 (Qa l i).f4)∧w.cell? ⟨(ad.add (i * 6)).block,(ad.add (i * 6)).off+5,none⟩=some (.slice (AB i) (Qa l i).f5.length (CB i))
 row:∀ i:Nat,(Qa l i).f5.length≤CB i∧Kd.C k30 w (AB i) (Qa l i).f5.length (Qa l i).f5
 item:∀ i j:Nat,j < (Qa l i).f5.length→∃ ad,AB i=some ad∧w.cell? (ad.add (j * 6))=some (.int .i64 (Qb (Qa l i).f5 j).f0)∧w.cell? ⟨(ad.add (j * 6)).block,(ad.add (j * 6)).off+1,none⟩=some (.int .i64 (Qb (Qa l i).f5 j).f1)∧w.cell? ⟨(ad.add (j * 6)).block,(ad.add (j * 6)).off+2,none⟩=some (.bool (Qb (Qa l i).f5 j).f2)∧w.cell? ⟨(ad.add (j * 6)).block,(ad.add (j * 6)).off+3,none⟩=some (.slice (AK i j) (Qb (Qa l i).f5 j).f3.length (CK i j))∧w.cell? ⟨(ad.add (j * 6)).block,(ad.add (j * 6)).off+4,none⟩=some (.bool (Qb (Qa l i).f5 j).f4)∧w.cell? ⟨(ad.add (j * 6)).block,(ad.add (j * 6)).off+5,none⟩=some (.slice (AV i j) (Qb (Qa l i).f5 j).f5.length (CV i j))
 key:∀ i j:Nat,(Qb (Qa l i).f5 j).f3.length≤CK i j∧(Kd.int .i64).C w (AK i j) (Qb (Qa l i).f5 j).f3.length (Qb (Qa l i).f5 j).f3
 val:∀ i j:Nat,(Qb (Qa l i).f5 j).f5.length≤CV i j∧(Kd.int .i64).C w (AV i j) (Qb (Qa l i).f5 j).f5.length (Qb (Qa l i).f5 j).f5
theorem rd_none_B {l:List S34} {i:Nat} (h:¬ i < l.length):Qa l i=z34:=by
 unfold Qa;rw [Int.toNat_natCast,List.getD_eq_getElem?_getD,List.getElem?_eq_none (by omega)];rfl
theorem rd_none_R {l:List S30} {i:Nat} (h:¬ i < l.length):Qb l i=z30:=by
 unfold Qb;rw [Int.toNat_natCast,List.getD_eq_getElem?_getD,List.getElem?_eq_none (by omega)];rfl
theorem places_of {w:World} {A:Option Addr} {l:List S34} (h:Kd.C k34 w A l.length l):∃ AB CB AK CK AV CV,Places w A l AB CB AK CK AV CV:=by
 have h1:∀ i:Nat,∃ (p:Option Addr×Nat),(i < l.length→∃ ad,A=some ad∧w.cell? (ad.add (i * 6))=some (.bool (Qa l i).f0)∧w.cell? ⟨(ad.add (i * 6)).block,(ad.add (i * 6)).off+1,none⟩=some (.bool (Qa l i).f1)∧w.cell? ⟨(ad.add (i * 6)).block,(ad.add (i * 6)).off+2,none⟩=some (.int .i64 (Qa l i).f2)∧w.cell? ⟨(ad.add (i * 6)).block,(ad.add (i * 6)).off+3,none⟩=some (.int .i64 (Qa l i).f3)∧w.cell? ⟨(ad.add (i * 6)).block,(ad.add (i * 6)).off+4,none⟩=some (.int .i64 (Qa l i).f4)∧w.cell? ⟨(ad.add (i * 6)).block,(ad.add (i * 6)).off+5,none⟩=some (.slice p.1 (Qa l i).f5.length p.2)) ∧
   (Qa l i).f5.length≤p.2∧Kd.C k30 w p.1 (Qa l i).f5.length (Qa l i).f5:=by
  intro i;by_cases hi:i < l.length
  ·
   obtain ⟨ad,A5,c5,e,e0,e1,e2,e3,e4,e5,hl,hc⟩:=Qx h (i:Int) (by omega) (by omega);simp only [Int.toNat_natCast] at e0 e1 e2 e3 e4 e5;exact ⟨(A5,c5),fun _=>⟨ad,e,e0,e1,e2,e3,e4,e5⟩,hl,hc⟩
  ·
   refine ⟨(none,0),fun hi'=>absurd hi' hi,?_,?_⟩
   ·
    rw [rd_none_B hi];exact Nat.le_refl _
   ·
    rw [rd_none_B hi];exact Kd.C_nil k30 w
 obtain ⟨p,hp⟩:=Classical.axiomOfChoice h1;have h2:∀ x:Nat×Nat,∃ (q:(Option Addr×Nat)×(Option Addr×Nat)),(x.2 < (Qa l x.1).f5.length→∃ ad,(p x.1).1=some ad∧w.cell? (ad.add (x.2 * 6))=some (.int .i64 (Qb (Qa l x.1).f5 x.2).f0)∧w.cell? ⟨(ad.add (x.2 * 6)).block,(ad.add (x.2 * 6)).off+1,none⟩=some (.int .i64 (Qb (Qa l x.1).f5 x.2).f1)∧w.cell? ⟨(ad.add (x.2 * 6)).block,(ad.add (x.2 * 6)).off+2,none⟩=some (.bool (Qb (Qa l x.1).f5 x.2).f2)∧w.cell? ⟨(ad.add (x.2 * 6)).block,(ad.add (x.2 * 6)).off+3,none⟩=some (.slice q.1.1 (Qb (Qa l x.1).f5 x.2).f3.length q.1.2)∧w.cell? ⟨(ad.add (x.2 * 6)).block,(ad.add (x.2 * 6)).off+4,none⟩=some (.bool (Qb (Qa l x.1).f5 x.2).f4)∧w.cell? ⟨(ad.add (x.2 * 6)).block,(ad.add (x.2 * 6)).off+5,none⟩=some (.slice q.2.1 (Qb (Qa l x.1).f5 x.2).f5.length q.2.2)) ∧
   ((Qb (Qa l x.1).f5 x.2).f3.length≤q.1.2∧(Kd.int .i64).C w q.1.1 (Qb (Qa l x.1).f5 x.2).f3.length (Qb (Qa l x.1).f5 x.2).f3) ∧
   ((Qb (Qa l x.1).f5 x.2).f5.length≤q.2.2∧(Kd.int .i64).C w q.2.1 (Qb (Qa l x.1).f5 x.2).f5.length (Qb (Qa l x.1).f5 x.2).f5):=by
  rintro ⟨i,j⟩;dsimp only;by_cases hj:j < (Qa l i).f5.length
  ·
   obtain ⟨ad,A3,c3,A5,c5,e,e0,e1,e2,e3,e4,e5,hl3,hc3,hl5,hc5⟩:=Ra (hp i).2.2 (j:Int) (by omega) (by omega);simp only [Int.toNat_natCast] at e0 e1 e2 e3 e4 e5;exact ⟨((A3,c3),(A5,c5)),fun _=>⟨ad,e,e0,e1,e2,e3,e4,e5⟩,⟨hl3,hc3⟩,⟨hl5,hc5⟩⟩
  ·
   refine ⟨((none,0),(none,0)),fun hj'=>absurd hj' hj,?_,?_⟩
   ·
    rw [rd_none_R hj];exact ⟨Nat.le_refl _,Kd.C_nil _ w⟩
   ·
    rw [rd_none_R hj];exact ⟨Nat.le_refl _,Kd.C_nil _ w⟩
 obtain ⟨q,hq⟩:=Classical.axiomOfChoice h2;exact ⟨fun i=>(p i).1,fun i=>(p i).2,fun i j=>(q (i,j)).1.1,fun i j=>(q (i,j)).1.2,fun i j=>(q (i,j)).2.1,fun i j=>(q (i,j)).2.2,fun i hi=>(hp i).1 hi,fun i=>(hp i).2,fun i j hj=>(hq (i,j)).1 hj,fun i j=>(hq (i,j)).2.1,fun i j=>(hq (i,j)).2.2⟩
def ptsRow (l:List S34) (i:Nat):List (Nat×Nat):=(List.range (Qa l i).f5.length).map fun j=>(i,j)
def ptsTo (l:List S34) (i:Nat):List (Nat×Nat):=(List.range i).flatMap (ptsRow l)
def pts (l:List S34):List (Nat×Nat):=ptsTo l l.length
theorem ptsTo_succ (l:List S34) (i:Nat):ptsTo l (i+1)=ptsTo l i++ptsRow l i:=by
 unfold ptsTo;rw [List.range_succ,List.flatMap_append];simp
theorem ptsTo_prefix (l:List S34):∀ (d i:Nat),ptsTo l i <+: ptsTo l (i+d)
 | 0,i=>List.prefix_refl _
 | d+1,i=>by
  refine (ptsTo_prefix l d i).trans ?_
  rw [← Nat.add_assoc,ptsTo_succ]
  exact List.prefix_append _ _
def ptsAt (l:List S34) (i j:Nat):List (Nat×Nat):=ptsTo l i++(List.range j).map fun j=>(i,j)
theorem ptsAt_zero (l:List S34) (i:Nat):ptsAt l i 0=ptsTo l i:=by simp [ptsAt]
theorem ptsAt_succ (l:List S34) (i j:Nat):ptsAt l i (j+1)=ptsAt l i j ++ [(i,j)]:=by simp [ptsAt,List.range_succ]
theorem ptsAt_full (l:List S34) (i:Nat):ptsAt l i (Qa l i).f5.length=ptsTo l (i+1):=by rw [ptsTo_succ];rfl
theorem ptsAt_prefix {l:List S34} {i j:Nat} (hi:i < l.length) (hj:j≤(Qa l i).f5.length):ptsAt l i j <+: pts l:=by
 have h1:ptsAt l i j <+: ptsTo l (i+1):=by
  obtain ⟨d,hd⟩:∃ d,(Qa l i).f5.length=j+d:=⟨_,(Nat.add_sub_of_le hj).symm⟩;rw [← ptsAt_full,hd];unfold ptsAt;rw [List.range_add,List.map_append,← List.append_assoc];exact List.prefix_append _ _
 have h2:=ptsTo_prefix l (l.length - (i+1)) (i+1);rw [show i+1+(l.length - (i+1))=l.length by omega] at h2;exact h1.trans h2
theorem ptsAt_lt {l:List S34} {i j:Nat} (hi:i < l.length) (hj:j < (Qa l i).f5.length):(ptsAt l i j).length < (pts l).length:=by
 have:=(ptsAt_prefix hi (show j+1≤_ by omega)).length_le;rw [ptsAt_succ,List.length_append,List.length_singleton] at this;omega
def encB (l:List S34) (AB:Nat→Option Addr) (CB:Nat→Nat) (i:Nat):Value:=.agg #[.bool (Qa l i).f0,.bool (Qa l i).f1,.int .i64 (Qa l i).f2,.int .i64 (Qa l i).f3,.int .i64 (Qa l i).f4,.slice (AB i) (Qa l i).f5.length (CB i)]
def encR (l:List S34) (AK:Nat→Nat→Option Addr) (CK:Nat→Nat→Nat) (AV:Nat→Nat→Option Addr) (CV:Nat→Nat→Nat) (i j:Nat):Value:=.agg #[.int .i64 (Qb (Qa l i).f5 j).f0,.int .i64 (Qb (Qa l i).f5 j).f1,.bool (Qb (Qa l i).f5 j).f2,.slice (AK i j) (Qb (Qa l i).f5 j).f3.length (CK i j),.bool (Qb (Qa l i).f5 j).f4,.slice (AV i j) (Qb (Qa l i).f5 j).f5.length (CV i j)]
def KpR (n₀:Nat) (W W' : World):Prop:=Below n₀ W W'∧KeepT 34 W W'
theorem KpR.t {n₀:Nat} {A B C:World} (h:KpR n₀ A B) (k:KpR n₀ B C):KpR n₀ A C:=⟨h.1.trans k.1,h.2.trans k.2⟩
theorem KpR.b {n₀:Nat} {w:World} (hn:n₀≤w.heap.size) (W:World) (l:Nat) (o o' : Obj) (hl:w.heap.size≤l) (h:W.heap[l]? = some o) (hc:o.isCells=false) (hw:o.isWalk=false):KpR n₀ W (W.putObj l o'):=
 ⟨belowK_b hn W l o o' hl h hc hw,KeepT.putObj W l o o' h hc⟩
set_option maxHeartbeats 4000000 in
theorem recs1_in (F:Fence) (n:Nat) (h1:F.fn 70) (hro:F.round=none) (hn : 1≤n) (l Bs n₀:Nat) (A0:Option Addr) (c0:Nat) (l0:List S34) {AB:Nat→Option Addr} {CB:Nat→Nat} {AK:Nat→Nat→Option Addr} {CK:Nat→Nat→Nat} {AV:Nat→Nat→Option Addr} {CV:Nat→Nat→Nat}
  (w W:World) (hP:Places w A0 l0 AB CB AK CK AV CV) (hmax:l0.length≤9223372036854775807) (hn₀:n₀=w.heap.size) (J Jx:List (Nat×Nat)→World→Prop) (hJ:AbidesFrom W.heap.size J)
  (hY:∀ pre (x:Nat×Nat) W1,J pre W1→pre.length < (pts l0).length→YieldAt F (n - 1) Try.prog l #[encB l0 AB CB x.1,encR l0 AK CK AV CV x.1 x.2] W1 fun e W'=>
   (e = .returned (.bool true)∧J (pre ++ [x]) W'∧KpR n₀ W1 W')∨(e = .returned (.bool false)∧Jx (pre ++ [x]) W'))
  (hBs:W.cell? ⟨Bs,0,none⟩=some (.slice A0 l0.length c0)) (hWB:Below n₀ w W) (h0:J [] W) :
  CallsIn F n Try.prog 70 #[.func (.yield l) #[] #[],.pointer (some ⟨Bs,0,none⟩)] W fun e W'=>(∃ v,e = .returned v) ∧
   ((∃ ys,ys=pts l0∧J ys W')∨(∃ pre,pre <+: pts l0∧Jx pre W')):=by
 have HP:=zzm hP;have HJ:=zzm hJ;have HY:=zzm hY;clear hP hJ hY;refine callsIn_of_wp Try.func70 rfl h1 ?_ hro;simp only [Try.ntmps70,List.size_toArray,List.length_cons,List.length_nil,Nat.reduceAdd,Nat.reduceSub,Array.replicate_succ,Array.replicate_zero,List.push_toArray,List.append_toArray,List.nil_append,List.cons_append];gi_wp2;gi_loopw [9] (fun i wr=>∃ m:Nat,m≤l0.length∧i = .int .i64 (m:Int)∧J (ptsTo l0 m) wr∧Below n₀ W wr)
  (fun i _=>l0.length - (intOf i).toNat)
 case atStart=>exact ⟨0,Nat.zero_le _,by go_num,by simpa [ptsTo] using h0,Below.refl _ _⟩
 case round=>
  obtain ⟨m,hm,rfl,hJs,hnx⟩:=hrel;by_cases hlt:m < l0.length
  ·
   have hmi:((m:Nat):Int) < (l0.length:Int):=by omega
   obtain ⟨ad,he,a0,a1,a2,a3,a4,a5⟩:=HP.out.out m hlt;subst he;have hwb:=hWB.trans hnx;have a7:=(hwb.cell (by rw [hn₀];exact zzn w _ a0)).trans a0;have a8:=(hwb.cell (by rw [hn₀];exact zzn w _ a1)).trans a1;have a9:=(hwb.cell (by rw [hn₀];exact zzn w _ a2)).trans a2;have b0:=(hwb.cell (by rw [hn₀];exact zzn w _ a3)).trans a3;have b1:=(hwb.cell (by rw [hn₀];exact zzn w _ a4)).trans a4;have b2:=(hwb.cell (by rw [hn₀];exact zzn w _ a5)).trans a5;clear a0 a1 a2 a3 a4 a5;have HWB:=zzm hwb;clear hwb;gi_wp2;obtain ⟨B0,hB0⟩:∃ B0,wr.heap.size=B0:=⟨_,rfl⟩;rw [hB0];gi_loopw [16] (fun i w2=>∃ j:Nat,j≤(Qa l0 (m:Int)).f5.length∧i = .int .i64 (j:Int)∧J (ptsAt l0 m j) w2∧Below n₀ W w2∧w2.heap[B0]? = some (.cells #[.bool (Qa l0 (m:Int)).f0,.bool (Qa l0 (m:Int)).f1,.int .i64 (Qa l0 (m:Int)).f2,.int .i64 (Qa l0 (m:Int)).f3,.int .i64 (Qa l0 (m:Int)).f4,.slice (AB m) (Qa l0 (m:Int)).f5.length (CB m)] 34 (0,0)))
    (fun i _=>(Qa l0 (m:Int)).f5.length - (intOf i).toNat)
   case atStart=>exact ⟨0,Nat.zero_le _,by go_num,by rw [ptsAt_zero];exact HJ.out _ _ _ none hJs (World.grownBy_alloc wr _ none) (fun r e=>by cases e),hnx.trans ((Below.refl _ wr).alloc (by have:=hnx.size;have:=hWB.size;omega) _),hB0 ▸ World.alloc_heap_new wr _⟩
   case round=>
    obtain ⟨j,hj,rfl,hJ2,a6,hbx⟩:=hrel;have hmx:(Qa l0 (m:Int)).f5.length≤9223372036854775807:=(HP.out.row m).2.2.1;by_cases hltj:j < (Qa l0 (m:Int)).f5.length
    ·
     have hji:((j:Nat):Int) < ((Qa l0 (m:Int)).f5.length:Int):=by omega
     obtain ⟨b3,he2,a0,a1,a2,a3,a4,a5⟩:=HP.out.item m j hltj;rw [he2];rw [he2] at hbx;have hwb:=hWB.trans a6;have hd0:=(hwb.cell (by rw [hn₀];exact zzn w _ a0)).trans a0;have hd1:=(hwb.cell (by rw [hn₀];exact zzn w _ a1)).trans a1;have hd2:=(hwb.cell (by rw [hn₀];exact zzn w _ a2)).trans a2;have hd3:=(hwb.cell (by rw [hn₀];exact zzn w _ a3)).trans a3;have hd4:=(hwb.cell (by rw [hn₀];exact zzn w _ a4)).trans a4;have hd5:=(hwb.cell (by rw [hn₀];exact zzn w _ a5)).trans a5;clear a0 a1 a2 a3 a4 a5 a7 a8 a9 b0 b1 b2;have hbx2:=(Below.heap_alloc wr (.cells #[.int .i64 (Qb (Qa l0 (m:Int)).f5 (j:Int)).f0,.int .i64 (Qb (Qa l0 (m:Int)).f5 (j:Int)).f1,.bool (Qb (Qa l0 (m:Int)).f5 (j:Int)).f2,.slice (AK m j) (Qb (Qa l0 (m:Int)).f5 (j:Int)).f3.length (CK m j),.bool (Qb (Qa l0 (m:Int)).f5 (j:Int)).f4,.slice (AV m j) (Qb (Qa l0 (m:Int)).f5 (j:Int)).f5.length (CV m j)] 30) B0 (Array.getElem?_eq_some_iff.1 hbx).1).trans hbx;have hb0:(wr.alloc (.cells #[.int .i64 (Qb (Qa l0 (m:Int)).f5 (j:Int)).f0,.int .i64 (Qb (Qa l0 (m:Int)).f5 (j:Int)).f1,.bool (Qb (Qa l0 (m:Int)).f5 (j:Int)).f2,.slice (AK m j) (Qb (Qa l0 (m:Int)).f5 (j:Int)).f3.length (CK m j),.bool (Qb (Qa l0 (m:Int)).f5 (j:Int)).f4,.slice (AV m j) (Qb (Qa l0 (m:Int)).f5 (j:Int)).f5.length (CV m j)] 30)).cell? ⟨B0,0,none⟩=some (.bool (Qa l0 (m:Int)).f0):=by simp [World.cell?,hbx2]
     have hb1:(wr.alloc (.cells #[.int .i64 (Qb (Qa l0 (m:Int)).f5 (j:Int)).f0,.int .i64 (Qb (Qa l0 (m:Int)).f5 (j:Int)).f1,.bool (Qb (Qa l0 (m:Int)).f5 (j:Int)).f2,.slice (AK m j) (Qb (Qa l0 (m:Int)).f5 (j:Int)).f3.length (CK m j),.bool (Qb (Qa l0 (m:Int)).f5 (j:Int)).f4,.slice (AV m j) (Qb (Qa l0 (m:Int)).f5 (j:Int)).f5.length (CV m j)] 30)).cell? ⟨B0,1,none⟩=some (.bool (Qa l0 (m:Int)).f1):=by simp [World.cell?,hbx2]
     have hb2:(wr.alloc (.cells #[.int .i64 (Qb (Qa l0 (m:Int)).f5 (j:Int)).f0,.int .i64 (Qb (Qa l0 (m:Int)).f5 (j:Int)).f1,.bool (Qb (Qa l0 (m:Int)).f5 (j:Int)).f2,.slice (AK m j) (Qb (Qa l0 (m:Int)).f5 (j:Int)).f3.length (CK m j),.bool (Qb (Qa l0 (m:Int)).f5 (j:Int)).f4,.slice (AV m j) (Qb (Qa l0 (m:Int)).f5 (j:Int)).f5.length (CV m j)] 30)).cell? ⟨B0,2,none⟩=some (.int .i64 (Qa l0 (m:Int)).f2):=by simp [World.cell?,hbx2]
     have hb3:(wr.alloc (.cells #[.int .i64 (Qb (Qa l0 (m:Int)).f5 (j:Int)).f0,.int .i64 (Qb (Qa l0 (m:Int)).f5 (j:Int)).f1,.bool (Qb (Qa l0 (m:Int)).f5 (j:Int)).f2,.slice (AK m j) (Qb (Qa l0 (m:Int)).f5 (j:Int)).f3.length (CK m j),.bool (Qb (Qa l0 (m:Int)).f5 (j:Int)).f4,.slice (AV m j) (Qb (Qa l0 (m:Int)).f5 (j:Int)).f5.length (CV m j)] 30)).cell? ⟨B0,3,none⟩=some (.int .i64 (Qa l0 (m:Int)).f3):=by simp [World.cell?,hbx2]
     have hb4:(wr.alloc (.cells #[.int .i64 (Qb (Qa l0 (m:Int)).f5 (j:Int)).f0,.int .i64 (Qb (Qa l0 (m:Int)).f5 (j:Int)).f1,.bool (Qb (Qa l0 (m:Int)).f5 (j:Int)).f2,.slice (AK m j) (Qb (Qa l0 (m:Int)).f5 (j:Int)).f3.length (CK m j),.bool (Qb (Qa l0 (m:Int)).f5 (j:Int)).f4,.slice (AV m j) (Qb (Qa l0 (m:Int)).f5 (j:Int)).f5.length (CV m j)] 30)).cell? ⟨B0,4,none⟩=some (.int .i64 (Qa l0 (m:Int)).f4):=by simp [World.cell?,hbx2]
     have hb5:(wr.alloc (.cells #[.int .i64 (Qb (Qa l0 (m:Int)).f5 (j:Int)).f0,.int .i64 (Qb (Qa l0 (m:Int)).f5 (j:Int)).f1,.bool (Qb (Qa l0 (m:Int)).f5 (j:Int)).f2,.slice (AK m j) (Qb (Qa l0 (m:Int)).f5 (j:Int)).f3.length (CK m j),.bool (Qb (Qa l0 (m:Int)).f5 (j:Int)).f4,.slice (AV m j) (Qb (Qa l0 (m:Int)).f5 (j:Int)).f5.length (CV m j)] 30)).cell? ⟨B0,5,none⟩=some (.slice (some b3) (Qa l0 (m:Int)).f5.length (CB m)):=by simp [World.cell?,hbx2]
     obtain ⟨fn,tmps,assign,body,hy,hR⟩:=HY.out _ (m,j) (wr.alloc (.cells #[.int .i64 (Qb (Qa l0 (m:Int)).f5 (j:Int)).f0,.int .i64 (Qb (Qa l0 (m:Int)).f5 (j:Int)).f1,.bool (Qb (Qa l0 (m:Int)).f5 (j:Int)).f2,.slice (AK m j) (Qb (Qa l0 (m:Int)).f5 (j:Int)).f3.length (CK m j),.bool (Qb (Qa l0 (m:Int)).f5 (j:Int)).f4,.slice (AV m j) (Qb (Qa l0 (m:Int)).f5 (j:Int)).f5.length (CV m j)] 30)) (HJ.out _ _ _ none hJ2 (World.grownBy_alloc wr _ none) (fun r e=>by cases e)) (ptsAt_lt hlt hltj);dsimp only [encB,encR] at hy;rw [he2] at hy;gi_wp2;have b4:=a6.trans ((Below.refl n₀ wr).alloc (by have:=a6.size;have:=hWB.size;omega) (.cells #[.int .i64 (Qb (Qa l0 (m:Int)).f5 (j:Int)).f0,.int .i64 (Qb (Qa l0 (m:Int)).f5 (j:Int)).f1,.bool (Qb (Qa l0 (m:Int)).f5 (j:Int)).f2,.slice (AK m j) (Qb (Qa l0 (m:Int)).f5 (j:Int)).f3.length (CK m j),.bool (Qb (Qa l0 (m:Int)).f5 (j:Int)).f4,.slice (AV m j) (Qb (Qa l0 (m:Int)).f5 (j:Int)).f5.length (CV m j)] 30));refine hR.mono ?_;rintro e W3 (⟨rfl,hJ3,hk3⟩|⟨rfl,hJx3⟩)
     ·
      gi_wp2;go_roundw
      case rel=>exact ⟨j+1,by omega,by go_num,by rw [ptsAt_succ];exact hJ3,b4.trans hk3.1,hk3.2 _ _ _ hbx2⟩
      case measure=>simp [intOf] <;> omega
     ·
      gi_wp2;refine bodyPost_ret (results_none rfl _ _ _) rfl ?_;exact ⟨⟨_,rfl⟩,.inr ⟨ptsAt l0 m j ++ [(m,j)],by rw [← ptsAt_succ];exact ptsAt_prefix hlt (by omega),hJx3⟩⟩
    ·
     have hje:j=(Qa l0 (m:Int)).f5.length:=by omega
     have hji:¬ ((j:Nat):Int) < ((Qa l0 (m:Int)).f5.length:Int):=by omega
     gi_wp2;go_roundw
     case rel=>exact ⟨m+1,by omega,by go_num,by rw [← ptsAt_full,← hje];exact hJ2,a6⟩
     case measure=>simp [intOf] <;> omega
  ·
   have hme:m=l0.length:=by omega
   have hmi:¬ ((m:Nat):Int) < (l0.length:Int):=by omega
   gi_wp2;go_end0;exact ⟨⟨_,rfl⟩,.inl (by have h:=hJs;rw [hme] at h;exact h)⟩
theorem recs_stops (F:Fence) (n:Nat) (h1:F.fn 70) (hro:F.round=none) (hn : 1≤n) (Bs:Nat) (A0:Option Addr) (c0:Nat) (l0:List S34) {AB:Nat→Option Addr} {CB:Nat→Nat} {AK:Nat→Nat→Option Addr} {CK:Nat→Nat→Nat} {AV:Nat→Nat→Option Addr} {CV:Nat→Nat→Nat}
  (w W0:World) (hP:Places w A0 l0 AB CB AK CK AV CV) (hmax:l0.length≤9223372036854775807) (hWB:Below w.heap.size w W0) (hc:W0.cell? ⟨Bs,0,none⟩=some (.slice A0 l0.length c0)) :
  SeqStopsK F n Try.prog 70 #[.pointer (some ⟨Bs,0,none⟩)] (fun x:Nat×Nat=>#[encB l0 AB CB x.1,encR l0 AK CK AV CV x.1 x.2]) (KpR w.heap.size) (fun ys=>ys=pts l0) (fun pre=>pre <+: pts l0) (pts l0).length W0:=
 fun l J Jx W hW hJ _ hY h0=>recs1_in F n h1 hro hn l Bs w.heap.size A0 c0 l0 w W hP hmax rfl J Jx hJ hY ((hW.cell (zzn W0 _ hc)).trans hc) (hWB.trans (hW.mono hWB.size)) h0
set_option maxHeartbeats 1000000 in
theorem recs_in (F:Fence) (n:Nat) (h6:F.fn 41) (hro:F.round=none) (A0:Option Addr) (len cap:Nat) (w:World) :
  CallsIn F n Try.prog 41 #[.slice A0 len cap] w fun e w'=>e = .returned (.func (.func 70) #[] #[.pointer (some ⟨w.heap.size,0,none⟩)])∧w' = w.alloc (.cells #[.slice A0 len cap] 23):=by
 refine callsIn_of_wp Try.func41 rfl h6 ?_ hro;simp only [Try.ntmps41,List.size_toArray,List.length_cons,List.length_nil,Nat.reduceAdd,Nat.reduceSub,Array.replicate_succ,Array.replicate_zero,List.push_toArray,List.append_toArray,List.nil_append,List.cons_append];gi_wp2;go_ret;exact ⟨rfl,rfl⟩
end
section
open Go.Shelf
variable {F:Fence} {n:Nat} {P:Program} {ops:Array Oper} {Q:Exit→Act→World→Prop}
theorem wpAnyIn_inv' {md:Region.Mode} (Inv:Array Bool→Act→World→Prop) (todo:Array Bool→Nat)
  (h:∀ listed a w,Inv listed a w→(Region.ready md ops listed = []→Q .normal a w)∧∀ i∈Region.ready md ops listed,wpOpIn F n P ops Q i (fun a' w'=>Inv (listed.setIfInBounds i true) a' w') a w)
  (h0:∀ listed a w,Inv listed a w→todo listed=0→Region.ready md ops listed = [])
  (hdec:∀ listed i a w,Inv listed a w→i∈Region.ready md ops listed→todo (listed.setIfInBounds i true) < todo listed) :
  ∀ (fuel:Nat) (listed:Array Bool) (a:Act) (w:World),Inv listed a w→todo listed≤fuel→wpAnyIn F n P md ops Q fuel listed a w
 | 0,listed,a,w,hi,ht=>by
  have hr:=h0 listed a w hi (by omega)
  exact ⟨hr,(h listed a w hi).1 hr⟩
 | fuel+1,listed,a,w,hi,ht=>by
  refine ⟨(h listed a w hi).1,fun i hm=>?_⟩
  have hd:=hdec listed i a w hi hm
  refine wpOpIn_mono ?_ ((h listed a w hi).2 i hm)
  intro a' w' hi'
  exact wpAnyIn_inv' Inv todo h h0 hdec fuel _ a' w' hi' (by omega)
def appSt (b:Bool) (s:Nat):Array Bool:=#[b,decide (1≤s),decide (2≤s),decide (3≤s),decide (4≤s),decide (5≤s)]
def appRd (b:Bool) (s:Nat):List Nat:=(if b=true then [] else [0])++(match s with
 | 0=>[1]
 | 1=>[2]
 | 2=>[3]
 | 3=>if b=true then [4] else []
 | 4=>[5]
 | _=>[])
def appAll:List (Bool×Nat):=[(false,0),(false,1),(false,2),(false,3),(true,0),(true,1),(true,2),(true,3),(true,4),(true,5)]
def appTab (ops:Array Oper):Bool:=appAll.all fun p=>Region.ready .any ops (appSt p.1 p.2)==appRd p.1 p.2
theorem wpAnyIn_app6 (htab:appTab ops=true) (I:Bool→Nat→Act→World→Prop)
  (hdone:∀ a w,I true 5 a w→Q .normal a w)
  (s0:∀ s a w,s≤3→I false s a w→wpOpIn F n P ops Q 0 (fun a' w'=>I true s a' w') a w)
  (s1:∀ b a w,I b 0 a w→wpOpIn F n P ops Q 1 (fun a' w'=>I b 1 a' w') a w)
  (s2:∀ b a w,I b 1 a w→wpOpIn F n P ops Q 2 (fun a' w'=>I b 2 a' w') a w)
  (s3:∀ b a w,I b 2 a w→wpOpIn F n P ops Q 3 (fun a' w'=>I b 3 a' w') a w)
  (s4:∀ a w,I true 3 a w→wpOpIn F n P ops Q 4 (fun a' w'=>I true 4 a' w') a w)
  (s5:∀ a w,I true 4 a w→wpOpIn F n P ops Q 5 (fun a' w'=>I true 5 a' w') a w)
  {a:Act} {w:World} (hi:I false 0 a w):wpAnyIn F n P .any ops Q 6 (zzB 6 0) a w:=by
 have htab' : ∀ p∈appAll,Region.ready .any ops (appSt p.1 p.2)=appRd p.1 p.2:=fun p hp=>eq_of_beq (List.all_eq_true.mp htab p hp);refine wpAnyIn_inv' (fun l a w=>∃ p∈appAll,l=appSt p.1 p.2∧I p.1 p.2 a w) (fun l=>l.toList.count false) ?_ ?_ ?_ _ _ _ _ ⟨(false,0),by decide,rfl,hi⟩ (by decide)
 ·
  rintro listed a w ⟨p,hp,rfl,hI⟩;rw [htab' p hp];simp only [appAll,List.mem_cons,List.not_mem_nil,or_false] at hp;have put:∀ {i:Nat} {b:Bool} {s:Nat} {b' : Bool} {s' : Nat},(b',s')∈appAll→(appSt b s).setIfInBounds i true=appSt b' s'→wpOpIn F n P ops Q i (fun a' w'=>I b' s' a' w') a w→wpOpIn F n P ops Q i (fun a' w'=>∃ p∈appAll,(appSt b s).setIfInBounds i true=appSt p.1 p.2∧I p.1 p.2 a' w') a w:=
   fun h1 h2 h3=>wpOpIn_mono (fun a' w' h=>⟨_,h1,h2,h⟩) h3
  rcases hp with rfl|rfl|rfl|rfl|rfl|rfl|rfl|rfl|rfl|rfl
  ·
   refine ⟨fun e=>by simp [appRd] at e,fun i hi=>?_⟩;simp [appRd] at hi;rcases hi with rfl|rfl
   ·
    exact put (by decide) rfl (s0 _ _ _ (by decide) hI)
   ·
    exact put (by decide) rfl (s1 _ _ _ hI)
  ·
   refine ⟨fun e=>by simp [appRd] at e,fun i hi=>?_⟩;simp [appRd] at hi;rcases hi with rfl|rfl
   ·
    exact put (by decide) rfl (s0 _ _ _ (by decide) hI)
   ·
    exact put (by decide) rfl (s2 _ _ _ hI)
  ·
   refine ⟨fun e=>by simp [appRd] at e,fun i hi=>?_⟩;simp [appRd] at hi;rcases hi with rfl|rfl
   ·
    exact put (by decide) rfl (s0 _ _ _ (by decide) hI)
   ·
    exact put (by decide) rfl (s3 _ _ _ hI)
  ·
   refine ⟨fun e=>by simp [appRd] at e,fun i hi=>?_⟩;simp [appRd] at hi;rcases hi with rfl;exact put (by decide) rfl (s0 _ _ _ (by decide) hI)
  ·
   refine ⟨fun e=>by simp [appRd] at e,fun i hi=>?_⟩;simp [appRd] at hi;rcases hi with rfl;exact put (by decide) rfl (s1 _ _ _ hI)
  ·
   refine ⟨fun e=>by simp [appRd] at e,fun i hi=>?_⟩;simp [appRd] at hi;rcases hi with rfl;exact put (by decide) rfl (s2 _ _ _ hI)
  ·
   refine ⟨fun e=>by simp [appRd] at e,fun i hi=>?_⟩;simp [appRd] at hi;rcases hi with rfl;exact put (by decide) rfl (s3 _ _ _ hI)
  ·
   refine ⟨fun e=>by simp [appRd] at e,fun i hi=>?_⟩;simp [appRd] at hi;rcases hi with rfl;exact put (by decide) rfl (s4 _ _ hI)
  ·
   refine ⟨fun e=>by simp [appRd] at e,fun i hi=>?_⟩;simp [appRd] at hi;rcases hi with rfl;exact put (by decide) rfl (s5 _ _ hI)
  ·
   exact ⟨fun _=>hdone _ _ hI,fun i hi=>by simp [appRd] at hi⟩
 ·
  rintro listed a w ⟨p,hp,rfl,hI⟩ h0;rw [htab' p hp];simp only [appAll,List.mem_cons,List.not_mem_nil,or_false] at hp;rcases hp with rfl|rfl|rfl|rfl|rfl|rfl|rfl|rfl|rfl|rfl <;> first|rfl|exact absurd h0 (by decide)
 ·
  rintro listed i a w ⟨p,hp,rfl,hI⟩ hi;rw [htab' p hp] at hi;simp only [appAll,List.mem_cons,List.not_mem_nil,or_false] at hp;rcases hp with rfl|rfl|rfl|rfl|rfl|rfl|rfl|rfl|rfl|rfl <;> (simp [appRd] at hi) <;> first|(rcases hi with rfl|rfl <;> decide)|(subst hi;decide)
section
variable {o:Oper} {a:Act} {W:World} {K:Act→World→Prop} {α:Type}
theorem S_append_in (d:Kd α) (base:Nat) (s x:Operand) (t e:TypeId) (z:Value) (bytes:Nat)
  (ho:o.op = .call { callee:=.builtin .append,args:=#[s,x],argTypes:=#[t,t] })
  (ht:P.underlying t=some (.slice e)) (hinfo:(P.info? e).map (fun i=>(i.zero,i.size,i.bytes))=some (some z,d.sz,bytes)) (hz:z.cells.size=d.sz) (a0 : 0 < d.sz) (hb0 : 0 < bytes)
  (v:Value) (xs:List α) (p : α) (cs:List Value) (ok okp:Nat→Prop) (hs:a.eval s=v) (ad:Addr) (c:Nat) (hx:a.eval x = .slice (some ad) 1 c) (hcs:∀ j u,cs[j]? = some u→W.cell? (ad.add j)=some u) (hp:d.M W base okp p cs) (hokp:∀ k,okp k→ok k∧some k≠v.ownBlock) (hfresh:∀ k,W.heap.size≤k→ok k)
  (HO:Kd.S d e W base (fun k=>ok k∧¬ okp k) v xs) (hbase:base≤W.heap.size) (hl:(xs.length+1) * bytes≤140737488355328)
  (h:∀ v1 w1,Kd.S d e w1 base ok v1 (xs ++ [p])→W.grownBy w1 v.ownBlock→(v1.ownBlock=v.ownBlock∨∃ b,v1.ownBlock=some b∧W.heap.size≤b)→K (a.put o.dst v1) w1) :
  Oper.wpIn F n P o a W K Q:=by
 obtain ⟨f,hf,hR⟩:=Kd.S_tag HO xs.length okp (fun _ hk h2=>h2.2 hk);obtain ⟨h0,inner,hown,hr⟩:=Kd.R_mono hR (fun _ hk=>hk.1);obtain ⟨i0,hi,hzz⟩:=Option.map_eq_some_iff.1 hinfo;simp only [Prod.mk.injEq] at hzz;obtain ⟨hz0,hz1,hz2⟩:=hzz;have hlen:xs.length+1≤140737488355328:=Nat.le_trans (Nat.le_mul_of_pos_right _ hb0) hl;have hM:(Kd.tag f d).M W base okp (p,xs.length) cs:=d.M_mono (fun k hk=>⟨hk,hf k hk⟩) hp;obtain ⟨v1,w1,hrun,hown1,hg,_,hat⟩:=run_append_own_at (P:=P) W base t o.type e i0 z d.sz bytes ht hi hz0 hz1 hz2 hz a0 v xs.zipIdx.length inner hown ad 1 c cs (by rw [d.K_len (d.K_of_M hp),Nat.one_mul]) hcs (d.K_one (d.K_of_M hp)) (by rw [List.length_zipIdx];simp only [maxLen];omega) (by rw [List.length_zipIdx];exact hl) hbase;have hat' : v1.ownBlock=v.ownBlock∨∃ b,v1.ownBlock=some b∧W.heap.size≤b:=hat.imp id (fun h=>⟨_,h,Nat.le_refl _⟩);have hS:Kd.S d e w1 base ok v1 (xs ++ [p]):=⟨f,by rw [Kd.zip_snoc];exact Kd.R_appended h0 hr hM hokp hfresh hown1 hg hat'⟩;unfold Oper.wpIn;refine ⟨by simp [Oper.about,ho,resolve,Target.leads,Sem.run_pure],?_⟩;rw [Oper.semAt_plain F _ _ (by rw [ho];intro c hc';cases hc')];simp only [ho,execOp,resolve,invoke,builtin,Sem.run_bind,Sem.run_pure,Result.andThen_ok,map_toArray,map_cons,map_nil,hs,hx,hrun];exact h v1 w1 hS hg hat'
end
end
section
open Go.Shelf
variable {F:Fence} {n:Nat} {P:Program} {ops:Array Oper} {Q:Exit→Act→World→Prop}
theorem wpAnyIn_inv3 {md:Region.Mode} (Inv:Array Bool→Act→World→Prop) (todo:Array Bool→Nat)
  (h:∀ listed a w,Inv listed a w→(Region.ready md ops listed = []→Q .normal a w)∧∀ i∈Region.ready md ops listed,wpOpIn F n P ops Q i (fun a' w'=>Inv (listed.setIfInBounds i true) a' w') a w)
  (h0:∀ listed a w,Inv listed a w→todo listed=0→Region.ready md ops listed = [])
  (hdec:∀ listed i a w,Inv listed a w→i∈Region.ready md ops listed→todo (listed.setIfInBounds i true) < todo listed) :
  ∀ (fuel:Nat) (listed:Array Bool) (a:Act) (w:World),Inv listed a w→todo listed≤fuel→wpAnyIn F n P md ops Q fuel listed a w
 | 0,listed,a,w,hi,ht=>by
  have hr:=h0 listed a w hi (by omega)
  exact ⟨hr,(h listed a w hi).1 hr⟩
 | fuel+1,listed,a,w,hi,ht=>by
  refine ⟨(h listed a w hi).1,fun i hm=>?_⟩
  have hd:=hdec listed i a w hi hm
  refine wpOpIn_mono ?_ ((h listed a w hi).2 i hm)
  intro a' w' hi'
  exact wpAnyIn_inv3 Inv todo h h0 hdec fuel _ a' w' hi' (by omega)
def stTab {σ:Type} [DecidableEq σ] (ops:Array Oper) (all:List σ) (st : σ→Array Bool) (go : σ→List (Nat×σ)):Bool:=
 all.all fun s=>(Region.ready .any ops (st s)==(go s).map (·.1))&&((go s).all fun p=>decide (p.2∈all)&&(((st s).setIfInBounds p.1 true==st p.2)&&decide ((st p.2).toList.count false < (st s).toList.count false)))&&(decide ((st s).toList.count false≠0)||(go s).isEmpty)
theorem wpAnyIn_states {σ:Type} [DecidableEq σ] (all:List σ) (st : σ→Array Bool) (go : σ→List (Nat×σ)) (htab:stTab ops all st go=true) (I : σ→Act→World→Prop)
  (hdone:∀ s∈all,go s = []→∀ a w,I s a w→Q .normal a w)
  (hstep:∀ s∈all,∀ p∈go s,∀ a w,I s a w→wpOpIn F n P ops Q p.1 (fun a' w'=>I p.2 a' w') a w)
  (s0 : σ) (hs0:s0∈all) (fuel:Nat) (hf:(st s0).toList.count false≤fuel) {a:Act} {w:World} (hi:I s0 a w):wpAnyIn F n P .any ops Q fuel (st s0) a w:=by
 have tab:∀ s∈all,Region.ready .any ops (st s)=(go s).map (·.1)∧(∀ p∈go s,p.2∈all∧(st s).setIfInBounds p.1 true=st p.2∧(st p.2).toList.count false < (st s).toList.count false)∧((st s).toList.count false=0→go s = []):=by
  intro s hs;have h:=List.all_eq_true.mp htab s hs;simp only [Bool.and_eq_true,Bool.or_eq_true,decide_eq_true_eq] at h;obtain ⟨⟨h1,h2⟩,h3⟩:=h;refine ⟨eq_of_beq h1,fun p hp=>?_,fun h0=>?_⟩
  ·
   have:=List.all_eq_true.mp h2 p hp;simp only [Bool.and_eq_true,decide_eq_true_eq] at this;exact ⟨this.1,eq_of_beq this.2.1,this.2.2⟩
  ·
   rcases h3 with h3|h3
   ·
    exact absurd h0 h3
   ·
    simpa using h3
 refine wpAnyIn_inv3 (fun l a w=>∃ s∈all,l=st s∧I s a w) (fun l=>l.toList.count false) ?_ ?_ ?_ _ _ _ _ ⟨s0,hs0,rfl,hi⟩ hf
 ·
  rintro listed a w ⟨s,hs,rfl,hI⟩;obtain ⟨t1,t2,t3⟩:=tab s hs;rw [t1];refine ⟨fun e=>hdone s hs (by simpa using e) a w hI,fun i hm=>?_⟩;obtain ⟨p,hp,rfl⟩:=List.mem_map.1 hm;obtain ⟨p1,p2,p3⟩:=t2 p hp;exact wpOpIn_mono (fun a' w' h=>⟨p.2,p1,p2,h⟩) (hstep s hs p hp a w hI)
 ·
  rintro listed a w ⟨s,hs,rfl,hI⟩ h0;obtain ⟨t1,t2,t3⟩:=tab s hs;rw [t1,t3 h0];rfl
 ·
  rintro listed i a w ⟨s,hs,rfl,hI⟩ hm;obtain ⟨t1,t2,t3⟩:=tab s hs;rw [t1] at hm;obtain ⟨p,hp,rfl⟩:=List.mem_map.1 hm;obtain ⟨p1,p2,p3⟩:=t2 p hp;rw [p2];exact p3
abbrev St3:=Option (Nat×Nat×Nat)
def st132:St3→Array Bool
 | none=>(zzB 7 127)
 | some (a,b,c)=>#[decide (1≤a),decide (1≤b),decide (2≤b),decide (3≤b),decide (1≤c),decide (2≤c),false]
def go132:St3→List (Nat×St3)
 | none=>[]
 | some (a,b,c)=>(if a=0 then [(0,some (1,b,c))] else [])++((if b=0 then [(1,some (a,1,c))] else if b=1 then [(2,some (a,2,c))] else if b=2 then [(3,some (a,3,c))] else [])++((if c=0 then [(4,some (a,b,1))] else if c=1 then [(5,some (a,b,2))] else [])++(if a=1∧b=3∧c=2 then [(6,none)] else [])))
def all132:List St3:=none::(List.range 2).flatMap fun a=>(List.range 4).flatMap fun b=>(List.range 3).map fun c=>some (a,b,c)
theorem wpAnyIn_132 (htab:stTab ops all132 st132 go132=true) (I:Nat→Nat→Nat→Act→World→Prop) (J:Act→World→Prop)
  (hdone:∀ a w,J a w→Q .normal a w)
  (s0:∀ y z a w,I 0 y z a w→wpOpIn F n P ops Q 0 (fun a' w'=>I 1 y z a' w') a w)
  (s1:∀ x z a w,I x 0 z a w→wpOpIn F n P ops Q 1 (fun a' w'=>I x 1 z a' w') a w)
  (s2:∀ x z a w,I x 1 z a w→wpOpIn F n P ops Q 2 (fun a' w'=>I x 2 z a' w') a w)
  (s3:∀ x z a w,I x 2 z a w→wpOpIn F n P ops Q 3 (fun a' w'=>I x 3 z a' w') a w)
  (s4:∀ x y a w,I x y 0 a w→wpOpIn F n P ops Q 4 (fun a' w'=>I x y 1 a' w') a w)
  (s5:∀ x y a w,I x y 1 a w→wpOpIn F n P ops Q 5 (fun a' w'=>I x y 2 a' w') a w)
  (s6:∀ a w,I 1 3 2 a w→wpOpIn F n P ops Q 6 (fun a' w'=>J a' w') a w)
  {a:Act} {w:World} (hi:I 0 0 0 a w):wpAnyIn F n P .any ops Q 7 (zzB 7 0) a w:=by
 refine wpAnyIn_states all132 st132 go132 htab (fun s a w=>match s with
  | none=>J a w
  | some (x,y,z)=>I x y z a w) ?_ ?_ (some (0,0,0)) (by decide) 7 (by decide) hi
 ·
  rintro s hs hg a w hI;cases s with
  | none=>exact hdone a w hI
  | some p=>
   obtain ⟨x,y,z⟩:=p;exfalso;simp only [go132,List.append_eq_nil_iff] at hg;obtain ⟨g1,g2,g3,g4⟩:=hg;simp only [all132,List.mem_cons,List.mem_flatMap,List.mem_map,List.mem_range,reduceCtorEq,false_or] at hs;obtain ⟨a',ha,b',hb,c',hc,e⟩:=hs;cases e;have h1:x=1:=by
    by_cases h:x=0
    ·
     rw [if_pos h] at g1;cases g1
    ·
     omega
   have h2:y=3:=by
    by_cases h:y=0
    ·
     rw [if_pos h] at g2;cases g2
    ·
     by_cases h' : y=1
     ·
      rw [if_neg h,if_pos h'] at g2;cases g2
     ·
      by_cases h'' : y=2
      ·
       rw [if_neg h,if_neg h',if_pos h''] at g2;cases g2
      ·
       omega
   have h3:z=2:=by
    by_cases h:z=0
    ·
     rw [if_pos h] at g3;cases g3
    ·
     by_cases h' : z=1
     ·
      rw [if_neg h,if_pos h'] at g3;cases g3
     ·
      omega
   rw [if_pos ⟨h1,h2,h3⟩] at g4;cases g4
 ·
  rintro s hs p hp a w hI;cases s with
  | none=>simp [go132] at hp
  | some q=>
   obtain ⟨x,y,z⟩:=q;simp only [go132,List.mem_append] at hp;rcases hp with hp|hp|hp|hp
   ·
    split at hp
    ·
     obtain rfl:=List.mem_singleton.1 hp;subst x;exact s0 y z a w hI
    ·
     cases hp
   ·
    split at hp
    ·
     obtain rfl:=List.mem_singleton.1 hp;subst y;exact s1 x z a w hI
    ·
     split at hp
     ·
      obtain rfl:=List.mem_singleton.1 hp;subst y;exact s2 x z a w hI
     ·
      split at hp
      ·
       obtain rfl:=List.mem_singleton.1 hp;subst y;exact s3 x z a w hI
      ·
       cases hp
   ·
    split at hp
    ·
     obtain rfl:=List.mem_singleton.1 hp;subst z;exact s4 x y a w hI
    ·
     split at hp
     ·
      obtain rfl:=List.mem_singleton.1 hp;subst z;exact s5 x y a w hI
     ·
      cases hp
   ·
    split at hp
    ·
     rename_i h;obtain ⟨rfl,rfl,rfl⟩:=h;obtain rfl:=List.mem_singleton.1 hp;exact s6 a w hI
    ·
     cases hp
abbrev St20:=Nat×Nat×Nat×Nat×Nat
def st20:St20→Array Bool
 | (0,x,_,_,_)=>#[decide (1≤x),decide (2≤x),false,false,false,false,false,false,false,false,false,false,false,false,false,false,false,false,false,false]
 | (1,x,y,z,d)=>#[true,true,true,decide (1≤x),decide (1≤y),decide (2≤y),decide (3≤y),decide (1≤d),decide (1≤z),decide (2≤z),false,false,false,false,false,false,false,false,false,false]
 | (_,x,_,_,_)=>#[true,true,true,true,true,true,true,true,true,true,decide (1≤x),decide (2≤x),decide (3≤x),decide (4≤x),decide (5≤x),decide (6≤x),decide (7≤x),decide (8≤x),decide (9≤x),decide (10≤x)]
def go20:St20→List (Nat×St20)
 | (0,x,_,_,_)=>if x=0 then [(0,(0,1,0,0,0))] else if x=1 then [(1,(0,2,0,0,0))] else [(2,(1,0,0,0,0))]
 | (1,x,y,z,d)=>(if x=0 then [(3,(1,1,y,z,d))] else [])++((if y=0 then [(4,(1,x,1,z,d))] else if y=1 then [(5,(1,x,2,z,d))] else if y=2 then [(6,(1,x,3,z,d))] else [])++((if x=1∧y=3∧d=0 then [(7,(1,x,y,z,1))] else [])++((if z=0 then [(8,(1,x,y,1,d))] else if z=1 then [(9,(1,x,y,2,d))] else [])++(if d=1∧z=2 then [(10,(2,1,0,0,0))] else []))))
 | (_,x,_,_,_)=>if x < 10 then [(10+x,(2,x+1,0,0,0))] else []
def all20:List St20:=(List.range 3).map (fun x=>(0,x,0,0,0))++(((List.range 2).flatMap fun x=>(List.range 4).flatMap fun y=>(List.range 3).map fun z=>(1,x,y,z,0))++((List.range 3).map (fun z=>(1,1,3,z,1))++(List.range 10).map (fun x=>(2,x+1,0,0,0))))
theorem wpAnyIn_20 (htab:stTab ops all20 st20 go20=true) (I0:Nat→Act→World→Prop) (I1:Nat→Nat→Nat→Nat→Act→World→Prop) (I2:Nat→Act→World→Prop)
  (hdone:∀ a w,I2 10 a w→Q .normal a w)
  (s0:∀ a w,I0 0 a w→wpOpIn F n P ops Q 0 (fun a' w'=>I0 1 a' w') a w)
  (s1:∀ a w,I0 1 a w→wpOpIn F n P ops Q 1 (fun a' w'=>I0 2 a' w') a w)
  (s2:∀ a w,I0 2 a w→wpOpIn F n P ops Q 2 (fun a' w'=>I1 0 0 0 0 a' w') a w)
  (s3:∀ y z d a w,I1 0 y z d a w→wpOpIn F n P ops Q 3 (fun a' w'=>I1 1 y z d a' w') a w)
  (s4:∀ x z d a w,I1 x 0 z d a w→wpOpIn F n P ops Q 4 (fun a' w'=>I1 x 1 z d a' w') a w)
  (s5:∀ x z d a w,I1 x 1 z d a w→wpOpIn F n P ops Q 5 (fun a' w'=>I1 x 2 z d a' w') a w)
  (s6:∀ x z d a w,I1 x 2 z d a w→wpOpIn F n P ops Q 6 (fun a' w'=>I1 x 3 z d a' w') a w)
  (s7:∀ z a w,I1 1 3 z 0 a w→wpOpIn F n P ops Q 7 (fun a' w'=>I1 1 3 z 1 a' w') a w)
  (s8:∀ x y d a w,I1 x y 0 d a w→wpOpIn F n P ops Q 8 (fun a' w'=>I1 x y 1 d a' w') a w)
  (s9:∀ x y d a w,I1 x y 1 d a w→wpOpIn F n P ops Q 9 (fun a' w'=>I1 x y 2 d a' w') a w)
  (s10:∀ a w,I1 1 3 2 1 a w→wpOpIn F n P ops Q 10 (fun a' w'=>I2 1 a' w') a w)
  (s11:∀ a w,I2 1 a w→wpOpIn F n P ops Q 11 (fun a' w'=>I2 2 a' w') a w)
  (s12:∀ a w,I2 2 a w→wpOpIn F n P ops Q 12 (fun a' w'=>I2 3 a' w') a w)
  (s13:∀ a w,I2 3 a w→wpOpIn F n P ops Q 13 (fun a' w'=>I2 4 a' w') a w)
  (s14:∀ a w,I2 4 a w→wpOpIn F n P ops Q 14 (fun a' w'=>I2 5 a' w') a w)
  (s15:∀ a w,I2 5 a w→wpOpIn F n P ops Q 15 (fun a' w'=>I2 6 a' w') a w)
  (s16:∀ a w,I2 6 a w→wpOpIn F n P ops Q 16 (fun a' w'=>I2 7 a' w') a w)
  (s17:∀ a w,I2 7 a w→wpOpIn F n P ops Q 17 (fun a' w'=>I2 8 a' w') a w)
  (s18:∀ a w,I2 8 a w→wpOpIn F n P ops Q 18 (fun a' w'=>I2 9 a' w') a w)
  (s19:∀ a w,I2 9 a w→wpOpIn F n P ops Q 19 (fun a' w'=>I2 10 a' w') a w)
  {a:Act} {w:World} (hi:I0 0 a w):wpAnyIn F n P .any ops Q 20 (zzB 20 0) a w:=by
 refine wpAnyIn_states all20 st20 go20 htab (fun s a w=>match s with
  | (0,x,_,_,_)=>I0 x a w
  | (1,x,y,z,d)=>I1 x y z d a w
  | (_,x,_,_,_)=>I2 x a w) ?_ ?_ (0,0,0,0,0) (by decide) 20 (by decide) hi
 ·
  have h20:∀ s∈all20,go20 s = []→s=(2,10,0,0,0):=by decide +kernel
  intro s hs hg a w hI;rw [h20 s hs hg] at hI;exact hdone a w hI
 ·
  rintro ⟨p0,x,y,z,d⟩ hs p hp a w hI;simp only [all20,List.mem_append,List.mem_map,List.mem_range,List.mem_flatMap,Prod.mk.injEq] at hs;rcases hs with ⟨x',hx',rfl,rfl,rfl,rfl,rfl⟩|⟨x',hx',y',hy',z',hz',rfl,rfl,rfl,rfl,rfl⟩|⟨z',hz',rfl,rfl,rfl,rfl,rfl⟩|⟨x',hx',rfl,rfl,rfl,rfl,rfl⟩
  ·
   simp only [go20] at hp;split at hp
   ·
    obtain rfl:=List.mem_singleton.1 hp;subst x';exact s0 a w hI
   ·
    split at hp
    ·
     obtain rfl:=List.mem_singleton.1 hp;subst x';exact s1 a w hI
    ·
     obtain rfl:=List.mem_singleton.1 hp;obtain rfl:x' = 2:=by omega
     exact s2 a w hI
  ·
   simp only [go20,List.mem_append] at hp;rcases hp with hp|hp|hp|hp|hp
   ·
    split at hp
    ·
     obtain rfl:=List.mem_singleton.1 hp;subst x';exact s3 y' z' 0 a w hI
    ·
     cases hp
   ·
    split at hp
    ·
     obtain rfl:=List.mem_singleton.1 hp;subst y';exact s4 x' z' 0 a w hI
    ·
     split at hp
     ·
      obtain rfl:=List.mem_singleton.1 hp;subst y';exact s5 x' z' 0 a w hI
     ·
      split at hp
      ·
       obtain rfl:=List.mem_singleton.1 hp;subst y';exact s6 x' z' 0 a w hI
      ·
       cases hp
   ·
    split at hp
    ·
     rename_i h;obtain ⟨rfl,rfl,-⟩:=h;obtain rfl:=List.mem_singleton.1 hp;exact s7 z' a w hI
    ·
     cases hp
   ·
    split at hp
    ·
     obtain rfl:=List.mem_singleton.1 hp;subst z';exact s8 x' y' 0 a w hI
    ·
     split at hp
     ·
      obtain rfl:=List.mem_singleton.1 hp;subst z';exact s9 x' y' 0 a w hI
     ·
      cases hp
   ·
    rw [if_neg (by omega)] at hp;cases hp
  ·
   simp only [go20,List.mem_append] at hp;rcases hp with hp|hp|hp|hp|hp
   ·
    rw [if_neg (by omega)] at hp;cases hp
   ·
    rw [if_neg (by omega),if_neg (by omega),if_neg (by omega)] at hp;cases hp
   ·
    rw [if_neg (by omega)] at hp;cases hp
   ·
    split at hp
    ·
     obtain rfl:=List.mem_singleton.1 hp;subst z';exact s8 1 3 1 a w hI
    ·
     split at hp
     ·
      obtain rfl:=List.mem_singleton.1 hp;subst z';exact s9 1 3 1 a w hI
     ·
      cases hp
   ·
    split at hp
    ·
     rename_i h;obtain ⟨-,rfl⟩:=h;obtain rfl:=List.mem_singleton.1 hp;exact s10 a w hI
    ·
     cases hp
  ·
   simp only [go20] at hp;split at hp
   ·
    rename_i h;obtain rfl:=List.mem_singleton.1 hp;match x',h,hI with
    | 0,h,hI=>exact s11 a w hI
    | 1,h,hI=>exact s12 a w hI
    | 2,h,hI=>exact s13 a w hI
    | 3,h,hI=>exact s14 a w hI
    | 4,h,hI=>exact s15 a w hI
    | 5,h,hI=>exact s16 a w hI
    | 6,h,hI=>exact s17 a w hI
    | 7,h,hI=>exact s18 a w hI
    | 8,h,hI=>exact s19 a w hI
    | x' + 9,h,hI=>exact absurd h (by omega)
   ·
    cases hp
end
section
open Go.Shelf
attribute [local go_sem] Oper.semAt_some
def okLog (l:List S34):Bool:=decide ((pts l).length≤1000000)&&l.all fun b=>b.f5.all fun r=>(decide (0≤r.f0∧r.f0≤99999)&&decide (r.f3.length≤1000))&&(decide (r.f5.length≤1000)&&(!r.f2||keyOk r.f3))
def rcOf (l:List S34) (x:Nat×Nat):S30:=Qb (Qa l (x.1:Int)).f5 (x.2:Int)
def mkOf (l:List S34) (x:Nat×Nat):Bool:=(Qa l (x.1:Int)).f1
theorem okLog_len {l:List S34} (h:okLog l=true):(pts l).length≤1000000:=by
 unfold okLog at h;rw [Bool.and_eq_true,decide_eq_true_eq] at h;exact h.1
theorem okLog_at {l:List S34} (h:okLog l=true) (x:Nat×Nat):(0≤(rcOf l x).f0∧(rcOf l x).f0≤99999)∧(rcOf l x).f3.length≤1000∧(rcOf l x).f5.length≤1000∧((rcOf l x).f2=true→keyOk (rcOf l x).f3=true):=by
 obtain ⟨i,j⟩:=x;unfold rcOf;dsimp only;by_cases hi:i < l.length
 ·
  by_cases hj:j < (Qa l i).f5.length
  ·
   have h1:Qa l i=l[i]:=by unfold Qa;rw [Int.toNat_natCast,List.getD_eq_getElem?_getD,List.getElem?_eq_getElem hi];rfl
   have h2:Qb (Qa l i).f5 j=(Qa l i).f5[j]:=by unfold Qb;rw [Int.toNat_natCast,List.getD_eq_getElem?_getD,List.getElem?_eq_getElem hj];rfl
   unfold okLog at h;rw [Bool.and_eq_true] at h;have h3:=List.all_eq_true.1 (List.all_eq_true.1 h.2 (Qa l i) (by rw [h1];exact List.getElem_mem hi)) _ (List.getElem_mem hj);rw [h2];simp only [Bool.and_eq_true,decide_eq_true_eq,Bool.or_eq_true,Bool.not_eq_true'] at h3;refine ⟨h3.1.1,h3.1.2,h3.2.1,fun h4=>?_⟩;rcases h3.2.2 with h5|h5
   ·
    rw [h4] at h5;cases h5
   ·
    exact h5
  ·
   rw [rd_none_R hj];exact ⟨by decide,by decide,by decide,by decide⟩
 ·
  rw [rd_none_B hi,rd_none_R (by simp [z34])];exact ⟨by decide,by decide,by decide,by decide⟩
def lastStep (l:List S34) (D:DataW Unit) (x:Nat×Nat):DataW Unit:=if (!mkOf l x&&(rcOf l x).f2)=true then D.put (.string (hexOf (rcOf l x).f3)) (.lit (.int .i64 (rcOf l x).f0)) else D
def lastD (l:List S34) (pre:List (Nat×Nat)):DataW Unit:=pre.foldl (lastStep l) (.map [])
def offStep (l:List S34) (kk:List UInt8) (a:Int) (x:Nat×Nat):Int:=if (!mkOf l x&&((rcOf l x).f2&&decide (hexOf (rcOf l x).f3=kk)))=true then (rcOf l x).f0 else a
def lastOff (l:List S34) (pre:List (Nat×Nat)) (kk:List UInt8):Int:=pre.foldl (offStep l kk) 0
theorem last_fold (l:List S34):∀ (xs:List (Nat×Nat)) (D:DataW Unit) (a:List UInt8→Int),Maps.IsMap D→(∀ kk,D.atKey (.string kk) (.lit (.int .i64 0)) = .lit (.int .i64 (a kk))) →
  ∀ kk,(xs.foldl (lastStep l) D).atKey (.string kk) (.lit (.int .i64 0)) = .lit (.int .i64 (xs.foldl (offStep l kk) (a kk)))
 | [],D,a,hm,h,kk=>h kk
 | x::xs,D,a,hm,h,kk=>by
  rw [List.foldl_cons,List.foldl_cons]
  refine last_fold l xs (lastStep l D x) (fun kk=>offStep l kk (a kk) x) ?_ ?_ kk
  ·
   unfold lastStep
   split
   ·
    exact Maps.IsMap.put hm _ _
   ·
    exact hm
  ·
   intro kk
   unfold lastStep offStep
   by_cases h1:(!mkOf l x&&(rcOf l x).f2)=true
   ·
    rw [if_pos h1]
    rw [Bool.and_eq_true] at h1
    by_cases h2:hexOf (rcOf l x).f3=kk
    ·
     rw [if_pos (by simp [h1.2,h2];simpa using h1.1),← h2]
     exact Maps.atKey_put_same hm (by exact True.intro) _ _
    ·
     rw [if_neg (by simp [h2]),Maps.atKey_put_other (fun e=>h2 (by cases e;rfl))]
     exact h kk
   ·
    rw [if_neg h1,if_neg (fun h3=>h1 (by simp only [Bool.and_eq_true] at h3 ⊢;exact ⟨h3.1,h3.2.1⟩))]
    exact h kk
theorem lastD_at (l:List S34) (pre:List (Nat×Nat)) (kk:List UInt8):(lastD l pre).atKey (.string kk) (.lit (.int .i64 0)) = .lit (.int .i64 (lastOff l pre kk)):=
 last_fold l pre (.map []) (fun _=>0) Maps.isMap_empty (fun kk=>rfl) kk
theorem lastD_snoc (l:List S34) (pre:List (Nat×Nat)) (x:Nat×Nat):lastD l (pre ++ [x])=lastStep l (lastD l pre) x:=by simp [lastD]
theorem allBytes_from (l:List Int) (h:∀ m:Nat,m < l.length→0≤rd l (m:Int)∧rd l (m:Int)≤255) (hl:l.length≤1000):∀ (d i:Nat),l.length - i=d→i≤l.length→Qr.l0 (d+1) l (l.length:Int) (i:Int)=some true
 | 0,i,hd,hi=>by
  simp only [Qr.l0]
  rw [if_neg (by omega)]
 | d+1,i,hd,hi=>by
  have:=h i (by omega)
  have e1:wrap64 ((i:Int)+1)=((i+1:Nat):Int):=by unfold wrap64;omega
  have e2:Ru.f (rd l (i:Int))=some true:=by unfold Ru.f;rw [if_pos (by omega)];simp [this.2]
  have ih:=allBytes_from l h hl d (i+1) (by omega) (by omega)
  unfold Qr.l0
  rw [if_pos (by omega),if_pos (by omega),e2,Option.bind_some,if_pos rfl,e1,if_pos (by omega)]
  exact ih
theorem allBytes_true {l:List Int} (h:keyOk l=true):Qr.f (l.length+1) l=some true:=by
 unfold Qr.f;exact allBytes_from l (keyOk_at h) (keyOk_len h) l.length 0 (by omega) (by omega)
theorem bytesText_f {l:List Int} (h:keyOk l=true):Rs.f (l.length+1) l=some ⟨(hexOf l).toArray⟩:=by
 unfold Rs.f;rw [allBytes_true h];simp only [Option.bind_some,if_true,h]
theorem ownsMap_below {W W' : World} {b n:Nat} {D:DataW Unit} {P:Program} {k:TypeId} {R:Value→Option (DataW Unit×List MemPlace)} (h:W.ownsMap P k R b n D) (hb:Below W.heap.size W W'):W'.ownsMap P k R b n D:=by
 obtain ⟨es,clock,h1,F,hs,hD⟩:=h;exact ⟨es,clock,(hb.block _ (Array.getElem?_eq_some_iff.1 h1).1).trans h1,F,hs,hD⟩
theorem Boxed.of_below {W W' : World} {B:Nat} {t:TypeId} {v:Value} (h:Boxed W B t v) (hb:Below W.heap.size W W'):Boxed W' B t v:=(hb.block _ (Array.getElem?_eq_some_iff.1 h).1).trans h
theorem KeepsFrom.of_below {B:Nat} {W W' : World} (h:Below W.heap.size W W'):KeepsFrom B W W':=⟨h.size,fun i o hB hi ho=>(h.block i (Array.getElem?_eq_some_iff.1 hi).1).trans hi⟩
theorem S_mapUpdate_in {F:Fence} {n:Nat} {P:Program} {W:World} {o:Oper} {a:Act} {K:Act→World→Prop} {Q:Exit→Act→World→Prop} (m x v:Operand) (t:TypeId) (hop:o.op=Op.mapUpdate t m x v)
  (k e:TypeId) (KD:Maps.Keyed P k) (ht:P.underlying t=some (.map k e)) (R:Value→Option (DataW Unit×List MemPlace)) (b nn:Nat) (D:DataW Unit)
  (hm:a.eval m = .map (some b)) (hown:W.ownsMap P k R b nn D) (hn:nn < maxLen) (key val:Value) (kl:Lit) (hx:a.eval x=key) (hv:a.eval v=val) (hkey:keyOf P k key=some kl)
  (d:DataW Unit) (ps:List MemPlace) (hval:R val=some (d,ps))
  (h:∀ w',w'.ownsMap P k R b (nn+1) (D.put kl d)→W.grownBy w' (some b)→K (a.put o.dst undef) w'):Oper.wpIn F n P o a W K Q:=by
 obtain ⟨w',hrun,r1,r2⟩:=hown.update KD ht hn hkey hval;unfold Oper.wpIn;refine ⟨by simp [Oper.about,hop],?_⟩;rw [Oper.semAt_plain F _ _ (by rw [hop];intro c hc';cases hc')];simp [execOp,hop,hm,hx,hv,hrun,Result.andThen];exact h w' r1 r2
set_option maxHeartbeats 4000000 in
theorem stayer_calls (A0:Option Addr) (c0:Nat) (l0:List (S34)) (gone:Bool) (w:World) (a0:Kd.C k34 w A0 l0.length l0) (a1:l0.length≤c0) (hok:okLog l0=true) :
  Calls Try.prog 40 #[.slice A0 l0.length c0,.bool gone] w fun e w'=>∃ Bm Bg bm,e = .returned (.func (.func 69) #[] #[.pointer (some ⟨Bm,0,none⟩),.pointer (some ⟨Bg,0,none⟩)])∧w.heap.size≤Bm∧w.heap.size≤Bg∧w.heap.size≤bm∧Boxed w' Bm 80 (.map (some bm))∧Boxed w' Bg 4 (.bool gone)∧w'.ownsMap Try.prog 9 (plainElem Try.prog 3) bm (pts l0).length (lastD l0 (pts l0))∧Below w.heap.size w w':=by
 have hm0:l0.length≤9223372036854775807:=a0.2.1;obtain ⟨AB,CB,AK,CK,AV,CV,hP⟩:=places_of a0;have HP:=zzm hP;have a4:=zzm a0;have a5:=zzm a1;have HOK:=zzm hok;clear a0 a1 hP hok;refine callsIn_wide (n:=8).1 ?_;have hro:(Fence.wide).round=none:=rfl;refine callsIn_of_wp_marks Try.func40 rfl trivial ?_ hro;simp only [Try.ntmps40,List.size_toArray,List.length_cons,List.length_nil,Nat.reduceAdd,Nat.reduceSub,Array.replicate_succ,Array.replicate_zero,List.push_toArray,List.append_toArray,List.nil_append,List.cons_append];have hmm:=@run_makeMap Try.prog;gi_wp2_with (refine ⟨trivial,?_⟩;gi_at_call 41;refine (recs_in Fence.wide 7 trivial hro A0 _ _ _).mono ?_;rintro e w3 ⟨rfl,rfl⟩;dsimp only);obtain ⟨W0,hW0⟩:∃ W0,W0=((((w.alloc (.cells #[.bool gone] 4)).alloc (.map #[] 0)).alloc (.cells #[.map (some (w.heap.size+1))] 80)).alloc (.cells #[.slice A0 l0.length c0] 23)):=⟨_,rfl⟩;obtain ⟨Bs,hBs⟩:∃ Bs,Bs=(((w.alloc (.cells #[.bool gone] 4)).alloc (.map #[] 0)).alloc (.cells #[.map (some (w.heap.size+1))] 80)).heap.size:=⟨_,rfl⟩;have hB0:Below w.heap.size w W0:=by rw [hW0];exact ((((Below.refl _ w).alloc (Nat.le_refl _) _).alloc (by simp) _).alloc (by simp;omega) _).alloc (by simp;omega) _
 have hsz0:W0.heap.size=w.heap.size+4:=by rw [hW0];simp
 have hb1:Boxed W0 w.heap.size 4 (.bool gone):=by rw [hW0];exact (((Boxed.new w 4 _).alloc _).alloc _).alloc _
 have hb2:Boxed W0 (w.heap.size+1+1) 80 (.map (some (w.heap.size+1))):=by
  have:=(Boxed.new ((w.alloc (.cells #[.bool gone] 4)).alloc (.map #[] 0)) 80 (.map (some (w.heap.size+1)))).alloc (.cells #[.slice A0 l0.length c0] 23);simp only [World.size_alloc] at this;rw [hW0];exact this
 have hsb:Boxed W0 Bs 23 (.slice A0 l0.length c0):=by rw [hW0,hBs];exact Boxed.new _ _ _
 have hown0:W0.ownsMap Try.prog 9 (plainElem (H:=Unit) Try.prog 3) (w.heap.size+1) 0 (.map []):=by
  have:=((World.ownsMap_made (w.alloc (.cells #[.bool gone] 4)) Try.prog 9 (plainElem (H:=Unit) Try.prog 3)).alloc (.cells #[.map (some (w.heap.size+1))] 80)).alloc (.cells #[.slice A0 l0.length c0] 23);simp only [World.size_alloc] at this;rw [hW0];exact this
 rw [← hW0,← hBs];clear hW0 hBs;refine wpIn_rangeFunc_ownH rfl (by omega) (gf:=70) (lb:=#[.pointer (some ⟨Bs,0,none⟩)]) rfl trivial (enters_of Try.func70 (by kernel_rfl) rfl)
  (recs_stops Fence.wide _ trivial rfl (by omega) Bs A0 c0 l0 w W0 HP.out hm0 hB0 hsb.cell) KpR.t (KpR.b hB0.size) (Below.refl _ _) (fun _=>rfl)
  (fun pre W=>W.ownsMap Try.prog 9 (plainElem Try.prog 3) (w.heap.size+1) pre.length (lastD l0 pre)∧Boxed W (w.heap.size+1+1) 80 (.map (some (w.heap.size+1)))∧Boxed W w.heap.size 4 (.bool gone)∧Below w.heap.size w W)
  (fun _ _ _=>False)
  (fun s X Y row hs hg hr=>by
   obtain ⟨e1,e2,e3,e4⟩:=hs;have hc:∀ r,row=some r→∃ o:Obj,X.heap[r]? = some o∧o.isCells=false:=fun r e=>(hr r e).2;exact ⟨e1.kept hg (fun e=>by have:=(hr _ e.symm).1;omega),boxed_own _ _ (fun _:Unit=>_) () X Y row e2 hg hc,boxed_own _ _ (fun _:Unit=>_) () X Y row e3 hg hc,ownFrom_below (Nat.le_refl _) hB0.size () X Y row e4 hg hr⟩)
  (fun _ _ _ _ _ hs _ _=>hs)
  ⟨hown0,hb2,hb1,hB0⟩
  (fun x a' W=>∃ Bx,W.heap[Bx]? = some (.cells #[.bool (Qa l0 (x.1:Int)).f0,.bool (Qa l0 (x.1:Int)).f1,.int .i64 (Qa l0 (x.1:Int)).f2,.int .i64 (Qa l0 (x.1:Int)).f3,.int .i64 (Qa l0 (x.1:Int)).f4,.slice (AB x.1) (Qa l0 (x.1:Int)).f5.length (CB x.1)] 34 (0,0))∧W.heap[Bx+1]? = some (.cells #[.int .i64 (rcOf l0 x).f0,.int .i64 (rcOf l0 x).f1,.bool (rcOf l0 x).f2,.slice (AK x.1 x.2) (rcOf l0 x).f3.length (CK x.1 x.2),.bool (rcOf l0 x).f4,.slice (AV x.1 x.2) (rcOf l0 x).f5.length (CV x.1 x.2)] 30 (0,0))∧a' = { tmps:=#[.slice A0 l0.length c0,.bool gone,undef,.pointer (some ⟨w.heap.size,0,none⟩),.nilFunc,.pointer (some ⟨w.heap.size+1+1,0,none⟩),.pointer (some ⟨Bx,0,none⟩),.pointer (some ⟨Bx+1,0,none⟩),.map (some (w.heap.size+1)),.slice A0 l0.length c0,.func (.func 70) #[] #[.pointer (some ⟨Bs,0,none⟩)],encB l0 AB CB x.1,encR l0 AK CK AV CV x.1 x.2,undef,undef,undef,undef,undef,undef,undef,undef,undef,undef,undef,undef,undef,undef],defers:=[] })
  (fun x a' _ X Y row hs hg hr=>by
   obtain ⟨Bx,e1,e2,e3⟩:=hs;have hne:∀ k cs t f,X.heap[k]? = some (.cells cs t f)→some k≠row:=fun k cs t f h e=>by obtain ⟨o,ho,hoc⟩:=(hr k e.symm).2;rw [h] at ho;cases ho;cases hoc
   exact ⟨Bx,(hg.block _ (Array.getElem?_eq_some_iff.1 e1).1 (hne _ _ _ _ e1)).trans e1,(hg.block _ (Array.getElem?_eq_some_iff.1 e2).1 (hne _ _ _ _ e2)).trans e2,e3⟩)
  ?assign ?body ?done ?stop
 case assign=>
  rintro l pre x W K ⟨e1,e2,e3,e4⟩ hK;unfold encB encR;gi_wp2;have a2:=World.alloc_heap_new W (.cells #[.bool (Qa l0 (x.1:Int)).f0,.bool (Qa l0 (x.1:Int)).f1,.int .i64 (Qa l0 (x.1:Int)).f2,.int .i64 (Qa l0 (x.1:Int)).f3,.int .i64 (Qa l0 (x.1:Int)).f4,.slice (AB x.1) (Qa l0 (x.1:Int)).f5.length (CB x.1)] 34);have a3:=World.alloc_heap_new (W.alloc (.cells #[.bool (Qa l0 (x.1:Int)).f0,.bool (Qa l0 (x.1:Int)).f1,.int .i64 (Qa l0 (x.1:Int)).f2,.int .i64 (Qa l0 (x.1:Int)).f3,.int .i64 (Qa l0 (x.1:Int)).f4,.slice (AB x.1) (Qa l0 (x.1:Int)).f5.length (CB x.1)] 34)) (.cells #[.int .i64 (rcOf l0 x).f0,.int .i64 (rcOf l0 x).f1,.bool (rcOf l0 x).f2,.slice (AK x.1 x.2) (rcOf l0 x).f3.length (CK x.1 x.2),.bool (rcOf l0 x).f4,.slice (AV x.1 x.2) (rcOf l0 x).f5.length (CV x.1 x.2)] 30);refine hK _ _ (((KeepsOthers.alloc _ _).trans (KeepsOthers.alloc _ _)).from _) ⟨((Below.refl _ W).alloc e4.size _).alloc (by simp;have:=e4.size;omega) _,(KeepT.alloc _ _).trans (KeepT.alloc _ _)⟩ ?_ ?_
  ·
   exact ⟨(e1.alloc _).alloc _,(e2.alloc _).alloc _,(e3.alloc _).alloc _,(e4.alloc e4.size _).alloc (by simp;have:=e4.size;omega) _⟩
  ·
   exact ⟨W.heap.size,(Below.heap_alloc _ _ _ (by simp)).trans a2,by have h:=a3;simp only [World.size_alloc] at h;exact h,rfl⟩
 case body=>
  rintro l pre x a' W hl ⟨lr,hlr⟩ ⟨e1,e2,e3,e4⟩ ⟨Bx,cB,cR,rfl⟩ hlt;have m1:W.cell? ⟨Bx,1,none⟩=some (.bool (mkOf l0 x)):=by simp [World.cell?,cB];rfl
  have r2:W.cell? ⟨Bx+1,2,none⟩=some (.bool (rcOf l0 x).f2):=by simp [World.cell?,cR]
  have hpl:(pre ++ [x]).length=pre.length+1:=by simp
  have same:(!mkOf l0 x&&(rcOf l0 x).f2)=false→lastD l0 (pre ++ [x])=lastD l0 pre:=fun h=>by rw [lastD_snoc];unfold lastStep;rw [h];rfl
  have stay:(!mkOf l0 x&&(rcOf l0 x).f2)=false→W.ownsMap Try.prog 9 (plainElem (H:=Unit) Try.prog 3) (w.heap.size+1) (pre ++ [x]).length (lastD l0 (pre ++ [x])):=fun h=>by rw [same h,hpl];exact e1.mono (Nat.le_succ _)
  cases hm:mkOf l0 x with
  | true=>
   rw [hm] at m1;have hst:=stay (by simp [hm]);clear same stay;gi_wp2;exact ⟨KeepsFrom.refl _ _,⟨Below.refl _ _,KeepT.refl _ _⟩,hst,e2,e3,e4⟩
  | false=>
   rw [hm] at m1;cases hf:(rcOf l0 x).f2 with
   | false=>
    rw [hf] at r2;have hst:=stay (by simp [hf]);clear same stay;gi_wp2;exact ⟨KeepsFrom.refl _ _,⟨Below.refl _ _,KeepT.refl _ _⟩,hst,e2,e3,e4⟩
   | true=>
    rw [hf] at r2;clear same stay;gi_wp2;have hkey:=(okLog_at HOK.out x).2.2.2 hf;have hoff:=(okLog_at HOK.out x).1;have hBT:=zzm (bytesText_f hkey);have hnx:lastD l0 (pre ++ [x])=(lastD l0 pre).put (.string (hexOf (rcOf l0 x).f3)) (.lit (.int .i64 (rcOf l0 x).f0)):=by rw [lastD_snoc];unfold lastStep;rw [hm,hf];rfl
    have hwf:(Lit.int .i64 (rcOf l0 x).f0).wf=true:=by simp [Lit.wf,IntKind.min,IntKind.max,IntKind.signed,IntKind.bits];omega
    have hplt:pre.length < 1000000:=by have:=okLog_len HOK.out;omega
    have cM:=e2.cell;have hmx:Try.prog.follows .mixedOrders=true:=by kernel_rfl
    obtain ⟨mk,hmk⟩:∃ mk:Value→Value→Value→Value→Value→Value→Act,mk=fun u0 u1 u2 u3 u4 u5=>{ tmps:=#[.slice A0 l0.length c0,.bool gone,undef,.pointer (some ⟨w.heap.size,0,none⟩),.nilFunc,.pointer (some ⟨w.heap.size+1+1,0,none⟩),.pointer (some ⟨Bx,0,none⟩),.pointer (some ⟨Bx+1,0,none⟩),.map (some (w.heap.size+1)),.slice A0 l0.length c0,.func (.func 70) #[] #[.pointer (some ⟨Bs,0,none⟩)],encB l0 AB CB x.1,encR l0 AK CK AV CV x.1 x.2,.pointer (some ⟨Bx,1,none⟩),.bool false,.bool true,.bool true,.pointer (some ⟨Bx+1,2,none⟩),.bool true,.bool true,u0,u1,u2,u3,u4,u5,undef],defers:=[] }:=⟨_,rfl⟩;refine wpIn_region_any hmx (wpAnyIn_132 (by kernel_rfl) (fun p q s a' W'=>∃ u0 u1 u2 u3 u4 u5,a' = mk u0 u1 u2 u3 u4 u5∧Below W.heap.size W W'∧(p=1→u0 = .map (some (w.heap.size+1)))∧(1≤q→u1 = .pointer (some ⟨Bx+1,3,none⟩))∧(2≤q→u2 = .slice (AK x.1 x.2) (rcOf l0 x).f3.length (CK x.1 x.2))∧(3≤q→u3 = .string ⟨(hexOf (rcOf l0 x).f3).toArray⟩)∧(1≤s→u4 = .pointer (some ⟨Bx+1,0,none⟩))∧(2≤s→u5 = .int .i64 (rcOf l0 x).f0))
     (fun a' W'=>(∃ u0 u1 u2 u3 u4 u5,a' = mk u0 u1 u2 u3 u4 u5)∧KeepsFrom W0.heap.size W W'∧KpR w.heap.size W W'∧W'.ownsMap Try.prog 9 (plainElem (H:=Unit) Try.prog 3) (w.heap.size+1) (pre ++ [x]).length (lastD l0 (pre ++ [x]))∧Boxed W' (w.heap.size+1+1) 80 (.map (some (w.heap.size+1)))∧Boxed W' w.heap.size 4 (.bool gone)∧Below w.heap.size w W')
     ?hdone ?s0 ?s1 ?s2 ?s3 ?s4 ?s5 ?s6 ⟨_,_,_,_,_,_,by rw [hmk],?hini,by simp,by simp,by simp,by simp,by simp,by simp⟩)
    case hini=>exact zzb (Below.refl _ W) 1
    case hdone=>
     rintro a' W' ⟨⟨u0,u1,u2,u3,u4,u5,rfl⟩,k1,k2,k3,k4,k5,k6⟩;rw [hmk];gi_wp2;exact ⟨k1,k2,k3,k4,k5,k6⟩
    case s0=>
     rintro q s a' W' ⟨u0,u1,u2,u3,u4,u5,rfl,hb,h0,h1,h2,h3,h4,h5⟩;rw [hmk];refine wpOpIn_step rfl (fun K hK=>?_);have HK:=zzm hK;have cMn:=(hb.cell (zzn W _ cM)).trans cM;clear hK;go_simp;exact HK.out _ _ ⟨_,u1,u2,u3,u4,u5,rfl,hb,fun _=>rfl,h1,h2,h3,h4,h5⟩
    case s1=>
     rintro p s a' W' ⟨u0,u1,u2,u3,u4,u5,rfl,hb,h0,h1,h2,h3,h4,h5⟩;rw [hmk];refine wpOpIn_step rfl (fun K hK=>?_);have HK:=zzm hK;clear hK;go_simp;exact HK.out _ _ ⟨u0,_,u2,u3,u4,u5,rfl,hb,h0,fun _=>rfl,by simp,by simp,h4,h5⟩
    case s2=>
     rintro p s a' W' ⟨u0,u1,u2,u3,u4,u5,rfl,hb,h0,h1,h2,h3,h4,h5⟩;obtain rfl:=h1 (by decide);rw [hmk];refine wpOpIn_step rfl (fun K hK=>?_);have HK:=zzm hK;have hcR:=(hb.block _ (Array.getElem?_eq_some_iff.1 cR).1).trans cR;have q3:W'.cell? ⟨Bx+1,3,none⟩=some (.slice (AK x.1 x.2) (rcOf l0 x).f3.length (CK x.1 x.2)):=by simp [World.cell?,hcR]
     clear hK hcR;go_simp;exact HK.out _ _ ⟨u0,_,_,u3,u4,u5,rfl,hb,h0,fun _=>rfl,fun _=>rfl,by simp,h4,h5⟩
    case s3=>
     rintro p s a' W' ⟨u0,u1,u2,u3,u4,u5,rfl,hb,h0,h1,h2,h3,h4,h5⟩;obtain rfl:=h1 (by decide);obtain rfl:=h2 (by decide);rw [hmk];refine wpOpIn_step rfl (fun K hK=>?_);have HK:=zzm hK;have hKy:=zzm (Kd.C_below (HP.out.key x.1 x.2).2 (e4.trans (hb.mono e4.size)));clear hK;go_simp;gi_wp2_with (refine ⟨trivial,?_⟩;gi_at_call 68;refine (CallsIn.inRound l (callsIn_wide.2 (Rs.calls _ _ _ _ _ _ hKy.out (HP.out.key x.1 x.2).1 hBT.out))).mono ?_;rintro e w7 ⟨rfl,hb7⟩;dsimp only);exact HK.out _ _ ⟨u0,_,_,_,u4,u5,rfl,zzp hb hb7,h0,fun _=>rfl,fun _=>rfl,fun _=>rfl,h4,h5⟩
    case s4=>
     rintro p q a' W' ⟨u0,u1,u2,u3,u4,u5,rfl,hb,h0,h1,h2,h3,h4,h5⟩;rw [hmk];refine wpOpIn_step rfl (fun K hK=>?_);have HK:=zzm hK;clear hK;go_simp;exact HK.out _ _ ⟨u0,u1,u2,u3,_,u5,rfl,hb,h0,h1,h2,h3,fun _=>rfl,by simp⟩
    case s5=>
     rintro p q a' W' ⟨u0,u1,u2,u3,u4,u5,rfl,hb,h0,h1,h2,h3,h4,h5⟩;obtain rfl:=h4 (by decide);rw [hmk];refine wpOpIn_step rfl (fun K hK=>?_);have HK:=zzm hK;have hcR:=(hb.block _ (Array.getElem?_eq_some_iff.1 cR).1).trans cR;have q0:W'.cell? ⟨Bx+1,0,none⟩=some (.int .i64 (rcOf l0 x).f0):=by simp [World.cell?,hcR]
     clear hK hcR;go_simp;exact HK.out _ _ ⟨u0,u1,u2,u3,_,_,rfl,hb,h0,h1,h2,h3,fun _=>rfl,fun _=>rfl⟩
    case s6=>
     rintro a' W' ⟨u0,u1,u2,u3,u4,u5,rfl,hb,h0,h1,h2,h3,h4,h5⟩;obtain rfl:=h0 rfl;obtain rfl:=h3 (by decide);obtain rfl:=h5 (by decide);rw [hmk];have howW:=ownsMap_below e1 hb;refine wpOpIn_step rfl (fun K hK=>?_);rw [if_pos (by rfl)];have hmax:maxLen=9223372036854775807:=rfl;have hkeyo:keyOf Try.prog 9 (.string ⟨(hexOf (rcOf l0 x).f3).toArray⟩)=some (.string (hexOf (rcOf l0 x).f3)):=by
      rw [Go.WideMaps.keyOf_string_mk Try.underlying9 (by have h7:=hexOf_len (rcOf l0 x).f3;have h8:=keyOk_len hkey;show (hexOf (rcOf l0 x).f3).toArray.size≤maxLen;rw [List.size_toArray];omega)]
     refine S_mapUpdate_in (.tmp 20) (.tmp 23) (.tmp 25) 80 rfl 9 3 (Maps.string_keyed Try.underlying9) Try.underlying80 (plainElem Try.prog 3) (w.heap.size+1) pre.length (lastD l0 pre) rfl howW (by omega) _ _ _ rfl rfl hkeyo (.lit (.int .i64 (rcOf l0 x).f0)) [] (plainElem_int Try.underlying3 hwf) ?_;intro w7 ho7 hg7;rw [← hnx] at ho7;have hszW:=zzn W _ cM;have hsz7:=hb.size;obtain ⟨es7,ck7,hmp7,_⟩:=howW;refine hK _ _ ⟨⟨_,_,_,_,_,_,rfl⟩,?_,⟨?_,?_⟩,?_,?_,?_,?_⟩
     ·
      exact (KeepsFrom.of_below hb).trans (KeepsFrom.of_grownBy hg7 (fun j e=>by cases e;omega))
     ·
      exact ((Below.refl _ W).trans (hb.mono e4.size)).grown hg7 (by have:=e4.size;omega) (fun j e=>by cases e;omega)
     ·
      exact (KeepT.of_below hb).trans (KeepT.of_grownBy hg7 (fun j e cs f h=>by cases e;rw [hmp7] at h;cases h))
     ·
      rw [hpl];exact ho7
     ·
      exact (Boxed.of_below e2 hb).kept hg7 (fun e=>by have:=Option.some.inj e;omega)
     ·
      exact (Boxed.of_below e3 hb).kept hg7 (fun e=>by have:=Option.some.inj e;omega)
     ·
      exact (e4.trans (hb.mono e4.size)).grown hg7 (by have:=e4.size;omega) (fun j e=>by cases e;omega)
 case done=>
  rintro D ys W hD rfl ⟨e1,e2,e3,e4⟩ hK;gi_wp2;refine ⟨by simp,.inl ⟨_,_,rfl,run_takeDeferred hK,?_⟩⟩;have hg:=grownBy_putObj' W D (.deferred none);have hne:∀ k cs t f,W.heap[k]? = some (.cells cs t f)→some k≠some D:=fun k cs t f h e=>by cases e;rw [hK] at h;cases h
  refine ⟨_,results_tmp rfl _ _ _,w.heap.size+1+1,w.heap.size,w.heap.size+1,rfl,by omega,by omega,by omega,e2.kept hg (hne _ _ _ _ e2),e3.kept hg (hne _ _ _ _ e3),e1.kept hg (fun e=>by cases e;obtain ⟨_,_,h,_⟩:=e1;rw [hK] at h;cases h),?_⟩;exact e4.trans (belowK_b (w:=w) (Nat.le_refl _) W D _ _ (by omega) hK rfl rfl)
 case stop=>
  rintro D c pre W hD hp h hK;exact h.elim
end
section
open Go.Shelf
attribute [local go_sem] Oper.semAt_some
theorem S_lookup_in {F:Fence} {n:Nat} {P:Program} {W:World} {o:Oper} {a:Act} {K:Act→World→Prop} {Q:Exit→Act→World→Prop} (m x:Operand) (t:TypeId) (hop:o.op=Op.lookup t m x false)
  (k e:TypeId) (q:IntKind) (KD:Maps.Keyed P k) (ht:P.underlying t=some (.map k e)) (he:P.underlying e=some (.int q)) (hz:(zeroValue e).run P W = .ok (.int q 0) W) (b nn:Nat) (D:DataW Unit)
  (hm:a.eval m = .map (some b)) (hown:W.ownsMap P k (plainElem P e) b nn D) (key:Value) (kl:Lit) (hx:a.eval x=key) (hkey:keyOf P k key=some kl)
  (h:∀ c,D.atKey kl (.lit (.int q 0)) = .lit (.int q c)→K (a.put o.dst (.int q c)) W):Oper.wpIn F n P o a W K Q:=by
 obtain ⟨c,hrun,hat,_⟩:=hown.lookup_int KD ht he hz hkey;unfold Oper.wpIn;refine ⟨by simp [Oper.about,hop],?_⟩;rw [Oper.semAt_plain F _ _ (by rw [hop];intro c hc';cases hc')];simp [execOp,hop,hm,hx,hrun,Result.andThen];exact h c hat
set_option maxHeartbeats 4000000 in
theorem stays_calls (b0 b1 r2 r4 gone:Bool) (b2 b3 b4 r0 r1 c:Int) (P3 P5 P6:Option Addr) (n5 q5 q3 n6 q6:Nat) (Bm Bg bm nn:Nat) (key:List Int) (D:DataW Unit) (w:World)
  (hBm:Boxed w Bm 80 (.map (some bm))) (hBg:Boxed w Bg 4 (.bool gone)) (hown:w.ownsMap Try.prog 9 (plainElem Try.prog 3) bm nn D) (hk:(Kd.int .i64).C w P3 key.length key) (hq:key.length≤q3)
  (hok:r2=true→keyOk key=true) (hc:r2=true→D.atKey (.string (hexOf key)) (.lit (.int .i64 0)) = .lit (.int .i64 c)) :
  Calls Try.prog 69 #[.agg #[.bool b0,.bool b1,.int .i64 b2,.int .i64 b3,.int .i64 b4,.slice P5 n5 q5],.agg #[.int .i64 r0,.int .i64 r1,.bool r2,.slice P3 key.length q3,.bool r4,.slice P6 n6 q6],.pointer (some ⟨Bm,0,none⟩),.pointer (some ⟨Bg,0,none⟩)] w fun e w'=>e = .returned (.bool (b1||(r2&&((c==r0)&&(r4||gone)))))∧Below w.heap.size w w':=by
 have cM:=hBm.cell;have cG:=hBg.cell;have HOWN:=zzm hown;have HK3:=zzm hk;have HOK:=zzm hok;have HC:=zzm hc;have hltM:=hBm.lt;have hltG:=hBg.lt;clear hBm hBg hown hk hok hc;refine callsIn_wide (n:=4).1 ?_;have hro:(Fence.wide).round=none:=rfl;refine callsIn_of_wp Try.func69 rfl trivial ?_ hro;simp only [Try.ntmps69,List.size_toArray,List.length_cons,List.length_nil,Nat.reduceAdd,Nat.reduceSub,Array.replicate_succ,Array.replicate_zero,List.push_toArray,List.append_toArray,List.nil_append,List.cons_append];cases b1 with
 | true=>
  gi_wp2;exact bodyPost_ret (results_tmp rfl _ _ _) rfl ⟨rfl,((Below.refl _ w).alloc (Nat.le_refl _) _).alloc (by simp) _⟩
 | false=>
  have hmx:Try.prog.follows .mixedOrders=true:=by kernel_rfl
  gi_wp2;obtain ⟨W,hW⟩:∃ W,W=(w.alloc (.cells #[.bool b0,.bool false,.int .i64 b2,.int .i64 b3,.int .i64 b4,.slice P5 n5 q5] 34)).alloc (.cells #[.int .i64 r0,.int .i64 r1,.bool r2,.slice P3 key.length q3,.bool r4,.slice P6 n6 q6] 30):=⟨_,rfl⟩;have hBW:Below w.heap.size w W:=by rw [hW];exact ((Below.refl _ w).alloc (Nat.le_refl _) _).alloc (by simp) _
  have cR:W.heap[w.heap.size+1]? = some (.cells #[.int .i64 r0,.int .i64 r1,.bool r2,.slice P3 key.length q3,.bool r4,.slice P6 n6 q6] 30 (0,0)):=by
   have h:=World.alloc_heap_new (w.alloc (.cells #[.bool b0,.bool false,.int .i64 b2,.int .i64 b3,.int .i64 b4,.slice P5 n5 q5] 34)) (.cells #[.int .i64 r0,.int .i64 r1,.bool r2,.slice P3 key.length q3,.bool r4,.slice P6 n6 q6] 30);simp only [World.size_alloc] at h;rw [hW];exact h
  rw [← hW];clear hW;obtain ⟨mk,hmk⟩:∃ mk:Value→Value→Value→Value→Value→Value→Value→Value→Value→Value→Value→Value→Value→Value→Value→Value→Value→Value→Value→Value→Act,mk=fun u6 u9 u10 u11 u12 u13 u14 u15 u16 u17 u18 u19 u20 u21 u22 u23 u24 u25 u26 u27=>{ tmps:=#[.agg #[.bool b0,.bool false,.int .i64 b2,.int .i64 b3,.int .i64 b4,.slice P5 n5 q5],.agg #[.int .i64 r0,.int .i64 r1,.bool r2,.slice P3 key.length q3,.bool r4,.slice P6 n6 q6],.pointer (some ⟨Bm,0,none⟩),.pointer (some ⟨Bg,0,none⟩),.pointer (some ⟨w.heap.size,0,none⟩),.pointer (some ⟨w.heap.size+1,0,none⟩),u6,.pointer (some ⟨w.heap.size,1,none⟩),.bool false,u9,u10,u11,u12,u13,u14,u15,u16,u17,u18,u19,u20,u21,u22,u23,u24,u25,u26,u27],defers:=[] }:=⟨_,rfl⟩;cases r2 with
  | false=>
   refine wpIn_region_any hmx (wpAnyIn_20 (by kernel_rfl) (fun k a' W'=>Below w.heap.size w W'∧W'.heap[w.heap.size+1]? = W.heap[w.heap.size+1]?∧a' = (if k=0 then mk (.bool false) undef undef undef undef undef undef undef undef undef undef undef undef undef undef undef undef undef undef undef else if k=1 then mk (.bool false) (.pointer (some ⟨w.heap.size+1,2,none⟩)) undef undef undef undef undef undef undef undef undef undef undef undef undef undef undef undef undef undef else mk (.bool false) (.pointer (some ⟨w.heap.size+1,2,none⟩)) (.bool false) undef undef undef undef undef undef undef undef undef undef undef undef undef undef undef undef undef)) (fun _ _ _ _ a' W'=>Below w.heap.size w W'∧a' = mk (.bool false) (.pointer (some ⟨w.heap.size+1,2,none⟩)) (.bool false) (.bool false) undef undef undef undef undef undef undef undef undef undef undef undef undef undef undef undef) (fun k a' W'=>Below w.heap.size w W'∧a' = (if k=1 then mk (.bool false) (.pointer (some ⟨w.heap.size+1,2,none⟩)) (.bool false) (.bool false) undef undef undef undef undef undef undef undef undef undef undef undef undef undef undef undef else if k=2 then mk (.bool false) (.pointer (some ⟨w.heap.size+1,2,none⟩)) (.bool false) (.bool false) undef undef undef undef undef undef undef undef (.bool false) undef undef undef undef undef undef undef else if k=3 then mk (.bool false) (.pointer (some ⟨w.heap.size+1,2,none⟩)) (.bool false) (.bool false) undef undef undef undef undef undef undef undef (.bool false) (.bool false) undef undef undef undef undef undef else if k=4 then mk (.bool false) (.pointer (some ⟨w.heap.size+1,2,none⟩)) (.bool false) (.bool false) undef undef undef undef undef undef undef undef (.bool false) (.bool false) undef undef undef undef undef undef else if k=5 then mk (.bool false) (.pointer (some ⟨w.heap.size+1,2,none⟩)) (.bool false) (.bool false) undef undef undef undef undef undef undef undef (.bool false) (.bool false) undef undef undef undef undef undef else if k=6 then mk (.bool false) (.pointer (some ⟨w.heap.size+1,2,none⟩)) (.bool false) (.bool false) undef undef undef undef undef undef undef undef (.bool false) (.bool false) undef undef undef undef undef undef else if k=7 then mk (.bool false) (.pointer (some ⟨w.heap.size+1,2,none⟩)) (.bool false) (.bool false) undef undef undef undef undef undef undef undef (.bool false) (.bool false) undef undef undef undef undef undef else if k=8 then mk (.bool false) (.pointer (some ⟨w.heap.size+1,2,none⟩)) (.bool false) (.bool false) undef undef undef undef undef undef undef undef (.bool false) (.bool false) undef undef undef undef undef undef else if k=9 then mk (.bool false) (.pointer (some ⟨w.heap.size+1,2,none⟩)) (.bool false) (.bool false) undef undef undef undef undef undef undef undef (.bool false) (.bool false) undef undef undef undef undef (.bool false) else mk (.bool false) (.pointer (some ⟨w.heap.size+1,2,none⟩)) (.bool false) (.bool false) undef undef undef undef undef undef undef undef (.bool false) (.bool false) undef undef undef undef undef (.bool false))) ?hdone ?s0 ?s1 ?s2 ?s3 ?s4 ?s5 ?s6 ?s7 ?s8 ?s9 ?s10 ?s11 ?s12 ?s13 ?s14 ?s15 ?s16 ?s17 ?s18 ?s19 ?hini)
   case hini=>exact ⟨zzb hBW 1,rfl,by rw [hmk];rfl⟩
   case hdone=>
    rintro a' W' ⟨hb,rfl⟩;simp only [Nat.reduceEqDiff,if_false];rw [hmk];gi_wp2;exact bodyPost_ret (results_tmp rfl _ _ _) rfl ⟨rfl,hb⟩
   case s0=>
    rintro a' W' ⟨hb,hw,rfl⟩;simp only [Nat.reduceEqDiff,if_true,if_false];rw [hmk];rw [cR] at hw;skip;refine wpOpIn_step rfl (fun K hK=>?_);have HK:=zzm hK;clear hK;go_simp;exact HK.out _ _ ⟨hb,hw.trans cR.symm,rfl⟩
   case s1=>
    rintro a' W' ⟨hb,hw,rfl⟩;simp only [Nat.reduceEqDiff,if_true,if_false];rw [hmk];rw [cR] at hw;have q2:W'.cell? ⟨w.heap.size+1,2,none⟩=some (.bool false):=by simp [World.cell?,hw]
    refine wpOpIn_step rfl (fun K hK=>?_);have HK:=zzm hK;clear hK;go_simp;exact HK.out _ _ ⟨hb,hw.trans cR.symm,rfl⟩
   case s2=>
    rintro a' W' ⟨hb,hw,rfl⟩;simp only [Nat.reduceEqDiff,if_true,if_false];rw [hmk];rw [cR] at hw;skip;refine wpOpIn_step rfl (fun K hK=>?_);have HK:=zzm hK;clear hK;go_simp;exact HK.out _ _ ⟨hb,rfl⟩
   case s3=>
    rintro y z d a' W' ⟨hb,rfl⟩;skip;rw [hmk];refine wpOpIn_step rfl (fun K hK=>?_);have HK:=zzm hK;clear hK;go_simp;exact HK.out _ _ ⟨hb,rfl⟩
   case s4=>
    rintro x z d a' W' ⟨hb,rfl⟩;skip;rw [hmk];refine wpOpIn_step rfl (fun K hK=>?_);have HK:=zzm hK;clear hK;go_simp;exact HK.out _ _ ⟨hb,rfl⟩
   case s5=>
    rintro x z d a' W' ⟨hb,rfl⟩;skip;rw [hmk];refine wpOpIn_step rfl (fun K hK=>?_);have HK:=zzm hK;clear hK;go_simp;exact HK.out _ _ ⟨hb,rfl⟩
   case s6=>
    rintro x z d a' W' ⟨hb,rfl⟩;skip;rw [hmk];refine wpOpIn_step rfl (fun K hK=>?_);have HK:=zzm hK;clear hK;go_simp;exact ⟨trivial,HK.out _ _ ⟨hb,rfl⟩⟩
   case s7=>
    rintro z a' W' ⟨hb,rfl⟩;skip;rw [hmk];refine wpOpIn_step rfl (fun K hK=>?_);have HK:=zzm hK;clear hK;go_simp;exact HK.out _ _ ⟨hb,rfl⟩
   case s8=>
    rintro x y d a' W' ⟨hb,rfl⟩;skip;rw [hmk];refine wpOpIn_step rfl (fun K hK=>?_);have HK:=zzm hK;clear hK;go_simp;exact HK.out _ _ ⟨hb,rfl⟩
   case s9=>
    rintro x y d a' W' ⟨hb,rfl⟩;skip;rw [hmk];refine wpOpIn_step rfl (fun K hK=>?_);have HK:=zzm hK;clear hK;go_simp;exact HK.out _ _ ⟨hb,rfl⟩
   case s10=>
    rintro  a' W' ⟨hb,rfl⟩;skip;rw [hmk];refine wpOpIn_step rfl (fun K hK=>?_);have HK:=zzm hK;clear hK;go_simp;exact HK.out _ _ ⟨hb,rfl⟩
   case s11=>
    rintro  a' W' ⟨hb,rfl⟩;simp only [Nat.reduceEqDiff,if_true,if_false];rw [hmk];refine wpOpIn_step rfl (fun K hK=>?_);have HK:=zzm hK;clear hK;go_simp;exact HK.out _ _ ⟨hb,rfl⟩
   case s12=>
    rintro  a' W' ⟨hb,rfl⟩;simp only [Nat.reduceEqDiff,if_true,if_false];rw [hmk];refine wpOpIn_step rfl (fun K hK=>?_);have HK:=zzm hK;clear hK;go_simp;exact HK.out _ _ ⟨hb,rfl⟩
   case s13=>
    rintro  a' W' ⟨hb,rfl⟩;simp only [Nat.reduceEqDiff,if_true,if_false];rw [hmk];refine wpOpIn_step rfl (fun K hK=>?_);have HK:=zzm hK;clear hK;go_simp;exact HK.out _ _ ⟨hb,rfl⟩
   case s14=>
    rintro  a' W' ⟨hb,rfl⟩;simp only [Nat.reduceEqDiff,if_true,if_false];rw [hmk];refine wpOpIn_step rfl (fun K hK=>?_);have HK:=zzm hK;clear hK;go_simp;exact HK.out _ _ ⟨hb,rfl⟩
   case s15=>
    rintro  a' W' ⟨hb,rfl⟩;simp only [Nat.reduceEqDiff,if_true,if_false];rw [hmk];refine wpOpIn_step rfl (fun K hK=>?_);have HK:=zzm hK;clear hK;go_simp;exact HK.out _ _ ⟨hb,rfl⟩
   case s16=>
    rintro  a' W' ⟨hb,rfl⟩;simp only [Nat.reduceEqDiff,if_true,if_false];rw [hmk];refine wpOpIn_step rfl (fun K hK=>?_);have HK:=zzm hK;clear hK;go_simp;exact HK.out _ _ ⟨hb,rfl⟩
   case s17=>
    rintro  a' W' ⟨hb,rfl⟩;simp only [Nat.reduceEqDiff,if_true,if_false];rw [hmk];refine wpOpIn_step rfl (fun K hK=>?_);have HK:=zzm hK;clear hK;go_simp;exact HK.out _ _ ⟨hb,rfl⟩
   case s18=>
    rintro  a' W' ⟨hb,rfl⟩;simp only [Nat.reduceEqDiff,if_true,if_false];rw [hmk];refine wpOpIn_step rfl (fun K hK=>?_);have HK:=zzm hK;clear hK;go_simp;exact HK.out _ _ ⟨hb,rfl⟩
   case s19=>
    rintro  a' W' ⟨hb,rfl⟩;simp only [Nat.reduceEqDiff,if_true,if_false];rw [hmk];refine wpOpIn_step rfl (fun K hK=>?_);have HK:=zzm hK;clear hK;go_simp;exact HK.out _ _ ⟨hb,rfl⟩
  | true=>
   have hkey:=HOK.out rfl;have hcc:=zzm (HC.out rfl);have hBT:=zzm (bytesText_f hkey);have hkeyo:keyOf Try.prog 9 (.string ⟨(hexOf key).toArray⟩)=some (.string (hexOf key)):=by
    have hmax:maxLen=9223372036854775807:=rfl;rw [Go.WideMaps.keyOf_string_mk Try.underlying9 (by have h7:=hexOf_len key;have h8:=keyOk_len hkey;show (hexOf key).toArray.size≤maxLen;rw [List.size_toArray];omega)]
   obtain ⟨q,hq0⟩:∃ q,q=(c==r0):=⟨_,rfl⟩;refine wpIn_region_any hmx (wpAnyIn_20 (by kernel_rfl) (fun k a' W'=>Below w.heap.size w W'∧W'.heap[w.heap.size+1]? = W.heap[w.heap.size+1]?∧a' = (if k=0 then mk (.bool false) undef undef undef undef undef undef undef undef undef undef undef undef undef undef undef undef undef undef undef else if k=1 then mk (.bool false) (.pointer (some ⟨w.heap.size+1,2,none⟩)) undef undef undef undef undef undef undef undef undef undef undef undef undef undef undef undef undef undef else mk (.bool false) (.pointer (some ⟨w.heap.size+1,2,none⟩)) (.bool true) undef undef undef undef undef undef undef undef undef undef undef undef undef undef undef undef undef)) (fun x y z d a' W'=>Below w.heap.size w W'∧W'.heap[w.heap.size+1]? = W.heap[w.heap.size+1]?∧∃ u12 u13 u14 u15 u16 u17 u18,a' = mk (.bool false) (.pointer (some ⟨w.heap.size+1,2,none⟩)) (.bool true) (.bool true) (u12) (u13) (u14) (u15) (u16) (u17) (u18) undef undef undef undef undef undef undef undef undef∧(1≤x→u12 = .map (some bm))∧(1≤y→u13 = .pointer (some ⟨w.heap.size+1,3,none⟩))∧(2≤y→u14 = .slice P3 key.length q3)∧(3≤y→u15 = .string ⟨(hexOf key).toArray⟩)∧(1≤d→u16 = .int .i64 c)∧(1≤z→u17 = .pointer (some ⟨w.heap.size+1,0,none⟩))∧(2≤z→u18 = .int .i64 r0)) (fun k a' W'=>Below w.heap.size w W'∧W'.heap[w.heap.size+1]? = W.heap[w.heap.size+1]?∧a' = (if k=1 then mk (.bool false) (.pointer (some ⟨w.heap.size+1,2,none⟩)) (.bool true) (.bool true) (.map (some bm)) (.pointer (some ⟨w.heap.size+1,3,none⟩)) (.slice P3 key.length q3) (.string ⟨(hexOf key).toArray⟩) (.int .i64 c) (.pointer (some ⟨w.heap.size+1,0,none⟩)) (.int .i64 r0) (.bool q) undef undef undef undef undef undef undef undef else if k=2 then mk (.bool false) (.pointer (some ⟨w.heap.size+1,2,none⟩)) (.bool true) (.bool true) (.map (some bm)) (.pointer (some ⟨w.heap.size+1,3,none⟩)) (.slice P3 key.length q3) (.string ⟨(hexOf key).toArray⟩) (.int .i64 c) (.pointer (some ⟨w.heap.size+1,0,none⟩)) (.int .i64 r0) (.bool q) (.bool q) undef undef undef undef undef undef undef else if k=3 then mk (.bool false) (.pointer (some ⟨w.heap.size+1,2,none⟩)) (.bool true) (.bool true) (.map (some bm)) (.pointer (some ⟨w.heap.size+1,3,none⟩)) (.slice P3 key.length q3) (.string ⟨(hexOf key).toArray⟩) (.int .i64 c) (.pointer (some ⟨w.heap.size+1,0,none⟩)) (.int .i64 r0) (.bool q) (.bool q) (.bool q) undef undef undef undef undef undef else if k=4 then mk (.bool false) (.pointer (some ⟨w.heap.size+1,2,none⟩)) (.bool true) (.bool true) (.map (some bm)) (.pointer (some ⟨w.heap.size+1,3,none⟩)) (.slice P3 key.length q3) (.string ⟨(hexOf key).toArray⟩) (.int .i64 c) (.pointer (some ⟨w.heap.size+1,0,none⟩)) (.int .i64 r0) (.bool q) (.bool q) (.bool q) (if q=true then .pointer (some ⟨w.heap.size+1,4,none⟩) else undef) undef undef undef undef undef else if k=5 then mk (.bool false) (.pointer (some ⟨w.heap.size+1,2,none⟩)) (.bool true) (.bool true) (.map (some bm)) (.pointer (some ⟨w.heap.size+1,3,none⟩)) (.slice P3 key.length q3) (.string ⟨(hexOf key).toArray⟩) (.int .i64 c) (.pointer (some ⟨w.heap.size+1,0,none⟩)) (.int .i64 r0) (.bool q) (.bool q) (.bool q) (if q=true then .pointer (some ⟨w.heap.size+1,4,none⟩) else undef) (if q=true then .bool r4 else undef) undef undef undef undef else if k=6 then mk (.bool false) (.pointer (some ⟨w.heap.size+1,2,none⟩)) (.bool true) (.bool true) (.map (some bm)) (.pointer (some ⟨w.heap.size+1,3,none⟩)) (.slice P3 key.length q3) (.string ⟨(hexOf key).toArray⟩) (.int .i64 c) (.pointer (some ⟨w.heap.size+1,0,none⟩)) (.int .i64 r0) (.bool q) (.bool q) (.bool q) (if q=true then .pointer (some ⟨w.heap.size+1,4,none⟩) else undef) (if q=true then .bool r4 else undef) (if q=true then .bool r4 else undef) undef undef undef else if k=7 then mk (.bool false) (.pointer (some ⟨w.heap.size+1,2,none⟩)) (.bool true) (.bool true) (.map (some bm)) (.pointer (some ⟨w.heap.size+1,3,none⟩)) (.slice P3 key.length q3) (.string ⟨(hexOf key).toArray⟩) (.int .i64 c) (.pointer (some ⟨w.heap.size+1,0,none⟩)) (.int .i64 r0) (.bool q) (.bool q) (.bool q) (if q=true then .pointer (some ⟨w.heap.size+1,4,none⟩) else undef) (if q=true then .bool r4 else undef) (if q=true then .bool r4 else undef) (if (q && !r4)=true then .bool gone else undef) undef undef else if k=8 then mk (.bool false) (.pointer (some ⟨w.heap.size+1,2,none⟩)) (.bool true) (.bool true) (.map (some bm)) (.pointer (some ⟨w.heap.size+1,3,none⟩)) (.slice P3 key.length q3) (.string ⟨(hexOf key).toArray⟩) (.int .i64 c) (.pointer (some ⟨w.heap.size+1,0,none⟩)) (.int .i64 r0) (.bool q) (.bool q) (.bool q) (if q=true then .pointer (some ⟨w.heap.size+1,4,none⟩) else undef) (if q=true then .bool r4 else undef) (if q=true then .bool r4 else undef) (if (q && !r4)=true then .bool gone else undef) (if q=true then .bool (r4||gone) else undef) undef else if k=9 then mk (.bool false) (.pointer (some ⟨w.heap.size+1,2,none⟩)) (.bool true) (.bool true) (.map (some bm)) (.pointer (some ⟨w.heap.size+1,3,none⟩)) (.slice P3 key.length q3) (.string ⟨(hexOf key).toArray⟩) (.int .i64 c) (.pointer (some ⟨w.heap.size+1,0,none⟩)) (.int .i64 r0) (.bool q) (.bool q) (.bool q) (if q=true then .pointer (some ⟨w.heap.size+1,4,none⟩) else undef) (if q=true then .bool r4 else undef) (if q=true then .bool r4 else undef) (if (q && !r4)=true then .bool gone else undef) (if q=true then .bool (r4||gone) else undef) (.bool (q&&(r4||gone))) else mk (.bool (q&&(r4||gone))) (.pointer (some ⟨w.heap.size+1,2,none⟩)) (.bool true) (.bool true) (.map (some bm)) (.pointer (some ⟨w.heap.size+1,3,none⟩)) (.slice P3 key.length q3) (.string ⟨(hexOf key).toArray⟩) (.int .i64 c) (.pointer (some ⟨w.heap.size+1,0,none⟩)) (.int .i64 r0) (.bool q) (.bool q) (.bool q) (if q=true then .pointer (some ⟨w.heap.size+1,4,none⟩) else undef) (if q=true then .bool r4 else undef) (if q=true then .bool r4 else undef) (if (q && !r4)=true then .bool gone else undef) (if q=true then .bool (r4||gone) else undef) (.bool (q&&(r4||gone))))) ?hdone ?s0 ?s1 ?s2 ?s3 ?s4 ?s5 ?s6 ?s7 ?s8 ?s9 ?s10 ?s11 ?s12 ?s13 ?s14 ?s15 ?s16 ?s17 ?s18 ?s19 ?hini)
   case hini=>exact ⟨zzb hBW 1,rfl,by rw [hmk];rfl⟩
   case hdone=>
    rintro a' W' ⟨hb,-,rfl⟩;simp only [Nat.reduceEqDiff,if_false];generalize (if q=true then Value.pointer (some ⟨w.heap.size+1,4,none⟩) else undef)=y22;generalize (if q=true then Value.bool r4 else undef)=y23;generalize (if (q && !r4)=true then Value.bool gone else undef)=y25;generalize (if q=true then Value.bool (r4||gone) else undef)=y26;rw [hq0];clear hq0;generalize hz:((c==r0)&&(r4||gone))=z;rw [hmk];gi_wp2;exact bodyPost_ret (results_tmp rfl _ _ _) rfl ⟨by rw [← hz];rfl,hb⟩
   case s0=>
    rintro a' W' ⟨hb,hw,rfl⟩;simp only [Nat.reduceEqDiff,if_true,if_false];rw [hmk];skip;refine wpOpIn_step rfl (fun K hK=>?_);have HK:=zzm hK;clear hK;go_simp;exact HK.out _ _ ⟨hb,hw,rfl⟩
   case s1=>
    rintro a' W' ⟨hb,hw,rfl⟩;simp only [Nat.reduceEqDiff,if_true,if_false];rw [hmk];have q2:W'.cell? ⟨w.heap.size+1,2,none⟩=some (.bool true):=by simp [World.cell?,hw,cR]
    refine wpOpIn_step rfl (fun K hK=>?_);have HK:=zzm hK;clear hK;go_simp;exact HK.out _ _ ⟨hb,hw,rfl⟩
   case s2=>
    rintro a' W' ⟨hb,hw,rfl⟩;simp only [Nat.reduceEqDiff,if_true,if_false];rw [hmk];skip;refine wpOpIn_step rfl (fun K hK=>?_);have HK:=zzm hK;clear hK;go_simp;exact HK.out _ _ ⟨hb,hw,_,_,_,_,_,_,_,rfl,by simp,by simp,by simp,by simp,by simp,by simp,by simp⟩
   case s3=>
    rintro y z d a' W' ⟨hb,hw,u12,u13,u14,u15,u16,u17,u18,rfl,h1,h2,h3,h4,h5,h6,h7⟩;have cMn:=(hb.cell hltM).trans cM;rw [hmk];refine wpOpIn_step rfl (fun K hK=>?_);have HK:=zzm hK;clear hK;go_simp;exact HK.out _ _ ⟨hb,hw,_,u13,u14,u15,u16,u17,u18,rfl,fun _=>rfl,h2,h3,h4,h5,h6,h7⟩
   case s4=>
    rintro x z d a' W' ⟨hb,hw,u12,u13,u14,u15,u16,u17,u18,rfl,h1,h2,h3,h4,h5,h6,h7⟩;rw [hmk];refine wpOpIn_step rfl (fun K hK=>?_);have HK:=zzm hK;clear hK;go_simp;exact HK.out _ _ ⟨hb,hw,u12,_,u14,u15,u16,u17,u18,rfl,h1,fun _=>rfl,by simp,by simp,h5,h6,h7⟩
   case s5=>
    rintro x z d a' W' ⟨hb,hw,u12,u13,u14,u15,u16,u17,u18,rfl,h1,h2,h3,h4,h5,h6,h7⟩;obtain rfl:=h2 (by decide);have q2:W'.cell? ⟨w.heap.size+1,3,none⟩=some (.slice P3 key.length q3):=by simp [World.cell?,hw,cR]
    rw [hmk];refine wpOpIn_step rfl (fun K hK=>?_);have HK:=zzm hK;clear hK;go_simp;exact HK.out _ _ ⟨hb,hw,u12,_,_,u15,u16,u17,u18,rfl,h1,fun _=>rfl,fun _=>rfl,by simp,h5,h6,h7⟩
   case s6=>
    rintro x z d a' W' ⟨hb,hw,u12,u13,u14,u15,u16,u17,u18,rfl,h1,h2,h3,h4,h5,h6,h7⟩;obtain rfl:=h2 (by decide);obtain rfl:=h3 (by decide);have hKy:=zzm (Kd.C_below HK3.out hb);have hsz:=hBW.size;have hlt:w.heap.size+1 < W'.heap.size:=by rw [cR] at hw;exact (Array.getElem?_eq_some_iff.1 hw).1
    rw [hmk];refine wpOpIn_step rfl (fun K hK=>?_);have HK:=zzm hK;clear hK;go_simp;gi_wp2_with (refine ⟨trivial,?_⟩;gi_at_call 68;refine (callsIn_wide.2 (Rs.calls _ _ _ _ _ _ hKy.out hq hBT.out)).mono ?_;rintro e w7 ⟨rfl,hb7⟩;dsimp only);exact HK.out _ _ ⟨hb.trans (hb7.mono (by omega)),(hb7.block _ hlt).trans hw,u12,_,_,_,u16,u17,u18,rfl,h1,fun _=>rfl,fun _=>rfl,fun _=>rfl,h5,h6,h7⟩
   case s7=>
    rintro z a' W' ⟨hb,hw,u12,u13,u14,u15,u16,u17,u18,rfl,h1,h2,h3,h4,h5,h6,h7⟩;obtain rfl:=h1 (by decide);obtain rfl:=h4 (by decide);rw [hmk];have howW:=ownsMap_below HOWN.out hb;refine wpOpIn_step rfl (fun K hK=>?_);rw [if_pos (by rfl)];refine S_lookup_in (.tmp 12) (.tmp 15) 80 rfl 9 3 .i64 (Maps.string_keyed Try.underlying9) Try.underlying80 Try.underlying3 (Try.zeroValue3 _) bm nn D rfl howW _ _ rfl hkeyo ?_;intro c' hc';have a0:=hcc.out;rw [hc'] at a0;obtain rfl:c' = c:=by injection a0 with h;injection h
    exact hK _ _ ⟨hb,hw,_,u13,u14,_,_,u17,u18,rfl,fun _=>rfl,h2,h3,fun _=>rfl,fun _=>rfl,h6,h7⟩
   case s8=>
    rintro x y d a' W' ⟨hb,hw,u12,u13,u14,u15,u16,u17,u18,rfl,h1,h2,h3,h4,h5,h6,h7⟩;rw [hmk];refine wpOpIn_step rfl (fun K hK=>?_);have HK:=zzm hK;clear hK;go_simp;exact HK.out _ _ ⟨hb,hw,u12,u13,u14,u15,u16,_,u18,rfl,h1,h2,h3,h4,h5,fun _=>rfl,by simp⟩
   case s9=>
    rintro x y d a' W' ⟨hb,hw,u12,u13,u14,u15,u16,u17,u18,rfl,h1,h2,h3,h4,h5,h6,h7⟩;obtain rfl:=h6 (by decide);have q2:W'.cell? ⟨w.heap.size+1,0,none⟩=some (.int .i64 r0):=by simp [World.cell?,hw,cR]
    rw [hmk];refine wpOpIn_step rfl (fun K hK=>?_);have HK:=zzm hK;clear hK;go_simp;exact HK.out _ _ ⟨hb,hw,u12,u13,u14,u15,u16,_,_,rfl,h1,h2,h3,h4,h5,fun _=>rfl,fun _=>rfl⟩
   case s10=>
    rintro a' W' ⟨hb,hw,u12,u13,u14,u15,u16,u17,u18,rfl,h1,h2,h3,h4,h5,h6,h7⟩;obtain rfl:=h1 (by decide);obtain rfl:=h2 (by decide);obtain rfl:=h3 (by decide);obtain rfl:=h4 (by decide);obtain rfl:=h5 (by decide);obtain rfl:=h6 (by decide);obtain rfl:=h7 (by decide);rw [hmk];refine wpOpIn_step rfl (fun K hK=>?_);have HK:=zzm hK;clear hK;go_simp;exact HK.out _ _ ⟨hb,hw,by rw [hq0];rfl⟩
   case s11=>
    rintro a' W' ⟨hb,hw,rfl⟩;simp only [Nat.reduceEqDiff,if_true,if_false];rw [hmk];clear hq0;cases q <;> (refine wpOpIn_step rfl (fun K hK=>?_);have HK:=zzm hK;clear hK;go_simp;exact HK.out _ _ ⟨hb,hw,rfl⟩)
   case s12=>
    rintro a' W' ⟨hb,hw,rfl⟩;simp only [Nat.reduceEqDiff,if_true,if_false];rw [hmk];clear hq0;cases q <;> (refine wpOpIn_step rfl (fun K hK=>?_);have HK:=zzm hK;clear hK;go_simp;exact HK.out _ _ ⟨hb,hw,rfl⟩)
   case s13=>
    rintro a' W' ⟨hb,hw,rfl⟩;simp only [Nat.reduceEqDiff,if_true,if_false];rw [hmk];clear hq0;cases q <;> cases r4 <;> (refine wpOpIn_step rfl (fun K hK=>?_);have HK:=zzm hK;clear hK;go_simp;exact HK.out _ _ ⟨hb,hw,rfl⟩)
   case s14=>
    rintro a' W' ⟨hb,hw,rfl⟩;simp only [Nat.reduceEqDiff,if_true,if_false];rw [hmk];have q2:W'.cell? ⟨w.heap.size+1,4,none⟩=some (.bool r4):=by simp [World.cell?,hw,cR]
    clear hq0;cases q <;> cases r4 <;> (refine wpOpIn_step rfl (fun K hK=>?_);have HK:=zzm hK;clear hK;go_simp;exact HK.out _ _ ⟨hb,hw,rfl⟩)
   case s15=>
    rintro a' W' ⟨hb,hw,rfl⟩;simp only [Nat.reduceEqDiff,if_true,if_false];rw [hmk];clear hq0;cases q <;> cases r4 <;> (refine wpOpIn_step rfl (fun K hK=>?_);have HK:=zzm hK;clear hK;go_simp;exact HK.out _ _ ⟨hb,hw,rfl⟩)
   case s16=>
    rintro a' W' ⟨hb,hw,rfl⟩;simp only [Nat.reduceEqDiff,if_true,if_false];rw [hmk];have cGn:=(hb.cell hltG).trans cG;clear hq0;cases q <;> cases r4 <;> (refine wpOpIn_step rfl (fun K hK=>?_);have HK:=zzm hK;clear hK;go_simp;exact HK.out _ _ ⟨hb,hw,rfl⟩)
   case s17=>
    rintro a' W' ⟨hb,hw,rfl⟩;simp only [Nat.reduceEqDiff,if_true,if_false];rw [hmk];clear hq0;cases q <;> cases r4 <;> (refine wpOpIn_step rfl (fun K hK=>?_);have HK:=zzm hK;clear hK;go_simp;exact HK.out _ _ ⟨hb,hw,rfl⟩)
   case s18=>
    rintro a' W' ⟨hb,hw,rfl⟩;simp only [Nat.reduceEqDiff,if_true,if_false];rw [hmk];clear hq0;cases q <;> cases r4 <;> (refine wpOpIn_step rfl (fun K hK=>?_);have HK:=zzm hK;clear hK;go_simp;exact HK.out _ _ ⟨hb,hw,rfl⟩)
   case s19=>
    rintro a' W' ⟨hb,hw,rfl⟩;simp only [Nat.reduceEqDiff,if_true,if_false];rw [hmk];clear hq0;cases q <;> cases r4 <;> (refine wpOpIn_step rfl (fun K hK=>?_);have HK:=zzm hK;clear hK;go_simp;exact HK.out _ _ ⟨hb,hw,rfl⟩)
end
section
open Go.Shelf
attribute [local go_sem] Oper.semAt_some
@[local go_sem] theorem run_store_func {P:Program} {w:World} {a:Addr} {m:Mode} (f:Fn) (b c:Array Value):(store a (.func f b c) m).run P w=stored P w a (.func f b c) m:=run_store P w a _ m rfl
theorem S_lit0 {α:Type} (d:Kd α) (e:Nat) (W:World) (base:Nat) (ok:Nat→Prop) (hok:ok W.heap.size) (hbase:base≤W.heap.size):Kd.S d e (W.alloc (.cells #[] e)) base ok (.slice (some ⟨W.heap.size,0,none⟩) 0 0) []:=by
 refine ⟨fun _=>0,fun k hk=>?_,[],?_,by simp [Reps]⟩
 ·
  have:W.heap.size=k:=by simpa [Value.ownBlock] using hk
  rw [← this];exact hok
 ·
  exact World.ownsRow_lit (base:=base) (e:=e) (size:=d.sz) W #[] 0 hbase (by simp [maxLen]) (by simp)
theorem S_own {α:Type} {d:Kd α} {e base:Nat} {ok:Nat→Prop} {v:Value} {xs:List α} {X Y:World} {row:Option Nat} (h:Kd.S d e X base ok v xs) (hg:X.grownBy Y row) (hr:∀ r,row=some r→∃ o:Obj,X.heap[r]? = some o∧o.isCells=false):Kd.S d e Y base ok v xs:=by
 refine Kd.S_mono (Kd.S_move (Kd.S_bound h) (fun k hk=>hg.block k hk.2.2.1 (fun e=>?_))) (fun k hk=>hk.1);obtain ⟨_,_,_,q,_,cs,hc⟩:=hk;obtain ⟨o,ho,hoc⟩:=hr k e.symm;rw [hc] at ho;cases ho;cases hoc
theorem keeps_row {B:Nat} {W W' : World} {row:Option Nat} {t:TypeId} (hg:W.grownBy W' row) (hr:∀ k,row=some k→∃ cs,W.heap[k]? = some (.cells cs t (0,0))):KeepsFrom B W W':=
 ⟨hg.size,fun k o _ hk ho=>(hg.block k (Array.getElem?_eq_some_iff.1 hk).1 (fun e=>by obtain ⟨cs,hc⟩:=hr k e.symm;rw [hc] at hk;cases hk;cases ho)).trans hk⟩
theorem keeps_below {B:Nat} {W W' : World} (h:Below W.heap.size W W'):KeepsFrom B W W':=KeepsFrom.of_below h
theorem copyOf_st {l:List S34} (h:okLog l=true) (x:Nat×Nat):Qz.f (rcOf l x).f0 (rcOf l x).f1 (rcOf l x).f2 (rcOf l x).f3 (rcOf l x).f4 (rcOf l x).f5=some ((rcOf l x).f0,(rcOf l x).f1,(rcOf l x).f2,(rcOf l x).f3,(rcOf l x).f4,(rcOf l x).f5):=by
 have:=okLog_at h x;unfold Qz.f slices_Clone_int_int.f;rw [if_pos (by omega),if_pos (by omega)];rfl
def stayB (l:List S34) (gone:Bool) (x:Nat×Nat):Bool:=mkOf l x||((rcOf l x).f2&&((lastOff l (pts l) (hexOf (rcOf l x).f3)==(rcOf l x).f0)&&((rcOf l x).f4||gone)))
def stKeep (l:List S34) (x:Nat×Nat):Bool:=!mkOf l x&&stayB l false x
def stOut (l:List S34) (pre:List (Nat×Nat)):List S30:=(pre.filter (stKeep l)).map (rcOf l)
theorem stOut_len (l:List S34) (pre:List (Nat×Nat)):(stOut l pre).length≤pre.length:=by unfold stOut;rw [List.length_map];exact List.length_filter_le _ _
def okSt (Bo Bs Bm Bg bm:Nat) (k:Nat):Prop:=k≠Bo∧k≠Bs∧k≠Bm∧k≠Bg∧k≠bm
def Rp.f (k:Nat) (l0:List S34):Option (List S30):=(Ql.f k l0).bind fun t=>if t=true then (if okLog l0=true then some (stOut l0 (pts l0)) else none) else some []
set_option maxHeartbeats 4000000 in
theorem Rp.calls (k:Nat) (A0:Option Addr) (c0:Nat) (l0:List (S34)) (r:List (S30)) (w:World) (a2:Kd.C k34 w A0 l0.length l0) (a3:l0.length≤c0) (h:Rp.f k l0=some r) :
  Calls Try.prog 16 #[.slice A0 l0.length c0] w fun e w'=>∃ a4:Value,e = .returned (a4)∧Kd.S k30 30 w' w.heap.size (fun _=>True) a4 r∧Below w.heap.size w w':=by
 have hm0:l0.length≤9223372036854775807:=a2.2.1;obtain ⟨AB,CB,AK,CK,AV,CV,hP⟩:=places_of a2;unfold Rp.f at h;replace h:=Option.bind_eq_some_iff.mp h;obtain ⟨t0,a5,h⟩:=h;have HV0:=zzm a5;have HP:=zzm hP;have a6:=zzm a2;have a7:=zzm a3;have H:=zzm h;clear a2 a3 h a5 hP;refine callsIn_wide (n:=8).1 ?_;have hro:(Fence.wide).round=none:=rfl;refine callsIn_of_wp_marks Try.func16 rfl trivial ?_ hro;simp only [Try.ntmps16,List.size_toArray,List.length_cons,List.length_nil,Nat.reduceAdd,Nat.reduceSub,Array.replicate_succ,Array.replicate_zero,List.push_toArray,List.append_toArray,List.nil_append,List.cons_append];gi_wp2;refine ⟨trivial,?_⟩;obtain ⟨W4,hW4⟩:∃ W4,W4=((w.alloc (.cells #[] 30)).alloc (.cells #[.slice (some ⟨w.heap.size,0,none⟩) 0 0] 25)):=⟨_,rfl⟩;have hB4:Below w.heap.size w W4:=by rw [hW4];exact ((Below.refl _ w).alloc (Nat.le_refl _) _).alloc (by simp) _
 have hsz4:W4.heap.size=w.heap.size+2:=by rw [hW4];simp
 have hb3:Boxed W4 (w.heap.size+1) 25 (.slice (some ⟨w.heap.size,0,none⟩) 0 0):=by
  have:=Boxed.new (w.alloc (.cells #[] 30)) 25 (.slice (some ⟨w.heap.size,0,none⟩) 0 0);simp only [World.size_alloc] at this;rw [hW4];exact this
 have hS:Kd.S k30 30 W4 w.heap.size (fun k=>k=w.heap.size) (.slice (some ⟨w.heap.size,0,none⟩) 0 0) []:=by
  have h0:=S_lit0 k30 30 w w.heap.size (fun k=>k=w.heap.size) rfl (Nat.le_refl _);rw [hW4];exact Kd.S_alloc h0 _
 rw [← hW4];clear hW4;have a8:=zzm (Kd.C_below a6.out hB4);refine (callsIn_wide.2 (Ql.calls k _ _ l0 _ _ a8.out a7.out HV0.out)).mono ?_;rintro e w1 ⟨rfl,hbl⟩;dsimp only;have hB1:Below w.heap.size w w1:=hB4.trans (hbl.mono (by omega));replace hb3:Boxed w1 (w.heap.size+1) 25 (.slice (some ⟨w.heap.size,0,none⟩) 0 0):=(hbl.block _ hb3.lt).trans hb3;replace hS:=Kd.S_below hS hbl;have hsz1:w.heap.size+2≤w1.heap.size:=by have:=hbl.size;omega
 clear hbl hB4 hsz4 a8;have c3:=hb3.cell;cases t0 with
 | false=>
  have hr:r = []:=by have:=H.out;simpa using this.symm
  gi_wp2;subst hr;exact ⟨_,results_tmp rfl _ _ _,_,rfl,Kd.S_mono hS (fun _ _=>trivial),hB1⟩
 | true=>
  have H2:=zzm ((if_pos rfl).symm.trans H.out:(if okLog l0=true then some (stOut l0 (pts l0)) else none)=some r);clear H;have hok:okLog l0=true∧r=stOut l0 (pts l0):=by
   have h:=H2.out;by_cases h5:okLog l0=true
   ·
    rw [if_pos h5] at h;exact ⟨h5,(Option.some.inj h).symm⟩
   ·
    rw [if_neg h5] at h;cases h
  have HOK:=zzm hok.1;have HRR:=zzm hok.2;clear hok H2;have b0:=zzm (Kd.C_below a6.out hB1);gi_wp2_with (refine ⟨trivial,?_⟩;gi_at_call 40;refine (callsIn_wide.2 (stayer_calls A0 c0 l0 false _ b0.out a7.out HOK.out)).mono ?_;rintro e w2 ⟨Bm,Bg,bm,rfl,hm1,hm2,hm3,hbm,hbg,hown,hb12⟩;dsimp only);gi_wp2_with (refine ⟨trivial,?_⟩;gi_at_call 41;refine (recs_in Fence.wide 7 trivial hro A0 _ _ _).mono ?_;rintro e w3 ⟨rfl,rfl⟩;dsimp only);obtain ⟨W0,hW0⟩:∃ W0,W0=((w2.alloc (.cells #[.func (.func 69) #[] #[.pointer (some ⟨Bm,0,none⟩),.pointer (some ⟨Bg,0,none⟩)]] 52)).alloc (.cells #[.slice A0 l0.length c0] 23)):=⟨_,rfl⟩;obtain ⟨Bst,hBst⟩:∃ Bst,Bst=w2.heap.size:=⟨_,rfl⟩;obtain ⟨Bs,hBs⟩:∃ Bs,Bs=(w2.alloc (.cells #[.func (.func 69) #[] #[.pointer (some ⟨Bm,0,none⟩),.pointer (some ⟨Bg,0,none⟩)]] 52)).heap.size:=⟨_,rfl⟩;have a9:=hb12.size;have hB2:Below w.heap.size w w2:=hB1.trans (hb12.mono (by omega));have hB0:Below w.heap.size w W0:=by rw [hW0];exact (hB2.alloc hB2.size _).alloc (by simp;omega) _
  have hB10:Below w2.heap.size w2 W0:=by rw [hW0];exact ((Below.refl _ w2).alloc (Nat.le_refl _) _).alloc (by simp) _
  have hsz0:W0.heap.size=w2.heap.size+2:=by rw [hW0];simp
  have ltm:Bm < w2.heap.size:=hbm.lt;have ltg:Bg < w2.heap.size:=hbg.lt;have ltb:bm < w2.heap.size:=hown.lt;have hst0:Boxed W0 Bst 52 (.func (.func 69) #[] #[.pointer (some ⟨Bm,0,none⟩),.pointer (some ⟨Bg,0,none⟩)]):=by rw [hW0,hBst];exact (Boxed.new _ _ _).alloc _
  have hsb:Boxed W0 Bs 23 (.slice A0 l0.length c0):=by rw [hW0,hBs];exact Boxed.new _ _ _
  have hd3:Boxed W0 (w.heap.size+1) 25 (.slice (some ⟨w.heap.size,0,none⟩) 0 0):=Boxed.of_below (Boxed.of_below hb3 hb12) hB10;have hdm:Boxed W0 Bm 80 (.map (some bm)):=Boxed.of_below hbm hB10;have hdg:Boxed W0 Bg 4 (.bool false):=Boxed.of_below hbg hB10;have hdo:=ownsMap_below hown hB10;have hSd:Kd.S k30 30 W0 w.heap.size (okSt (w.heap.size+1) Bst Bm Bg bm) (.slice (some ⟨w.heap.size,0,none⟩) 0 0) []:=Kd.S_mono (Kd.S_below (Kd.S_below hS hb12) hB10) (fun k hk=>by simp only [okSt];omega);rw [← hBst,← hW0,← hBs];have lto:w.heap.size+1 < Bst:=by omega
  have lt1:w.heap.size+1 < w1.heap.size:=by omega
  have hsz0' : W0.heap.size=Bst+2:=by omega
  rw [← hBst] at ltm ltg ltb;clear hW0 hBs hB10 hb3 hS c3 hB1 hsz1 hbm hbg hown hB2 hBst hsz0 a9;refine wpIn_rangeFunc_ownH rfl (by omega) (gf:=70) (lb:=#[.pointer (some ⟨Bs,0,none⟩)]) rfl trivial (enters_of Try.func70 (by kernel_rfl) rfl)
   (recs_stops Fence.wide _ trivial rfl (by omega) Bs A0 c0 l0 w W0 HP.out hm0 hB0 hsb.cell) KpR.t (KpR.b hB0.size) (Below.refl _ _) (fun _=>rfl)
   (fun pre W=>(∃ v,Boxed W (w.heap.size+1) 25 v∧Kd.S k30 30 W w.heap.size (okSt (w.heap.size+1) Bst Bm Bg bm) v (stOut l0 pre))∧Boxed W Bst 52 (.func (.func 69) #[] #[.pointer (some ⟨Bm,0,none⟩),.pointer (some ⟨Bg,0,none⟩)])∧Boxed W Bm 80 (.map (some bm))∧Boxed W Bg 4 (.bool false)∧W.ownsMap Try.prog 9 (plainElem Try.prog 3) bm (pts l0).length (lastD l0 (pts l0))∧Below w.heap.size w W)
   (fun _ _ _=>False)
   (fun s X Y row hs hg hr=>by
    obtain ⟨⟨v,e1,e2⟩,e3,e4,e5,e6,e7⟩:=hs;have hc:∀ r,row=some r→∃ o:Obj,X.heap[r]? = some o∧o.isCells=false:=fun r e=>(hr r e).2;exact ⟨⟨v,boxed_own _ _ (fun _:Unit=>v) () X Y row e1 hg hc,S_own e2 hg hc⟩,boxed_own _ _ (fun _:Unit=>_) () X Y row e3 hg hc,boxed_own _ _ (fun _:Unit=>_) () X Y row e4 hg hc,boxed_own _ _ (fun _:Unit=>_) () X Y row e5 hg hc,e6.kept hg (fun e=>by have:=(hr _ e.symm).1;omega),ownFrom_below (Nat.le_refl _) hB0.size () X Y row e7 hg hr⟩)
   (fun _ _ _ _ _ hs _ _=>hs)
   ⟨⟨_,hd3,hSd⟩,hst0,hdm,hdg,hdo,hB0⟩
   (fun x a' W=>∃ Bx,W.heap[Bx]? = some (.cells #[.bool (Qa l0 (x.1:Int)).f0,.bool (Qa l0 (x.1:Int)).f1,.int .i64 (Qa l0 (x.1:Int)).f2,.int .i64 (Qa l0 (x.1:Int)).f3,.int .i64 (Qa l0 (x.1:Int)).f4,.slice (AB x.1) (Qa l0 (x.1:Int)).f5.length (CB x.1)] 34 (0,0))∧W.heap[Bx+1]? = some (.cells #[.int .i64 (rcOf l0 x).f0,.int .i64 (rcOf l0 x).f1,.bool (rcOf l0 x).f2,.slice (AK x.1 x.2) (rcOf l0 x).f3.length (CK x.1 x.2),.bool (rcOf l0 x).f4,.slice (AV x.1 x.2) (rcOf l0 x).f5.length (CV x.1 x.2)] 30 (0,0))∧a' = { tmps:=#[.slice A0 l0.length c0,undef,.slice none 0 0,.pointer (some ⟨w.heap.size+1,0,none⟩),.pointer (some ⟨Bst,0,none⟩),.pointer (some ⟨Bx,0,none⟩),.pointer (some ⟨Bx+1,0,none⟩),.slice (some ⟨w.heap.size,0,none⟩) 0 0,.slice A0 l0.length c0,.bool true,.bool false,undef,.slice A0 l0.length c0,.func (.func 69) #[] #[.pointer (some ⟨Bm,0,none⟩),.pointer (some ⟨Bg,0,none⟩)],.slice A0 l0.length c0,.func (.func 70) #[] #[.pointer (some ⟨Bs,0,none⟩)],encB l0 AB CB x.1,encR l0 AK CK AV CV x.1 x.2,undef,undef,undef,undef,undef,undef,undef,undef,undef,undef,undef,undef,undef,undef,undef],defers:=[] })
   (fun x a' _ X Y row hs hg hr=>by
    obtain ⟨Bx,e1,e2,e3⟩:=hs;have hne:∀ k cs t f,X.heap[k]? = some (.cells cs t f)→some k≠row:=fun k cs t f h e=>by obtain ⟨o,ho,hoc⟩:=(hr k e.symm).2;rw [h] at ho;cases ho;cases hoc
    exact ⟨Bx,(hg.block _ (Array.getElem?_eq_some_iff.1 e1).1 (hne _ _ _ _ e1)).trans e1,(hg.block _ (Array.getElem?_eq_some_iff.1 e2).1 (hne _ _ _ _ e2)).trans e2,e3⟩)
   ?assign ?body ?done ?stop
  case assign=>
   rintro l pre x W K ⟨⟨v,e1,e2⟩,e3,e4,e5,e6,e7⟩ hK;unfold encB encR;gi_wp2;have b1:=World.alloc_heap_new W (.cells #[.bool (Qa l0 (x.1:Int)).f0,.bool (Qa l0 (x.1:Int)).f1,.int .i64 (Qa l0 (x.1:Int)).f2,.int .i64 (Qa l0 (x.1:Int)).f3,.int .i64 (Qa l0 (x.1:Int)).f4,.slice (AB x.1) (Qa l0 (x.1:Int)).f5.length (CB x.1)] 34);have b2:=World.alloc_heap_new (W.alloc (.cells #[.bool (Qa l0 (x.1:Int)).f0,.bool (Qa l0 (x.1:Int)).f1,.int .i64 (Qa l0 (x.1:Int)).f2,.int .i64 (Qa l0 (x.1:Int)).f3,.int .i64 (Qa l0 (x.1:Int)).f4,.slice (AB x.1) (Qa l0 (x.1:Int)).f5.length (CB x.1)] 34)) (.cells #[.int .i64 (rcOf l0 x).f0,.int .i64 (rcOf l0 x).f1,.bool (rcOf l0 x).f2,.slice (AK x.1 x.2) (rcOf l0 x).f3.length (CK x.1 x.2),.bool (rcOf l0 x).f4,.slice (AV x.1 x.2) (rcOf l0 x).f5.length (CV x.1 x.2)] 30);refine hK _ _ (((KeepsOthers.alloc _ _).trans (KeepsOthers.alloc _ _)).from _) ⟨((Below.refl _ W).alloc e7.size _).alloc (by simp;have:=e7.size;omega) _,(KeepT.alloc _ _).trans (KeepT.alloc _ _)⟩ ?_ ?_
   ·
    exact ⟨⟨v,(e1.alloc _).alloc _,Kd.S_alloc (Kd.S_alloc e2 _) _⟩,(e3.alloc _).alloc _,(e4.alloc _).alloc _,(e5.alloc _).alloc _,(e6.alloc _).alloc _,(e7.alloc e7.size _).alloc (by simp;have:=e7.size;omega) _⟩
   ·
    exact ⟨W.heap.size,(Below.heap_alloc _ _ _ (by simp)).trans b1,by have h:=b2;simp only [World.size_alloc] at h;exact h,rfl⟩
  case body=>
   rintro l pre x a' W hl ⟨lr,hlr⟩ ⟨⟨v,e1,e2⟩,e3,e4,e5,e6,e7⟩ ⟨Bx,cB,cR,rfl⟩ hlt;obtain ⟨Av,cv,rfl⟩:=Kd.S_slice e2;have cst:=e3.cell;have m0:W.cell? ⟨Bx,0,none⟩=some (.bool (Qa l0 (x.1:Int)).f0):=by simp [World.cell?,cB]
   have m1:W.cell? ⟨Bx,1,none⟩=some (.bool (mkOf l0 x)):=by simp [World.cell?,cB];rfl
   cases hm:mkOf l0 x with
   | true=>
    rw [hm] at m1;have hk:stOut l0 (pre ++ [x])=stOut l0 pre:=by simp [stOut,stKeep,hm]
    clear m0 cst;gi_wp2;refine ⟨by simp,?_⟩;gi_wp2;exact ⟨KeepsFrom.refl _ _,⟨Below.refl _ _,KeepT.refl _ _⟩,⟨_,e1,by rw [hk];exact e2⟩,e3,e4,e5,e6,e7⟩
   | false=>
    rw [hm] at m1;have m2:W.cell? ⟨Bx,2,none⟩=some (.int .i64 (Qa l0 (x.1:Int)).f2):=by simp [World.cell?,cB]
    have m3:W.cell? ⟨Bx,3,none⟩=some (.int .i64 (Qa l0 (x.1:Int)).f3):=by simp [World.cell?,cB]
    have m4:W.cell? ⟨Bx,4,none⟩=some (.int .i64 (Qa l0 (x.1:Int)).f4):=by simp [World.cell?,cB]
    have m5:W.cell? ⟨Bx,5,none⟩=some (.slice (AB x.1) (Qa l0 (x.1:Int)).f5.length (CB x.1)):=by simp [World.cell?,cB]
    have r0:W.cell? ⟨Bx+1,0,none⟩=some (.int .i64 (rcOf l0 x).f0):=by simp [World.cell?,cR]
    have r1:W.cell? ⟨Bx+1,1,none⟩=some (.int .i64 (rcOf l0 x).f1):=by simp [World.cell?,cR]
    have r2:W.cell? ⟨Bx+1,2,none⟩=some (.bool (rcOf l0 x).f2):=by simp [World.cell?,cR]
    have r3:W.cell? ⟨Bx+1,3,none⟩=some (.slice (AK x.1 x.2) (rcOf l0 x).f3.length (CK x.1 x.2)):=by simp [World.cell?,cR]
    have r4:W.cell? ⟨Bx+1,4,none⟩=some (.bool (rcOf l0 x).f4):=by simp [World.cell?,cR]
    have r5:W.cell? ⟨Bx+1,5,none⟩=some (.slice (AV x.1 x.2) (rcOf l0 x).f5.length (CV x.1 x.2)):=by simp [World.cell?,cR]
    have HST:=stays_calls (Qa l0 (x.1:Int)).f0 false (rcOf l0 x).f2 (rcOf l0 x).f4 false (Qa l0 (x.1:Int)).f2 (Qa l0 (x.1:Int)).f3 (Qa l0 (x.1:Int)).f4 (rcOf l0 x).f0 (rcOf l0 x).f1 (lastOff l0 (pts l0) (hexOf (rcOf l0 x).f3)) (AK x.1 x.2) (AB x.1) (AV x.1 x.2) (Qa l0 (x.1:Int)).f5.length (CB x.1) (CK x.1 x.2) (rcOf l0 x).f5.length (CV x.1 x.2) Bm Bg bm _ (rcOf l0 x).f3 (lastD l0 (pts l0)) W
     e4 e5 e6 (Kd.C_below (HP.out.key x.1 x.2).2 e7) (HP.out.key x.1 x.2).1 (fun h=>(okLog_at HOK.out x).2.2.2 h) (fun _=>lastD_at l0 (pts l0) _)
    rw [show (false||((rcOf l0 x).f2&&((lastOff l0 (pts l0) (hexOf (rcOf l0 x).f3)==(rcOf l0 x).f0)&&((rcOf l0 x).f4||false))))=stKeep l0 x by simp [stKeep,stayB,hm]] at HST;replace HST:=zzm HST;cases hk0:stKeep l0 x with
    | false=>
     rw [hk0] at HST;have hk:stOut l0 (pre ++ [x])=stOut l0 pre:=by simp [stOut,hk0]
     gi_wp2_with (refine ⟨trivial,?_⟩;gi_at_call 69;refine (CallsIn.inRound l (callsIn_wide.2 HST.out)).mono ?_;rintro e w7 ⟨rfl,hb7⟩;dsimp only);exact ⟨keeps_below hb7,⟨hb7.mono e7.size,KeepT.of_below hb7⟩,⟨_,Boxed.of_below e1 hb7,by rw [hk];exact Kd.S_below e2 hb7⟩,Boxed.of_below e3 hb7,Boxed.of_below e4 hb7,Boxed.of_below e5 hb7,ownsMap_below e6 hb7,e7.trans (hb7.mono e7.size)⟩
    | true=>
     rw [hk0] at HST;have hk:stOut l0 (pre ++ [x])=stOut l0 pre ++ [rcOf l0 x]:=by simp [stOut,hk0]
     gi_wp2_with (refine ⟨trivial,?_⟩;gi_at_call 69;refine (CallsIn.inRound l (callsIn_wide.2 HST.out)).mono ?_;rintro e w7 ⟨rfl,hb7⟩;dsimp only);have f1:=Boxed.of_below e1 hb7;have f2:=Kd.S_below e2 hb7;have f3:=Boxed.of_below e3 hb7;have f4:=Boxed.of_below e4 hb7;have f5:=Boxed.of_below e5 hb7;have f6:=ownsMap_below e6 hb7;have f7:Below w.heap.size w w7:=e7.trans (hb7.mono e7.size);have fR:=(hb7.block _ (Array.getElem?_eq_some_iff.1 cR).1).trans cR;have hKp:KpR w.heap.size W w7:=⟨hb7.mono e7.size,KeepT.of_below hb7⟩;have hKf:KeepsFrom W0.heap.size W w7:=keeps_below hb7;have ev:=f1.cell;clear e1 e2 e3 e4 e5 e6 cB cR m0 m1 m2 m3 m4 m5 r0 r1 r2 r3 r4 r5 cst;have HCO:=zzm (copyOf_st HOK.out x);have hmx:Try.prog.follows .mixedOrders=true:=by kernel_rfl
     obtain ⟨mk,hmk⟩:∃ mk:Value→Value→Value→Value→Value→Act,mk=fun u0 u1 u2 u3 u4=>{ tmps:=#[.slice A0 l0.length c0,undef,.slice none 0 0,.pointer (some ⟨w.heap.size+1,0,none⟩),.pointer (some ⟨Bst,0,none⟩),.pointer (some ⟨Bx,0,none⟩),.pointer (some ⟨Bx+1,0,none⟩),.slice (some ⟨w.heap.size,0,none⟩) 0 0,.slice A0 l0.length c0,.bool true,.bool false,undef,.slice A0 l0.length c0,.func (.func 69) #[] #[.pointer (some ⟨Bm,0,none⟩),.pointer (some ⟨Bg,0,none⟩)],.slice A0 l0.length c0,.func (.func 70) #[] #[.pointer (some ⟨Bs,0,none⟩)],encB l0 AB CB x.1,encR l0 AK CK AV CV x.1 x.2,.pointer (some ⟨Bx,1,none⟩),.bool false,.bool true,.bool true,.func (.func 69) #[] #[.pointer (some ⟨Bm,0,none⟩),.pointer (some ⟨Bg,0,none⟩)],.agg #[.bool (Qa l0 (x.1:Int)).f0,.bool false,.int .i64 (Qa l0 (x.1:Int)).f2,.int .i64 (Qa l0 (x.1:Int)).f3,.int .i64 (Qa l0 (x.1:Int)).f4,.slice (AB x.1) (Qa l0 (x.1:Int)).f5.length (CB x.1)],.agg #[.int .i64 (rcOf l0 x).f0,.int .i64 (rcOf l0 x).f1,.bool (rcOf l0 x).f2,.slice (AK x.1 x.2) (rcOf l0 x).f3.length (CK x.1 x.2),.bool (rcOf l0 x).f4,.slice (AV x.1 x.2) (rcOf l0 x).f5.length (CV x.1 x.2)],.bool true,.bool true,u0,u1,u2,u3,u4,undef],defers:=[] }:=⟨_,rfl⟩;refine wpIn_region_any hmx (wpAnyIn_app6 (by kernel_rfl) (fun b s a' W'=>∃ u0 u1 u2 u3 u4,a' = mk u0 u1 u2 u3 u4∧(b=true→u0 = .slice Av (stOut l0 pre).length cv)∧(1≤s→u1 = .agg #[.int .i64 (rcOf l0 x).f0,.int .i64 (rcOf l0 x).f1,.bool (rcOf l0 x).f2,.slice (AK x.1 x.2) (rcOf l0 x).f3.length (CK x.1 x.2),.bool (rcOf l0 x).f4,.slice (AV x.1 x.2) (rcOf l0 x).f5.length (CV x.1 x.2)]) ∧
      (s≤3→Below w7.heap.size w7 W') ∧
      (s=2∨s=3→∃ v3 v5,u2 = .agg #[.int .i64 (rcOf l0 x).f0,.int .i64 (rcOf l0 x).f1,.bool (rcOf l0 x).f2,v3,.bool (rcOf l0 x).f4,v5]∧Kd.R (Kd.int .i64) 3 W' w7.heap.size (fun k_=>some k_≠(v5:Value).ownBlock) v3 (rcOf l0 x).f3∧Kd.R (Kd.int .i64) 3 W' w7.heap.size (fun k_=>some k_≠(v3:Value).ownBlock) v5 (rcOf l0 x).f5 ∧
       (s=3→∃ g,w7.heap.size≤g∧u3 = .slice (some ⟨g,0,none⟩) 1 1∧W'.heap[g]? = some (.cells #[.int .i64 (rcOf l0 x).f0,.int .i64 (rcOf l0 x).f1,.bool (rcOf l0 x).f2,v3,.bool (rcOf l0 x).f4,v5] 30 (0,0)))) ∧
      (4≤s→KeepsFrom W0.heap.size w7 W'∧KpR w.heap.size w7 W'∧Boxed W' Bst 52 (.func (.func 69) #[] #[.pointer (some ⟨Bm,0,none⟩),.pointer (some ⟨Bg,0,none⟩)])∧Boxed W' Bm 80 (.map (some bm))∧Boxed W' Bg 4 (.bool false)∧W'.ownsMap Try.prog 9 (plainElem Try.prog 3) bm (pts l0).length (lastD l0 (pts l0))∧Below w.heap.size w W'∧Kd.S k30 30 W' w.heap.size (okSt (w.heap.size+1) Bst Bm Bg bm) u4 (stOut l0 (pre ++ [x])) ∧
       (s=4→Boxed W' (w.heap.size+1) 25 (.slice Av (stOut l0 pre).length cv))∧(s=5→Boxed W' (w.heap.size+1) 25 u4)))
      ?hdone ?s0 ?s1 ?s2 ?s3 ?s4 ?s5 ⟨_,_,_,_,_,by rw [hmk],by simp,by simp,fun _=>?hini,by simp,by simp⟩)
     case hini=>exact zzb (Below.refl _ w7) 1
     case hdone=>
      rintro a' W' ⟨u0,u1,u2,u3,u4,rfl,h0,h1,h2,h3,h4⟩;rw [hmk];obtain ⟨k1,k2,k3,k4,k5,k6,k7,k8,-,k9⟩:=h4 (by decide);exact ⟨hKf.trans k1,hKp.t k2,⟨u4,k9 rfl,k8⟩,k3,k4,k5,k6,k7⟩
     case s0=>
      rintro s a' W' hs ⟨u0,u1,u2,u3,u4,rfl,h0,h1,h2,h3,h4⟩;rw [hmk];refine wpOpIn_step rfl (fun K hK=>?_);have HK:=zzm hK;have evn:=((h2 hs).cell (zzn _ _ ev)).trans ev;clear hK;go_simp;exact HK.out _ _ ⟨_,u1,u2,u3,u4,rfl,fun _=>rfl,h1,h2,h3,h4⟩
     case s1=>
      rintro b a' W' ⟨u0,u1,u2,u3,u4,rfl,h0,h1,h2,h3,h4⟩;rw [hmk];refine wpOpIn_step rfl (fun K hK=>?_);have HK:=zzm hK;have hcR:=((h2 (by decide)).block _ (Array.getElem?_eq_some_iff.1 fR).1).trans fR;have q0:W'.cell? ⟨Bx+1,0,none⟩=some (.int .i64 (rcOf l0 x).f0):=by simp [World.cell?,hcR]
      have q1:W'.cell? ⟨Bx+1,1,none⟩=some (.int .i64 (rcOf l0 x).f1):=by simp [World.cell?,hcR]
      have q2:W'.cell? ⟨Bx+1,2,none⟩=some (.bool (rcOf l0 x).f2):=by simp [World.cell?,hcR]
      have q3:W'.cell? ⟨Bx+1,3,none⟩=some (.slice (AK x.1 x.2) (rcOf l0 x).f3.length (CK x.1 x.2)):=by simp [World.cell?,hcR]
      have q4:W'.cell? ⟨Bx+1,4,none⟩=some (.bool (rcOf l0 x).f4):=by simp [World.cell?,hcR]
      have q5:W'.cell? ⟨Bx+1,5,none⟩=some (.slice (AV x.1 x.2) (rcOf l0 x).f5.length (CV x.1 x.2)):=by simp [World.cell?,hcR]
      clear hK fR hcR;go_simp;exact HK.out _ _ ⟨u0,_,u2,u3,u4,rfl,h0,fun _=>rfl,fun _=>h2 (by decide),by simp,by simp⟩
     case s2=>
      rintro b a' W' ⟨u0,u1,u2,u3,u4,rfl,h0,h1,h2,h3,h4⟩;obtain rfl:=h1 (by decide);rw [hmk];refine wpOpIn_step rfl (fun K hK=>?_);have HK:=zzm hK;have hbw:=f7.trans ((h2 (by decide)).mono f7.size);have HKy:=zzm (Kd.C_below (HP.out.key x.1 x.2).2 hbw);have HVy:=zzm (Kd.C_below (HP.out.val x.1 x.2).2 hbw);clear hK fR;go_simp;gi_wp2_with (refine ⟨trivial,?_⟩;gi_at_call 42;refine (CallsIn.inRound l (callsIn_wide.2 (Qz.calls _ _ _ _ _ _ _ _ _ _ _ _ _ _ _ _ _ HKy.out (HP.out.key x.1 x.2).1 HVy.out (HP.out.val x.1 x.2).1 HCO.out))).mono ?_;rintro e w8 ⟨v3,v5,rfl,a0,a1,hb8⟩;dsimp only);exact HK.out _ _ ⟨u0,_,_,u3,u4,rfl,h0,fun _=>rfl,fun _=>zzp (h2 (by decide)) hb8,fun _=>⟨v3,v5,rfl,Kd.R_lower a0 (h2 (by decide)).size,Kd.R_lower a1 (h2 (by decide)).size,by simp⟩,by simp⟩
     case s3=>
      rintro b a' W' ⟨u0,u1,u2,u3,u4,rfl,h0,h1,h2,h3,h4⟩;rw [hmk];obtain ⟨v3,v5,rfl,a0,a1,-⟩:=h3 (.inl rfl);obtain rfl:=h1 (by decide);refine wpOpIn_step rfl (fun K hK=>?_);have HK:=zzm hK;clear hK fR;obtain ⟨A3,c3,rfl⟩:=Kd.R_slice a0;obtain ⟨A5,c5,rfl⟩:=Kd.R_slice a1;go_simp;refine HK.out _ _ ⟨u0,.agg #[.int .i64 (rcOf l0 x).f0,.int .i64 (rcOf l0 x).f1,.bool (rcOf l0 x).f2,.slice (AK x.1 x.2) (rcOf l0 x).f3.length (CK x.1 x.2),.bool (rcOf l0 x).f4,.slice (AV x.1 x.2) (rcOf l0 x).f5.length (CV x.1 x.2)],.agg #[.int .i64 (rcOf l0 x).f0,.int .i64 (rcOf l0 x).f1,.bool (rcOf l0 x).f2,.slice A3 (rcOf l0 x).f3.length c3,.bool (rcOf l0 x).f4,.slice A5 (rcOf l0 x).f5.length c5],.slice (some ⟨W'.heap.size,0,none⟩) 1 1,u4,rfl,h0,fun _=>rfl,fun _=>(h2 (by decide)).alloc (h2 (by decide)).size _,fun _=>⟨_,_,rfl,Kd.R_alloc a0 _,Kd.R_alloc a1 _,fun _=>⟨W'.heap.size,(h2 (by decide)).size,rfl,World.alloc_heap_new W' _⟩⟩,by simp⟩
     case s4=>
      rintro a' W' ⟨u0,u1,u2,u3,u4,rfl,h0,h1,h2,h3,h4⟩;rw [hmk];obtain rfl:=h0 rfl;obtain ⟨v3,v5,rfl,a0,a1,h5⟩:=h3 (.inr rfl);obtain ⟨g,hg,rfl,hgc⟩:=h5 rfl;have hbW:=h2 (by decide);have hlt:=Kd.R_lt (Kd.S_R f2);have hty:=Kd.R_typed (Kd.S_R f2);have hown:=(Kd.S_R f2).1;have b3:=f1.lt;have b4:=f3.lt;have b5:=f4.lt;have b6:=f5.lt;have b7:=f6.lt;have hlen:=stOut_len l0 pre;have hplt:=okLog_len HOK.out;refine wpOpIn_step rfl (fun K hK=>?_);rw [if_pos (by rfl)];refine S_append_in k30 w.heap.size (.tmp 27) (.tmp 30) 25 30 (.agg #[(.int .i64 0),(.int .i64 0),(.bool false),(.slice none 0 0),(.bool false),(.slice none 0 0)]) 80 rfl Try.underlying25 info30 rfl (by decide) (by omega) _ _ (rcOf l0 x) _ (okSt (w.heap.size+1) Bst Bm Bg bm) (fun k_=>w7.heap.size≤k_) rfl ⟨g,0,none⟩ 1 rfl (by simpa using World.news_of_block hgc)
       (k30_mkM W' w.heap.size _ (rcOf l0 x) (Kd.R_mono (Kd.R_lower (Kd.R_bound a0) f7.size) (fun _ hk=>hk.2.1)) (Kd.R_mono (Kd.R_lower (Kd.R_bound a1) f7.size) (fun _ hk=>hk.2.1)))
       (fun k hk=>⟨by simp only [okSt];omega,fun e=>by have:=hlt k e.symm;omega⟩) (fun k hk=>by have:=hbW.size;simp only [okSt];omega)
       (Kd.S_mono (Kd.S_below (Kd.S_bound f2) hbW) (fun k hk=>⟨hk.1,by omega⟩)) (Nat.le_trans f7.size hbW.size) (by omega) ?_
      intro v1 w1 hS1 hg1 hat;have hrow:∀ k,(Value.slice Av (stOut l0 pre).length cv).ownBlock=some k→∃ cs,W'.heap[k]? = some (.cells cs 30 (0,0)):=fun k hk=>by
       obtain ⟨cs,hc⟩:=hty k hk;exact ⟨cs,(hbW.block k (hlt k hk)).trans hc⟩
      have hbe:∀ {b:Nat} {t:TypeId} {u:Value},Boxed w7 b t u→(∀ k,(okSt (w.heap.size+1) Bst Bm Bg bm) k→k≠b)→Boxed w1 b t u:=fun h hne=>(show Boxed W' _ _ _ from (hbW.block _ h.lt).trans h).kept hg1 (fun e=>hne _ (hown _ e.symm) rfl);have hB1:Below w.heap.size w7 w1:=(hbW.mono f7.size).grown hg1 (Nat.le_trans f7.size hbW.size) (fun k e=>Kd.R_base (Kd.S_R f2) k e);refine hK _ _ ⟨_,_,_,_,_,rfl,fun _=>rfl,fun _=>h1 (by decide),by simp,by simp,fun _=>⟨(keeps_below hbW).trans (keeps_row hg1 hrow),⟨hB1,(KeepT.of_below hbW).trans (KeepT.of_grownBy hg1 (fun k e cs f hc=>?_))⟩,hbe f3 (fun k hk=>hk.2.1),hbe f4 (fun k hk=>hk.2.2.1),hbe f5 (fun k hk=>hk.2.2.2.1),(ownsMap_below f6 hbW).kept hg1 (fun e=>(hown _ e.symm).2.2.2.2 rfl),f7.trans hB1,by rw [hk];exact hS1,fun _=>hbe f1 (fun k hk=>hk.1),by simp⟩⟩;obtain ⟨cs',hc'⟩:=hrow k e;rw [hc'] at hc;cases hc
     case s5=>
      rintro a' W' ⟨u0,u1,u2,u3,u4,rfl,h0,h1,h2,h3,h4⟩;rw [hmk];obtain ⟨k1,k2,k3,k4,k5,k6,k7,k8,k9,-⟩:=h4 (by decide);obtain rfl:=h0 rfl;obtain rfl:=h1 (by decide);have hbo:=k9 rfl;have cbo:=hbo.cell;have fbo:=hbo.frozen;rw [hk] at k8;obtain ⟨A1,c1,he1⟩:=Kd.S_slice k8;rw [List.length_append,List.length_singleton] at he1;subst he1;refine wpOpIn_step rfl (fun K hK=>?_);have HK:=zzm hK;clear hK fR;go_simp;refine HK.out _ _ ⟨_,_,u2,u3,_,rfl,fun _=>rfl,fun _=>rfl,by simp,by simp,fun _=>⟨k1.trans ((KeepsOthers.setCell _ _ _).from _),⟨k2.1.setCell (p:=⟨w.heap.size+1,0,none⟩) (by simp) _,k2.2.trans (KeepT.setCell (p:=⟨w.heap.size+1,0,none⟩) hbo (by decide) _)⟩,k3.other (by omega) _,k4.other (by omega) _,k5.other (by omega) _,k6.setCell (a:=⟨w.heap.size+1,0,none⟩) (by show bm≠w.heap.size+1;omega) _,k7.setCell (p:=⟨w.heap.size+1,0,none⟩) (by simp) _,(by rw [hk];exact Kd.S_far (p:=⟨w.heap.size+1,0,none⟩) k8 (fun k hk=>hk.1) _),by simp,fun _=>hbo.set _⟩⟩
  case done=>
   rintro D ys W hD rfl ⟨⟨v,e1,e2⟩,e3,e4,e5,e6,e7⟩ hK;have ev:=e1.cell;gi_wp2;refine ⟨by simp,.inl ⟨_,_,rfl,run_takeDeferred hK,?_⟩⟩;have hB2:Below w.heap.size w (W.putObj D (.deferred none)):=e7.trans (belowK_b (w:=w) (Nat.le_refl _) W D _ _ (by omega) hK rfl rfl);have hS2:=S_own e2 (grownBy_putObj' W D (.deferred none)) (fun r e=>by cases e;exact ⟨_,hK,rfl⟩);refine ⟨_,results_tmp rfl _ _ _,v,rfl,?_,hB2⟩;rw [HRR.out];exact Kd.S_mono hS2 (fun _ _=>trivial)
  case stop=>
   rintro D c pre W hD hp h hK;exact h.elim
end
section
open Go.Shelf
theorem rd_at_R {l:List S30} {j:Nat} (h:j < l.length):Qb l (j:Int)=l[j]:=by unfold Qb;rw [Int.toNat_natCast,List.getD_eq_getElem?_getD,List.getElem?_eq_getElem h];rfl
theorem rd_at_B {l:List S34} {j:Nat} (h:j < l.length):Qa l (j:Int)=l[j]:=by unfold Qa;rw [Int.toNat_natCast,List.getD_eq_getElem?_getD,List.getElem?_eq_getElem h];rfl
theorem copyRecs_fuel (l:List S30) (hl:l.length≤1000000) (hx:∀ r∈l,r.f3.length≤1000∧r.f5.length≤1000):∀ (d i:Nat),l.length - i=d→i≤l.length→Qs.l0 (d+1) (l.take i) l (l.length:Int) (i:Int)=some l
 | 0,i,hd,hi=>by
  obtain rfl:i=l.length:=by omega
  unfold Qs.l0
  rw [if_neg (by omega),List.take_length]
 | d+1,i,hd,hi=>by
  have ih:=copyRecs_fuel l hl hx d (i+1) (by omega) (by omega)
  have hil:i < l.length:=by omega
  have h2:=hx _ (List.getElem_mem hil)
  have e1:wrap64 ((i:Int)+1)=((i+1:Nat):Int):=by unfold wrap64;omega
  have e2:Qz.f (Qb l (i:Int)).f0 (Qb l (i:Int)).f1 (Qb l (i:Int)).f2 (Qb l (i:Int)).f3 (Qb l (i:Int)).f4 (Qb l (i:Int)).f5=some (l[i].f0,l[i].f1,l[i].f2,l[i].f3,l[i].f4,l[i].f5):=by
   rw [rd_at_R hil];unfold Qz.f slices_Clone_int_int.f;rw [if_pos (by omega),if_pos (by omega)];rfl
  have e3:l.take i ++ [(⟨l[i].f0,l[i].f1,l[i].f2,l[i].f3,l[i].f4,l[i].f5⟩:S30)]=l.take (i+1):=by rw [List.take_succ_eq_append_getElem hil]
  unfold Qs.l0;rw [if_pos (by omega),if_pos (by omega),if_pos (by omega),e2,Option.bind_some];dsimp only;rw [if_pos (by rw [length_take];omega),e3,e1];exact ih
theorem ptsRow_le {l:List S34} {i:Nat} (hi:i < l.length):(Qa l (i:Int)).f5.length≤(pts l).length:=by
 have:=(ptsAt_prefix hi (Nat.le_refl _)).length_le;unfold ptsAt at this;rw [List.length_append,List.length_map,List.length_range] at this;omega
theorem copyB_at {l:List S34} (h:okLog l=true) {i:Nat} (hi:i < l.length):∃ k,Rt.f k (Qa l (i:Int)).f0 (Qa l (i:Int)).f1 (Qa l (i:Int)).f2 (Qa l (i:Int)).f3 (Qa l (i:Int)).f4 (Qa l (i:Int)).f5=some ((Qa l (i:Int)).f0,(Qa l (i:Int)).f1,(Qa l (i:Int)).f2,(Qa l (i:Int)).f3,(Qa l (i:Int)).f4,(Qa l (i:Int)).f5):=by
 have h1:=okLog_len h;have h2:=ptsRow_le hi;have hc:=copyRecs_fuel (Qa l (i:Int)).f5 (by omega) (fun r hr=>by
  obtain ⟨j,hj,rfl⟩:=List.getElem_of_mem hr;have:=okLog_at h (i,j);unfold rcOf at this;dsimp only at this;rw [rd_at_R hj] at this;exact ⟨this.2.1,this.2.2.1⟩) (Qa l (i:Int)).f5.length 0 (by omega) (by omega)
 refine ⟨(Qa l (i:Int)).f5.length+1,?_⟩;unfold Rt.f Qs.f;rw [if_pos (by omega),if_pos (by omega)];rw [List.take_zero] at hc;rw [show ((0:Nat):Int)=0 from rfl] at hc;rw [hc];rfl
theorem S_of_nil {α:Type} {d:Kd α} {e base:Nat} {w:World} {ok:Nat→Prop} {v:Value} (h:Kd.R d e w base ok v []):Kd.S d e w base ok v []:=by
 obtain ⟨h0,inner,ho,hr⟩:=h;exact ⟨fun _=>0,h0,inner,ho,hr.1,fun j p hp=>by simp at hp⟩
set_option maxHeartbeats 4000000 in
theorem copyBatchesS_calls (A0:Option Addr) (c0:Nat) (l0:List (S34)) (w:World) (a0:Kd.C k34 w A0 l0.length l0) (a1:l0.length≤c0) (hlen:l0.length≤1000000) (hok:okLog l0=true) :
  Calls Try.prog 49 #[.slice A0 l0.length c0] w fun e w'=>∃ v,e = .returned v∧Kd.S k34 34 w' w.heap.size (fun _=>True) v l0∧Below w.heap.size w w':=by
 have a5:=zzm a0;have b7:=zzm a1;have HOK:=zzm hok;have HL:=zzm hlen;have hm0:l0.length≤9223372036854775807:=a0.2.1;clear a0 a1 hok hlen;have hu:=Try.underlying34;go_enter Try.func49,Try.ntmps49;go_wp2_with (first|((with_reducible refine gate_dst (N:=8) rfl ?_);refine rmake0_R k34 _ 34 rfl (N:=8) rfl 23 _ _ rfl (l0.length:Int) rfl rfl Try.underlying23 (.agg #[(.bool false),(.bool false),(.int .i64 0),(.int .i64 0),(.int .i64 0),(.slice none 0 0)]) 56 info34 (by decide) (by omega) (ok:=fun _=>True) trivial (by omega) (by have:=HL.out;omega) (Below.refl _ _) (Nat.le_refl _) ?_;intro b6 w4 ho5 hb hg_ hnew_;clear hg_ hnew_;have a2:=zzm ho5;have HB5:=zzm hb;clear ho5 hb));go_loopw [3,11] (fun v3 i w'=>∃ m:Nat,m≤l0.length∧i = .int .i64 m∧Kd.S k34 34 w' w.heap.size (fun _=>True) v3 (l0.take m)∧Below w.heap.size w w') (fun _ i _=>l0.length - (intOf i).toNat)
 case atStart=>exact ⟨0,Nat.zero_le _,by go_num,by rw [List.take_zero];exact S_of_nil a2.out,HB5.out⟩
 case round=>
  obtain ⟨m,hm,rfl,hS,hB⟩:=hrel;have HB:=zzm hB;have HS:=zzm hS;clear hB hS a2 HB5;have hll:=HL.out;by_cases hlt:m < l0.length
  ·
   obtain ⟨kk,hkk⟩:=copyB_at HOK.out hlt;have HKK:=zzm hkk;clear hkk;obtain ⟨ad,A5,c5,he,a6,a7,a8,a9,b0,b1,a3,a4⟩:=Qx (Kd.C_below a5.out HB.out) (m:Int) (by omega) (by omega);subst he;simp only [Int.toNat_natCast] at a6 a7 a8 a9 b0 b1;have b2:=zzm a4;have b3:=zzm a3;clear a4 a3;have htk:l0.take m ++ [Qa l0 (m:Int)]=l0.take (m+1):=by rw [rd_at_B hlt,List.take_succ_eq_append_getElem hlt]
   have hlm:(l0.take m).length=m:=by rw [length_take];omega
   go_wp2_with (first|(go_at_call 74;refine (Rt.calls kk _ _ _ _ _ _ _ (Qa l0 (m:Int)).f5 _ _ _ _ _ _ _ (Kd.C_alloc b2.out _) b3.out HKK.out).mono ?_;rintro e w2 ⟨v5,rfl,ho5,hb2⟩;obtain ⟨A6,c6,b4⟩:=Kd.S_slice ho5;subst b4;have b5:=zzm ho5;have HB2:=zzm hb2;clear ho5 hb2)|(at_builtin;refine Kd.S_append k34 (w0:=w) w.heap.size rfl (.tmp 15) (.tmp 18) 23 34 (.agg #[(.bool false),(.bool false),(.int .i64 0),(.int .i64 0),(.int .i64 0),(.slice none 0 0)]) 56 rfl Try.underlying23 info34 rfl (by decide) (by omega) _ (l0.take m) (Qa l0 (m:Int)) [.bool (Qa l0 (m:Int)).f0,.bool (Qa l0 (m:Int)).f1,.int .i64 (Qa l0 (m:Int)).f2,.int .i64 (Qa l0 (m:Int)).f3,.int .i64 (Qa l0 (m:Int)).f4,.slice A6 (Qa l0 (m:Int)).f5.length c6] (fun _=>True) (fun k=>wr.heap.size < k) rfl rfl ?aP ?aK (fun _ _=>trivial) ?aO ?aB ?aS ?aL ?_;(case aP=>exact k34_mkM w2 w.heap.size _ (Qa l0 (m:Int)) (Kd.R_mono (Kd.R_lower (Kd.R_bound (Kd.S_R b5.out)) (by have:=HB.out.size;simp;omega)) (fun k hk=>by have:=hk.2.1;simp at this;omega)));(case aK=>exact fun k hk=>⟨trivial,fun e=>by have:=Kd.R_lt (Kd.S_R HS.out) k e.symm;omega⟩);(case aO=>exact Kd.S_mono (Kd.S_below (Kd.S_bound HS.out) (((Below.refl _ wr).alloc (Nat.le_refl _) _).trans (HB2.out.mono (by simp)))) (fun k hk=>⟨trivial,by omega⟩));(case aB=>exact HB.out.trans ((((Below.refl _ wr).alloc (Nat.le_refl _) _).trans (HB2.out.mono (by simp))).mono HB.out.size));(case aS=>have h1:=HB.out.size;have h2:=HB2.out.size;simp at h2;omega);(case aL=>rw [hlm];omega);intro v1 w1 hS1 hb1 hg1 hat;rw [htk] at hS1;have HS1:=zzm hS1;have HB1:=zzm hb1;clear hS1 hb1 hg1 hat));go_roundw
   case rel=>exact ⟨m+1,by omega,by go_num,HS1.out,HB1.out⟩
   case measure=>simp [intOf] <;> omega
  ·
   obtain rfl:m=l0.length:=by omega
   go_wp2;go_ret;refine ⟨_,rfl,?_,HB.out⟩;have h:=HS.out;rw [List.take_length] at h;exact h
end
section
open Go.Shelf
def firstAt {α:Type} (p : α→Bool) (xs:List α):Int:=match xs.findIdx? p with
 | none=>-1
 | some i=>(i:Int)
theorem firstAt_hit {α:Type} (p : α→Bool) (xs:List α) (m:Nat) (hm:m < xs.length) (h:∀ j x,j < m→xs[j]? = some x→p x=false) (hp:p xs[m]=true):firstAt p xs=(m:Int):=by
 unfold firstAt;have:xs.findIdx? p=some m:=by
  rw [List.findIdx?_eq_some_iff_getElem];exact ⟨hm,hp,fun j hj=>by have:=h j xs[j] hj (List.getElem?_eq_getElem (by omega));simp [this]⟩
 rw [this]
theorem firstAt_miss {α:Type} (p : α→Bool) (xs:List α) (h:∀ x∈xs,p x=false):firstAt p xs = -1:=by
 unfold firstAt;have:xs.findIdx? p=none:=by rw [List.findIdx?_eq_none_iff];exact fun x hx=>by simp [h x hx]
 rw [this]
set_option maxHeartbeats 4000000 in
theorem index30_calls (cl:Nat) (lb:Array Value) (eg:∀ args w,(callFunc cl args).run Try.prog w = .ok (.enter cl args) w) (p:S30→Bool) (Okw:World→Prop) (hok1:∀ W W',Okw W→Below W.heap.size W W'→Okw W') (A:Option Addr) (c:Nat) (xs:List S30) (w:World)
  (PR:∀ (W:World) (x:S30) (cs:Array Value),Okw W→x∈xs→k30.K W x cs.toList→Calls Try.prog cl (#[.agg cs]++lb) W fun e w'=>e = .returned (.bool (p x))∧Below W.heap.size W w') (hC:Kd.C k30 w A xs.length xs) (hw:Okw w) :
  Calls Try.prog 75 #[.slice A xs.length c,.func (.func cl) #[] lb] w fun e w'=>e = .returned (.int .i64 (firstAt p xs))∧Below w.heap.size w w':=by
 have HC:=zzm hC;have HW:=zzm hw;have HPR:=zzm PR;have HO:=zzm hok1;have hm0:xs.length≤9223372036854775807:=hC.2.1;have hu:=Try.underlying30;clear hC hw PR hok1;go_enter Try.func75,Try.ntmps75;go_wp2;go_loopg [5,8] xs.length (fun gg _ s8 wr=>∃ m:Nat,m≤xs.length∧xs.length - m≤gg∧s8 = .int .i64 m∧Below w.heap.size w wr∧Aside0 (∀ j x,j < m→xs[j]? = some x→p x=false))
 case atStart=>exact ⟨0,Nat.zero_le _,by omega,rfl,Below.refl _ _,⟨fun j x hj=>absurd hj (Nat.not_lt_zero _)⟩⟩
 case round=>
  obtain ⟨m,hm,hgg,rfl,hB,HF⟩:=hrel;have HB:=zzm hB;clear hB;by_cases hlt:m < xs.length
  ·
   have hltz:(m:Int) < (xs.length:Int):=by omega
   obtain ⟨ad,A3,c3,A5,c5,he,a4,a5,a6,a7,a8,a9,a0,a1,a2,a3⟩:=Ra (Kd.C_below HC.out HB.out) (m:Int) (by omega) (by omega);subst he;simp only [Int.toNat_natCast] at a4 a5 a6 a7 a8 a9;have hrd:Qb xs (m:Int)=xs[m]:=rd_at_R hlt;have hcall:=HPR.out wr (Qb xs (m:Int)) #[.int .i64 (Qb xs (m:Int)).f0,.int .i64 (Qb xs (m:Int)).f1,.bool (Qb xs (m:Int)).f2,.slice A3 (Qb xs (m:Int)).f3.length c3,.bool (Qb xs (m:Int)).f4,.slice A5 (Qb xs (m:Int)).f5.length c5] (HO.out w wr HW.out HB.out) (by rw [hrd];exact List.getElem_mem hlt) (k30_mk _ _ a0 a1 a2 a3);have HRD:=zzm hrd;clear hrd a0 a1 a2 a3;cases hq:p (Qb xs (m:Int)) with
   | true=>
    rw [hq] at hcall;have HQ:=zzm hq;clear hq;go_wp2_with (go_at_fn cl;refine hcall.mono ?_;rintro e w' ⟨rfl,hb2⟩;have HB2:=zzm hb2;clear hb2);go_ret;refine ⟨?_,HB.out.trans (HB2.out.mono HB.out.size)⟩;rw [firstAt_hit p xs m hlt HF.out (by rw [← HRD.out];exact HQ.out)];rfl
   | false=>
    rw [hq] at hcall;have HQ:=zzm hq;clear hq;go_wp2_with (go_at_fn cl;refine hcall.mono ?_;rintro e w' ⟨rfl,hb2⟩;have HB2:=zzm hb2;clear hb2);go_roundg (xs.length - (m+1))
    case measure=>omega
    case rel=>
     refine ⟨m+1,by omega,Nat.le_refl _,by go_num,HB.out.trans (HB2.out.mono HB.out.size),⟨fun j x hj hx=>?_⟩⟩;by_cases e:j=m
     ·
      subst e;rw [List.getElem?_eq_getElem hlt] at hx;rw [← Option.some.inj hx,← HRD.out];exact HQ.out
     ·
      exact HF.out j x (by omega) hx
  ·
   have hltz:¬ (m:Int) < (xs.length:Int):=by omega
   go_wp2;go_ret;refine ⟨?_,HB.out⟩;rw [firstAt_miss p xs (fun x hx=>by obtain ⟨j,hj,rfl⟩:=List.getElem_of_mem hx;exact HF.out j _ (by omega) (List.getElem?_eq_getElem hj))];rfl
set_option maxHeartbeats 4000000 in
theorem index34_calls (cl:Nat) (lb:Array Value) (eg:∀ args w,(callFunc cl args).run Try.prog w = .ok (.enter cl args) w) (p:S34→Bool) (Okw:World→Prop) (hok1:∀ W W',Okw W→Below W.heap.size W W'→Okw W') (A:Option Addr) (c:Nat) (xs:List S34) (w:World)
  (PR:∀ (W:World) (x:S34) (cs:Array Value),Okw W→x∈xs→k34.K W x cs.toList→Calls Try.prog cl (#[.agg cs]++lb) W fun e w'=>e = .returned (.bool (p x))∧Below W.heap.size W w') (hC:Kd.C k34 w A xs.length xs) (hw:Okw w) :
  Calls Try.prog 76 #[.slice A xs.length c,.func (.func cl) #[] lb] w fun e w'=>e = .returned (.int .i64 (firstAt p xs))∧Below w.heap.size w w':=by
 have HC:=zzm hC;have HW:=zzm hw;have HPR:=zzm PR;have HO:=zzm hok1;have hm0:xs.length≤9223372036854775807:=hC.2.1;have hu:=Try.underlying34;clear hC hw PR hok1;go_enter Try.func76,Try.ntmps76;go_wp2;go_loopg [5,8] xs.length (fun gg _ s8 wr=>∃ m:Nat,m≤xs.length∧xs.length - m≤gg∧s8 = .int .i64 m∧Below w.heap.size w wr∧Aside0 (∀ j x,j < m→xs[j]? = some x→p x=false))
 case atStart=>exact ⟨0,Nat.zero_le _,by omega,rfl,Below.refl _ _,⟨fun j x hj=>absurd hj (Nat.not_lt_zero _)⟩⟩
 case round=>
  obtain ⟨m,hm,hgg,rfl,hB,HF⟩:=hrel;have HB:=zzm hB;clear hB;by_cases hlt:m < xs.length
  ·
   have hltz:(m:Int) < (xs.length:Int):=by omega
   obtain ⟨ad,A5,c5,he,a2,a3,a4,a5,a6,a7,a0,a1⟩:=Qx (Kd.C_below HC.out HB.out) (m:Int) (by omega) (by omega);subst he;simp only [Int.toNat_natCast] at a2 a3 a4 a5 a6 a7;have hrd:Qa xs (m:Int)=xs[m]:=rd_at_B hlt;have hcall:=HPR.out wr (Qa xs (m:Int)) #[.bool (Qa xs (m:Int)).f0,.bool (Qa xs (m:Int)).f1,.int .i64 (Qa xs (m:Int)).f2,.int .i64 (Qa xs (m:Int)).f3,.int .i64 (Qa xs (m:Int)).f4,.slice A5 (Qa xs (m:Int)).f5.length c5] (HO.out w wr HW.out HB.out) (by rw [hrd];exact List.getElem_mem hlt) (k34_mk _ _ a0 a1);have HRD:=zzm hrd;clear hrd a0 a1;cases hq:p (Qa xs (m:Int)) with
   | true=>
    rw [hq] at hcall;have HQ:=zzm hq;clear hq;go_wp2_with (go_at_fn cl;refine hcall.mono ?_;rintro e w' ⟨rfl,hb2⟩;have HB2:=zzm hb2;clear hb2);go_ret;refine ⟨?_,HB.out.trans (HB2.out.mono HB.out.size)⟩;rw [firstAt_hit p xs m hlt HF.out (by rw [← HRD.out];exact HQ.out)];rfl
   | false=>
    rw [hq] at hcall;have HQ:=zzm hq;clear hq;go_wp2_with (go_at_fn cl;refine hcall.mono ?_;rintro e w' ⟨rfl,hb2⟩;have HB2:=zzm hb2;clear hb2);go_roundg (xs.length - (m+1))
    case measure=>omega
    case rel=>
     refine ⟨m+1,by omega,Nat.le_refl _,by go_num,HB.out.trans (HB2.out.mono HB.out.size),⟨fun j x hj hx=>?_⟩⟩;by_cases e:j=m
     ·
      subst e;rw [List.getElem?_eq_getElem hlt] at hx;rw [← Option.some.inj hx,← HRD.out];exact HQ.out
     ·
      exact HF.out j x (by omega) hx
  ·
   have hltz:¬ (m:Int) < (xs.length:Int):=by omega
   go_wp2;go_ret;refine ⟨?_,HB.out⟩;rw [firstAt_miss p xs (fun x hx=>by obtain ⟨j,hj,rfl⟩:=List.getElem_of_mem hx;exact HF.out j _ (by omega) (List.getElem?_eq_getElem hj))];rfl
end
section
open Go.Shelf
theorem run_clear_rows {P:Program} (w:World) (t e ty:TypeId) (z:Value) (ht:P.underlying t=some (.slice e)) (hv:∀ w,(zeroValue e).run P w = .ok z w) (b o n c:Nat) (hn : 0 < n) (zs:List Value) (hz:(Builtin.zeroCells z.cells n).toList=zs)
  (hc:∀ j,j < zs.length→(w.cell? ⟨b,o+j,none⟩).isSome=true) (hf:∀ j,j < zs.length→w.frozen? ⟨b,o+j,none⟩=false) (h1:∀ v∈zs,v.oneCell' = true) :
  (Builtin.clear_ #[t] ty #[.slice (some ⟨b,o,none⟩) n c]).run P w = .ok (.tuple #[]) (w.setCells b o zs):=by
 have hst:=run_storeCells_cells (P:=P) b o zs 0 w (by simpa using hc) (by simpa using hf) h1;simp only [Nat.add_zero] at hst;obtain ⟨m,rfl⟩:∃ m,n=m+1:=⟨n - 1,by omega⟩;simp [Builtin.clear_,run_underlying ht,hv,hz,hst]
def Gr (g:Nat) (W W' : World):Prop:=W.heap.size≤W'.heap.size∧Below g W W'∧∀ k,k < W.heap.size→k≠g→W'.heap[k]? = W.heap[k]?
theorem Gr.trans {g:Nat} {X Y Z:World} (h:Gr g X Y) (k:Gr g Y Z):Gr g X Z:=⟨Nat.le_trans h.1 k.1,h.2.1.trans k.2.1,fun i hi hn=>(k.2.2 i (Nat.lt_of_lt_of_le hi h.1) hn).trans (h.2.2 i hi hn)⟩
theorem Gr.of_below {g:Nat} {W W' : World} (hg:g≤W.heap.size) (h:Below W.heap.size W W'):Gr g W W':=⟨h.size,h.mono hg,fun k hk _=>h.block k hk⟩
theorem Gr.of_grown {g:Nat} {W W' : World} (hg:g≤W.heap.size) (h:W.grownBy W' (some g)):Gr g W W':=⟨h.size,(Below.refl g W).grown h hg (fun k e=>by cases e;exact Nat.le_refl _),fun k hk hn=>h.block k hk (fun e=>hn (Option.some.inj e))⟩
theorem firstAt_spec {α:Type} (p : α→Bool) (xs:List α):(firstAt p xs = -1∧∀ x∈xs,p x=false)∨∃ k,∃ h:k < xs.length,firstAt p xs=(k:Int)∧p xs[k]=true∧∀ j x,j < k→xs[j]? = some x→p x=false:=by
 unfold firstAt;cases h:xs.findIdx? p with
 | none=>exact .inl ⟨rfl,by rw [List.findIdx?_eq_none_iff] at h;exact h⟩
 | some k=>
  rw [List.findIdx?_eq_some_iff_getElem] at h;obtain ⟨hk,hp,hb⟩:=h;refine .inr ⟨k,hk,rfl,hp,fun j x hj hx=>?_⟩;have:=hb j hj;rw [List.getElem?_eq_getElem (by omega)] at hx;rw [← Option.some.inj hx];simpa using this
theorem drop_getD {α:Type} {ys xs:List α} {j:Nat} {z : α} (h:ys.drop j=xs.drop j) (hj:j < xs.length):ys.getD j z=xs[j]:=by
 have h1:(ys.drop j)[0]? = (xs.drop j)[0]?:=by rw [h]
 rw [List.getElem?_drop,List.getElem?_drop,Nat.add_zero,List.getElem?_eq_getElem hj] at h1;rw [List.getD_eq_getElem?_getD,h1];rfl
theorem R_block {α:Type} {d:Kd α} {e:Nat} {W:World} {base g n cap:Nat} {ok:Nat→Prop} {xs:List α} (h:Kd.R d e W base ok (.slice (some ⟨g,0,none⟩) n cap) xs):∃ cur,base≤g∧W.heap[g]? = some (.cells cur e (0,0))∧n≤cap∧cap≤maxLen∧cur.size=cap * d.sz:=by
 obtain ⟨h0,inner,⟨hil,ho⟩,hr⟩:=h;rcases ho with ⟨hv,_⟩|⟨g',cap',cur,hv,hb,hh,h1,h2,h3,h4⟩
 ·
  cases hv
 ·
  injection hv with e1 e2 e3;injection e1 with e1;injection e1 with e1;subst e1 e3;exact ⟨cur,hb,hh,by omega,h2,h3⟩
theorem cell_some {W:World} {g e o:Nat} {cur:Array Value} (h:W.heap[g]? = some (.cells cur e (0,0))) (ho:o < cur.size):(W.cell? ⟨g,o,none⟩).isSome=true:=by
 simp [World.cell?,h,ho]
theorem zeroCells_one {z:Array Value} (n:Nat) (h:∀ u∈z,u.oneCell' = true):∀ v∈(Builtin.zeroCells z n).toList,v.oneCell' = true:=by
 intro v hv;unfold Builtin.zeroCells at hv;rw [Array.toList_map] at hv;obtain ⟨i,hi,rfl⟩:=List.mem_map.1 hv;have hi2:i < n * z.size:=by simpa using hi
 have hz : 0 < z.size:=by
  rcases Nat.eq_zero_or_pos z.size with h0|h0
  ·
   rw [h0] at hi2;omega
  ·
   exact h0
 have hm:=Nat.mod_lt i hz;rw [getElem!_pos z (i % z.size) hm];exact h _ (Array.getElem_mem hm)
theorem R_cut {α:Type} {d:Kd α} {e:Nat} {W:World} {base g n cap:Nat} {ok:Nat→Prop} {xs:List α} (h:Kd.R d e W base ok (.slice (some ⟨g,0,none⟩) n cap) xs) (m:Nat) (hm:m≤xs.length) (zs:List Value) (hz:m * d.sz+zs.length≤cap * d.sz) :
  Kd.R d e (W.setCells g (m * d.sz) zs) base ok (.slice (some ⟨g,0,none⟩) m cap) (xs.take m)∧W.grownBy (W.setCells g (m * d.sz) zs) (some g):=by
 obtain ⟨h0,inner,⟨hil,ho⟩,hr⟩:=h;have hgo:∀ {n' : Nat},(Value.slice (some ⟨g,0,none⟩) n' cap).ownBlock=some g:=fun {n'}=>by simp [Value.ownBlock]
 rcases ho with ⟨hv,_⟩|⟨g',cap',cur,hv,hb,hh,h1,h2,h3,h4⟩
 ·
  cases hv
 ·
  injection hv with e1 e2 e3;injection e1 with e1;injection e1 with e1;subst e1 e3;obtain ⟨cur',c1,c2,c3⟩:=setCells_row zs (m * d.sz) W cur hh (by rw [h3];exact hz);have hms:m * d.sz≤xs.length * d.sz:=Nat.mul_le_mul_right _ hm;have hml:(xs.take m).length=m:=by rw [length_take];omega
  obtain ⟨s1,s2,s3,s4⟩:=setCells_same g zs (m * d.sz) W;refine ⟨⟨fun k hk=>h0 k (by rw [hgo] at hk ⊢;exact hk),inner.take (m * d.sz),⟨by rw [hml,length_take,hil];omega,.inr ⟨g,cap,cur',by rw [hml],hb,c1,by rw [hml];omega,h2,c2.trans h3,?_⟩⟩,by rw [hml,length_take,hil];omega,fun j p hj=>?_⟩,⟨s1,s2,s3,Nat.le_of_eq s4.symm,fun k _ hk=>setCells_far zs _ k (fun e=>hk (by rw [e]))⟩⟩
  ·
   rw [hml,c3,List.append_assoc,List.take_append_of_le_length (by rw [length_take,Array.length_toList,h3];omega),List.take_take,Nat.min_self,← h4,List.take_take];congr 1;omega
  ·
   have hjm:j < m:=by have:=(List.getElem?_eq_some_iff.1 hj).1;omega
   rw [List.getElem?_take,if_pos hjm] at hj;have hM:=hr.2 j p hj;have hjs:j * d.sz+d.sz≤m * d.sz:=by rw [← Nat.succ_mul];exact Nat.mul_le_mul_right _ hjm
   rw [List.drop_take,List.take_take,Nat.min_eq_left (by omega)];refine d.M_move (fun k hk=>setCells_far zs _ k (fun e=>hk.2 (by rw [e,hgo]))) (d.M_mono (fun k hk=>⟨hk.1,by rw [hgo] at hk ⊢;exact hk.2⟩) hM)
theorem below_box {W w' : World} {o:Obj} (h:Below (W.alloc o).heap.size (W.alloc o) w'):Below W.heap.size W w':=((Below.refl _ W).alloc (Nat.le_refl _) _).trans (h.mono (by simp))
def KeptIn {α:Type} (p : α→Bool) (xs ys:List α) (i j:Nat):Prop:=ys.length=xs.length∧ys.take i=(xs.take j).filter (fun x=>!p x)∧ys.drop j=xs.drop j∧((xs.take j).filter (fun x=>!p x)).length=i
theorem KeptIn.skip {α:Type} {p : α→Bool} {xs ys:List α} {i j:Nat} (h:KeptIn p xs ys i j) (hj:j < xs.length) (hp:p xs[j]=true):KeptIn p xs ys i (j+1):=by
 obtain ⟨h1,h2,h3,h4⟩:=h;have e:(xs.take (j+1)).filter (fun x=>!p x)=(xs.take j).filter (fun x=>!p x):=by
  rw [List.take_succ_eq_append_getElem hj,List.filter_append];simp [hp]
 refine ⟨h1,by rw [e];exact h2,?_,by rw [e];exact h4⟩;rw [← List.drop_drop,← List.drop_drop,h3]
theorem KeptIn.keep {α:Type} {p : α→Bool} {xs ys:List α} {i j:Nat} (h:KeptIn p xs ys i j) (hij:i < j) (hj:j < xs.length) (hp:p xs[j]=false):KeptIn p xs (ys.set i xs[j]) (i+1) (j+1):=by
 obtain ⟨h1,h2,h3,h4⟩:=h;have e:(xs.take (j+1)).filter (fun x=>!p x)=(xs.take j).filter (fun x=>!p x) ++ [xs[j]]:=by
  rw [List.take_succ_eq_append_getElem hj,List.filter_append];simp [hp]
 refine ⟨by rw [List.length_set];exact h1,?_,?_,by rw [e,List.length_append,h4];rfl⟩
 ·
  rw [e,← h2,List.take_succ_eq_append_getElem (by rw [List.length_set];omega)];rw [List.take_set_of_le (Nat.le_refl _),List.getElem_set_self]
 ·
  rw [List.drop_set_of_lt (by omega),← List.drop_drop,← List.drop_drop,h3]
theorem kept_start {α:Type} (p : α→Bool) (xs:List α) (k:Nat) (hk:k < xs.length) (hb:∀ j x,j < k→xs[j]? = some x→p x=false) (hp:p xs[k]=true):(xs.take (k+1)).filter (fun x=>!p x)=xs.take k:=by
 rw [List.take_succ_eq_append_getElem hk,List.filter_append];have h1:(xs.take k).filter (fun x=>!p x)=xs.take k:=by
  rw [List.filter_eq_self];intro x hx;obtain ⟨j,hj,rfl⟩:=List.getElem_of_mem hx;rw [length_take] at hj;rw [List.getElem_take];simp [hb j _ (by omega) (List.getElem?_eq_getElem (by omega))]
 rw [h1];simp [hp]
set_option maxHeartbeats 4000000 in
theorem delete30_calls (cl:Nat) (lb:Array Value) (eg:∀ args w,(callFunc cl args).run Try.prog w = .ok (.enter cl args) w) (p:S30→Bool) (Okw:World→Prop) (hok1:∀ W W',Okw W→Below W.heap.size W W'→Okw W') (g cap base:Nat) (ok:Nat→Prop) (xs:List S30) (w:World) (hok2:∀ W W',Okw W→W.grownBy W' (some g)→Okw W')
  (PR:∀ (W:World) (x:S30) (cs:Array Value),Okw W→x∈xs→k30.K W x cs.toList→Calls Try.prog cl (#[.agg cs]++lb) W fun e w'=>e = .returned (.bool (p x))∧Below W.heap.size W w') (hR:Kd.R k30 30 w base ok (.slice (some ⟨g,0,none⟩) xs.length cap) xs) (hw:Okw w) :
  Calls Try.prog 50 #[.slice (some ⟨g,0,none⟩) xs.length cap,.func (.func cl) #[] lb] w fun e w'=>e = .returned (.slice (some ⟨g,0,none⟩) (xs.filter fun x=>!p x).length cap)∧Kd.R k30 30 w' base ok (.slice (some ⟨g,0,none⟩) (xs.filter fun x=>!p x).length cap) (xs.filter fun x=>!p x)∧Gr g w w':=by
 obtain ⟨A_,c_,he_,hl_,hC⟩:=Kd.R_reads hR;injection he_ with he1 _ he2;subst he1;subst he2;have hidx:=index30_calls cl lb eg p Okw hok1 (some ⟨g,0,none⟩) cap xs w PR hC hw;have hlg:=Kd.R_lt hR g (by simp [Value.ownBlock]);have hm0:xs.length≤9223372036854775807:=hC.2.1;have hu:=Try.underlying30;have HR:=zzm hR;have HW:=zzm hw;have HPR:=zzm PR;have a0:=zzm hok1;have a1:=zzm hok2;have HLC:=zzm hl_;clear hR hw PR hok1 hok2 hC hl_;rcases firstAt_spec p xs with ⟨e1,hall⟩|⟨k0,hk0,e1,ht,hbef⟩
 ·
  rw [e1] at hidx;have hf:(xs.filter fun x=>!p x)=xs:=by rw [List.filter_eq_self];intro x hx;simp [hall x hx]
  rw [hf];have HI:=zzm hidx;clear hidx;go_enter Try.func50,Try.ntmps50;go_wp2_with (go_at_call 75;refine HI.out.mono ?_;rintro e w' ⟨rfl,hb2⟩;have HB2:=zzm hb2;clear hb2);go_ret;exact ⟨rfl,Kd.R_below HR.out HB2.out,Gr.of_below (Nat.le_of_lt hlg) HB2.out⟩
 ·
  rw [e1] at hidx;have HI:=zzm hidx;have hne1:((k0:Int) == -1)=false:=beq_eq_false_iff_ne.2 (by omega);have HT:=zzm ht;have HBF:=zzm hbef;clear hidx ht hbef e1;go_enter Try.func50,Try.ntmps50;go_wp2_with (go_at_call 75;refine HI.out.mono ?_;rintro e w' ⟨rfl,hb2⟩;have HB2:=zzm hb2;clear hb2);go_loopg [5,6,7] xs.length (fun gg s5 s6 _ wr=>∃ (i j:Nat) (ys:List S30),s5 = .int .i64 i∧s6 = .int .i64 j∧i < j∧j≤xs.length∧xs.length - j≤gg∧Aside0 (KeptIn p xs ys i j)∧Aside0 (Kd.R k30 30 wr base ok (.slice (some ⟨g,0,none⟩) xs.length cap) ys)∧Aside0 (Gr g w wr)∧Aside0 (Okw wr))
  case atStart=>
   refine ⟨k0,k0+1,xs,rfl,by go_num,by omega,by omega,by omega,⟨rfl,?_,rfl,?_⟩,⟨Kd.R_below HR.out HB2.out⟩,⟨Gr.of_below (Nat.le_of_lt hlg) HB2.out⟩,⟨a0.out _ _ HW.out HB2.out⟩⟩
   ·
    exact (kept_start p xs k0 hk0 HBF.out HT.out).symm
   ·
    rw [kept_start p xs k0 hk0 HBF.out HT.out,length_take];omega
  case round=>
   obtain ⟨i,j,ys,rfl,rfl,hij,hj,hgg,HY,HRY,HG,HW2⟩:=hrel;have hyl:=HY.out.1;have hgy:g < wr.heap.size:=Nat.lt_of_lt_of_le hlg HG.out.1;by_cases hlt:j < xs.length
   ·
    have hltz:(j:Int) < (xs.length:Int):=by omega
    obtain ⟨c,hcl,hM,hcc,hfr⟩:=Kd.R_elem HRY.out z30 (j:Int) (by omega) (by omega);simp only [Int.toNat_natCast,show k30.sz=6 from rfl] at hM hcc hfr;rw [drop_getD HY.out.2.2.1 hlt] at hM;have hmem:=List.getElem_mem hlt;generalize hx:xs[j]=x at hM hmem;have HX:=zzm hx;clear hx;obtain ⟨v3,v5,rfl,g3,g5⟩:=k30_openM hM;obtain ⟨A3,c3,rfl⟩:=Kd.R_slice g3;obtain ⟨A5,c5,rfl⟩:=Kd.R_slice g5;have x0:wr.cell? ⟨g,j * 6,none⟩=some (.int .i64 x.f0):=hcc 0 _ rfl;have x1:wr.cell? ⟨g,j * 6+1,none⟩=some (.int .i64 x.f1):=hcc 1 _ rfl;have x2:wr.cell? ⟨g,j * 6+2,none⟩=some (.bool x.f2):=hcc 2 _ rfl;have x3:wr.cell? ⟨g,j * 6+3,none⟩=some (.slice A3 x.f3.length c3):=hcc 3 _ rfl;have x4:wr.cell? ⟨g,j * 6+4,none⟩=some (.bool x.f4):=hcc 4 _ rfl;have x5:wr.cell? ⟨g,j * 6+5,none⟩=some (.slice A5 x.f5.length c5):=hcc 5 _ rfl;have HM:=zzm hM;have hcall:=HPR.out (wr.alloc (.cells #[.int .i64 x.f0,.int .i64 x.f1,.bool x.f2,.slice A3 x.f3.length c3,.bool x.f4,.slice A5 x.f5.length c5] 30)) x #[.int .i64 x.f0,.int .i64 x.f1,.bool x.f2,.slice A3 x.f3.length c3,.bool x.f4,.slice A5 x.f5.length c5] (a0.out _ _ HW2.out ((Below.refl _ wr).alloc (Nat.le_refl _) _)) hmem (k30.K_below ((Below.refl _ wr).alloc (Nat.le_refl _) _) (k30.K_of_M hM));have HCC:=zzm hcc;clear hM hcc hfr hcl g3 g5;have hbnew:=World.alloc_heap_new wr (.cells #[.int .i64 x.f0,.int .i64 x.f1,.bool x.f2,.slice A3 x.f3.length c3,.bool x.f4,.slice A5 x.f5.length c5] 30);cases hq:p x with
    | true=>
     rw [hq] at hcall;have HQ:=zzm hq;have HCA:=zzm hcall;clear hq hcall;go_wp2_with (go_at_fn cl;refine HCA.out.mono ?_;rintro e w' ⟨rfl,hb2⟩;have HB3:=zzm hb2;clear hb2);go_roundg (xs.length - (j+1))
     case measure=>omega
     case rel=>exact ⟨i,j+1,ys,rfl,by go_num,by omega,by omega,Nat.le_refl _,⟨KeptIn.skip HY.out hlt (by rw [HX.out];exact HQ.out)⟩,⟨Kd.R_below HRY.out (below_box HB3.out)⟩,⟨HG.out.trans (Gr.of_below (Nat.le_of_lt hgy) (below_box HB3.out))⟩,⟨a0.out _ _ HW2.out (below_box HB3.out)⟩⟩
    | false=>
     rw [hq] at hcall;have HQ:=zzm hq;have HCA:=zzm hcall;clear hq hcall;go_wp2_with (go_at_fn cl;refine HCA.out.mono ?_;rintro e w2 ⟨rfl,hb2⟩;have hbx:=(hb2.block wr.heap.size (by simp)).trans hbnew;have b0:w2.cell? ⟨wr.heap.size,0,none⟩=some (.int .i64 x.f0):=(by simp [World.cell?,hbx]);have b1:w2.cell? ⟨wr.heap.size,1,none⟩=some (.int .i64 x.f1):=(by simp [World.cell?,hbx]);have b2:w2.cell? ⟨wr.heap.size,2,none⟩=some (.bool x.f2):=(by simp [World.cell?,hbx]);have b3:w2.cell? ⟨wr.heap.size,3,none⟩=some (.slice A3 x.f3.length c3):=(by simp [World.cell?,hbx]);have b4:w2.cell? ⟨wr.heap.size,4,none⟩=some (.bool x.f4):=(by simp [World.cell?,hbx]);have b5:w2.cell? ⟨wr.heap.size,5,none⟩=some (.slice A5 x.f5.length c5):=(by simp [World.cell?,hbx]);obtain ⟨ci,hcli,hMi,hcci,hfri⟩:=Kd.R_elem (Kd.R_below HRY.out (below_box hb2)) z30 (i:Int) (by omega) (by omega);simp only [Int.toNat_natCast,show k30.sz=6 from rfl] at hMi hcci hfri;obtain ⟨t3,t5,rfl,-,-⟩:=k30_openM hMi;have y0:w2.cell? ⟨g,i * 6,none⟩=some _:=hcci 0 _ rfl;have y1:w2.cell? ⟨g,i * 6+1,none⟩=some _:=hcci 1 _ rfl;have y2:w2.cell? ⟨g,i * 6+2,none⟩=some _:=hcci 2 _ rfl;have y3:w2.cell? ⟨g,i * 6+3,none⟩=some _:=hcci 3 _ rfl;have y4:w2.cell? ⟨g,i * 6+4,none⟩=some _:=hcci 4 _ rfl;have y5:w2.cell? ⟨g,i * 6+5,none⟩=some _:=hcci 5 _ rfl;have f0:w2.frozen? ⟨g,i * 6,none⟩=false:=hfri 0;have f1:w2.frozen? ⟨g,i * 6+1,none⟩=false:=hfri 1;have f2:w2.frozen? ⟨g,i * 6+2,none⟩=false:=hfri 2;have f3:w2.frozen? ⟨g,i * 6+3,none⟩=false:=hfri 3;have f4:w2.frozen? ⟨g,i * 6+4,none⟩=false:=hfri 4;have f5:w2.frozen? ⟨g,i * 6+5,none⟩=false:=hfri 5;have HCI:=zzm hcci;have HB3:=zzm hb2;clear hb2 hbx hcci hfri hMi hcli);have hbW:=below_box HB3.out;have hgw:g≤w2.heap.size:=Nat.le_trans (Nat.le_of_lt hgy) hbW.size;have hseg:=Kd.R_seg (Kd.R_below HRY.out hbW) (i:Int) (by omega) (by omega) (seg:=[.int .i64 x.f0,.int .i64 x.f1,.bool x.f2,.slice A3 x.f3.length c3,.bool x.f4,.slice A5 x.f5.length c5]) (j:=0) rfl HCI.out (show 0+6≤6 from Nat.le_refl _) (x':=x) (okp:=fun k=>ok k∧k≠g) (Kd.M_below HM.out hbW) (fun _ hk=>hk);have HS1:=zzm hseg.1;have HS2:=zzm hseg.2;clear hseg;go_roundg (xs.length - (j+1))
     case measure=>omega
     case rel=>exact ⟨i+1,j+1,ys.set i x,by go_num,by go_num,by omega,by omega,Nat.le_refl _,⟨by have h:=KeptIn.keep HY.out hij hlt (by rw [HX.out];exact HQ.out);rw [HX.out] at h;exact h⟩,⟨HS1.out⟩,⟨(HG.out.trans (Gr.of_below (Nat.le_of_lt hgy) hbW)).trans (Gr.of_grown hgw HS2.out)⟩,⟨a1.out _ _ (a0.out _ _ HW2.out hbW) HS2.out⟩⟩
   ·
    obtain rfl:j=xs.length:=by omega
    have hltz:¬ (xs.length:Int) < (xs.length:Int):=by omega
    have hlc:=HLC.out;have hk:=HY.out;unfold KeptIn at hk;rw [List.take_length] at hk;obtain ⟨cur,hbg,hblk,hnc,hcm,hcs⟩:=R_block HRY.out;obtain ⟨zs,hzs⟩:∃ zs,zs=(Builtin.zeroCells (Value.agg #[.int .i64 0,.int .i64 0,.bool false,.slice none 0 0,.bool false,.slice none 0 0]).cells (xs.length - i)).toList:=⟨_,rfl⟩;have hzl:zs.length=(xs.length - i) * 6:=by rw [hzs];simp [Builtin.zeroCells];rfl
    have hz1:∀ v∈zs,v.oneCell' = true:=by
     intro v hv;rw [hzs] at hv;exact zeroCells_one _ (by decide) v hv
    have hsz:k30.sz=6:=rfl;rw [hsz] at hcs;have hfit:i * 6+zs.length≤cur.size:=by rw [hzl,hcs];omega
    have hcl:∀ ty,(Builtin.clear_ #[25] ty #[.slice (some ⟨g,i * 6,none⟩) (xs.length - i) (cap - i)]).run Try.prog wr = .ok (.tuple #[]) (wr.setCells g (i * 6) zs):=fun ty=>run_clear_rows wr 25 30 ty _ Try.underlying25 Try.zeroValue30 g (i * 6) (xs.length - i) (cap - i) (by omega) zs hzs.symm
     (fun q hq=>cell_some hblk (by omega)) (fun q hq=>zzl hblk _) hz1
    have hcut:=R_cut HRY.out i (by omega) zs (by rw [hsz];rw [hcs] at hfit;exact hfit);rw [hsz] at hcut;have a2:=zzm hcut.1;have a3:=zzm hcut.2;have HKK:=zzm hk;clear hcut hblk hzs hk hfit hzl;go_wp2;go_ret;have hk:=HKK.out;have hgw:g≤wr.heap.size:=Nat.le_of_lt hgy;refine ⟨by rw [hk.2.2.2];rfl,?_,HG.out.trans (Gr.of_grown hgw a3.out)⟩;have h:=a2.out;rw [hk.2.1] at h;rw [hk.2.2.2];exact h
set_option maxHeartbeats 4000000 in
theorem delete34_calls (cl:Nat) (lb:Array Value) (eg:∀ args w,(callFunc cl args).run Try.prog w = .ok (.enter cl args) w) (p:S34→Bool) (Okw:World→Prop) (hok1:∀ W W',Okw W→Below W.heap.size W W'→Okw W') (g cap base:Nat) (ok:Nat→Prop) (xs:List S34) (w:World) (hok2:∀ W W',Okw W→W.grownBy W' (some g)→Okw W')
  (PR:∀ (W:World) (x:S34) (cs:Array Value),Okw W→x∈xs→k34.K W x cs.toList→Calls Try.prog cl (#[.agg cs]++lb) W fun e w'=>e = .returned (.bool (p x))∧Below W.heap.size W w') (hR:Kd.R k34 34 w base ok (.slice (some ⟨g,0,none⟩) xs.length cap) xs) (hw:Okw w) :
  Calls Try.prog 52 #[.slice (some ⟨g,0,none⟩) xs.length cap,.func (.func cl) #[] lb] w fun e w'=>e = .returned (.slice (some ⟨g,0,none⟩) (xs.filter fun x=>!p x).length cap)∧Kd.R k34 34 w' base ok (.slice (some ⟨g,0,none⟩) (xs.filter fun x=>!p x).length cap) (xs.filter fun x=>!p x)∧Gr g w w':=by
 obtain ⟨A_,c_,he_,hl_,hC⟩:=Kd.R_reads hR;injection he_ with he1 _ he2;subst he1;subst he2;have hidx:=index34_calls cl lb eg p Okw hok1 (some ⟨g,0,none⟩) cap xs w PR hC hw;have hlg:=Kd.R_lt hR g (by simp [Value.ownBlock]);have hm0:xs.length≤9223372036854775807:=hC.2.1;have hu:=Try.underlying34;have HR:=zzm hR;have HW:=zzm hw;have HPR:=zzm PR;have a0:=zzm hok1;have a1:=zzm hok2;have HLC:=zzm hl_;clear hR hw PR hok1 hok2 hC hl_;rcases firstAt_spec p xs with ⟨e1,hall⟩|⟨k0,hk0,e1,ht,hbef⟩
 ·
  rw [e1] at hidx;have hf:(xs.filter fun x=>!p x)=xs:=by rw [List.filter_eq_self];intro x hx;simp [hall x hx]
  rw [hf];have HI:=zzm hidx;clear hidx;go_enter Try.func52,Try.ntmps52;go_wp2_with (go_at_call 76;refine HI.out.mono ?_;rintro e w' ⟨rfl,hb2⟩;have HB2:=zzm hb2;clear hb2);go_ret;exact ⟨rfl,Kd.R_below HR.out HB2.out,Gr.of_below (Nat.le_of_lt hlg) HB2.out⟩
 ·
  rw [e1] at hidx;have HI:=zzm hidx;have hne1:((k0:Int) == -1)=false:=beq_eq_false_iff_ne.2 (by omega);have HT:=zzm ht;have HBF:=zzm hbef;clear hidx ht hbef e1;go_enter Try.func52,Try.ntmps52;go_wp2_with (go_at_call 76;refine HI.out.mono ?_;rintro e w' ⟨rfl,hb2⟩;have HB2:=zzm hb2;clear hb2);go_loopg [5,6,7] xs.length (fun gg s5 s6 _ wr=>∃ (i j:Nat) (ys:List S34),s5 = .int .i64 i∧s6 = .int .i64 j∧i < j∧j≤xs.length∧xs.length - j≤gg∧Aside0 (KeptIn p xs ys i j)∧Aside0 (Kd.R k34 34 wr base ok (.slice (some ⟨g,0,none⟩) xs.length cap) ys)∧Aside0 (Gr g w wr)∧Aside0 (Okw wr))
  case atStart=>
   refine ⟨k0,k0+1,xs,rfl,by go_num,by omega,by omega,by omega,⟨rfl,?_,rfl,?_⟩,⟨Kd.R_below HR.out HB2.out⟩,⟨Gr.of_below (Nat.le_of_lt hlg) HB2.out⟩,⟨a0.out _ _ HW.out HB2.out⟩⟩
   ·
    exact (kept_start p xs k0 hk0 HBF.out HT.out).symm
   ·
    rw [kept_start p xs k0 hk0 HBF.out HT.out,length_take];omega
  case round=>
   obtain ⟨i,j,ys,rfl,rfl,hij,hj,hgg,HY,HRY,HG,HW2⟩:=hrel;have hyl:=HY.out.1;have hgy:g < wr.heap.size:=Nat.lt_of_lt_of_le hlg HG.out.1;by_cases hlt:j < xs.length
   ·
    have hltz:(j:Int) < (xs.length:Int):=by omega
    obtain ⟨c,hcl,hM,hcc,hfr⟩:=Kd.R_elem HRY.out z34 (j:Int) (by omega) (by omega);simp only [Int.toNat_natCast,show k34.sz=6 from rfl] at hM hcc hfr;rw [drop_getD HY.out.2.2.1 hlt] at hM;have hmem:=List.getElem_mem hlt;generalize hx:xs[j]=x at hM hmem;have HX:=zzm hx;clear hx;obtain ⟨v5,rfl,g5⟩:=k34_openM hM;obtain ⟨A5,c5,rfl⟩:=Kd.R_slice g5;have x0:wr.cell? ⟨g,j * 6,none⟩=some (.bool x.f0):=hcc 0 _ rfl;have x1:wr.cell? ⟨g,j * 6+1,none⟩=some (.bool x.f1):=hcc 1 _ rfl;have x2:wr.cell? ⟨g,j * 6+2,none⟩=some (.int .i64 x.f2):=hcc 2 _ rfl;have x3:wr.cell? ⟨g,j * 6+3,none⟩=some (.int .i64 x.f3):=hcc 3 _ rfl;have x4:wr.cell? ⟨g,j * 6+4,none⟩=some (.int .i64 x.f4):=hcc 4 _ rfl;have x5:wr.cell? ⟨g,j * 6+5,none⟩=some (.slice A5 x.f5.length c5):=hcc 5 _ rfl;have HM:=zzm hM;have hcall:=HPR.out (wr.alloc (.cells #[.bool x.f0,.bool x.f1,.int .i64 x.f2,.int .i64 x.f3,.int .i64 x.f4,.slice A5 x.f5.length c5] 34)) x #[.bool x.f0,.bool x.f1,.int .i64 x.f2,.int .i64 x.f3,.int .i64 x.f4,.slice A5 x.f5.length c5] (a0.out _ _ HW2.out ((Below.refl _ wr).alloc (Nat.le_refl _) _)) hmem (k34.K_below ((Below.refl _ wr).alloc (Nat.le_refl _) _) (k34.K_of_M hM));have HCC:=zzm hcc;clear hM hcc hfr hcl g5;have hbnew:=World.alloc_heap_new wr (.cells #[.bool x.f0,.bool x.f1,.int .i64 x.f2,.int .i64 x.f3,.int .i64 x.f4,.slice A5 x.f5.length c5] 34);cases hq:p x with
    | true=>
     rw [hq] at hcall;have HQ:=zzm hq;have HCA:=zzm hcall;clear hq hcall;go_wp2_with (go_at_fn cl;refine HCA.out.mono ?_;rintro e w' ⟨rfl,hb2⟩;have HB3:=zzm hb2;clear hb2);go_roundg (xs.length - (j+1))
     case measure=>omega
     case rel=>exact ⟨i,j+1,ys,rfl,by go_num,by omega,by omega,Nat.le_refl _,⟨KeptIn.skip HY.out hlt (by rw [HX.out];exact HQ.out)⟩,⟨Kd.R_below HRY.out (below_box HB3.out)⟩,⟨HG.out.trans (Gr.of_below (Nat.le_of_lt hgy) (below_box HB3.out))⟩,⟨a0.out _ _ HW2.out (below_box HB3.out)⟩⟩
    | false=>
     rw [hq] at hcall;have HQ:=zzm hq;have HCA:=zzm hcall;clear hq hcall;go_wp2_with (go_at_fn cl;refine HCA.out.mono ?_;rintro e w2 ⟨rfl,hb2⟩;have hbx:=(hb2.block wr.heap.size (by simp)).trans hbnew;have b0:w2.cell? ⟨wr.heap.size,0,none⟩=some (.bool x.f0):=(by simp [World.cell?,hbx]);have b1:w2.cell? ⟨wr.heap.size,1,none⟩=some (.bool x.f1):=(by simp [World.cell?,hbx]);have b2:w2.cell? ⟨wr.heap.size,2,none⟩=some (.int .i64 x.f2):=(by simp [World.cell?,hbx]);have b3:w2.cell? ⟨wr.heap.size,3,none⟩=some (.int .i64 x.f3):=(by simp [World.cell?,hbx]);have b4:w2.cell? ⟨wr.heap.size,4,none⟩=some (.int .i64 x.f4):=(by simp [World.cell?,hbx]);have b5:w2.cell? ⟨wr.heap.size,5,none⟩=some (.slice A5 x.f5.length c5):=(by simp [World.cell?,hbx]);obtain ⟨ci,hcli,hMi,hcci,hfri⟩:=Kd.R_elem (Kd.R_below HRY.out (below_box hb2)) z34 (i:Int) (by omega) (by omega);simp only [Int.toNat_natCast,show k34.sz=6 from rfl] at hMi hcci hfri;obtain ⟨t5,rfl,-⟩:=k34_openM hMi;have y0:w2.cell? ⟨g,i * 6,none⟩=some _:=hcci 0 _ rfl;have y1:w2.cell? ⟨g,i * 6+1,none⟩=some _:=hcci 1 _ rfl;have y2:w2.cell? ⟨g,i * 6+2,none⟩=some _:=hcci 2 _ rfl;have y3:w2.cell? ⟨g,i * 6+3,none⟩=some _:=hcci 3 _ rfl;have y4:w2.cell? ⟨g,i * 6+4,none⟩=some _:=hcci 4 _ rfl;have y5:w2.cell? ⟨g,i * 6+5,none⟩=some _:=hcci 5 _ rfl;have f0:w2.frozen? ⟨g,i * 6,none⟩=false:=hfri 0;have f1:w2.frozen? ⟨g,i * 6+1,none⟩=false:=hfri 1;have f2:w2.frozen? ⟨g,i * 6+2,none⟩=false:=hfri 2;have f3:w2.frozen? ⟨g,i * 6+3,none⟩=false:=hfri 3;have f4:w2.frozen? ⟨g,i * 6+4,none⟩=false:=hfri 4;have f5:w2.frozen? ⟨g,i * 6+5,none⟩=false:=hfri 5;have HCI:=zzm hcci;have HB3:=zzm hb2;clear hb2 hbx hcci hfri hMi hcli);have hbW:=below_box HB3.out;have hgw:g≤w2.heap.size:=Nat.le_trans (Nat.le_of_lt hgy) hbW.size;have hseg:=Kd.R_seg (Kd.R_below HRY.out hbW) (i:Int) (by omega) (by omega) (seg:=[.bool x.f0,.bool x.f1,.int .i64 x.f2,.int .i64 x.f3,.int .i64 x.f4,.slice A5 x.f5.length c5]) (j:=0) rfl HCI.out (show 0+6≤6 from Nat.le_refl _) (x':=x) (okp:=fun k=>ok k∧k≠g) (Kd.M_below HM.out hbW) (fun _ hk=>hk);have HS1:=zzm hseg.1;have HS2:=zzm hseg.2;clear hseg;go_roundg (xs.length - (j+1))
     case measure=>omega
     case rel=>exact ⟨i+1,j+1,ys.set i x,by go_num,by go_num,by omega,by omega,Nat.le_refl _,⟨by have h:=KeptIn.keep HY.out hij hlt (by rw [HX.out];exact HQ.out);rw [HX.out] at h;exact h⟩,⟨HS1.out⟩,⟨(HG.out.trans (Gr.of_below (Nat.le_of_lt hgy) hbW)).trans (Gr.of_grown hgw HS2.out)⟩,⟨a1.out _ _ (a0.out _ _ HW2.out hbW) HS2.out⟩⟩
   ·
    obtain rfl:j=xs.length:=by omega
    have hltz:¬ (xs.length:Int) < (xs.length:Int):=by omega
    have hlc:=HLC.out;have hk:=HY.out;unfold KeptIn at hk;rw [List.take_length] at hk;obtain ⟨cur,hbg,hblk,hnc,hcm,hcs⟩:=R_block HRY.out;obtain ⟨zs,hzs⟩:∃ zs,zs=(Builtin.zeroCells (Value.agg #[.bool false,.bool false,.int .i64 0,.int .i64 0,.int .i64 0,.slice none 0 0]).cells (xs.length - i)).toList:=⟨_,rfl⟩;have hzl:zs.length=(xs.length - i) * 6:=by rw [hzs];simp [Builtin.zeroCells];rfl
    have hz1:∀ v∈zs,v.oneCell' = true:=by
     intro v hv;rw [hzs] at hv;exact zeroCells_one _ (by decide) v hv
    have hsz:k34.sz=6:=rfl;rw [hsz] at hcs;have hfit:i * 6+zs.length≤cur.size:=by rw [hzl,hcs];omega
    have hcl:∀ ty,(Builtin.clear_ #[23] ty #[.slice (some ⟨g,i * 6,none⟩) (xs.length - i) (cap - i)]).run Try.prog wr = .ok (.tuple #[]) (wr.setCells g (i * 6) zs):=fun ty=>run_clear_rows wr 23 34 ty _ Try.underlying23 Try.zeroValue34 g (i * 6) (xs.length - i) (cap - i) (by omega) zs hzs.symm
     (fun q hq=>cell_some hblk (by omega)) (fun q hq=>zzl hblk _) hz1
    have hcut:=R_cut HRY.out i (by omega) zs (by rw [hsz];rw [hcs] at hfit;exact hfit);rw [hsz] at hcut;have a2:=zzm hcut.1;have a3:=zzm hcut.2;have HKK:=zzm hk;clear hcut hblk hzs hk hfit hzl;go_wp2;go_ret;have hk:=HKK.out;have hgw:g≤wr.heap.size:=Nat.le_of_lt hgy;refine ⟨by rw [hk.2.2.2];rfl,?_,HG.out.trans (Gr.of_grown hgw a3.out)⟩;have h:=a2.out;rw [hk.2.1] at h;rw [hk.2.2.2];exact h
end
section
open Go.Shelf
set_option maxHeartbeats 4000000 in
theorem cl1_calls (b0 b1 r2 r4 gone:Bool) (b2 b3 b4 r0 r1 c:Int) (P3 P5 P6:Option Addr) (n5 q5 q3 n6 q6:Nat) (Bst Bb Bm Bg bm nn:Nat) (key:List Int) (D:DataW Unit) (w:World)
  (hst:Boxed w Bst 52 (.func (.func 69) #[] #[.pointer (some ⟨Bm,0,none⟩),.pointer (some ⟨Bg,0,none⟩)])) (hBb:w.heap[Bb]? = some (.cells #[.bool b0,.bool b1,.int .i64 b2,.int .i64 b3,.int .i64 b4,.slice P5 n5 q5] 34 (0,0)))
  (hBm:Boxed w Bm 80 (.map (some bm))) (hBg:Boxed w Bg 4 (.bool gone)) (hown:w.ownsMap Try.prog 9 (plainElem Try.prog 3) bm nn D) (hk:(Kd.int .i64).C w P3 key.length key) (hq:key.length≤q3)
  (hok:r2=true→keyOk key=true) (hc:r2=true→D.atKey (.string (hexOf key)) (.lit (.int .i64 0)) = .lit (.int .i64 c)) :
  Calls Try.prog 51 #[.agg #[.int .i64 r0,.int .i64 r1,.bool r2,.slice P3 key.length q3,.bool r4,.slice P6 n6 q6],.pointer (some ⟨Bst,0,none⟩),.pointer (some ⟨Bb,0,none⟩)] w fun e w'=>e = .returned (.bool (!(b1||(r2&&((c==r0)&&(r4||gone))))))∧Below w.heap.size w w':=by
 have hba:=(Below.refl w.heap.size w).alloc (Nat.le_refl _) (.cells #[.int .i64 r0,.int .i64 r1,.bool r2,.slice P3 key.length q3,.bool r4,.slice P6 n6 q6] 30);have HS:=zzm (stays_calls b0 b1 r2 r4 gone b2 b3 b4 r0 r1 c P3 P5 P6 n5 q5 q3 n6 q6 Bm Bg bm nn key D (w.alloc (.cells #[.int .i64 r0,.int .i64 r1,.bool r2,.slice P3 key.length q3,.bool r4,.slice P6 n6 q6] 30)) (hBm.alloc _) (hBg.alloc _) (hown.alloc _) (Kd.C_alloc hk _) hq hok hc);have hBa:(w.alloc (.cells #[.int .i64 r0,.int .i64 r1,.bool r2,.slice P3 key.length q3,.bool r4,.slice P6 n6 q6] 30)).heap[Bb]? = some (.cells #[.bool b0,.bool b1,.int .i64 b2,.int .i64 b3,.int .i64 b4,.slice P5 n5 q5] 34 (0,0)):=(((Below.refl w.heap.size w).alloc (Nat.le_refl _) _).block _ (Array.getElem?_eq_some_iff.1 hBb).1).trans hBb;have cst:(w.alloc (.cells #[.int .i64 r0,.int .i64 r1,.bool r2,.slice P3 key.length q3,.bool r4,.slice P6 n6 q6] 30)).cell? ⟨Bst,0,none⟩ = _:=(hst.alloc _).cell;have m0:(w.alloc (.cells #[.int .i64 r0,.int .i64 r1,.bool r2,.slice P3 key.length q3,.bool r4,.slice P6 n6 q6] 30)).cell? ⟨Bb,0,none⟩=some (.bool b0):=by simp [World.cell?,hBa]
 have m1:(w.alloc (.cells #[.int .i64 r0,.int .i64 r1,.bool r2,.slice P3 key.length q3,.bool r4,.slice P6 n6 q6] 30)).cell? ⟨Bb,1,none⟩=some (.bool b1):=by simp [World.cell?,hBa]
 have m2:(w.alloc (.cells #[.int .i64 r0,.int .i64 r1,.bool r2,.slice P3 key.length q3,.bool r4,.slice P6 n6 q6] 30)).cell? ⟨Bb,2,none⟩=some (.int .i64 b2):=by simp [World.cell?,hBa]
 have m3:(w.alloc (.cells #[.int .i64 r0,.int .i64 r1,.bool r2,.slice P3 key.length q3,.bool r4,.slice P6 n6 q6] 30)).cell? ⟨Bb,3,none⟩=some (.int .i64 b3):=by simp [World.cell?,hBa]
 have m4:(w.alloc (.cells #[.int .i64 r0,.int .i64 r1,.bool r2,.slice P3 key.length q3,.bool r4,.slice P6 n6 q6] 30)).cell? ⟨Bb,4,none⟩=some (.int .i64 b4):=by simp [World.cell?,hBa]
 have m5:(w.alloc (.cells #[.int .i64 r0,.int .i64 r1,.bool r2,.slice P3 key.length q3,.bool r4,.slice P6 n6 q6] 30)).cell? ⟨Bb,5,none⟩=some (.slice P5 n5 q5):=by simp [World.cell?,hBa]
 have HBA:=zzm hba;clear hBa hst hBb hBm hBg hown hk hok hc hba;go_enter Try.func51,Try.ntmps51;go_wp2_with (go_at_call 69;refine HS.out.mono ?_;rintro e w2 ⟨rfl,hb2⟩);go_ret;exact ⟨by generalize (c==r0)=z;cases b1 <;> cases r2 <;> cases r4 <;> cases gone <;> cases z <;> rfl,HBA.out.trans (hb2.mono (by simp))⟩
set_option maxHeartbeats 4000000 in
theorem cl2_calls (b0 b1:Bool) (b2 b3 b4:Int) (P5:Option Addr) (n5 q5:Nat) (w:World) :
  Calls Try.prog 53 #[.agg #[.bool b0,.bool b1,.int .i64 b2,.int .i64 b3,.int .i64 b4,.slice P5 n5 q5]] w fun e w'=>e = .returned (.bool (decide (n5=0)))∧Below w.heap.size w w':=by
 have hz:((n5:Int)==0)=decide (n5=0):=by
  by_cases h:n5=0
  ·
   subst h;rfl
  ·
   rw [decide_eq_false h];exact beq_eq_false_iff_ne.2 (by omega)
 go_enter Try.func53,Try.ntmps53;go_wp2;go_ret;exact ⟨by first|rfl|(rw [← hz];rfl),(Below.refl _ w).alloc (Nat.le_refl _) _⟩
end
section
open Go.Shelf
@[local go_sem] theorem run_store_func2 {P:Program} {w:World} {a:Addr} {m:Mode} (f:Fn) (b c:Array Value):(store a (.func f b c) m).run P w=stored P w a (.func f b c) m:=run_store P w a _ m rfl
def stayR (l:List S34) (mk gone:Bool) (r:S30):Bool:=mk||(r.f2&&((lastOff l (pts l) (hexOf r.f3)==r.f0)&&(r.f4||gone)))
def stB (l:List S34) (gone:Bool) (b:S34):S34:=⟨b.f0,b.f1,b.f2,b.f3,b.f4,b.f5.filter (stayR l b.f1 gone)⟩
def cmpOut (l:List S34) (gone:Bool):List S34:=(l.map (stB l gone)).filter (fun b=>!decide (b.f5.length=0))
def full (l:List S34):Bool:=l.all fun b=>decide (0 < b.f5.length)
def mixL (l:List S34) (gone:Bool) (m:Nat):List S34:=(l.take m).map (stB l gone)++l.drop m
theorem mixL_len (l:List S34) (gone:Bool) (m:Nat) (hm:m≤l.length):(mixL l gone m).length=l.length:=by simp [mixL];omega
theorem mixL_at (l:List S34) (gone:Bool) (m:Nat) (hm:m < l.length) (z:S34):(mixL l gone m).getD m z=l[m]:=by
 unfold mixL;rw [List.getD_eq_getElem?_getD,List.getElem?_append_right (by simp;omega)];simp [hm,Nat.min_eq_left (Nat.le_of_lt hm)]
theorem mixL_set (l:List S34) (gone:Bool) (m:Nat) (hm:m < l.length):(mixL l gone m).set m (stB l gone l[m])=mixL l gone (m+1):=by
 unfold mixL;have hl:((l.take m).map (stB l gone)).length=m:=by simp;omega
 rw [List.set_append_right _ _ (by omega),hl,Nat.sub_self,List.drop_eq_getElem_cons hm,zzr,List.take_succ_eq_append_getElem hm,List.map_append];simp
def Rd.f (k:Nat) (l0:List S34) (a1:Bool):Option (List S34×Bool):=(Ql.f k l0).bind fun t=>if t=true then (if okLog l0=true∧full l0=true then some (cmpOut l0 a1,true) else none) else some ([],false)
theorem full_len {l:List S34} (h:full l=true) (h2:okLog l=true):l.length≤1000000:=by
 have h3:=okLog_len h2;have:∀ i,i≤l.length→i≤(ptsTo l i).length:=by
  intro i;induction i with
  | zero=>intro _;exact Nat.zero_le _
  | succ i ih=>
   intro hi;have h4:=ih (by omega);have h5 : 0 < (Qa l (i:Int)).f5.length:=by
    rw [rd_at_B (show i < l.length by omega)];unfold full at h;have:=List.all_eq_true.1 h _ (List.getElem_mem (show i < l.length by omega));simpa using this
   rw [ptsTo_succ,List.length_append];unfold ptsRow;rw [List.length_map,List.length_range];omega
 have:=this l.length (Nat.le_refl _);show l.length≤1000000;have h6:(ptsTo l l.length).length≤1000000:=h3;omega
set_option maxHeartbeats 4000000 in
theorem deleteB_empty (cl:Nat) (lb:Array Value) (eg:∀ args w,(callFunc cl args).run Try.prog w = .ok (.enter cl args) w) (A:Option Addr) (c:Nat) (w:World) (hC:Kd.C k34 w A 0 [])
  (PR:∀ (W:World) (x:S34) (cs:Array Value),True→x∈([]:List S34)→k34.K W x cs.toList→Calls Try.prog cl (#[.agg cs]++lb) W fun e w'=>e = .returned (.bool (decide (x.f5.length=0)))∧Below W.heap.size W w') :
  Calls Try.prog 52 #[.slice A 0 c,.func (.func cl) #[] lb] w fun e w'=>e = .returned (.slice A 0 c)∧Below w.heap.size w w':=by
 have HI:=zzm (index34_calls cl lb eg (fun x=>decide (x.f5.length=0)) (fun _=>True) (fun _ _ _ _=>trivial) A c [] w PR hC trivial);go_enter Try.func52,Try.ntmps52;go_wp2_with (go_at_call 76;refine HI.out.mono ?_;rintro e w' ⟨rfl,hb2⟩;have HB2:=zzm hb2;clear hb2;rw [show firstAt (fun x:S34=>decide (x.f5.length=0)) [] = -1 from rfl]);go_ret;exact ⟨rfl,HB2.out⟩
set_option maxHeartbeats 4000000 in
theorem Rd.calls (k:Nat) (A0:Option Addr) (c0:Nat) (l0:List (S34)) (a1:Bool) (r1:List (S34)) (r2:Bool) (w:World) (a3:Kd.C k34 w A0 l0.length l0) (a4:l0.length≤c0) (h:Rd.f k l0 a1=some (r1,r2)) :
  Calls Try.prog 23 #[.slice A0 l0.length c0,.bool a1] w fun e w'=>∃ a5:Value,e = .returned (.tuple #[a5,.bool r2])∧Kd.R k34 34 w' w.heap.size (fun _=>True) a5 r1∧Below w.heap.size w w':=by
 unfold Rd.f at h;replace h:=Option.bind_eq_some_iff.mp h;obtain ⟨t0,a6,h⟩:=h;have HV0:=zzm a6;have a0:=zzm a3;have a2:=zzm a4;have hm0:l0.length≤9223372036854775807:=a3.2.1;have hu:=Try.underlying34;clear a3 a4 a6;cases t0 with
 | false=>
  have h1:r1 = []∧r2=false:=by simpa [eq_comm] using h
  obtain ⟨rfl,rfl⟩:=h1;clear h;go_enter Try.func23,Try.ntmps23;go_wp2_with (go_at_call 29;refine (Ql.calls k _ _ l0 _ _ a0.out a2.out HV0.out).mono ?_;rintro e w1 ⟨rfl,hbl⟩;have HBL:=zzm hbl;clear hbl);go_ret2;exact ⟨_,rfl,Kd.R_nil _ _ _ _ _,HBL.out⟩
 | true=>
  have hok:okLog l0=true∧full l0=true∧r1=cmpOut l0 a1∧r2=true:=by
   rw [if_pos rfl] at h;by_cases h5:okLog l0=true∧full l0=true
   ·
    rw [if_pos h5] at h;injection h with h;injection h with h6 h7;exact ⟨h5.1,h5.2,h6.symm,h7.symm⟩
   ·
    rw [if_neg h5] at h;cases h
  obtain ⟨hok,hfl,rfl,rfl⟩:=hok;have HOK:=zzm hok;have HFL:=zzm hfl;have hlen:=full_len hfl hok;clear h hok hfl;go_enter Try.func23,Try.ntmps23;go_wp2_with (first|(go_at_call 29;refine (Ql.calls k _ _ l0 _ _ a0.out a2.out HV0.out).mono ?_;rintro e w1 ⟨rfl,hbl⟩;have HBL:=zzm hbl;clear hbl)|(go_at_call 40;refine (stayer_calls A0 c0 l0 a1 _ (Kd.C_below a0.out HBL.out) a2.out HOK.out).mono ?_;rintro e w2 ⟨Bm,Bg,bm,rfl,hm1,hm2,hm3,hbm,hbg,hown,hb12⟩;have HBM:=zzm hbm;have HBG:=zzm hbg;have HOW:=zzm hown;have HB12:=zzm hb12;clear hbm hbg hown hb12)|(go_at_call 49;refine (copyBatchesS_calls A0 c0 l0 _ (Kd.C_below a0.out ((HBL.out.trans (HB12.out.mono HBL.out.size)).alloc (Nat.le_trans HBL.out.size HB12.out.size) _)) a2.out hlen HOK.out).mono ?_;rintro e w3 ⟨v,rfl,hS3,hb23⟩;have HS3:=zzm hS3;have HB23:=zzm hb23;clear hS3 hb23;obtain ⟨Av,cv,hve⟩:=Kd.S_slice HS3.out;subst hve));have hsz2:=HBL.out.size;have hsz12:=HB12.out.size;have hst3:=Boxed.of_below (Boxed.new w2 52 (.func (.func 69) #[] #[.pointer (some ⟨Bm,0,none⟩),.pointer (some ⟨Bg,0,none⟩)])) HB23.out;have hbm3:=Boxed.of_below (HBM.out.alloc _) HB23.out;have hbg3:=Boxed.of_below (HBG.out.alloc _) HB23.out;have how3:=ownsMap_below (HOW.out.alloc _) HB23.out;have hB3:Below w.heap.size w w3:=((HBL.out.trans (HB12.out.mono HBL.out.size)).alloc (Nat.le_trans HBL.out.size HB12.out.size) _).trans (HB23.out.mono (by simp;omega));have ltm:=HBM.out.lt;have ltg:=HBG.out.lt;have ltb:=HOW.out.lt;obtain ⟨N0,hN0⟩:∃ N0,N0=w2.heap.size+1:=⟨_,rfl⟩;obtain ⟨Bst,hBst⟩:∃ Bst,Bst=w2.heap.size:=⟨_,rfl⟩;have hS3' : Kd.S k34 34 w3 N0 (fun k=>N0≤k) (.slice Av l0.length cv) l0:=by
   have h:=Kd.S_mono (Kd.S_bound HS3.out) (fun k hk=>hk.2.1);rw [World.size_alloc,← hN0] at h;exact h
  have a7:w.heap.size≤N0:=by omega
  have hst3' : Boxed w3 Bst 52 (.func (.func 69) #[] #[.pointer (some ⟨Bm,0,none⟩),.pointer (some ⟨Bg,0,none⟩)]):=by rw [hBst];exact hst3
  have ltS:Bst < N0:=by omega
  have ltM:Bm < N0:=by omega
  have ltG:Bg < N0:=by omega
  have ltB:bm < N0:=by omega
  have HS3':=zzm hS3';have HST3:=zzm hst3';have HBM3:=zzm hbm3;have HBG3:=zzm hbg3;have HOW3:=zzm how3;have HB3:=zzm hB3;rw [← hBst];clear hst3 hst3' hbm3 hbg3 how3 hB3 hS3' ltm ltg ltb HBM HBG HOW HB12 HB23 HS3 hm1 hm2 hm3 HBL hsz2 hsz12 hN0 hBst;go_loopg [8,9,20] l0.length (fun gg _ _ b1 wr=>∃ m:Nat,b1 = .int .i64 m∧m≤l0.length∧l0.length - m≤gg∧Aside0 (Kd.S k34 34 wr N0 (fun k=>N0≤k) (.slice Av l0.length cv) (mixL l0 a1 m))∧Aside0 (Boxed wr Bst 52 (.func (.func 69) #[] #[.pointer (some ⟨Bm,0,none⟩),.pointer (some ⟨Bg,0,none⟩)]))∧Aside0 (Boxed wr Bm 80 (.map (some bm)))∧Aside0 (Boxed wr Bg 4 (.bool a1))∧Aside0 (wr.ownsMap Try.prog 9 (plainElem Try.prog 3) bm (pts l0).length (lastD l0 (pts l0)))∧Aside0 (Below w.heap.size w wr))
  case atStart=>exact ⟨0,by go_num,Nat.zero_le _,by omega,by rw [show mixL l0 a1 0=l0 by simp [mixL]];exact HS3',HST3,HBM3,HBG3,HOW3,HB3⟩
  case round=>
   clear HS3' HST3 HBM3 HBG3 HOW3 HB3;obtain ⟨m,rfl,hm,hgg,HS,HST,HBM,HBG,HOW,HB⟩:=hrel;by_cases hlt:m < l0.length
   ·
    have hltz:(m:Int) < (l0.length:Int):=by omega
    obtain ⟨hn,hnc,hC⟩:=Kd.R_reads' (Kd.S_R HS.out);have hC' : Kd.C k34 wr Av (mixL l0 a1 m).length (mixL l0 a1 m):=hC;clear hn hnc;obtain ⟨ad,_,_,he,_⟩:=Qx hC' (m:Int) (by omega) (by rw [mixL_len l0 a1 m hm];omega);subst he;obtain ⟨G,rfl⟩:=Kd.R_head (Kd.S_R HS.out);obtain ⟨cur,hbG,hblk,hncG,hcmG,hcsG⟩:=R_block (Kd.S_R HS.out);have hltG:G < wr.heap.size:=(Array.getElem?_eq_some_iff.1 hblk).1;obtain ⟨oki,c,hcl,hM,hcc,hfr,hoki,hH⟩:=Kd.S_elem HS.out z34 (m:Int) (by omega) (by omega);simp only [Int.toNat_natCast,show k34.sz=6 from rfl] at hM hcc hfr;rw [mixL_at l0 a1 m hlt] at hM;have hset:=mixL_set l0 a1 m hlt;have hrdm:=rd_at_B hlt;have hpos : 0 < l0[m].f5.length:=by
     have h:=HFL.out;unfold full at h;have:=List.all_eq_true.1 h _ (List.getElem_mem hlt);simpa using this
    generalize l0[m]=b at hM hset hrdm hpos;obtain ⟨v5,rfl,gr5⟩:=k34_openM hM;obtain ⟨A5,c5,b2,b8,hC5⟩:=Kd.R_reads gr5;subst b2;obtain ⟨b9,_,_,_,_,he5,_⟩:=Ra hC5 0 (by omega) (by omega);subst he5;obtain ⟨g5,rfl⟩:=Kd.R_head gr5;have hok5:oki g5:=gr5.1 g5 (by simp [Value.ownBlock]);have hg5:=hoki g5 hok5;have hlt5:g5 < wr.heap.size:=Kd.R_lt gr5 g5 (by simp [Value.ownBlock]);have x0:wr.cell? ⟨G,m * 6,none⟩=some (.bool b.f0):=hcc 0 _ rfl;have x1:wr.cell? ⟨G,m * 6+1,none⟩=some (.bool b.f1):=hcc 1 _ rfl;have x2:wr.cell? ⟨G,m * 6+2,none⟩=some (.int .i64 b.f2):=hcc 2 _ rfl;have x3:wr.cell? ⟨G,m * 6+3,none⟩=some (.int .i64 b.f3):=hcc 3 _ rfl;have x4:wr.cell? ⟨G,m * 6+4,none⟩=some (.int .i64 b.f4):=hcc 4 _ rfl;have x5:wr.cell? ⟨G,m * 6+5,none⟩=some (.slice (some ⟨g5,0,none⟩) b.f5.length c5):=hcc 5 _ rfl;have f5:=hfr 5;obtain ⟨Okw,hOkw⟩:∃ Okw:World→Prop,Okw=fun W=>Boxed W Bst 52 (.func (.func 69) #[] #[.pointer (some ⟨Bm,0,none⟩),.pointer (some ⟨Bg,0,none⟩)])∧W.heap[wr.heap.size]? = some (.cells #[.bool b.f0,.bool b.f1,.int .i64 b.f2,.int .i64 b.f3,.int .i64 b.f4,.slice (some ⟨g5,0,none⟩) b.f5.length c5] 34 (0,0))∧Boxed W Bm 80 (.map (some bm))∧Boxed W Bg 4 (.bool a1)∧W.ownsMap Try.prog 9 (plainElem Try.prog 3) bm (pts l0).length (lastD l0 (pts l0)):=⟨_,rfl⟩;have a8:Okw (wr.alloc (.cells #[.bool b.f0,.bool b.f1,.int .i64 b.f2,.int .i64 b.f3,.int .i64 b.f4,.slice (some ⟨g5,0,none⟩) b.f5.length c5] 34)):=by rw [hOkw];exact ⟨HST.out.alloc _,World.alloc_heap_new wr _,HBM.out.alloc _,HBG.out.alloc _,HOW.out.alloc _⟩
    have hk1:∀ W W',Okw W→Below W.heap.size W W'→Okw W':=by
     rw [hOkw];rintro W W' ⟨o1,o2,o3,o4,o5⟩ hb;exact ⟨Boxed.of_below o1 hb,(hb.block _ (Array.getElem?_eq_some_iff.1 o2).1).trans o2,Boxed.of_below o3 hb,Boxed.of_below o4 hb,ownsMap_below o5 hb⟩
    have hk2:∀ W W',Okw W→W.grownBy W' (some g5)→Okw W':=by
     rw [hOkw];rintro W W' ⟨o1,o2,o3,o4,o5⟩ hg;have hne:∀ q,q≠g5→some q≠some g5:=fun q h e=>h (Option.some.inj e);exact ⟨o1.kept hg (hne _ (by omega)),(hg.block _ (Array.getElem?_eq_some_iff.1 o2).1 (hne _ (by omega))).trans o2,o3.kept hg (hne _ (by omega)),o4.kept hg (hne _ (by omega)),o5.kept hg (hne _ (by omega))⟩
    have hPR:∀ (W:World) (x:S30) (cs:Array Value),Okw W→x∈b.f5→k30.K W x cs.toList→Calls Try.prog 51 (#[.agg cs] ++ #[.pointer (some ⟨Bst,0,none⟩),.pointer (some ⟨wr.heap.size,0,none⟩)]) W fun e w'=>e = .returned (.bool (!stayR l0 b.f1 a1 x))∧Below W.heap.size W w':=by
     rw [hOkw];rintro W x cs ⟨o1,o2,o3,o4,o5⟩ hx hK;obtain ⟨A3,c3,A6,c6,hcs,b3,b4,b5,b6⟩:=k30_open hK;have hcs2:cs = #[.int .i64 x.f0,.int .i64 x.f1,.bool x.f2,.slice A3 x.f3.length c3,.bool x.f4,.slice A6 x.f5.length c6]:=by rw [← Array.toArray_toList (xs:=cs),hcs]
     subst hcs2;obtain ⟨j,hj,rfl⟩:=List.getElem_of_mem hx;have hrc:rcOf l0 (m,j)=b.f5[j]:=by unfold rcOf;dsimp only;rw [hrdm,rd_at_R hj]
     have hkk:=(okLog_at HOK.out (m,j)).2.2.2;rw [hrc] at hkk;exact cl1_calls b.f0 b.f1 b.f5[j].f2 b.f5[j].f4 a1 b.f2 b.f3 b.f4 b.f5[j].f0 b.f5[j].f1 (lastOff l0 (pts l0) (hexOf b.f5[j].f3)) A3 _ A6 _ c5 c3 _ c6 Bst wr.heap.size Bm Bg bm _ b.f5[j].f3 (lastD l0 (pts l0)) W o1 o2 o3 o4 o5 b4 b3 hkk (fun _=>lastD_at l0 (pts l0) _)
    have HD:=delete30_calls 51 #[.pointer (some ⟨Bst,0,none⟩),.pointer (some ⟨wr.heap.size,0,none⟩)] (enters_of Try.func51 (by kernel_rfl) rfl) (fun r=>!stayR l0 b.f1 a1 r) Okw hk1 g5 c5 N0 oki b.f5 (wr.alloc (.cells #[.bool b.f0,.bool b.f1,.int .i64 b.f2,.int .i64 b.f3,.int .i64 b.f4,.slice (some ⟨g5,0,none⟩) b.f5.length c5] 34)) hk2 hPR (Kd.R_alloc gr5 _) a8;simp only [Bool.not_not] at HD;have HDD:=zzm HD;have HCC:=zzm hH;have HSET:=zzm hset;have HGN:=zzm (And.intro hblk (And.intro hg5 hoki));clear HD hPR hk1 hk2 a8 hOkw hC hC' hM hcc hfr hcl hH gr5 hC5 hset hblk hrdm;go_wp2_with (go_at_call 50;refine HDD.out.mono ?_;rintro e w4 ⟨rfl,hR4,hG4⟩;have hGq:w4.heap[G]? = wr.heap[G]?:=(hG4.2.2 G (by simp;omega) (by have:=HGN.out.2.1.2;omega)).trans (Below.heap_alloc _ _ _ hltG);have y5:w4.cell? ⟨G,m * 6+5,none⟩=some (.slice (some ⟨g5,0,none⟩) b.f5.length c5):=((by unfold World.cell?;rw [hGq]):w4.cell? ⟨G,m * 6+5,none⟩=wr.cell? ⟨G,m * 6+5,none⟩).trans x5;have z5:w4.frozen? ⟨G,m * 6+5,none⟩=false:=((by unfold World.frozen?;rw [hGq]):w4.frozen? ⟨G,m * 6+5,none⟩=wr.frozen? ⟨G,m * 6+5,none⟩).trans f5;have b7:=zzm hR4;have HG4:=zzm hG4;clear hR4 hG4 hGq);have hgr:∀ q,q < wr.heap.size→q≠g5→w4.heap[q]? = wr.heap[q]?:=fun q hq hne=>(HG4.out.2.2 q (by simp;omega) hne).trans (Below.heap_alloc _ _ _ hq);have hoki:=HGN.out.2.2;have hgn:=HGN.out.2.1;have hH4:=Kd.H_mono (Kd.H_step HCC.out (w1:=w4) (fun q hq hnq hlq=>hgr q hlq (fun e=>hnq (e ▸ hok5)))) (ok':=fun q=>N0≤q∧¬ False) (fun q hq=>⟨hq,id⟩);have hseg:=Kd.S_seg (okg:=fun _=>False) hH4 (by omega) (by omega) (seg:=[.slice (some ⟨g5,0,none⟩) (b.f5.filter (stayR l0 b.f1 a1)).length c5]) (j:=5) (show 5+1≤6 from Nat.le_refl _) (x':=stB l0 a1 b) (okp:=oki) (k34_mkM w4 N0 oki (stB l0 a1 b) b7.out) (fun _ hk=>.inl hk) (fun _ hk=>hk.elim);rw [show ((m:Int)).toNat=m from rfl,HSET.out] at hseg;have HS5:=zzm hseg.1;have HG5:=hseg.2;have hbx:∀ {q:Nat} {ty:TypeId} {u:Value},q < N0→Boxed wr q ty u→Boxed (w4.setCells G (m * 6+5) [.slice (some ⟨g5,0,none⟩) (b.f5.filter (stayR l0 b.f1 a1)).length c5]) q ty u:=fun {q ty u} hq hb=>(show Boxed w4 q ty u from (hgr q hb.lt (by omega)).trans hb).kept HG5 (fun e=>by have:=Option.some.inj e;omega);have hBf:Below w.heap.size w (w4.setCells G (m * 6+5) [.slice (some ⟨g5,0,none⟩) (b.f5.filter (stayR l0 b.f1 a1)).length c5]):=by
     have h1:=HB.out.alloc HB.out.size (.cells #[.bool b.f0,.bool b.f1,.int .i64 b.f2,.int .i64 b.f3,.int .i64 b.f4,.slice (some ⟨g5,0,none⟩) b.f5.length c5] 34);have h2:=h1.trans (HG4.out.2.1.mono (by omega));exact h2.grown HG5 h2.size (fun q e=>by have:=Option.some.inj e;omega)
    have how:(w4.setCells G (m * 6+5) [.slice (some ⟨g5,0,none⟩) (b.f5.filter (stayR l0 b.f1 a1)).length c5]).ownsMap Try.prog 9 (plainElem Try.prog 3) bm (pts l0).length (lastD l0 (pts l0)):=by
     obtain ⟨es,ck,o1,o2,o3,o4⟩:=HOW.out;have o5:w4.ownsMap Try.prog 9 (plainElem Try.prog 3) bm (pts l0).length (lastD l0 (pts l0)):=⟨es,ck,(hgr bm (Array.getElem?_eq_some_iff.1 o1).1 (by omega)).trans o1,o2,o3,o4⟩;exact o5.kept HG5 (fun e=>by have:=Option.some.inj e;omega)
    have HA1:=zzm (hbx ltS HST.out);have HA2:=zzm (hbx ltM HBM.out);have HA3:=zzm (hbx ltG HBG.out);have HA4:=zzm how;have HA5:=zzm hBf;clear hseg hbx hBf how HG5 hH4 hgr;go_roundg (l0.length - (m+1))
    case measure=>omega
    case rel=>exact ⟨m+1,by go_num,by omega,Nat.le_refl _,HS5,HA1,HA2,HA3,HA4,HA5⟩
   ·
    obtain rfl:m=l0.length:=by omega
    have hltz:¬ (l0.length:Int) < (l0.length:Int):=by omega
    obtain ⟨xs,hxs⟩:∃ xs,xs=l0.map (stB l0 a1):=⟨_,rfl⟩;have hmix:mixL l0 a1 l0.length=xs:=by rw [hxs];simp [mixL]
    have hxl:xs.length=l0.length:=by rw [hxs,List.length_map]
    have hcmp:cmpOut l0 a1=xs.filter (fun b=>!decide (b.f5.length=0)):=by rw [hxs];rfl
    have hR:=Kd.S_R HS.out;rw [hmix] at hR;have hPR:∀ (W:World) (x:S34) (cs:Array Value),True→x∈xs→k34.K W x cs.toList→Calls Try.prog 53 (#[.agg cs] ++ #[]) W fun e w'=>e = .returned (.bool (decide (x.f5.length=0)))∧Below W.heap.size W w':=by
     rintro W x cs - hx hK;obtain ⟨A6,c6,hcs,b5,b6⟩:=k34_open hK;have hcs2:cs = #[.bool x.f0,.bool x.f1,.int .i64 x.f2,.int .i64 x.f3,.int .i64 x.f4,.slice A6 x.f5.length c6]:=by rw [← Array.toArray_toList (xs:=cs),hcs]
     subst hcs2;exact cl2_calls x.f0 x.f1 x.f2 x.f3 x.f4 A6 x.f5.length c6 W
    by_cases h0:l0.length=0
    ·
     have a9:xs = []:=List.eq_nil_of_length_eq_zero (by omega);rw [a9] at hPR hR hcmp;have HCM:=zzm (show cmpOut l0 a1 = [] from hcmp);have hC0:Kd.C k34 wr Av 0 []:=by
      obtain ⟨A9,c9,h9,b0,hC9⟩:=Kd.R_reads hR;injection h9 with e1 e2 e3;rw [e1];exact hC9
     have HD:=zzm (show Calls Try.prog 52 #[.slice Av l0.length cv,.func (.func 53) #[] #[]] wr fun e w'=>e = .returned (.slice Av l0.length cv)∧Below wr.heap.size wr w' by rw [h0];exact deleteB_empty 53 #[] (enters_of Try.func53 (by kernel_rfl) rfl) Av cv wr hC0 hPR);have HRF:=zzm hR;clear hPR hR hC0 hxl hmix hcmp hxs HS h0 a9;go_wp2_with (go_at_call 52;refine HD.out.mono ?_;rintro e w5 ⟨rfl,hb5⟩);go_ret2;refine ⟨_,rfl,?_,HB.out.trans (hb5.mono HB.out.size)⟩;rw [HCM.out];exact Kd.R_mono (Kd.R_lower (Kd.R_below HRF.out hb5) a7) (fun _ _=>trivial)
    ·
     obtain ⟨A9,c9,h9,b0,hC9⟩:=Kd.R_reads hR;injection h9 with e1 e2 e3;subst e1 e3;obtain ⟨ad,_,_,he,_⟩:=Qx hC9 0 (by omega) (by omega);subst he;obtain ⟨G,rfl⟩:=Kd.R_head hR;obtain ⟨cur,hbG,_⟩:=R_block hR;have hR2:Kd.R k34 34 wr N0 (fun k=>N0≤k) (.slice (some ⟨G,0,none⟩) xs.length cv) xs:=by rw [hxl];exact hR
     have HD:=delete34_calls 53 #[] (enters_of Try.func53 (by kernel_rfl) rfl) (fun x=>decide (x.f5.length=0)) (fun _=>True) (fun _ _ _ _=>trivial) G cv N0 (fun k=>N0≤k) xs wr (fun _ _ _ _=>trivial) hPR hR2 trivial;rw [hxl] at HD;obtain ⟨ys,hys⟩:∃ ys,ys=xs.filter (fun b=>!decide (b.f5.length=0)):=⟨_,rfl⟩;rw [← hys] at HD hcmp;have HDD:=zzm HD;have HCM:=zzm hcmp;clear hys;clear HD hPR hR hR2 hC9 hxl hmix hcmp hxs HS b0 e2;go_wp2_with (go_at_call 52;refine HDD.out.mono ?_;rintro e w5 ⟨rfl,hR5,hG5⟩);go_ret2;refine ⟨_,rfl,?_,HB.out.trans (hG5.2.1.mono (by omega))⟩;rw [HCM.out];exact Kd.R_mono (Kd.R_lower hR5 a7) (fun _ _=>trivial)
end
def laws_FnCompact.j0:Nat→List (S34)→List (S34)→Bool→List (S34)→Bool→Bool→Option (Bool)
 | 0,_,_,_,_,_,_=>none
 | k+1,x3,x5,x6,x7,x8,x41=>if x41=true then (if (x6==x8)=true then ((Qq.f k x5 x7).bind fun t462=>(some t462)) else (some false)) else ((Ql.f k x5).bind fun t463=>(if t463=true then ((Rp.f k x5).bind fun t464=>((Rp.f k x3).bind fun t467=>((Qm.f k t464 t467).bind fun t470=>(some t470)))) else (some false)))
def laws_FnCompact.f (k:Nat) (l0:List Int):Option (Bool):=if (l0.length:Int) > 1048576 then (some true) else ((Rh.f k l0).bind fun bt449=>((Rd.f k bt449.1 bt449.2).bind fun bt453=>((Rb.f k bt449.1 bt449.2).bind fun bt457=>(if (bt453.2 != bt457.2)=true then (laws_FnCompact.j0 k bt449.1 bt453.1 bt453.2 bt457.1 bt457.2 true) else ((Qq.f k bt453.1 bt457.1).bind fun t461=>(if t461=true then (laws_FnCompact.j0 k bt449.1 bt453.1 bt453.2 bt457.1 bt457.2 (!bt453.2)) else (laws_FnCompact.j0 k bt449.1 bt453.1 bt453.2 bt457.1 bt457.2 true)))))))
set_option maxHeartbeats 8000000 in
theorem laws_FnCompact.calls (k:Nat) (A0:Option Addr) (c0:Nat) (l0:List Int) (r:Bool) (w:World) (g3:Kd.C (Kd.int .u8) w A0 l0.length l0) (g4:l0.length≤c0) (h:laws_FnCompact.f k l0=some r) :
  Calls Try.prog 10 #[.slice A0 l0.length c0] w fun e w'=>e = .returned (.bool r)∧Below w.heap.size w w':=by
 have h5:=zzm g3;have h6:=zzm g4;clear g3 g4;have HB:=zzm (Below.refl w.heap.size w);have H:(if (l0.length:Int) > 1048576 then (some true) else ((Rh.f k l0).bind fun b8=>((Rd.f k b8.1 b8.2).bind fun a5=>((Rb.f k b8.1 b8.2).bind fun a0=>(if (a5.2 != a0.2)=true then (laws_FnCompact.j0 k b8.1 a5.1 a5.2 a0.1 a0.2 true) else ((Qq.f k a5.1 a0.1).bind fun b9=>(if b9=true then (laws_FnCompact.j0 k b8.1 a5.1 a5.2 a0.1 a0.2 (!a5.2)) else (laws_FnCompact.j0 k b8.1 a5.1 a5.2 a0.1 a0.2 true))))))))=some r:=h;clear h;by_cases c2:(l0.length:Int) > 1048576
 ·
  rw [if_pos c2] at H;have e5:decide (1048576 < (l0.length:Int))=true:=decide_eq_true c2;have e6:decide (1048576 < l0.length)=true:=decide_eq_true (by omega);clear c2;obtain rfl:=Option.some.inj H;go_enter Try.func10,Try.ntmps10;go_wp2;go_ret;exact ⟨zzR,zzh1⟩
 ·
  rw [if_neg c2] at H;have e5:decide (1048576 < (l0.length:Int))=false:=decide_eq_false c2;have e6:decide (1048576 < l0.length)=false:=decide_eq_false (by omega);clear c2;replace H:=zzH H;obtain ⟨⟨a4,c4⟩,e0,H⟩:=H;replace H:((Rd.f k a4 c4).bind fun a5=>((Rb.f k a4 c4).bind fun a0=>(if (a5.2 != a0.2)=true then (laws_FnCompact.j0 k a4 a5.1 a5.2 a0.1 a0.2 true) else ((Qq.f k a5.1 a0.1).bind fun b9=>(if b9=true then (laws_FnCompact.j0 k a4 a5.1 a5.2 a0.1 a0.2 (!a5.2)) else (laws_FnCompact.j0 k a4 a5.1 a5.2 a0.1 a0.2 true))))))=some r:=H;have A3:=zzm e0;clear e0;replace H:=zzH H;obtain ⟨⟨b3,a2⟩,g5,H⟩:=H;replace H:((Rb.f k a4 c4).bind fun a0=>(if (a2 != a0.2)=true then (laws_FnCompact.j0 k a4 b3 a2 a0.1 a0.2 true) else ((Qq.f k b3 a0.1).bind fun b9=>(if b9=true then (laws_FnCompact.j0 k a4 b3 a2 a0.1 a0.2 (!a2)) else (laws_FnCompact.j0 k a4 b3 a2 a0.1 a0.2 true)))))=some r:=H;have A4:=zzm g5;clear g5;replace H:=zzH H;obtain ⟨⟨b7,b0⟩,g6,H⟩:=H;replace H:(if (a2 != b0)=true then (laws_FnCompact.j0 k a4 b3 a2 b7 b0 true) else ((Qq.f k b3 b7).bind fun b9=>(if b9=true then (laws_FnCompact.j0 k a4 b3 a2 b7 b0 (!a2)) else (laws_FnCompact.j0 k a4 b3 a2 b7 b0 true))))=some r:=H;have A5:=zzm g6;clear g6;have e7:=zzm H;clear H;go_enter Try.func10,Try.ntmps10;go_upto_region 6 with (first|((with_reducible refine gate_callee (f:=25) rfl ?_);refine goesL_ (some 14) rfl rfl Try.func25 (by kernel_rfl) rfl #[.slice A0 l0.length c0] rfl zzM2 ?_;(with_reducible refine (Rh.calls k _ _ l0 a4 c4 _ ?side1 ?side2 A3.out).mono ?_);(case side1=>repeat (first|exact h5.out|(with_reducible refine Kd.C_alloc ?_ _)|(with_reducible refine Kd.C_drewN ?_ _)|(with_reducible refine Kd.C_drew ?_)));(case side2=>exact h6.out);rintro e w7 ⟨j6,rfl,ho0,hb⟩;refine ⟨_,rfl,?_⟩;have a7:=zzm (Kd.N_lower (Kd.N_mono (ok':=fun k_=>True) ho0 (fun k_ hk_=>trivial)) (zzo zzh1));have a8:=zzm (zzp zzh1 hb);clear HB;have a3:=a7;have HB:=a8;clear a7 a8;(try clear hb);(try clear hb2);(try clear hk);(try clear hi);(try clear ho0);obtain ⟨c9,d0,eo8⟩:=Kd.N_slice a3.out;subst eo8)|((with_reducible refine gate_callee (f:=23) rfl ?_);refine goesL_ (some 20) rfl rfl Try.func23 (by kernel_rfl) rfl #[.slice c9 a4.length d0,.bool c4] rfl zzM2 ?_;(with_reducible refine (Rd.calls k _ _ a4 c4 b3 a2 _ ?side1 ?side2 A4.out).mono ?_);(case side1=>repeat (first|exact (Kd.N_reads' a3.out).2.2|(with_reducible refine Kd.C_alloc ?_ _)|(with_reducible refine Kd.C_drewN ?_ _)|(with_reducible refine Kd.C_drew ?_)));(case side2=>exact (Kd.N_reads' a3.out).2.1);rintro e w9 ⟨d5,rfl,ho0,hb⟩;refine ⟨_,rfl,?_⟩;have a7:=zzm (Kd.N_elder' (zzN a3.out) (by first|exact Kd.N_base ho0|exact Kd.S_base ho0|exact Kd.R_base ho0) hb);have a8:=zzm (Kd.N_lower (Kd.N_mono (ok':=fun k_=>some k_≠(.slice c9 a4.length d0:Value).ownBlock) (Kd.R_N (Kd.R_bound ho0)) (fun k_ hk_=>(Kd.fresh' (Kd.N_lt (zzN a3.out)) k_ hk_.2.1))) (zzo zzh1));have b2:=zzm (zzp zzh1 hb);clear a3 HB;have a3:=a7;have a6:=a8;have HB:=b2;clear a7 a8 b2;(try clear hb);(try clear hb2);(try clear hk);(try clear hi);(try clear ho0))|((with_reducible refine gate_callee (f:=26) rfl ?_);refine goesL_ (some 26) rfl rfl Try.func26 (by kernel_rfl) rfl #[.slice c9 a4.length d0,.bool c4] rfl zzM2 ?_;(with_reducible refine (Rb.calls k _ _ a4 c4 b7 b0 _ ?side1 ?side2 A5.out).mono ?_);(case side1=>repeat (first|exact (Kd.N_reads' a3.out).2.2|(with_reducible refine Kd.C_alloc ?_ _)|(with_reducible refine Kd.C_drewN ?_ _)|(with_reducible refine Kd.C_drew ?_)));(case side2=>exact (Kd.N_reads' a3.out).2.1);rintro e l6 ⟨d3,rfl,ho0,hb⟩;refine ⟨_,rfl,?_⟩;have a7:=zzm (Kd.N_elder' (zzN a3.out) (by first|exact Kd.N_base ho0|exact Kd.S_base ho0|exact Kd.R_base ho0) hb);have a8:=zzm (Kd.N_elder' (zzN a6.out) (by first|exact Kd.N_base ho0|exact Kd.S_base ho0|exact Kd.R_base ho0) hb);have b2:=zzm (Kd.N_lower (Kd.N_mono (ok':=fun k_=>some k_≠(.slice c9 a4.length d0:Value).ownBlock∧some k_≠(d5:Value).ownBlock) (Kd.R_N (Kd.R_bound ho0)) (fun k_ hk_=>⟨(Kd.fresh' (Kd.N_lt (zzN a3.out)) k_ hk_.2.1),(Kd.fresh' (Kd.N_lt (zzN a6.out)) k_ hk_.2.1)⟩)) (zzo zzh1));have b4:=zzm (zzp zzh1 hb);clear a3 a6 HB;have a3:=a7;have a6:=a8;have b5:=b2;have HB:=b4;clear a7 a8 b2 b4;(try clear hb);(try clear hb2);(try clear hk);(try clear hi);(try clear ho0)))
  (try simp only [Act.put,zzq,zzr,zzs]);go_cut [41] (fun h7 wc=>∃ (kq:Nat) (d2:Bool),h7 = .bool d2∧Aside0 (laws_FnCompact.j0 kq a4 b3 a2 b7 b0 d2=some r)∧Aside0 (kq≤k)∧Aside0 (Kd.N k34 34 wc w.heap.size (fun k_=>some k_≠(d5:Value).ownBlock∧some k_≠(d3:Value).ownBlock) (.slice c9 a4.length d0) a4)∧Aside0 (Kd.N k34 34 wc w.heap.size (fun k_=>some k_≠((.slice c9 a4.length d0):Value).ownBlock∧some k_≠(d3:Value).ownBlock) d5 b3)∧Aside0 (Kd.N k34 34 wc w.heap.size (fun k_=>some k_≠((.slice c9 a4.length d0):Value).ownBlock∧some k_≠(d5:Value).ownBlock) d3 b7)∧Aside0 (Below w.heap.size w wc))
  case first=>
   have H:=e7.out;clear e7;by_cases c3:(a2 != b0)=true
   ·
    rw [if_pos c3] at H;have c7:(a2 != b0)=true:=c3
    (try (have e1:decide (a2=b0)=false:=by simpa using c3))
    (try (have e2:(a2==b0)=false:=by simpa using c3))
    (try (have j4:¬ (a2=b0):=by simpa using c3));clear c3
    (first|rw [c7]|(simp only [i64_w,i32_w];rw [c7])|skip);have H':=zzm H;clear H;go_wp2;go_meet
    case rel=>exact ⟨_,(true),(by first|rfl|(simp;done)|(simp [*];done)),H',⟨by first|omega|exact Nat.le_refl _⟩,⟨by (with_reducible repeat (first|apply Kd.N_alloc|apply Kd.N_drewN|apply Kd.N_drew));exact Kd.N_mono a3.out (fun _ hk=>⟨hk.1.2,hk.2⟩)⟩,⟨by (with_reducible repeat (first|apply Kd.N_alloc|apply Kd.N_drewN|apply Kd.N_drew));exact a6.out⟩,⟨by (with_reducible repeat (first|apply Kd.N_alloc|apply Kd.N_drewN|apply Kd.N_drew));exact b5.out⟩,⟨zzh1⟩⟩
   ·
    rw [if_neg c3] at H;have c7:(a2 != b0)=false:=by simpa using c3
    (try (have e1:decide (a2=b0)=true:=by simpa using c3))
    (try (have e2:(a2==b0)=true:=by simpa using c3));clear c3
    (first|rw [c7]|(simp only [i64_w,i32_w];rw [c7])|skip);obtain ⟨b9,g7,H⟩:=zzG H;by_cases d6:b9=true
    ·
     subst d6;replace H:=zzIt H;have H':=zzm H;clear H;obtain ⟨j7,j8,eo14⟩:=Kd.N_slice a6.out;subst eo14;obtain ⟨j9,k0,eo15⟩:=Kd.N_slice b5.out;subst eo15;go_wp2_with (first|(go_at_call 27;(with_reducible refine (Qq.calls k _ _ b3 _ _ b7 true _ ?side1 ?side2 ?side3 ?side4 g7.out).mono ?_);(case side1=>repeat (first|exact (Kd.N_reads' a6.out).2.2|(with_reducible refine Kd.C_alloc ?_ _)|(with_reducible refine Kd.C_drewN ?_ _)|(with_reducible refine Kd.C_drew ?_)));(case side2=>exact (Kd.N_reads' a6.out).2.1);(case side3=>repeat (first|exact (Kd.N_reads' b5.out).2.2|(with_reducible refine Kd.C_alloc ?_ _)|(with_reducible refine Kd.C_drewN ?_ _)|(with_reducible refine Kd.C_drew ?_)));(case side4=>exact (Kd.N_reads' b5.out).2.1);rintro e l7 ⟨rfl,hb⟩;have a7:=zzm (Kd.N_below (zzN a3.out) hb);have a8:=zzm (Kd.N_below (zzN a6.out) hb);have b2:=zzm (Kd.N_below (zzN b5.out) hb);have b4:=zzm (zzp zzh1 hb);clear a3 a6 b5 HB;have a3:=a7;have a6:=a8;have b5:=b2;have HB:=b4;clear a7 a8 b2 b4;(try clear hb);(try clear hb2);(try clear hk);(try clear hi)));go_meet
     case rel=>exact ⟨_,(!a2),(by first|rfl|(simp;done)|(simp [*];done)),H',⟨by first|omega|exact Nat.le_refl _⟩,⟨by (with_reducible repeat (first|apply Kd.N_alloc|apply Kd.N_drewN|apply Kd.N_drew));exact Kd.N_mono a3.out (fun _ hk=>⟨hk.1.2,hk.2⟩)⟩,⟨by (with_reducible repeat (first|apply Kd.N_alloc|apply Kd.N_drewN|apply Kd.N_drew));exact a6.out⟩,⟨by (with_reducible repeat (first|apply Kd.N_alloc|apply Kd.N_drewN|apply Kd.N_drew));exact b5.out⟩,⟨zzh1⟩⟩
    ·
     replace d6:=Bool.eq_false_iff.mpr d6;subst d6;replace H:=zzIf H;have H':=zzm H;clear H;obtain ⟨k1,k2,eo17⟩:=Kd.N_slice a6.out;subst eo17;obtain ⟨k3,k4,eo18⟩:=Kd.N_slice b5.out;subst eo18;go_wp2_with (first|(go_at_call 27;(with_reducible refine (Qq.calls k _ _ b3 _ _ b7 false _ ?side1 ?side2 ?side3 ?side4 g7.out).mono ?_);(case side1=>repeat (first|exact (Kd.N_reads' a6.out).2.2|(with_reducible refine Kd.C_alloc ?_ _)|(with_reducible refine Kd.C_drewN ?_ _)|(with_reducible refine Kd.C_drew ?_)));(case side2=>exact (Kd.N_reads' a6.out).2.1);(case side3=>repeat (first|exact (Kd.N_reads' b5.out).2.2|(with_reducible refine Kd.C_alloc ?_ _)|(with_reducible refine Kd.C_drewN ?_ _)|(with_reducible refine Kd.C_drew ?_)));(case side4=>exact (Kd.N_reads' b5.out).2.1);rintro e l8 ⟨rfl,hb⟩;have a7:=zzm (Kd.N_below (zzN a3.out) hb);have a8:=zzm (Kd.N_below (zzN a6.out) hb);have b2:=zzm (Kd.N_below (zzN b5.out) hb);have b4:=zzm (zzp zzh1 hb);clear a3 a6 b5 HB;have a3:=a7;have a6:=a8;have b5:=b2;have HB:=b4;clear a7 a8 b2 b4;(try clear hb);(try clear hb2);(try clear hk);(try clear hi)));go_meet
     case rel=>exact ⟨_,(true),(by first|rfl|(simp;done)|(simp [*];done)),H',⟨by first|omega|exact Nat.le_refl _⟩,⟨by (with_reducible repeat (first|apply Kd.N_alloc|apply Kd.N_drewN|apply Kd.N_drew));exact Kd.N_mono a3.out (fun _ hk=>⟨hk.1.2,hk.2⟩)⟩,⟨by (with_reducible repeat (first|apply Kd.N_alloc|apply Kd.N_drewN|apply Kd.N_drew));exact a6.out⟩,⟨by (with_reducible repeat (first|apply Kd.N_alloc|apply Kd.N_drewN|apply Kd.N_drew));exact b5.out⟩,⟨zzh1⟩⟩
  case rest=>
   clear e7;try clear c1
   try clear c2
   try clear e5
   try clear e6
   try clear p2
   try clear l9
   try clear c3
   try clear c7
   try clear e1
   try clear e2
   try clear d6
   obtain ⟨kq,d2,rfl,HA,HJ5,b1,a1,a9,HB⟩:=hcut;cases kq with
   | zero=>exact absurd HA.out (by simp [laws_FnCompact.j0])
   | succ d4=>
    have H:=HA.out;clear HA;simp only [laws_FnCompact.j0] at H;by_cases e3:d2=true
    ·
     subst e3;replace H:=zzIt H;by_cases c5:(a2==b0)=true
     ·
      rw [if_pos c5] at H;have g0:(a2==b0)=true:=c5
      (try (have g1:decide (a2=b0)=true:=by simpa using c5))
      (try (have g2:(a2==b0)=true:=by simpa using c5));clear c5;obtain ⟨g9,h8,H⟩:=zzG H;obtain rfl:=Option.some.inj H;obtain ⟨k5,k6,eo23⟩:=Kd.N_slice a1.out;subst eo23;obtain ⟨k7,k8,eo24⟩:=Kd.N_slice a9.out;subst eo24;go_wp2_with (first|(go_at_call 27;(with_reducible refine (Qq.calls d4 _ _ b3 _ _ b7 g9 _ ?side1 ?side2 ?side3 ?side4 h8.out).mono ?_);(case side1=>repeat (first|exact (Kd.N_reads' a1.out).2.2|(with_reducible refine Kd.C_alloc ?_ _)|(with_reducible refine Kd.C_drewN ?_ _)|(with_reducible refine Kd.C_drew ?_)));(case side2=>exact (Kd.N_reads' a1.out).2.1);(case side3=>repeat (first|exact (Kd.N_reads' a9.out).2.2|(with_reducible refine Kd.C_alloc ?_ _)|(with_reducible refine Kd.C_drewN ?_ _)|(with_reducible refine Kd.C_drew ?_)));(case side4=>exact (Kd.N_reads' a9.out).2.1);rintro e m0 ⟨rfl,hb⟩;have a7:=zzm (Kd.N_below (zzN b1.out) hb);have a8:=zzm (Kd.N_below (zzN a1.out) hb);have b2:=zzm (Kd.N_below (zzN a9.out) hb);have b4:=zzm (zzp zzh1 hb);clear b1 a1 a9 HB;have b1:=a7;have a1:=a8;have a9:=b2;have HB:=b4;clear a7 a8 b2 b4;(try clear hb);(try clear hb2);(try clear hk);(try clear hi)));go_ret;exact ⟨zzR,zzh1⟩
     ·
      rw [if_neg c5] at H;have g0:(a2==b0)=false:=by simpa using c5
      (try (have g1:decide (a2=b0)=false:=by simpa using c5))
      (try (have g2:(a2==b0)=false:=by simpa using c5))
      (try (have j5:¬ (a2=b0):=by simpa using c5));clear c5;obtain rfl:=Option.some.inj H;go_wp2;go_ret;exact ⟨zzR,zzh1⟩
    ·
     replace e3:=Bool.eq_false_iff.mpr e3;subst e3;replace H:=zzIf H;obtain ⟨h0,g8,H⟩:=zzG H;by_cases e4:h0=true
     ·
      subst e4;replace H:=zzIt H;obtain ⟨e8,h9,H⟩:=zzG H;obtain ⟨e9,j3,H⟩:=zzG H;obtain ⟨h1,e0,H⟩:=zzG H;obtain rfl:=Option.some.inj H;obtain ⟨d8,d9,eo31⟩:=Kd.N_slice a1.out;subst eo31;go_wp2_with (first|((with_reducible refine gate_callee (f:=29) rfl ?_);refine goesL_ (some 51) rfl rfl Try.func29 (by kernel_rfl) rfl #[.slice d8 b3.length d9] rfl zzM2 ?_;(with_reducible refine (Ql.calls d4 _ _ b3 true _ ?side1 ?side2 g8.out).mono ?_);(case side1=>repeat (first|exact (Kd.N_reads' a1.out).2.2|(with_reducible refine Kd.C_alloc ?_ _)|(with_reducible refine Kd.C_drewN ?_ _)|(with_reducible refine Kd.C_drew ?_)));(case side2=>exact (Kd.N_reads' a1.out).2.1);rintro e m1 ⟨rfl,hb⟩;refine ⟨_,rfl,?_⟩;have a7:=zzm (Kd.N_below (zzN b1.out) hb);have a8:=zzm (Kd.N_below (zzN a1.out) hb);have b2:=zzm (Kd.N_below (zzN a9.out) hb);have b4:=zzm (zzp zzh1 hb);clear b1 a1 a9 HB;have b1:=a7;have a1:=a8;have a9:=b2;have HB:=b4;clear a7 a8 b2 b4;(try clear hb);(try clear hb2);(try clear hk);(try clear hi))|(go_at_call 16;(with_reducible refine (Rp.calls d4 _ _ b3 e8 _ ?side1 ?side2 h9.out).mono ?_);(case side1=>repeat (first|exact (Kd.N_reads' a1.out).2.2|(with_reducible refine Kd.C_alloc ?_ _)|(with_reducible refine Kd.C_drewN ?_ _)|(with_reducible refine Kd.C_drew ?_)));(case side2=>exact (Kd.N_reads' a1.out).2.1);rintro e m2 ⟨h2,rfl,ho0,hb⟩;have a7:=zzm (Kd.N_elder' (zzN b1.out) (by first|exact Kd.N_base ho0|exact Kd.S_base ho0|exact Kd.R_base ho0) hb);have a8:=zzm (Kd.N_elder' (zzN a1.out) (by first|exact Kd.N_base ho0|exact Kd.S_base ho0|exact Kd.R_base ho0) hb);have b2:=zzm (Kd.N_elder' (zzN a9.out) (by first|exact Kd.N_base ho0|exact Kd.S_base ho0|exact Kd.R_base ho0) hb);have b4:=zzm (Kd.N_lower (Kd.N_mono (ok':=fun k_=>some k_≠(.slice c9 a4.length d0:Value).ownBlock∧some k_≠(.slice d8 b3.length d9:Value).ownBlock∧some k_≠(d3:Value).ownBlock) (Kd.S_N (Kd.S_bound ho0)) (fun k_ hk_=>⟨(Kd.fresh' (Kd.N_lt (zzN b1.out)) k_ hk_.2.1),(Kd.fresh' (Kd.N_lt (zzN a1.out)) k_ hk_.2.1),(Kd.fresh' (Kd.N_lt (zzN a9.out)) k_ hk_.2.1)⟩)) (zzo zzh1));have d1:=zzm (zzp zzh1 hb);clear b1 a1 a9 HB;have b1:=a7;have a1:=a8;have a9:=b2;have b6:=b4;have HB:=d1;clear a7 a8 b2 b4 d1;(try clear hb);(try clear hb2);(try clear hk);(try clear hi);(try clear ho0))|(go_at_call 16;(with_reducible refine (Rp.calls d4 _ _ a4 e9 _ ?side1 ?side2 j3.out).mono ?_);(case side1=>repeat (first|exact (Kd.N_reads' b1.out).2.2|(with_reducible refine Kd.C_alloc ?_ _)|(with_reducible refine Kd.C_drewN ?_ _)|(with_reducible refine Kd.C_drew ?_)));(case side2=>exact (Kd.N_reads' b1.out).2.1);rintro e m3 ⟨k9,rfl,ho0,hb⟩;have a7:=zzm (Kd.N_elder' (zzN b1.out) (by first|exact Kd.N_base ho0|exact Kd.S_base ho0|exact Kd.R_base ho0) hb);have a8:=zzm (Kd.N_elder' (zzN a1.out) (by first|exact Kd.N_base ho0|exact Kd.S_base ho0|exact Kd.R_base ho0) hb);have b2:=zzm (Kd.N_elder' (zzN a9.out) (by first|exact Kd.N_base ho0|exact Kd.S_base ho0|exact Kd.R_base ho0) hb);have b4:=zzm (Kd.N_elder' (zzN b6.out) (by first|exact Kd.N_base ho0|exact Kd.S_base ho0|exact Kd.R_base ho0) hb);have d1:=zzm (Kd.N_lower (Kd.N_mono (ok':=fun k_=>some k_≠(.slice c9 a4.length d0:Value).ownBlock∧some k_≠(.slice d8 b3.length d9:Value).ownBlock∧some k_≠(d3:Value).ownBlock∧some k_≠(h2:Value).ownBlock) (Kd.S_N (Kd.S_bound ho0)) (fun k_ hk_=>⟨(Kd.fresh' (Kd.N_lt (zzN b1.out)) k_ hk_.2.1),(Kd.fresh' (Kd.N_lt (zzN a1.out)) k_ hk_.2.1),(Kd.fresh' (Kd.N_lt (zzN a9.out)) k_ hk_.2.1),(Kd.fresh' (Kd.N_lt (zzN b6.out)) k_ hk_.2.1)⟩)) (zzo zzh1));have d7:=zzm (zzp zzh1 hb);clear b1 a1 a9 b6 HB;have b1:=a7;have a1:=a8;have a9:=b2;have b6:=b4;have c8:=d1;have HB:=d7;clear a7 a8 b2 b4 d1 d7;(try clear hb);(try clear hb2);(try clear hk);(try clear hi);(try clear ho0);obtain ⟨l2,l3,eo35⟩:=Kd.N_slice b6.out;subst eo35;obtain ⟨l4,l5,eo36⟩:=Kd.N_slice c8.out;subst eo36)|(go_at_call 18;(with_reducible refine (Qm.calls d4 _ _ e8 _ _ e9 h1 _ ?side1 ?side2 ?side3 ?side4 e0.out).mono ?_);(case side1=>repeat (first|exact (Kd.N_reads' b6.out).2.2|(with_reducible refine Kd.C_alloc ?_ _)|(with_reducible refine Kd.C_drewN ?_ _)|(with_reducible refine Kd.C_drew ?_)));(case side2=>exact (Kd.N_reads' b6.out).2.1);(case side3=>repeat (first|exact (Kd.N_reads' c8.out).2.2|(with_reducible refine Kd.C_alloc ?_ _)|(with_reducible refine Kd.C_drewN ?_ _)|(with_reducible refine Kd.C_drew ?_)));(case side4=>exact (Kd.N_reads' c8.out).2.1);rintro e m4 ⟨rfl,hb⟩;have a7:=zzm (Kd.N_below (zzN b1.out) hb);have a8:=zzm (Kd.N_below (zzN a1.out) hb);have b2:=zzm (Kd.N_below (zzN a9.out) hb);have b4:=zzm (Kd.N_below (zzN b6.out) hb);have d1:=zzm (Kd.N_below (zzN c8.out) hb);have d7:=zzm (zzp zzh1 hb);clear b1 a1 a9 b6 c8 HB;have b1:=a7;have a1:=a8;have a9:=b2;have b6:=b4;have c8:=d1;have HB:=d7;clear a7 a8 b2 b4 d1 d7;(try clear hb);(try clear hb2);(try clear hk);(try clear hi)));go_ret;exact ⟨zzR,zzh1⟩
     ·
      replace e4:=Bool.eq_false_iff.mpr e4;subst e4;replace H:=zzIf H;obtain rfl:=Option.some.inj H;obtain ⟨h3,h4,eo38⟩:=Kd.N_slice a1.out;subst eo38;go_wp2_with (first|((with_reducible refine gate_callee (f:=29) rfl ?_);refine goesL_ (some 51) rfl rfl Try.func29 (by kernel_rfl) rfl #[.slice h3 b3.length h4] rfl zzM2 ?_;(with_reducible refine (Ql.calls d4 _ _ b3 false _ ?side1 ?side2 g8.out).mono ?_);(case side1=>repeat (first|exact (Kd.N_reads' a1.out).2.2|(with_reducible refine Kd.C_alloc ?_ _)|(with_reducible refine Kd.C_drewN ?_ _)|(with_reducible refine Kd.C_drew ?_)));(case side2=>exact (Kd.N_reads' a1.out).2.1);rintro e m5 ⟨rfl,hb⟩;refine ⟨_,rfl,?_⟩;have a7:=zzm (Kd.N_below (zzN b1.out) hb);have a8:=zzm (Kd.N_below (zzN a1.out) hb);have b2:=zzm (Kd.N_below (zzN a9.out) hb);have b4:=zzm (zzp zzh1 hb);clear b1 a1 a9 HB;have b1:=a7;have a1:=a8;have a9:=b2;have HB:=b4;clear a7 a8 b2 b4;(try clear hb);(try clear hb2);(try clear hk);(try clear hi)));go_ret;exact ⟨zzR,zzh1⟩
def laws_FnCompact.Pure:Prop:=∀ (l0:List Int),l0.length≤maxLen→l0.length * 1≤140737488351232→(∀ x∈l0,(Lit.int .u8 x).wf=true)→∃ k,laws_FnCompact.f k l0=some true
theorem laws_FnCompact.walk (P:laws_FnCompact.Pure) (a0:Option Addr) (len0 cap0:Nat) (z0:List Int) (w:World) (w0:(a0=none∧len0=0∧cap0=0∧z0 = [])∨∃ x,a0=some x∧len0≤cap0∧cap0≤maxLen∧z0.length=cap0∧(∀ i,i < z0.length→w.cell? (x.add i)=some (.int .u8 (z0.getD i 0)))∧∀ n∈z0,(Lit.int .u8 n).wf=true) (y0:len0 * 1≤140737488351232) :
  Calls Try.prog 10 #[.slice a0 len0 cap0] w fun e w'=>e = .returned (.bool true)∧Below w.heap.size w w':=by
 obtain ⟨l0,rfl,hr0,hm0,hw0,hc0⟩:=ReadsInt.ofRowC w0;obtain ⟨k,h⟩:=P l0 hm0 y0 hw0;refine (laws_FnCompact.calls k _ _ l0 true w (Kd.C_of_reads (d:=(0:Int)) (h1:=fun _=>rfl) hr0) hc0 h).mono ?_;rintro e w' ⟨rfl,hd⟩;exact ⟨rfl,hd⟩
end Go.Proofs.Ytkhjmhdgcmffaaa.V
namespace Go.Proofs.Ytkhjmhdgcmffaaa.VQ
open Go.RowKit Go.Proofs.Ytkhjmhdgcmffaaa.V Go.Proofs.YtkhjmhdgcmffaaaW.PrintWords Go.Proofs.YtkhjmhdgcmffaaaW.PrintLast
set_option linter.unusedVariables false
set_option linter.unusedSimpArgs false
theorem vl_true {l:List Bt} (h:VL l):vl l=true:=(vl_iff l).2 h
theorem vl_false {l:List Bt} (h:¬ VL l):vl l=false:=by rw [← Bool.not_eq_true,vl_iff];exact h
theorem wstep (j:Nat) (h:j < 4000000000000000):wrap64 ((j:Int)+1)=((j+1:Nat):Int):=by rw [wrap_id (by omega) (by omega)];omega
def okc (r:Rc):Prop:=r.f3.length≤1048576∧r.f5.length≤1048576
theorem pv_len {has:Bool} {l:List Int} (h:pv has l=true):l.length≤12:=by
 unfold pv at h
 split at h
 ·rw [Bool.and_eq_true,decide_eq_true_eq] at h
  exact h.1
 ·rw [decide_eq_true_eq] at h
  omega
theorem rv_okc {r:Rc} (h:rv r=true):r.f3.length≤12∧r.f5.length≤12:=by
 unfold rv at h
 rw [Bool.and_eq_true,Bool.and_eq_true] at h
 exact ⟨pv_len h.2.1,pv_len h.2.2⟩
theorem rv_range {r:Rc} (h:rv r=true) : 0≤r.f0∧r.f0≤99999:=by
 unfold rv at h
 rw [Bool.and_eq_true,decide_eq_true_eq] at h
 exact h.1.1
theorem rv_key {r:Rc} (h:rv r=true) (h2:r.f2=true):ab r.f3=true:=by
 unfold rv pv at h
 rw [Bool.and_eq_true,Bool.and_eq_true,if_pos h2,Bool.and_eq_true] at h
 exact h.2.1.2
theorem rcOf_eq (l:List Bt) (x:Nat×Nat):rcOf l x=rr (rb l (x.1:Int)).f5 (x.2:Int):=rfl
theorem mem_pts {l:List Bt} {x:Nat×Nat} : x∈pts l↔x.1 < l.length∧x.2 < (rb l (x.1:Int)).f5.length:=by
 unfold pts ptsTo ptsRow
 rw [List.mem_flatMap]
 constructor
 ·rintro ⟨i,hi,hx⟩
  obtain ⟨j,hj,rfl⟩:=List.mem_map.1 hx
  exact ⟨List.mem_range.1 hi,List.mem_range.1 hj⟩
 ·rintro ⟨h1,h2⟩
  exact ⟨x.1,List.mem_range.2 h1,List.mem_map.2 ⟨x.2,List.mem_range.2 h2,rfl⟩⟩
def offP (l:List Bt) (x:Nat×Nat):Int:=(rcOf l x).f0
theorem rv_at {l:List Bt} (h:VL l) {x:Nat×Nat} (hx:x∈pts l):rv (rcOf l x)=true:=by
 obtain ⟨h1,h2⟩:=mem_pts.1 hx
 exact ((VL_at h x.1 h1).2.2.2 x.2 (Nat.zero_le _) h2).1
theorem RF_le {r:List Rc} (h:RF r 0) {i j:Nat} (hij:i≤j) (hj:j < r.length):(rr r (i:Int)).f0≤(rr r (j:Int)).f0:=by
 rcases Nat.lt_or_ge i j with h1|h1
 ·have:=RF_lt h (j - i - 1) i (by omega)
  rw [show i+(j - i - 1)+1=j by omega] at this
  omega
 ·rw [show i=j by omega];exact Int.le_refl _
theorem fOff_le_at {l:List Bt} (h:VL l) {x:Nat×Nat} (hx:x∈pts l):fOff (rb l (x.1:Int))≤offP l x:=by
 obtain ⟨h1,h2⟩:=mem_pts.1 hx
 exact RF_le (VL_at h x.1 h1).2.2.2 (Nat.zero_le x.2) h2
theorem lOff_ge_at {l:List Bt} (h:VL l) {x:Nat×Nat} (hx:x∈pts l):offP l x≤lOff (rb l (x.1:Int)):=by
 obtain ⟨h1,h2⟩:=mem_pts.1 hx
 have:=RF_le (VL_at h x.1 h1).2.2.2 (show x.2≤(rb l (x.1:Int)).f5.length - 1 by omega) (by omega)
 unfold lOff
 rw [show ((rb l (x.1:Int)).f5.length:Int) - 1=(((rb l (x.1:Int)).f5.length - 1:Nat):Int) by omega]
 exact this
theorem VL_cross {l:List Bt} (h:VL l) {i j:Nat} (hij:i < j) (hj:j < l.length):lOff (rb l (i:Int)) < fOff (rb l (j:Int)):=by
 have h1:=(h.2 (i+1) (Nat.zero_le _) (by omega)).2 (by omega)
 rw [show ((i+1:Nat):Int) - 1=(i:Int) by omega] at h1
 rcases Nat.lt_or_ge (i+1) j with h2|h2
 ·have:=VL_lt' h h2 hj
  omega
 ·rw [show j=i+1 by omega];exact h1
theorem off_lt {l:List Bt} (h:VL l) {x y:Nat×Nat} (hx:x∈pts l) (hy:y∈pts l) (hlt:x.1 < y.1∨(x.1=y.1∧x.2 < y.2)):offP l x < offP l y:=by
 rcases hlt with h1|⟨h1,h2⟩
 ·have a:=lOff_ge_at h hx
  have b:=fOff_le_at h hy
  have c:=VL_cross h h1 (mem_pts.1 hy).1
  omega
 ·obtain ⟨y1,y2⟩:=mem_pts.1 hy
  have:=RF_lt (VL_at h y.1 y1).2.2.2 (y.2 - x.2 - 1) x.2 (by omega)
  rw [show x.2+(y.2 - x.2 - 1)+1=y.2 by omega] at this
  show (rr (rb l (x.1:Int)).f5 (x.2:Int)).f0 < (rr (rb l (y.1:Int)).f5 (y.2:Int)).f0
  rw [h1]
  exact this
theorem pts_lex (l:List Bt):(pts l).Pairwise (fun x y=>x.1 < y.1∨(x.1=y.1∧x.2 < y.2)):=by
 unfold pts ptsTo
 rw [List.pairwise_flatMap]
 refine ⟨fun i hi=>?_,?_⟩
 ·unfold ptsRow
  rw [List.pairwise_map]
  exact List.pairwise_lt_range.imp (fun hab=>.inr ⟨rfl,hab⟩)
 ·refine List.pairwise_lt_range.imp (fun {i j} hij x hx y hy=>?_)
  unfold ptsRow at hx hy
  obtain ⟨a,_,rfl⟩:=List.mem_map.1 hx
  obtain ⟨b,_,rfl⟩:=List.mem_map.1 hy
  exact .inl hij
theorem pts_sorted {l:List Bt} (h:VL l):(pts l).Pairwise (fun x y=>offP l x < offP l y):=
 (pts_lex l).imp_of_mem (fun hx hy hlt=>off_lt h hx hy hlt)
theorem ptsTo_len {l:List Bt} (h:VL l):∀ i,i≤l.length→(ptsTo l i).length≤6 * i
 | 0,_=>by simp [ptsTo]
 | i+1,hi=>by
  have ih:=ptsTo_len h i (by omega)
  have h1:=(vB_pos (VL_at h i (by omega))).2
  rw [ptsTo_succ,List.length_append]
  have h2:(ptsRow l i).length=(rb l (i:Int)).f5.length:=by unfold ptsRow;rw [List.length_map,List.length_range]
  omega
theorem pts_len {l:List Bt} (h:VL l):(pts l).length≤48:=by
 have:=ptsTo_len h l.length (Nat.le_refl _)
 have:=h.1
 show (ptsTo l l.length).length≤48
 omega
theorem rv_mem {l:List Bt} (h:VL l) {b:Bt} (hb:b∈l) {r:Rc} (hr:r∈b.f5):rv r=true:=by
 obtain ⟨j,hj,rfl⟩:=List.getElem_of_mem hb
 obtain ⟨q,hq,rfl⟩:=List.getElem_of_mem hr
 have:=((VL_at h j hj).2.2.2 q (Nat.zero_le _) (by rw [rb_nat l j hj];exact hq)).1
 rw [rb_nat l j hj,rr_nat _ q hq] at this
 exact this
theorem okLog_of {l:List Bt} (h:VL l):okLog l=true:=by
 unfold okLog
 have h1:=pts_len h
 rw [Bool.and_eq_true,decide_eq_true_eq,List.all_eq_true]
 refine ⟨by omega,fun b hb=>?_⟩
 rw [List.all_eq_true]
 intro r hr
 have hv:=rv_mem h hb hr
 have h2:=rv_range hv
 have h3:=rv_okc hv
 rw [Bool.and_eq_true,Bool.and_eq_true,Bool.and_eq_true,decide_eq_true_eq,decide_eq_true_eq,decide_eq_true_eq]
 refine ⟨⟨h2,by omega⟩,by omega,?_⟩
 rw [Bool.or_eq_true]
 cases hk:r.f2 with
 | false=>exact .inl rfl
 | true=>
  right
  have h4:=rv_key hv hk
  unfold ab at h4
  rw [decide_eq_true_eq] at h4
  unfold keyOk
  rw [Bool.and_eq_true,decide_eq_true_eq,List.all_eq_true]
  exact ⟨by omega,fun x hx=>by rw [decide_eq_true_eq];exact h4 x hx⟩
theorem hexDig_inj:∀ a b:Fin 16,hexDig ((a.1:Nat):Int)=hexDig ((b.1:Nat):Int)→a=b:=by decide +kernel
theorem hexDig_eq {x y:Int} (h0 : 0≤x) (h1:x < 16) (h2 : 0≤y) (h3:y < 16) (h:hexDig x=hexDig y):x=y:=by
 have:=hexDig_inj ⟨x.toNat,by omega⟩ ⟨y.toNat,by omega⟩ (by
  show hexDig ((x.toNat:Nat):Int)=hexDig ((y.toNat:Nat):Int)
  rw [Int.toNat_of_nonneg h0,Int.toNat_of_nonneg h2]
  exact h)
 have:=congrArg Fin.val this
 dsimp only at this
 omega
theorem hexOf_inj:∀ {a b:List Int},ab a=true→ab b=true→hexOf a=hexOf b→a=b
 | [],[],_,_,_=>rfl
 | [],y::b,_,_,h=>by simp [hexOf] at h
 | x::a,[],_,_,h=>by simp [hexOf] at h
 | x::a,y::b,ha,hb,h=>by
  rw [ab_cons,Bool.and_eq_true,decide_eq_true_eq] at ha hb
  have h1:hexDig (x / 16)=hexDig (y / 16)∧hexDig (x % 16)=hexDig (y % 16)∧hexOf a=hexOf b:=by
   have h2 : [hexDig (x / 16),hexDig (x % 16)]++hexOf a = [hexDig (y / 16),hexDig (y % 16)]++hexOf b:=h
   simp only [List.cons_append,List.nil_append,List.cons.injEq] at h2
   exact h2
  have e1:=hexDig_eq (by omega) (by omega) (by omega) (by omega) h1.1
  have e2:=hexDig_eq (by omega) (by omega) (by omega) (by omega) h1.2.1
  rw [hexOf_inj ha.2 hb.2 h1.2.2,show x=y by omega]
def cnd (l:List Bt) (kk:List UInt8) (x:Nat×Nat):Bool:=!mkOf l x&&((rcOf l x).f2&&decide (hexOf (rcOf l x).f3=kk))
theorem offStep_eq (l:List Bt) (kk:List UInt8) (a:Int) (x:Nat×Nat):offStep l kk a x=if cnd l kk x=true then offP l x else a:=rfl
theorem fold_none (l:List Bt) (kk:List UInt8):∀ (xs:List (Nat×Nat)) (a:Int),(∀ x∈xs,cnd l kk x=false)→xs.foldl (offStep l kk) a=a
 | [],a,_=>rfl
 | x::xs,a,h=>by
  rw [List.foldl_cons,offStep_eq,h x (List.mem_cons_self ..),if_neg (by simp)]
  exact fold_none l kk xs a (fun y hy=>h y (List.mem_cons_of_mem _ hy))
theorem fold_last (l:List Bt) (kk:List UInt8):∀ (xs:List (Nat×Nat)) (a:Int),xs.Pairwise (fun x y=>offP l x < offP l y)→(∃ x∈xs,cnd l kk x=true) →
  ∃ y∈xs,cnd l kk y=true∧xs.foldl (offStep l kk) a=offP l y∧∀ z∈xs,cnd l kk z=true→offP l z≤offP l y
 | [],a,_,h=>by obtain ⟨x,hx,_⟩:=h;cases hx
 | x::xs,a,hp,h=>by
  rw [List.pairwise_cons] at hp
  by_cases h1:∃ y∈xs,cnd l kk y=true
  ·obtain ⟨y,hy,hc,he,hm⟩:=fold_last l kk xs (offStep l kk a x) hp.2 h1
   refine ⟨y,List.mem_cons_of_mem _ hy,hc,he,fun z hz hzc=>?_⟩
   rcases List.mem_cons.1 hz with rfl|hz
   ·have:=hp.1 y hy;omega
   ·exact hm z hz hzc
  ·have h2:∀ y∈xs,cnd l kk y=false:=fun y hy=>by
    cases hc:cnd l kk y with
    | false=>rfl
    | true=>exact absurd ⟨y,hy,hc⟩ h1
   obtain ⟨y,hy,hc⟩:=h
   have hxc:cnd l kk x=true:=by
    rcases List.mem_cons.1 hy with rfl|hy
    ·exact hc
    ·rw [h2 y hy] at hc;cases hc
   refine ⟨x,List.mem_cons_self ..,hxc,?_,fun z hz hzc=>?_⟩
   ·rw [List.foldl_cons,fold_none l kk xs _ h2,offStep_eq,if_pos hxc]
   ·rcases List.mem_cons.1 hz with rfl|hz
    ·exact Int.le_refl _
    ·rw [h2 z hz] at hzc;cases hzc
def LatAt (l:List Bt) (r:Rc) (x:Nat×Nat):Prop:=mkOf l x=false∧(rcOf l x).f2=true∧r.f0 < (rcOf l x).f0∧(rcOf l x).f3=r.f3
def LaterP (l:List Bt) (r:Rc):Prop:=∃ x∈pts l,LatAt l r x
theorem cnd_key {l:List Bt} (h:VL l) {x y:Nat×Nat} (hx:x∈pts l) (hy:y∈pts l) (h2:(rcOf l x).f2=true):cnd l (hexOf (rcOf l x).f3) y=true↔mkOf l y=false∧(rcOf l y).f2=true∧(rcOf l y).f3=(rcOf l x).f3:=by
 unfold cnd
 rw [Bool.and_eq_true,Bool.and_eq_true,decide_eq_true_eq]
 constructor
 ·rintro ⟨a,b,c⟩
  exact ⟨by simpa using a,b,hexOf_inj (rv_key (rv_at h hy) b) (rv_key (rv_at h hx) h2) c⟩
 ·rintro ⟨a,b,c⟩
  exact ⟨by simpa using a,b,by rw [c]⟩
theorem last_iff {l:List Bt} (h:VL l) {x:Nat×Nat} (hx:x∈pts l) (hm:mkOf l x=false) (h2:(rcOf l x).f2=true):lastOff l (pts l) (hexOf (rcOf l x).f3)=(rcOf l x).f0↔¬ LaterP l (rcOf l x):=by
 obtain ⟨y,hy,hc,he,hmax⟩:=fold_last l (hexOf (rcOf l x).f3) (pts l) 0 (pts_sorted h) ⟨x,hx,(cnd_key h hx hx h2).2 ⟨hm,h2,rfl⟩⟩
 obtain ⟨y1,y2,y3⟩:=(cnd_key h hx hy h2).1 hc
 have hxy:=hmax x hx ((cnd_key h hx hx h2).2 ⟨hm,h2,rfl⟩)
 unfold lastOff
 rw [he]
 constructor
 ·rintro e ⟨z,hz,z1,z2,z3,z4⟩
  have:=hmax z hz ((cnd_key h hx hz h2).2 ⟨z1,z2,z4⟩)
  have e1:offP l z=(rcOf l z).f0:=rfl
  omega
 ·intro hn
  have:¬ (rcOf l x).f0 < (rcOf l y).f0:=fun hlt=>hn ⟨y,hy,y1,y2,hlt,y3⟩
  have e1:offP l y=(rcOf l y).f0:=rfl
  have e2:offP l x=(rcOf l x).f0:=rfl
  omega
theorem keep_iff {l:List Bt} (h:VL l) {x:Nat×Nat} (hx:x∈pts l) (gone:Bool):stayB l gone x=true↔mkOf l x=true∨((rcOf l x).f2=true∧((rcOf l x).f4=true∨gone=true)∧¬ LaterP l (rcOf l x)):=by
 unfold stayB
 rw [Bool.or_eq_true,Bool.and_eq_true,Bool.and_eq_true,Bool.or_eq_true,beq_iff_eq]
 cases hm:mkOf l x with
 | true=>simp
 | false=>
  constructor
  ·rintro (h1|⟨h1,h2,h3⟩)
   ·cases h1
   ·exact .inr ⟨h1,h3,(last_iff h hx hm h1).1 h2⟩
  ·rintro (h1|⟨h1,h2,h3⟩)
   ·cases h1
   ·exact .inr ⟨h1,(last_iff h hx hm h1).2 h3,h2⟩
theorem l3Same_loop (a b:List Int) (hl:a.length=b.length) (hs:a.length≤1000000000000000):∀ (d i:Nat),a.length - i=d→i≤a.length→Ev (fun k=>Qw.l0 k a 0 b (i:Int)) (decide (a.drop i=b.drop i)):=by
 intro d
 induction d with
 | zero=>
  intro i hd hi
  rw [show a.drop i = [] from List.drop_eq_nil_of_le (by omega),show b.drop i = [] from List.drop_eq_nil_of_le (by omega)]
  refine ev_succ ?_
  simp only [Qw.l0,if_neg (show ¬ (i:Int) < (b.length:Int) by omega),decide_true]
  exact ev_some _
 | succ d ih=>
  intro i hd hi
  have e1:wrap64 ((i:Int)+1)=((i+1:Nat):Int):=by rw [wrap_id (by omega) (by omega)];omega
  have e0:wrap64 (0+(i:Int))=(i:Int):=by rw [wrap_id (by omega) (by omega)];omega
  rw [drop_int (show i < a.length by omega),drop_int (show i < b.length by omega)]
  refine ev_succ ?_
  simp only [Qw.l0,if_pos (show (i:Int) < (b.length:Int) by omega),e0,if_pos (show (0:Int)≤i by omega),if_pos (show (i:Int) < (a.length:Int) by omega),e1]
  by_cases h0:rd a i=rd b i
  ·simp only [if_pos h0]
   have:=ih (i+1) (by omega) (by omega)
   simpa [h0] using this
  ·simp only [if_neg h0]
   rw [decide_eq_false (by simp [h0])]
   exact ev_some _
theorem l16Same (a b:List Int) (hs:a.length≤1000000000000000):Ev (fun k=>Ro.f k a b) (decide (a=b)):=by
 unfold Ro.f
 by_cases hl:a.length=b.length
 ·simp only [if_pos (show (a.length:Int)=(b.length:Int) by omega)]
  have h:=l3Same_loop a b hl hs a.length 0 (by omega) (by omega)
  have e0:wrap64 (0+(b.length:Int))=(b.length:Int):=by rw [wrap_id (by omega) (by omega)];omega
  refine Ev.bind (g:=fun k=>Qw.f k a 0 b) (a:=decide (a=b)) ?_ (ev_some _)
  unfold Qw.f
  simp only [e0,if_neg (show ¬ (b.length:Int) > (a.length:Int) by omega)]
  simpa using h
 ·simp only [if_neg (show ¬ (a.length:Int)=(b.length:Int) by omega)]
  rw [decide_eq_false (fun e=>hl (by rw [e]))]
  exact ev_some _
def LatFrom (l:List Bt) (r:Rc) (i j:Nat):Prop:=∃ x∈pts l,(i < x.1∨(i=x.1∧j≤x.2))∧LatAt l r x
theorem LatFrom_step {l:List Bt} {r:Rc} {i j:Nat} (hi:i < l.length) (hj:j < (rb l (i:Int)).f5.length) (h:¬ LatAt l r (i,j)):LatFrom l r i j↔LatFrom l r i (j+1):=by
 constructor
 ·rintro ⟨x,hx,h1,h2⟩
  refine ⟨x,hx,?_,h2⟩
  rcases h1 with h1|⟨h1,h3⟩
  ·exact .inl h1
  ·rcases Nat.lt_or_ge j x.2 with h4|h4
   ·exact .inr ⟨h1,h4⟩
   ·have:x=(i,j):=Prod.ext h1.symm (by show x.2=j;omega)
    exact absurd (this ▸ h2) h
 ·rintro ⟨x,hx,h1,h2⟩
  exact ⟨x,hx,by omega,h2⟩
theorem LatFrom_next {l:List Bt} {r:Rc} {i j:Nat} (hj:¬ j < (rb l (i:Int)).f5.length):LatFrom l r i j↔LatFrom l r (i+1) 0:=by
 constructor
 ·rintro ⟨x,hx,h1,h2⟩
  refine ⟨x,hx,?_,h2⟩
  have h3:=(mem_pts.1 hx).2
  rcases h1 with h1|⟨h1,h4⟩
  ·omega
  ·rw [← h1] at h3
   omega
 ·rintro ⟨x,hx,h1,h2⟩
  exact ⟨x,hx,by omega,h2⟩
theorem later_loop (l:List Bt) (hl:smallBs l) (r:Rc):∀ (d i:Nat),l.length - i=d→i≤l.length→Evs (fun k=>Qk.l0 k l (i:Int) r.f0 r.f1 r.f2 r.f3 r.f4 r.f5) (fun b=>b=true↔LatFrom l r i 0):=by
 intro d
 induction d with
 | zero=>
  intro i hd hi
  refine Evs.succ ?_
  simp only [Qk.l0,if_neg (show ¬ (i:Int) < (l.length:Int) by omega)]
  refine Evs.done ⟨(fun h=>by cases h),?_⟩
  rintro ⟨x,hx,h1,_⟩
  have:=(mem_pts.1 hx).1
  omega
 | succ d ih=>
  intro i hd hi
  have hil:i < l.length:=by omega
  have hll:=hl.1
  have hsm:=smallBs_at hl i hil
  have e1:=wstep i (by omega)
  refine Evs.succ ?_
  simp only [Qk.l0,if_pos (show (i:Int) < (l.length:Int) by omega)]
  have inner:∀ (e j:Nat),(rb l (i:Int)).f5.length - j=e→j≤(rb l (i:Int)).f5.length→Evs (fun k=>Qk.l1 k l (i:Int) (j:Int) r.f0 r.f1 r.f2 r.f3 r.f4 r.f5) (fun b=>b=true↔LatFrom l r i j):=by
   intro e
   induction e with
   | zero=>
    intro j he hj
    refine Evs.succ ?_
    simp only [Qk.l1,if_pos (show 0≤(i:Int) by omega),if_pos (show (i:Int) < (l.length:Int) by omega),if_neg (show ¬ (j:Int) < ((rb l (i:Int)).f5.length:Int) by omega),e1]
    refine (ih (i+1) (by omega) (by omega)).mono (fun b hb=>hb.trans (LatFrom_next (by omega)).symm)
   | succ e ihe=>
    intro j he hj
    have hjl:j < (rb l (i:Int)).f5.length:=by omega
    have hls:=hsm.1
    have e2:=wstep j (by omega)
    have hnext:=ihe (j+1) (by omega) (by omega)
    refine Evs.succ ?_
    simp only [Qk.l1,if_pos (show 0≤(i:Int) by omega),if_pos (show (i:Int) < (l.length:Int) by omega),if_pos (show (j:Int) < ((rb l (i:Int)).f5.length:Int) by omega),if_pos (show 0≤(j:Int) by omega),e2]
    have hf1:(Qa l (i:Int)).f1=mkOf l (i,j):=rfl
    have hrc:Qb (Qa l (i:Int)).f5 (j:Int)=rcOf l (i,j):=rfl
    rw [hf1,hrc]
    by_cases c1:mkOf l (i,j)=true
    ·simp only [if_pos c1]
     exact hnext.mono (fun b hb=>hb.trans (LatFrom_step hil hjl (fun h=>by rw [h.1] at c1;cases c1)).symm)
    ·simp only [if_neg c1]
     by_cases c2:(rcOf l (i,j)).f2=true
     ·simp only [if_pos c2]
      by_cases c3:(rcOf l (i,j)).f0 > r.f0
      ·simp only [if_pos c3]
       refine Evs.bind (Evs.of (Q:=fun x=>x=decide ((rcOf l (i,j)).f3=r.f3)) (l16Same _ _ (smallRs_at hsm j hjl).1) rfl) ?_
       rintro _ rfl
       by_cases c4:(rcOf l (i,j)).f3=r.f3
       ·simp only [decide_eq_true c4,if_true]
        exact Evs.done ⟨fun _=>⟨(i,j),mem_pts.2 ⟨hil,hjl⟩,.inr ⟨rfl,Nat.le_refl _⟩,by simpa using c1,c2,c3,c4⟩,fun _=>rfl⟩
       ·simp only [decide_eq_false c4,Bool.false_eq_true,if_false]
        exact hnext.mono (fun b hb=>hb.trans (LatFrom_step hil hjl (fun h=>c4 h.2.2.2)).symm)
      ·simp only [if_neg c3]
       exact hnext.mono (fun b hb=>hb.trans (LatFrom_step hil hjl (fun h=>c3 h.2.2.1)).symm)
     ·simp only [if_neg c2]
      exact hnext.mono (fun b hb=>hb.trans (LatFrom_step hil hjl (fun h=>c2 h.2.1)).symm)
  exact inner (rb l (i:Int)).f5.length 0 (by omega) (by omega)
theorem specLater (l:List Bt) (hl:smallBs l) (r:Rc):Evs (fun k=>Qk.f k l r.f0 r.f1 r.f2 r.f3 r.f4 r.f5) (fun b=>b=true↔LaterP l r):=by
 unfold Qk.f
 refine (later_loop l hl r l.length 0 (by omega) (by omega)).mono (fun b hb=>hb.trans ⟨?_,?_⟩)
 ·rintro ⟨x,hx,_,h⟩;exact ⟨x,hx,h⟩
 ·rintro ⟨x,hx,h⟩;exact ⟨x,hx,by omega,h⟩
theorem specKeep (l:List Bt) (hl:smallBs l) (h:VL l) (i j:Nat) (hi:i < l.length) (hj:j < (rb l (i:Int)).f5.length) (gone:Bool) :
  Ev (fun k=>Rw.f k l (rb l (i:Int)).f0 (rb l (i:Int)).f1 (rb l (i:Int)).f2 (rb l (i:Int)).f3 (rb l (i:Int)).f4 (rb l (i:Int)).f5 (rcOf l (i,j)).f0 (rcOf l (i,j)).f1 (rcOf l (i,j)).f2 (rcOf l (i,j)).f3 (rcOf l (i,j)).f4 (rcOf l (i,j)).f5 gone) (stayB l gone (i,j)):=by
 have hx:(i,j)∈pts l:=mem_pts.2 ⟨hi,hj⟩
 have hk:=keep_iff h hx gone
 have hb:∀ {b:Bool},(b=true↔(mkOf l (i,j)=true∨((rcOf l (i,j)).f2=true∧((rcOf l (i,j)).f4=true∨gone=true)∧¬ LaterP l (rcOf l (i,j)))))→stayB l gone (i,j)=b:=fun {b} hb=>by
  rw [Bool.eq_iff_iff,hk,hb]
 unfold Rw.f
 have hf1:(rb l (i:Int)).f1=mkOf l (i,j):=rfl
 rw [hf1]
 by_cases c1:mkOf l (i,j)=true
 ·simp only [if_pos c1]
  rw [hb (b:=true) (by simp [c1])]
  exact ev_some _
 ·simp only [if_neg c1]
  obtain ⟨b,he,hbl⟩:=specLater l hl (rcOf l (i,j))
  have hnb:(!b)=true↔¬ LaterP l (rcOf l (i,j)):=by rw [← hbl];simp
  by_cases c2:(rcOf l (i,j)).f2=true
  ·simp only [if_pos c2]
   by_cases c3:(rcOf l (i,j)).f4=true
   ·simp only [if_pos c3]
    rw [hb (b:=!b) (by rw [hnb];simp [c1,c2,c3])]
    exact Ev.bind he (ev_some _)
   ·simp only [if_neg c3]
    by_cases c4:gone=true
    ·simp only [if_pos c4]
     rw [hb (b:=!b) (by rw [hnb];simp [c1,c2,c4])]
     exact Ev.bind he (ev_some _)
    ·simp only [if_neg c4]
     rw [hb (b:=false) (by simp [c1,c3,c4])]
     exact ev_some _
  ·simp only [if_neg c2]
   rw [hb (b:=false) (by simp [c1,c2])]
   exact ev_some _
theorem l12Copy_eq (r:Rc) (h:okc r):Rz.f r.f0 r.f1 r.f2 r.f3 r.f4 r.f5=some (r.f0,r.f1,r.f2,r.f3,r.f4,r.f5):=by
 have h1:=h.1
 have h2:=h.2
 unfold Rz.f
 simp only [bsome,List.length_nil,Nat.zero_add,List.nil_append]
 rw [if_pos (by omega),if_pos (by omega)]
theorem implState (l:List Bt) (hl:smallBs l) (h:VL l):Ev (fun k=>Rp.f k l) (stOut l (pts l)):=by
 unfold Rp.f
 refine Ev.bind (implLog l hl) ?_
 rw [vl_true h]
 simp only [if_true,okLog_of h]
 exact ev_some _
theorem mem_stOut {l:List Bt} (h:VL l) {r:Rc} (hr:r∈stOut l (pts l)):∃ x∈pts l,mkOf l x=false∧r=rcOf l x∧r.f2=true∧r.f4=true∧¬ LaterP l r:=by
 unfold stOut at hr
 obtain ⟨x,hx,rfl⟩:=List.mem_map.1 hr
 obtain ⟨hx,hk⟩:=List.mem_filter.1 hx
 unfold stKeep at hk
 rw [Bool.and_eq_true,keep_iff h hx false] at hk
 have hm:mkOf l x=false:=by simpa using hk.1
 rcases hk.2 with h1|⟨h2,h3,h4⟩
 ·rw [hm] at h1;cases h1
 ·exact ⟨x,hx,hm,rfl,h2,by simpa using h3,h4⟩
theorem stOut_small {l:List Bt} (h:VL l):smallRs (stOut l (pts l)):=by
 have h1:=stOut_len l (pts l)
 have h2:=pts_len h
 refine ⟨by omega,fun r hr=>?_⟩
 obtain ⟨x,hx,_,rfl,_⟩:=mem_stOut h hr
 have:=rv_okc (rv_at h hx)
 exact ⟨by omega,by omega⟩
end Go.Proofs.Ytkhjmhdgcmffaaa.VQ
namespace Go.Proofs.Ytkhjmhdgcmffaaa.VQ
open Go.RowKit Go.Proofs.Ytkhjmhdgcmffaaa.V Go.Proofs.YtkhjmhdgcmffaaaW.PrintWords Go.Proofs.YtkhjmhdgcmffaaaW.PrintLast
set_option linter.unusedVariables false
set_option linter.unusedSimpArgs false
theorem full_of {l:List Bt} (h:VL l):full l=true:=by
 unfold full
 rw [List.all_eq_true]
 intro b hb
 obtain ⟨j,hj,rfl⟩:=List.getElem_of_mem hb
 have:=(vB_pos (VL_at h j hj)).1
 rw [rb_nat l j hj] at this
 rw [decide_eq_true_eq]
 exact this
theorem implCompact (l:List Bt) (g:Bool) (hl:smallBs l) (h:VL l):Ev (fun k=>Rd.f k l g) (cmpOut l g,true):=by
 unfold Rd.f
 refine Ev.bind (implLog l hl) ?_
 rw [vl_true h]
 simp only [if_true,okLog_of h,full_of h,and_self]
 exact ev_some _
theorem implCompact_not (l:List Bt) (g:Bool) (hl:smallBs l) (h:¬ VL l):Ev (fun k=>Rd.f k l g) ([],false):=by
 unfold Rd.f
 refine Ev.bind (implLog l hl) ?_
 rw [vl_false h]
 simp only [Bool.false_eq_true,if_false]
 exact ev_some _
theorem stay_at (l:List Bt) (g:Bool) (i j:Nat):stayR l (rb l (i:Int)).f1 g (rcOf l (i,j))=stayB l g (i,j):=rfl
def cmpTo (l:List Bt) (g:Bool) (i:Nat):List Bt:=((l.take i).map (stB l g)).filter (fun b=>!decide (b.f5.length=0))
theorem cmpTo_len (l:List Bt) (g:Bool) (i:Nat):(cmpTo l g i).length≤i:=by
 unfold cmpTo
 refine Nat.le_trans (List.length_filter_le _ _) ?_
 rw [List.length_map,length_take]
 omega
theorem cmpTo_succ (l:List Bt) (g:Bool) (i:Nat) (hi:i < l.length):cmpTo l g (i+1)=if (stB l g l[i]).f5.length=0 then cmpTo l g i else cmpTo l g i ++ [stB l g l[i]]:=by
 unfold cmpTo
 rw [List.take_succ_eq_append_getElem hi,List.map_append,List.filter_append]
 by_cases h:(stB l g l[i]).f5.length=0
 ·rw [if_pos h,map_cons,map_nil,List.filter_cons,List.filter_nil,decide_eq_true h]
  simp
 ·rw [if_neg h,map_cons,map_nil,List.filter_cons,List.filter_nil,decide_eq_false h]
  rfl
theorem filter_take_succ {α:Type} (p : α→Bool) (xs:List α) (j:Nat) (hj:j < xs.length):(xs.take (j+1)).filter p=if p xs[j]=true then (xs.take j).filter p ++ [xs[j]] else (xs.take j).filter p:=by
 rw [List.take_succ_eq_append_getElem hj,List.filter_append]
 by_cases h:p xs[j]=true
 ·rw [if_pos h];simp [h]
 ·rw [if_neg h];simp [h]
theorem compact_inner (l:List Bt) (hl:smallBs l) (h:VL l) (g:Bool) (i n:Nat) (hi:i < l.length) (b:Bt) (hb:b=rb l (i:Int)) (hn:n=b.f5.length) (hn6:n≤6) (R:List Bt)
  (next:Ev (fun k=>Qh.l0 k l g (cmpTo l g (i+1)) ((i+1:Nat):Int)) R) :
  ∀ (e j:Nat),n - j=e→j≤n→Ev (fun k=>Qh.l1 k l g (cmpTo l g i) (i:Int) ((b.f5.take j).filter (stayR l b.f1 g)) (j:Int) b.f0 b.f1 b.f2 b.f3 b.f4 b.f5) R:=by
 have hll:=h.1
 have hlc:=cmpTo_len l g i
 have e1:=wstep i (by omega)
 intro e
 induction e with
 | zero=>
  intro j he hj
  have hjn:j=b.f5.length:=by omega
  rw [hjn,List.take_length]
  have hst:(stB l g l[i]).f5=b.f5.filter (stayR l b.f1 g):=by rw [hb,rb_nat l i hi];rfl
  have hst2:stB l g l[i]=⟨b.f0,b.f1,b.f2,b.f3,b.f4,b.f5.filter (stayR l b.f1 g)⟩:=by rw [hb,rb_nat l i hi];rfl
  have hcs:=cmpTo_succ l g i hi
  rw [hst] at hcs
  have HST:=Aside0.mk hst2
  clear hst hst2
  refine ev_succ ?_
  simp only [Qh.l1,if_neg (show ¬ (b.f5.length:Int) < (b.f5.length:Int) by omega),e1]
  by_cases h0:(b.f5.filter (stayR l b.f1 g)).length=0
  ·rw [if_pos h0] at hcs
   simp only [if_neg (show ¬ ((b.f5.filter (stayR l b.f1 g)).length:Int) > 0 by omega)]
   rw [← hcs]
   exact next
  ·rw [if_neg h0] at hcs
   simp only [if_pos (show ((b.f5.filter (stayR l b.f1 g)).length:Int) > 0 by omega),if_pos (show (cmpTo l g i).length < 2513169434916 by omega)]
   rw [← HST.out,← hcs]
   exact next
 | succ e ih=>
  intro j he hj
  have hjl:j < b.f5.length:=by omega
  have e2:=wstep j (by omega)
  have hnext:=ih (j+1) (by omega) (by omega)
  rw [filter_take_succ _ _ j hjl] at hnext
  have hsk:=specKeep l hl h i j hi (by rw [← hb];exact hjl) g
  have hrc:rcOf l (i,j)=b.f5[j]:=by subst hb;exact rr_nat _ j hjl
  have hsb:stayB l g (i,j)=stayR l b.f1 g b.f5[j]:=by rw [← hrc,hb];exact (stay_at l g i j).symm
  have hrd:Qb b.f5 (j:Int)=b.f5[j]:=rr_nat _ j hjl
  have hx:(i,j)∈pts l:=mem_pts.2 ⟨hi,by rw [← hb];exact hjl⟩
  have hok:okc b.f5[j]:=by have:=rv_okc (rv_at h hx);rw [hrc] at this;exact ⟨by omega,by omega⟩
  have hfl:((b.f5.take j).filter (stayR l b.f1 g)).length≤6:=Nat.le_trans (List.length_filter_le _ _) (by rw [length_take];omega)
  rw [hrc,hsb,← hb] at hsk
  refine ev_succ ?_
  simp only [Qh.l1,if_pos (show (j:Int) < (b.f5.length:Int) by omega),if_pos (show 0≤(j:Int) by omega),hrd,e2]
  refine Ev.bind hsk ?_
  by_cases hs:stayR l b.f1 g b.f5[j]=true
  ·rw [if_pos hs] at hnext
   simp only [if_pos hs,l12Copy_eq _ hok,bsome,if_pos (show ((b.f5.take j).filter (stayR l b.f1 g)).length < 1759218604441 by omega)]
   exact hnext
  ·rw [if_neg hs] at hnext
   simp only [if_neg hs]
   exact hnext
theorem compact_loop (l:List Bt) (hl:smallBs l) (h:VL l) (g:Bool):∀ (d i:Nat),l.length - i=d→i≤l.length→Ev (fun k=>Qh.l0 k l g (cmpTo l g i) (i:Int)) (cmpOut l g):=by
 intro d
 induction d with
 | zero=>
  intro i hd hi
  obtain rfl:i=l.length:=by omega
  refine ev_succ ?_
  simp only [Qh.l0,if_neg (show ¬ (l.length:Int) < (l.length:Int) by omega)]
  rw [show cmpTo l g l.length=cmpOut l g by unfold cmpTo cmpOut;rw [List.take_length]]
  exact ev_some _
 | succ d ih=>
  intro i hd hi
  have hil:i < l.length:=by omega
  have h6:=(vB_pos (VL_at h i hil)).2
  have hn:=ih (i+1) (by omega) (by omega)
  refine ev_succ ?_
  simp only [Qh.l0,if_pos (show (i:Int) < (l.length:Int) by omega),if_pos (show 0≤(i:Int) by omega)]
  exact compact_inner l hl h g i _ hil (rb l (i:Int)) rfl rfl h6 _ hn _ 0 rfl (Nat.zero_le _)
theorem specCompact (l:List Bt) (g:Bool) (hl:smallBs l) (h:VL l):Ev (fun k=>Rb.f k l g) (cmpOut l g,true):=by
 unfold Rb.f
 refine Ev.bind (specLog l hl) ?_
 rw [vl_true h]
 simp only [if_true]
 refine Ev.bind (g:=fun k=>Qh.f k l g) (a:=cmpOut l g) ?_ (ev_some _)
 unfold Qh.f
 exact compact_loop l hl h g l.length 0 (by omega) (by omega)
theorem specCompact_not (l:List Bt) (g:Bool) (hl:smallBs l) (h:¬ VL l):Ev (fun k=>Rb.f k l g) ([],false):=by
 unfold Rb.f
 refine Ev.bind (specLog l hl) ?_
 rw [vl_false h]
 simp only [Bool.false_eq_true,if_false]
 exact ev_some _
theorem sameBatch_self (b:Bt) (hb:smallRs b.f5):Ev (fun k=>Rq.f k b.f0 b.f1 b.f2 b.f3 b.f4 b.f5 b.f0 b.f1 b.f2 b.f3 b.f4 b.f5) true:=by
 unfold Rq.f
 simp only [beq_self_eq_true,if_true]
 have h:=sameRecs b.f5 b.f5 hb
 rw [decide_eq_true rfl] at h
 exact Ev.bind h (ev_some _)
theorem sameLog_loop (l:List Bt) (hl:smallBs l):∀ (d i:Nat),l.length - i=d→i≤l.length→Ev (fun k=>Qq.l0 k l l (i:Int)) true:=by
 intro d
 induction d with
 | zero=>
  intro i hd hi
  refine ev_succ ?_
  simp only [Qq.l0,if_neg (show ¬ (i:Int) < (l.length:Int) by omega)]
  exact ev_some _
 | succ d ih=>
  intro i hd hi
  have hil:i < l.length:=by omega
  have hll:=hl.1
  have e1:=wstep i (by omega)
  have hn:=ih (i+1) (by omega) (by omega)
  refine ev_succ ?_
  simp only [Qq.l0,if_pos (show (i:Int) < (l.length:Int) by omega),if_pos (show 0≤(i:Int) by omega),e1]
  refine Ev.bind (sameBatch_self (rb l (i:Int)) (smallBs_at hl i hil)) ?_
  simp only [if_true]
  exact hn
theorem sameLog_self (l:List Bt) (hl:smallBs l):Ev (fun k=>Qq.f k l l) true:=by
 unfold Qq.f
 simp only [if_true]
 exact sameLog_loop l hl l.length 0 (by omega) (by omega)
theorem cmpOut_mem {l:List Bt} {g:Bool} {b:Bt} (hb:b∈cmpOut l g):∃ a∈l,b=stB l g a∧0 < b.f5.length:=by
 unfold cmpOut at hb
 obtain ⟨h1,h2⟩:=List.mem_filter.1 hb
 obtain ⟨a,ha,rfl⟩:=List.mem_map.1 h1
 refine ⟨a,ha,rfl,?_⟩
 have:¬ (stB l g a).f5.length=0:=by simpa using h2
 omega
theorem cmpOut_small {l:List Bt} (g:Bool) (hl:smallBs l):smallBs (cmpOut l g):=by
 refine ⟨?_,fun b hb=>?_⟩
 ·have h1:=cmpTo_len l g l.length
  have h2:=hl.1
  have h3:cmpTo l g l.length=cmpOut l g:=by unfold cmpTo cmpOut;rw [List.take_length]
  rw [h3] at h1
  omega
 ·obtain ⟨a,ha,rfl,_⟩:=cmpOut_mem hb
  have hs:=hl.2 a ha
  exact ⟨Nat.le_trans (List.length_filter_le _ _) hs.1,fun r hr=>hs.2 r (List.mem_filter.1 hr).1⟩
theorem RF_pair {l:List Rc} (h:RF l 0):(∀ r∈l,rv r=true)∧l.Pairwise (fun a b=>a.f0 < b.f0):=by
 refine ⟨fun r hr=>?_,?_⟩
 ·obtain ⟨j,hj,rfl⟩:=List.getElem_of_mem hr
  have h1:=(h j (Nat.zero_le _) hj).1
  rw [rr_nat l j hj] at h1
  exact h1
 ·rw [List.pairwise_iff_getElem]
  intro i j hi hj hij
  have h1:=RF_lt h (j - i - 1) i (by omega)
  rw [show i+(j - i - 1)+1=j by omega,rr_nat l i hi,rr_nat l j hj] at h1
  exact h1
theorem RF_of {l:List Rc} (h1:∀ r∈l,rv r=true) (h2:l.Pairwise (fun a b=>a.f0 < b.f0)):RF l 0:=by
 intro j _ hj
 rw [List.pairwise_iff_getElem] at h2
 refine ⟨?_,fun h0=>?_⟩
 ·rw [rr_nat l j hj]
  exact h1 _ (List.getElem_mem hj)
 ·rw [show (j:Int) - 1=((j - 1:Nat):Int) by omega,rr_nat l j hj,rr_nat l (j - 1) (by omega)]
  exact h2 (j - 1) j (by omega) hj (by omega)
theorem off_mem {b:Bt} (h:vB b) {r:Rc} (hr:r∈b.f5):fOff b≤r.f0∧r.f0≤lOff b:=by
 obtain ⟨j,hj,rfl⟩:=List.getElem_of_mem hr
 have h1:=RF_le h.2.2.2 (Nat.zero_le j) hj
 have h2:=RF_le h.2.2.2 (show j≤b.f5.length - 1 by omega) (by omega)
 rw [rr_nat _ j hj] at h1 h2
 unfold fOff lOff
 rw [show ((b.f5.length:Int) - 1)=((b.f5.length - 1:Nat):Int) by omega]
 exact ⟨h1,h2⟩
theorem fst_mem {b:Bt} (h : 0 < b.f5.length):∃ r∈b.f5,fOff b=r.f0:=
 ⟨b.f5[0],List.getElem_mem h,congrArg (fun r:Rc=>r.f0) (rr_nat b.f5 0 h)⟩
theorem lst_mem {b:Bt} (h : 0 < b.f5.length):∃ r∈b.f5,lOff b=r.f0:=by
 refine ⟨b.f5[b.f5.length - 1]'(by omega),List.getElem_mem _,?_⟩
 unfold lOff
 rw [show ((b.f5.length:Int) - 1)=((b.f5.length - 1:Nat):Int) by omega,rr_nat b.f5 (b.f5.length - 1) (by omega)]
theorem VL_pair {l:List Bt} (h:VL l):(∀ b∈l,vB b)∧l.Pairwise (fun a b=>lOff a < fOff b):=by
 refine ⟨fun b hb=>?_,?_⟩
 ·obtain ⟨j,hj,rfl⟩:=List.getElem_of_mem hb
  have h1:=VL_at h j hj
  rw [rb_nat l j hj] at h1
  exact h1
 ·rw [List.pairwise_iff_getElem]
  intro i j hi hj hij
  have h1:=VL_cross h hij hj
  rw [rb_nat l i hi,rb_nat l j hj] at h1
  exact h1
theorem VL_of {l:List Bt} (h8:l.length≤8) (h1:∀ b∈l,vB b) (h2:l.Pairwise (fun a b=>lOff a < fOff b)):VL l:=by
 refine ⟨h8,fun j _ hj=>⟨?_,fun h0=>?_⟩⟩
 ·rw [rb_nat l j hj]
  exact h1 _ (List.getElem_mem hj)
 ·rw [List.pairwise_iff_getElem] at h2
  rw [show (j:Int) - 1=((j - 1:Nat):Int) by omega,rb_nat l j hj,rb_nat l (j - 1) (by omega)]
  exact h2 (j - 1) j (by omega) hj (by omega)
theorem st_mark (l:List Bt) (g:Bool) {b:Bt} (hm:b.f1=true):(stB l g b).f5=b.f5:=by
 show b.f5.filter (stayR l b.f1 g)=b.f5
 rw [List.filter_eq_self]
 intro r _
 rw [hm]
 rfl
theorem st_vB {l:List Bt} {g:Bool} {b:Bt} (h:vB b) (h0 : 0 < (stB l g b).f5.length):vB (stB l g b):=by
 have hb:=h.2.1
 have hc:=h.2.2.1
 obtain ⟨r1,r2⟩:=RF_pair h.2.2.2
 refine ⟨h.1,⟨by omega,Nat.le_trans (List.length_filter_le _ _) hb.2⟩,fun hm=>?_,RF_of (fun r hr=>r1 r (List.mem_filter.1 hr).1) (r2.filter _)⟩
 have e:=congrArg List.length (st_mark (b:=b) l g hm)
 exact e.trans (hc hm)
theorem cmpTo_full (l:List Bt) (g:Bool):cmpTo l g l.length=cmpOut l g:=by unfold cmpTo cmpOut;rw [List.take_length]
theorem cmp_len (l:List Bt) (g:Bool):(cmpOut l g).length≤l.length:=by
 have h1:=cmpTo_len l g l.length
 rw [cmpTo_full] at h1
 exact h1
theorem VL_cmp {l:List Bt} (g:Bool) (h:VL l):VL (cmpOut l g):=by
 obtain ⟨h1,h2⟩:=VL_pair h
 have h8:=h.1
 have hl:=cmp_len l g
 refine VL_of (by omega) (fun b hb=>?_) ?_
 ·obtain ⟨a,ha,rfl,h0⟩:=cmpOut_mem hb
  exact st_vB (h1 a ha) h0
 ·unfold cmpOut
  rw [List.pairwise_filter,List.pairwise_map]
  refine List.Pairwise.imp_of_mem ?_ h2
  intro a b ha hb hab p1 p2
  have q1 : 0 < (stB l g a).f5.length:=by
   have:¬ (stB l g a).f5.length=0:=by simpa using p1
   omega
  have q2 : 0 < (stB l g b).f5.length:=by
   have:¬ (stB l g b).f5.length=0:=by simpa using p2
   omega
  obtain ⟨r,hr,e1⟩:=lst_mem q1
  obtain ⟨s,hs,e2⟩:=fst_mem q2
  have k1:=(off_mem (h1 a ha) (List.mem_filter.1 hr).1).2
  have k2:=(off_mem (h1 b hb) (List.mem_filter.1 hs).1).1
  rw [e1,e2]
  omega
def nonQ (xs:List Bt):List Rc:=((xs.filter (fun b=>!b.f1)).map (fun b=>b.f5)).flatten
theorem nonQ_cons (b:Bt) (xs:List Bt):nonQ (b::xs)=(if b.f1=true then [] else b.f5)++nonQ xs:=by
 unfold nonQ
 by_cases h:b.f1=true
 ·rw [if_pos h];simp [h]
 ·rw [if_neg h];simp [h]
theorem nonQ_add (xs:List Bt) (b:Bt):nonQ (xs ++ [b])=nonQ xs++(if b.f1=true then [] else b.f5):=by
 unfold nonQ
 rw [List.filter_append,List.map_append,List.flatten_append]
 by_cases h:b.f1=true
 ·rw [if_pos h];simp [h]
 ·rw [if_neg h];simp [h]
theorem mem_nonQ {l:List Bt} {r:Rc} : r∈nonQ l↔∃ b∈l,b.f1=false∧r∈b.f5:=by
 unfold nonQ
 rw [List.mem_flatten]
 constructor
 ·rintro ⟨q,hq,hr⟩
  obtain ⟨b,hb,rfl⟩:=List.mem_map.1 hq
  obtain ⟨hb1,hb2⟩:=List.mem_filter.1 hb
  exact ⟨b,hb1,by simpa using hb2,hr⟩
 ·rintro ⟨b,hb,hm,hr⟩
  exact ⟨b.f5,List.mem_map.2 ⟨b,List.mem_filter.2 ⟨hb,by simp [hm]⟩,rfl⟩,hr⟩
def LaterN (l:List Bt) (r:Rc):Prop:=∃ x∈nonQ l,x.f2=true∧r.f0 < x.f0∧x.f3=r.f3
theorem pt_mem {l:List Bt} {x:Nat×Nat} (hx:x∈pts l) (hm:mkOf l x=false):rcOf l x∈nonQ l:=by
 obtain ⟨h1,h2⟩:=mem_pts.1 hx
 refine mem_nonQ.2 ⟨rb l (x.1:Int),?_,hm,?_⟩
 ·rw [rb_nat l x.1 h1]
  exact List.getElem_mem h1
 ·rw [rcOf_eq,rr_nat _ _ h2]
  exact List.getElem_mem h2
theorem mem_pt {l:List Bt} {r:Rc} (h:r∈nonQ l):∃ x∈pts l,mkOf l x=false∧rcOf l x=r:=by
 obtain ⟨b,hb,hm,hr⟩:=mem_nonQ.1 h
 obtain ⟨i,hi,rfl⟩:=List.getElem_of_mem hb
 obtain ⟨j,hj,rfl⟩:=List.getElem_of_mem hr
 have e:rb l (i:Int)=l[i]:=rb_nat l i hi
 refine ⟨(i,j),mem_pts.2 ⟨hi,?_⟩,?_,?_⟩
 ·show j < (rb l (i:Int)).f5.length
  rw [e];exact hj
 ·show (rb l (i:Int)).f1=false
  rw [e];exact hm
 ·show rr (rb l (i:Int)).f5 (j:Int) = _
  rw [e];exact rr_nat _ j hj
theorem laterN_iff {l:List Bt} {r:Rc} : LaterP l r↔LaterN l r:=by
 constructor
 ·rintro ⟨x,hx,h1,h2,h3,h4⟩
  exact ⟨rcOf l x,pt_mem hx h1,h2,h3,h4⟩
 ·rintro ⟨s,hs,h2,h3,h4⟩
  obtain ⟨x,hx,hm,rfl⟩:=mem_pt hs
  exact ⟨x,hx,hm,h2,h3,h4⟩
theorem stay_iff {l:List Bt} (h:VL l) {r:Rc} (hr:r∈nonQ l) (g:Bool):stayR l false g r=true↔r.f2=true∧(r.f4=true∨g=true)∧¬ LaterN l r:=by
 obtain ⟨x,hx,hm,rfl⟩:=mem_pt hr
 have hk:=keep_iff h hx g
 have e:stayB l g x=stayR l false g (rcOf l x):=by unfold stayB stayR;rw [hm]
 rw [e,hm,laterN_iff] at hk
 rw [hk]
 simp
theorem nonQ_st (l:List Bt) (g:Bool):∀ xs:List Bt,nonQ ((xs.map (stB l g)).filter (fun b=>!decide (b.f5.length=0)))=(nonQ xs).filter (stayR l false g)
 | []=>by simp [nonQ]
 | b::xs=>by
  have ih:=nonQ_st l g xs
  have e1:(stB l g b).f1=b.f1:=rfl
  have e5:(stB l g b).f5=b.f5.filter (stayR l b.f1 g):=rfl
  rw [map_cons,List.filter_cons,nonQ_cons,List.filter_append,← ih]
  by_cases h0:(stB l g b).f5.length=0
  ·rw [if_neg (by simp [List.eq_nil_of_length_eq_zero h0])]
   by_cases hm:b.f1=true
   ·rw [if_pos hm];rfl
   ·rw [if_neg hm]
    rw [Bool.not_eq_true] at hm
    rw [e5,hm] at h0
    rw [List.eq_nil_of_length_eq_zero h0];rfl
  ·rw [if_pos (by rw [decide_eq_false h0];rfl),nonQ_cons,e1]
   by_cases hm:b.f1=true
   ·rw [if_pos hm,if_pos hm];rfl
   ·rw [if_neg hm,if_neg hm,e5]
    rw [Bool.not_eq_true] at hm
    rw [hm]
theorem nonQ_cmp (l:List Bt) (g:Bool):nonQ (cmpOut l g)=(nonQ l).filter (stayR l false g):=nonQ_st l g l
theorem range_recs' (l:List Bt) (i:Nat):(rb l (i:Int)).f5=(List.range (rb l (i:Int)).f5.length).map (fun j=>rcOf l (i,j)):=by
 apply List.ext_getElem
 ·simp
 ·intro j h1 h2
  rw [List.getElem_map,List.getElem_range]
  exact (rr_nat _ j h1).symm
theorem stOut_rowQ (l:List Bt) (i:Nat):stOut l (ptsRow l i)=if (rb l (i:Int)).f1=true then [] else (rb l (i:Int)).f5.filter (stayR l false false):=by
 unfold stOut ptsRow
 by_cases h:(rb l (i:Int)).f1=true
 ·rw [if_pos h,List.map_eq_nil_iff,List.filter_eq_nil_iff]
  intro x hx
  obtain ⟨j,_,rfl⟩:=List.mem_map.1 hx
  have:mkOf l (i,j)=true:=h
  simp [stKeep,this]
 ·rw [if_neg h]
  have hm:(rb l (i:Int)).f1=false:=by simpa using h
  have hr:=range_recs' l i
  have e:(rb l (i:Int)).f5.filter (stayR l (rb l (i:Int)).f1 false)=((List.range (rb l (i:Int)).f5.length).filter (fun j=>stayB l false (i,j))).map (fun j=>rcOf l (i,j)):=by
   conv=>lhs;rw [hr]
   rw [List.filter_map]
   rfl
  rw [hm] at e
  rw [e,List.filter_map,List.map_map]
  congr 1
  refine List.filter_congr (fun j _=>?_)
  have:mkOf l (i,j)=false:=hm
  show stKeep l (i,j)=stayB l false (i,j)
  unfold stKeep
  rw [this];rfl
theorem state_to (l:List Bt):∀ i,i≤l.length→stOut l (ptsTo l i)=(nonQ (l.take i)).filter (stayR l false false)
 | 0,_=>by simp [nonQ,stOut,ptsTo]
 | i+1,hi=>by
  have ih:=state_to l i (by omega)
  have hr:=stOut_rowQ l i
  rw [rb_nat l i (by omega)] at hr
  have e:stOut l (ptsTo l i++ptsRow l i)=stOut l (ptsTo l i)++stOut l (ptsRow l i):=by simp [stOut]
  rw [ptsTo_succ,e,hr,ih,List.take_succ_eq_append_getElem (by omega),nonQ_add,List.filter_append]
  split <;> simp
theorem state_eq (l:List Bt):stOut l (pts l)=(nonQ l).filter (stayR l false false):=by
 have h:=state_to l l.length (Nat.le_refl _)
 rw [List.take_length] at h
 exact h
theorem nonQ_sub {l:List Bt} {g:Bool} {r:Rc} (h:r∈nonQ (cmpOut l g)):r∈nonQ l∧stayR l false g r=true:=by
 rw [nonQ_cmp] at h
 exact List.mem_filter.1 h
theorem state_cmp {l:List Bt} (g:Bool) (h:VL l):stOut (cmpOut l g) (pts (cmpOut l g))=stOut l (pts l):=by
 have hv:=VL_cmp g h
 rw [state_eq,state_eq,nonQ_cmp,List.filter_filter]
 refine List.filter_congr (fun r hr=>?_)
 rw [Bool.eq_iff_iff,Bool.and_eq_true]
 constructor
 ·rintro ⟨h1,h2⟩
  have hro:r∈nonQ (cmpOut l g):=by rw [nonQ_cmp];exact List.mem_filter.2 ⟨hr,h2⟩
  obtain ⟨a,b,_⟩:=(stay_iff hv hro false).1 h1
  obtain ⟨_,_,c⟩:=(stay_iff h hr g).1 h2
  exact (stay_iff h hr false).2 ⟨a,b,c⟩
 ·intro h1
  obtain ⟨a,b,c⟩:=(stay_iff h hr false).1 h1
  have hb:r.f4=true:=by simpa using b
  have h2:stayR l false g r=true:=(stay_iff h hr g).2 ⟨a,.inl hb,c⟩
  have hro:r∈nonQ (cmpOut l g):=by rw [nonQ_cmp];exact List.mem_filter.2 ⟨hr,h2⟩
  exact ⟨(stay_iff hv hro false).2 ⟨a,b,fun ⟨s,hs,q⟩=>c ⟨s,(nonQ_sub hs).1,q⟩⟩,h2⟩
end Go.Proofs.Ytkhjmhdgcmffaaa.VQ
namespace Go.Proofs.Ytkhjmhdgcmffaaa.Pure
open Go.RowKit Go.Proofs.Ytkhjmhdgcmffaaa.V Go.Proofs.YtkhjmhdgcmffaaaW.PrintWords Go.Proofs.YtkhjmhdgcmffaaaW.PrintLast Go.Proofs.Ytkhjmhdgcmffaaa.VQ
set_option linter.unusedVariables false
set_option linter.unusedSimpArgs false
theorem drawCompact {l0:List Int} (hb:Bytes l0):Evs (fun k=>Rh.f k l0) (fun r=>drawnBs 10 r.1):=by
 obtain ⟨b,ho,hb2,hbl⟩:=open_ev l0 hb
 unfold Rh.f
 simp only [ho,bsome]
 refine Evs.bind (log_evs' b hb2 hbl) ?_
 rintro ⟨r,p⟩ ⟨h,h0,h1⟩
 dsimp only at h h0 h1 ⊢
 refine Evs.bind (pick_evs b p 2 hb2 hbl h0 (by omega) (by omega)) ?_
 rintro ⟨u,_⟩ _
 exact Evs.done h
theorem FnCompact:laws_FnCompact.Pure:=by
 intro l0 _ _ hb0
 refine Ev.rounds ?_
 have hb:=bytes_of hb0
 unfold laws_FnCompact.f
 by_cases h:(l0.length:Int) > 1048576
 ·simp only [if_pos h]
  exact ev_some _
 ·simp only [if_neg h]
  obtain ⟨⟨l,g⟩,hd,hdr⟩:=drawCompact hb
  dsimp only at hdr
  have hs:=drawnBs_small hdr
  refine Ev.bind hd ?_
  by_cases hv:VL l
  ·have hvc:=VL_cmp g hv
   have hsc:=cmpOut_small g hs
   refine Ev.bind (implCompact l g hs hv) ?_
   refine Ev.bind (specCompact l g hs hv) ?_
   simp only [bne_self_eq_false,Bool.false_eq_true,if_false]
   refine Ev.bind (sameLog_self _ hsc) ?_
   simp only [if_true,Bool.not_true]
   refine ev_succ ?_
   simp only [laws_FnCompact.j0,Bool.false_eq_true,if_false]
   refine Ev.bind (implLog _ hsc) ?_
   rw [vl_true hvc]
   simp only [if_true]
   refine Ev.bind (implState _ hsc hvc) ?_
   refine Ev.bind (implState _ hs hv) ?_
   rw [state_cmp g hv]
   have hq:=sameRecs (stOut l (pts l)) (stOut l (pts l)) (stOut_small hv)
   rw [decide_eq_true rfl] at hq
   exact Ev.bind hq (ev_some _)
  ·refine Ev.bind (implCompact_not l g hs hv) ?_
   refine Ev.bind (specCompact_not l g hs hv) ?_
   simp only [bne_self_eq_false,Bool.false_eq_true,if_false]
   refine Ev.bind (sameLog_self [] ⟨by simp,fun b hb=>by cases hb⟩) ?_
   simp only [if_true,Bool.not_false]
   refine ev_succ ?_
   simp only [laws_FnCompact.j0,beq_self_eq_true,if_true]
   refine Ev.bind (sameLog_self [] ⟨by simp,fun b hb=>by cases hb⟩) ?_
   exact ev_some _
end Go.Proofs.Ytkhjmhdgcmffaaa.Pure
namespace Go.Proofs.Ytkhjmhdgcmffaaa.fnCompact
open Go.ChangeShapes Go.WideShapes Go.ChangeAt Go.RowKit
open Go.ChangeMaps (open_string shut_string)
set_option linter.unusedVariables false
theorem own:ownKnob Try.prog.godebug=none:=by kernel_rfl
theorem laidOut:laidOutB Try.prog=true:=by kernel_rfl
def IsRow (k:IntKind) (w:World) (a:Option Addr) (len cap:Nat) (zs:List Int):Prop:=
 (a=none∧len=0∧cap=0∧zs = []) ∨
 ∃ x,a=some x∧len≤cap∧cap≤maxLen∧zs.length=cap∧(∀ i,i < zs.length→w.cell? (x.add i)=some (.int k (zs.getD i 0)))∧∀ n∈zs,(Lit.int k n).wf=true
theorem lifted (os:Os) (started:os.Started) (H:Type) (enc:TypeId×Value→H) :
  ReturnsInHanded {} Try.checked os 10 .any (Rows.fnCompactSpec.pre6 enc Try.prog Try.f10 Rows.fnCompactRow.domain false) (Rows.fnCompactSpec.post enc Try.prog Try.f10 false true false false):=by
 refine returnsInHanded_of_change_sized (C:=Try.checked) own started (by kernel_rfl) Try.func10
  (ChangeSpec.witness6 (enc:=enc) (C:=Try.checked) false ⟨#[],#[.slice none 0 0],[]⟩ 8 (by kernel_rfl) (by kernel_rfl) (by kernel_rfl) (by kernel_rfl)) ?_
 intro W base args ds gs before hval0 hW hcnd hsz0 _
 have hsz:(DataW.weightsEach Try.prog (Try.f10.params.toList++Rows.fnCompactSpec.plain.varTypes Try.prog) (ds++gs)).all (· ≤ reachBytes)=true:=hsz0
 have hval:∀ (j:Nat) t v,Try.f10.params[j]? = some t→args[j]? = some v→Value.okWide Try.prog W .any base t v:=hval0
 have hW':=hW
 obtain ⟨p,q,hA0,hV,rfl,hfz,hnd⟩:=hW
 have hA:DataW.TrodAll enc Try.prog W 0 (fun _=>true) true Try.f10.params.toList args.toList ds p:=hA0
 rw [Try.params10] at hA hval hsz
 obtain ⟨v0,vs0,d0,ds0,p0,q0,hargs,rfl,rfl,h0,r0⟩:=trodAll_cons hA
 obtain ⟨rfl,rfl,rfl⟩:=trodAll_nil r0
 obtain rfl:args = #[v0]:=by cases args;simp_all
 obtain ⟨rfl,rfl⟩:=trodVars_none hV
 obtain ⟨a0,len0,cap0,rfl⟩:=okWide_slice Try.underlying22 (hval 0 22 v0 rfl rfl)
 have k0:=h0
 have lt0:∀ x∈p0,x.block < W.heap.size:=by obtain ⟨m,hm⟩:=k0;exact DataW.trod_lt m _ _ _ hm
 obtain ⟨z0,w0⟩:∃ zs,IsRow .u8 W a0 len0 cap0 zs:=by
  obtain ⟨fuel,hf⟩:=h0
  rcases open_ints Try.underlying22 Try.underlying5 (by kernel_rfl) hf with ⟨hcs,_⟩|⟨x,l,c,zs,hcs,_,hl,hm,hz,_,hcell,hwz⟩
  ·simp [Value.cells] at hcs
   obtain ⟨rfl,rfl,rfl⟩:=hcs
   exact ⟨[],.inl ⟨rfl,rfl,rfl,rfl⟩⟩
  ·simp [Value.cells] at hcs
   obtain ⟨rfl,rfl,rfl⟩:=hcs
   exact ⟨zs,.inr ⟨_,rfl,hl,hm,by simpa using hz,hcell,hwz⟩⟩
 have y0:len0 * 1≤140737488351232:=Go.Proofs.YtkhjmhdgcmffaaaW.PrintWords.sized_ints hsz (j:=0) (t:=22) rfl rfl Try.underlying22 Try.underlying5 (by kernel_rfl) (by kernel_rfl) h0
 clear hA0 hval0 hsz0 hsz
 refine (V.laws_FnCompact.walk Pure.FnCompact a0 len0 cap0 z0 W w0 y0).mono fun e W' ⟨he,bel⟩=>?_
 subst he
 exact ⟨_,rfl,_,_,_,[],_,[],hW',trodAll_mk1 (shut_bool Try.underlying4 _),(trodAll_cons_mk (Below.trod laidOut (by kernel_rfl) (of_decide_eq_true (by kernel_rfl)) k0 bel lt0) trodAll_mk0),rfl,bel.frame _,fun h=>by cases h⟩
theorem closed:joinedFacts Try.prog 10 Try.f10 Rows.fnCompactSpec Rows.fnCompactRow=true:=
 Head.closed_of _ _ _ _ _ (by kernel_rfl) (by kernel_rfl) (by kernel_rfl) (by kernel_rfl) (by kernel_rfl) (by kernel_rfl) (by kernel_rfl) (by kernel_rfl) (by kernel_rfl) (by kernel_rfl) (by kernel_rfl) (by kernel_rfl) (by kernel_rfl) (by kernel_rfl) (by kernel_rfl) (by kernel_rfl) (by kernel_rfl) (by kernel_rfl) (by kernel_rfl) (by kernel_rfl) (by kernel_rfl) (by kernel_rfl) (by kernel_rfl) (by kernel_rfl) (by kernel_rfl) Head.may_enter (by rw [Head.lifts_final];kernel_rfl) (by rw [Head.make_is];kernel_rfl) (by kernel_rfl) (by kernel_rfl) (by kernel_rfl) (by kernel_rfl)
theorem over:Rows.fnCompactRow.holds Try.pinned (OpenSpec.ofChange Rows.fnCompactSpec):=
 OpenClaim.holds_of_wide 10 Try.f10 rfl rfl rfl rfl rfl rfl rfl ⟨rfl,rfl,rfl,rfl,rfl⟩ rfl rfl rfl rfl rfl (by kernel_rfl) Try.func10 closed
  (of_decide_eq_true (by kernel_rfl)) (by unfold Func.isWrapper;first|(rw [if_pos (by decide +kernel)];kernel_rfl)|(rw [if_neg (by decide +kernel)];exact ⟨rfl,rfl⟩))
  (fun os started H enc _=>lifted os started H enc)
theorem proved:Rows.FnCompactSaid:=over
end Go.Proofs.Ytkhjmhdgcmffaaa.fnCompact
namespace Go.Proofs.Ytkhjmhdgcmffaaa
theorem fnCompact_holds:Rows.FnCompactSaid:=fnCompact.proved
end Go.Proofs.Ytkhjmhdgcmffaaa
